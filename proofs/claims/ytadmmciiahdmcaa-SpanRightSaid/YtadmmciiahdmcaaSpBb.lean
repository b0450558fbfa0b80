/- span.is, span.do; the reference's Op. (SpanB without IsSpan.) -/
import Derived.Test.YtadmmciiahdmcaaSpanA
namespace Go.Proofs.Ytadmmciiahdmcaa
open Go.RowKit

def isSp (lo hi : Int) : Prop := 0 ≤ lo ∧ lo ≤ hi ∧ hi ≤ 255

set_option maxHeartbeats 400000 in
theorem is_yes (lo hi : Int) (w : World) (h : isSp lo hi) : Calls Try.prog 61 #[spanV lo hi] w fun e w' => e = .returned (.bool true) ∧ Below w.heap.size w w' := by
  obtain ⟨h1, h2, h3⟩ := h
  unfold spanV
  go_enter Try.func61, Try.ntmps61
  go_wp2
  all_goals first | (exfalso; omega) | (go_ret; exact ⟨ret_bool (by simp; try omega), (by repeat (first | exact Below.refl _ _ | refine Below.setCell ?_ (by first | omega | (simp; done) | (simp; omega)) _ | refine Below.alloc ?_ (by first | omega | (simp; done) | (simp; omega)) _ | refine below_dN ?_ _ | refine Below.drew ?_))⟩)
set_option maxHeartbeats 400000 in
theorem is_no (lo hi : Int) (w : World) (h : ¬ isSp lo hi) : Calls Try.prog 61 #[spanV lo hi] w fun e w' => e = .returned (.bool false) ∧ Below w.heap.size w w' := by
  unfold spanV
  by_cases h1 : 0 ≤ lo
  · by_cases h2 : lo ≤ hi
    · have h3 : ¬ hi ≤ 255 := fun h3 => h ⟨h1, h2, h3⟩
      clear h
      go_enter Try.func61, Try.ntmps61
      go_wp2
      all_goals first | (exfalso; omega) | (go_ret; exact ⟨ret_bool (by simp; try omega), (by repeat (first | exact Below.refl _ _ | refine Below.setCell ?_ (by first | omega | (simp; done) | (simp; omega)) _ | refine Below.alloc ?_ (by first | omega | (simp; done) | (simp; omega)) _ | refine below_dN ?_ _ | refine Below.drew ?_))⟩)
    · clear h
      go_enter Try.func61, Try.ntmps61
      go_wp2
      all_goals first | (exfalso; omega) | (go_ret; exact ⟨ret_bool (by simp; try omega), (by repeat (first | exact Below.refl _ _ | refine Below.setCell ?_ (by first | omega | (simp; done) | (simp; omega)) _ | refine Below.alloc ?_ (by first | omega | (simp; done) | (simp; omega)) _ | refine below_dN ?_ _ | refine Below.drew ?_))⟩)
  · clear h
    go_enter Try.func61, Try.ntmps61
    go_wp2
    all_goals first | (exfalso; omega) | (go_ret; exact ⟨ret_bool (by simp; try omega), (by repeat (first | exact Below.refl _ _ | refine Below.setCell ?_ (by first | omega | (simp; done) | (simp; omega)) _ | refine Below.alloc ?_ (by first | omega | (simp; done) | (simp; omega)) _ | refine below_dN ?_ _ | refine Below.drew ?_))⟩)

def DoEnd (op al ah bl bh : Int) (w : World) (e : Ending) (w' : World) : Prop :=
  Below w.heap.size w w' ∧ ∃ lo hi, e = .returned (spanV lo hi) ∧ isSp lo hi ∧ ∀ x y, al ≤ x → x ≤ ah → bl ≤ y → y ≤ bh → lo ≤ doF op x y ∧ doF op x y ≤ hi

set_option maxHeartbeats 1000000 in
theorem spanDo_add (al ah bl bh : Int) (w : World) (ha : isSp al ah) (hb : isSp bl bh) : Calls Try.prog 76 #[.int .i64 3, spanV al ah, spanV bl bh] w (DoEnd 3 al ah bl bh w) := by
  obtain ⟨ha1, ha2, ha3⟩ := ha
  obtain ⟨hb1, hb2, hb3⟩ := hb
  have hend : ∀ x y : Int, al ≤ x → x ≤ ah → bl ≤ y → y ≤ bh → wrapLo (al + bl) (ah + bh) ≤ doF 3 x y ∧ doF 3 x y ≤ wrapHi (al + bl) (ah + bh) := fun x y h1 h2 h3 h4 => by
    have := wrap_has (show al + bl ≤ x + y by omega) (show x + y ≤ ah + bh by omega)
    rw [show doF 3 x y = (x + y) % 256 from rfl]; omega
  have hsp := wrap_has (show al + bl ≤ al + bl by omega) (show al + bl ≤ ah + bh by omega)
  have Hend := Lib.hid hend
  have Hsp := Lib.hid hsp.2.2
  clear hend hsp
  generalize hlo : wrapLo (al + bl) (ah + bh) = lo at *
  generalize hhi : wrapHi (al + bl) (ah + bh) = hi at *
  have Hlo := Lib.hid hlo
  have Hhi := Lib.hid hhi
  clear hlo hhi
  unfold spanV
  go_enter Try.func76, Try.ntmps76
  go_wp2_with (go_at_call 84; refine (wrap_calls _ _ _ (by omega) (by omega)).mono ?_; rintro e w2 ⟨rfl, hW⟩; rw [Hlo.out, Hhi.out]; unfold spanV; obtain ⟨hc, hf⟩ := bcell hW; have hz := hW.size; have HW := Lib.hid hW; clear hW)
  refine bodyPost_ret (v := spanV lo hi) ?_ rfl ⟨?_, lo, hi, rfl, Hsp.out, Hend.out⟩
  · simp [results, Try.results76, go_sem, spanV, hc]
  · repeat (first | exact Below.refl _ _ | refine below_via HW.out (by first | omega | (simp; done) | (simp; omega)) ?_ | refine Below.setCell ?_ (by first | omega | (simp; done) | (simp; omega)) _ | refine Below.alloc ?_ (by first | omega | (simp; done) | (simp; omega)) _ | refine below_dN ?_ _ | refine Below.drew ?_)
set_option maxHeartbeats 1000000 in
theorem spanDo_sub (al ah bl bh : Int) (w : World) (ha : isSp al ah) (hb : isSp bl bh) : Calls Try.prog 76 #[.int .i64 4, spanV al ah, spanV bl bh] w (DoEnd 4 al ah bl bh w) := by
  obtain ⟨ha1, ha2, ha3⟩ := ha
  obtain ⟨hb1, hb2, hb3⟩ := hb
  have hend : ∀ x y : Int, al ≤ x → x ≤ ah → bl ≤ y → y ≤ bh → wrapLo (al - bh) (ah - bl) ≤ doF 4 x y ∧ doF 4 x y ≤ wrapHi (al - bh) (ah - bl) := fun x y h1 h2 h3 h4 => by
    have := wrap_has (show al - bh ≤ x - y by omega) (show x - y ≤ ah - bl by omega)
    rw [show doF 4 x y = (x - y) % 256 from rfl]; omega
  have hsp := wrap_has (show al - bh ≤ al - bh by omega) (show al - bh ≤ ah - bl by omega)
  have Hend := Lib.hid hend
  have Hsp := Lib.hid hsp.2.2
  clear hend hsp
  generalize hlo : wrapLo (al - bh) (ah - bl) = lo at *
  generalize hhi : wrapHi (al - bh) (ah - bl) = hi at *
  have Hlo := Lib.hid hlo
  have Hhi := Lib.hid hhi
  clear hlo hhi
  unfold spanV
  go_enter Try.func76, Try.ntmps76
  go_wp2_with (go_at_call 84; refine (wrap_calls _ _ _ (by omega) (by omega)).mono ?_; rintro e w2 ⟨rfl, hW⟩; rw [Hlo.out, Hhi.out]; unfold spanV; obtain ⟨hc, hf⟩ := bcell hW; have hz := hW.size; have HW := Lib.hid hW; clear hW)
  refine bodyPost_ret (v := spanV lo hi) ?_ rfl ⟨?_, lo, hi, rfl, Hsp.out, Hend.out⟩
  · simp [results, Try.results76, go_sem, spanV, hc]
  · repeat (first | exact Below.refl _ _ | refine below_via HW.out (by first | omega | (simp; done) | (simp; omega)) ?_ | refine Below.setCell ?_ (by first | omega | (simp; done) | (simp; omega)) _ | refine Below.alloc ?_ (by first | omega | (simp; done) | (simp; omega)) _ | refine below_dN ?_ _ | refine Below.drew ?_)

set_option maxHeartbeats 1000000 in
theorem spanDo_mul (al ah bl bh : Int) (w : World) (ha : isSp al ah) (hb : isSp bl bh) : Calls Try.prog 76 #[.int .i64 5, spanV al ah, spanV bl bh] w (DoEnd 5 al ah bl bh w) := by
  have Ha := Lib.hid ha
  have Hb := Lib.hid hb
  obtain ⟨ha1, ha2, ha3⟩ := ha
  obtain ⟨hb1, hb2, hb3⟩ := hb
  have hm := mul_bd (m := 255) (n := 255) (show 0 ≤ ah by omega) (by omega) (show 0 ≤ bh by omega) (by omega)
  have hml := mul_bd (m := 255) (n := 255) ha1 (by omega) hb1 (by omega)
  by_cases hs : ah * bh < 256
  · have hend : ∀ x y : Int, al ≤ x → x ≤ ah → bl ≤ y → y ≤ bh → al * bl ≤ doF 5 x y ∧ doF 5 x y ≤ ah * bh := fun x y h1 h2 h3 h4 => by
      have e1 : al * bl ≤ x * y := Int.mul_le_mul h1 h3 hb1 (by omega)
      have e2 : x * y ≤ ah * bh := Int.mul_le_mul h2 h4 (by omega) (by omega)
      rw [show doF 5 x y = (x * y) % 256 from rfl]; omega
    have hsp : isSp (al * bl) (ah * bh) := ⟨hml.1, Int.mul_le_mul ha2 hb2 hb1 (by omega), by omega⟩
    have Hend := Lib.hid hend
    have Hsp := Lib.hid hsp
    clear hend hsp
    generalize hlo : al * bl = lo at *
    generalize hhi : ah * bh = hi at *
    have qlo : IntKind.i64.wrap (al * bl) = lo := by rw [hlo]; exact IntWalk.i64_in _ (by omega)
    unfold spanV
    go_enter Try.func76, Try.ntmps76
    go_wp2
    refine bodyPost_ret (v := spanV lo hi) ?_ rfl ⟨?_, lo, hi, rfl, Hsp.out, Hend.out⟩
    · simp [results, Try.results76, go_sem, spanV]
    · repeat (first | exact Below.refl _ _ | refine Below.setCell ?_ (by first | omega | (simp; done) | (simp; omega)) _ | refine Below.alloc ?_ (by first | omega | (simp; done) | (simp; omega)) _ | refine below_dN ?_ _ | refine Below.drew ?_)
  · unfold spanV
    go_enter Try.func76, Try.ntmps76
    go_wp2_with fail
    refine (times_calls al ah bl bh _ Ha.out Hb.out).mono ?_
    rintro e w2 ⟨hW, lo, hi, rfl, h0, h255, hall⟩
    have hend : ∀ x y : Int, al ≤ x → x ≤ ah → bl ≤ y → y ≤ bh → lo ≤ doF 5 x y ∧ doF 5 x y ≤ hi := fun x y h1 h2 h3 h4 => hall x y h1 h2 h3 h4
    have hsp : isSp lo hi := by have := hall al bl (by omega) ha2 (by omega) hb2; exact ⟨h0, by omega, h255⟩
    have Hend := Lib.hid hend
    have Hsp := Lib.hid hsp
    clear hend hsp hall
    unfold spanV
    obtain ⟨hc, hf⟩ := bcell hW
    have hz := hW.size
    have HW := Lib.hid hW
    clear hW
    go_wp2
    refine bodyPost_ret (v := spanV lo hi) ?_ rfl ⟨?_, lo, hi, rfl, Hsp.out, Hend.out⟩
    · simp [results, Try.results76, go_sem, spanV, hc]
    · repeat (first | exact Below.refl _ _ | refine below_via HW.out (by first | omega | (simp; done) | (simp; omega)) ?_ | refine Below.setCell ?_ (by first | omega | (simp; done) | (simp; omega)) _ | refine Below.alloc ?_ (by first | omega | (simp; done) | (simp; omega)) _ | refine below_dN ?_ _ | refine Below.drew ?_)

set_option maxHeartbeats 1000000 in
theorem spanDo_less (al ah bl bh : Int) (w : World) (ha : isSp al ah) (hb : isSp bl bh) : Calls Try.prog 76 #[.int .i64 6, spanV al ah, spanV bl bh] w (DoEnd 6 al ah bl bh w) := by
  obtain ⟨ha1, ha2, ha3⟩ := ha
  obtain ⟨hb1, hb2, hb3⟩ := hb
  have hdo : ∀ x y : Int, doF 6 x y = if x < y then 1 else 0 := fun x y => rfl
  have Hdo := Lib.hid hdo
  clear hdo
  unfold spanV
  by_cases h1 : ah < bl
  · go_enter Try.func76, Try.ntmps76
    go_wp2
    refine bodyPost_ret (v := spanV 1 1) ?_ rfl ⟨?_, 1, 1, rfl, ⟨by omega, by omega, by omega⟩, fun x y a b c d => by rw [Hdo.out, if_pos (by omega)]; omega⟩
    · simp [results, Try.results76, go_sem, spanV]
    · repeat (first | exact Below.refl _ _ | refine Below.setCell ?_ (by first | omega | (simp; done) | (simp; omega)) _ | refine Below.alloc ?_ (by first | omega | (simp; done) | (simp; omega)) _ | refine below_dN ?_ _ | refine Below.drew ?_)
  by_cases h2 : bh ≤ al
  · go_enter Try.func76, Try.ntmps76
    go_wp2
    refine bodyPost_ret (v := spanV 0 0) ?_ rfl ⟨?_, 0, 0, rfl, ⟨by omega, by omega, by omega⟩, fun x y a b c d => by rw [Hdo.out, if_neg (by omega)]; omega⟩
    · simp [results, Try.results76, go_sem, spanV]
    · repeat (first | exact Below.refl _ _ | refine Below.setCell ?_ (by first | omega | (simp; done) | (simp; omega)) _ | refine Below.alloc ?_ (by first | omega | (simp; done) | (simp; omega)) _ | refine below_dN ?_ _ | refine Below.drew ?_)
  · go_enter Try.func76, Try.ntmps76
    go_wp2
    refine bodyPost_ret (v := spanV 0 1) ?_ rfl ⟨?_, 0, 1, rfl, ⟨by omega, by omega, by omega⟩, fun x y a b c d => by rw [Hdo.out]; split <;> omega⟩
    · simp [results, Try.results76, go_sem, spanV]
    · repeat (first | exact Below.refl _ _ | refine Below.setCell ?_ (by first | omega | (simp; done) | (simp; omega)) _ | refine Below.alloc ?_ (by first | omega | (simp; done) | (simp; omega)) _ | refine below_dN ?_ _ | refine Below.drew ?_)

theorem spanDo_calls (op al ah bl bh : Int) (w : World) (ho : 3 ≤ op ∧ op ≤ 6) (ha : isSp al ah) (hb : isSp bl bh) : Calls Try.prog 76 #[.int .i64 op, spanV al ah, spanV bl bh] w (DoEnd op al ah bl bh w) := by
  have : op = 3 ∨ op = 4 ∨ op = 5 ∨ op = 6 := by omega
  rcases this with rfl | rfl | rfl | rfl
  · exact spanDo_add _ _ _ _ _ ha hb
  · exact spanDo_sub _ _ _ _ _ ha hb
  · exact spanDo_mul _ _ _ _ _ ha hb
  · exact spanDo_less _ _ _ _ _ ha hb
end Go.Proofs.Ytadmmciiahdmcaa
