/- span.wrap, span.times, span.do, span.Do. -/
import Derived.Test.YtadmmciiahdmcaaTermDo
import Derived.BigQuiet
import Derived.Deep.QuietTactic
import Derived.Deep.LoopGhost
namespace Go.Proofs.Ytadmmciiahdmcaa
open Go.RowKit

def spanV (lo hi : Int) : Value := .agg #[.int .i64 lo, .int .i64 hi]
def wrapLo (l h : Int) : Int := if 256 ≤ h - l ∨ h % 256 < l % 256 then 0 else l % 256
def wrapHi (l h : Int) : Int := if 256 ≤ h - l ∨ h % 256 < l % 256 then 255 else h % 256

set_option maxHeartbeats 400000 in
theorem wrap_calls (l h : Int) (w : World) (hl : -1000 ≤ l ∧ l ≤ 1000) (hh : -1000 ≤ h ∧ h ≤ 1000) :
    Calls Try.prog 84 #[.int .i64 l, .int .i64 h] w fun e w' => e = .returned (spanV (wrapLo l h) (wrapHi l h)) ∧ Below w.heap.size w w' := by
  have q := i64_and255
  by_cases h1 : 256 ≤ h - l
  · rw [show wrapLo l h = 0 from by unfold wrapLo; rw [if_pos (.inl h1)], show wrapHi l h = 255 from by unfold wrapHi; rw [if_pos (.inl h1)]]
    go_enter Try.func84, Try.ntmps84
    go_wp2
    exact bodyPost_ret (v := spanV 0 255) (by simp [results, Try.results84, go_sem, spanV]) rfl ⟨rfl, (Below.refl _ _).alloc (Nat.le_refl _) _⟩
  by_cases h2 : h % 256 < l % 256
  · rw [show wrapLo l h = 0 from by unfold wrapLo; rw [if_pos (.inr h2)], show wrapHi l h = 255 from by unfold wrapHi; rw [if_pos (.inr h2)]]
    go_enter Try.func84, Try.ntmps84
    go_wp2
    exact bodyPost_ret (v := spanV 0 255) (by simp [results, Try.results84, go_sem, spanV]) rfl ⟨rfl, (Below.refl _ _).alloc (Nat.le_refl _) _⟩
  · rw [show wrapLo l h = l % 256 from by unfold wrapLo; rw [if_neg (by omega)], show wrapHi l h = h % 256 from by unfold wrapHi; rw [if_neg (by omega)]]
    go_enter Try.func84, Try.ntmps84
    go_wp2
    exact bodyPost_ret (v := spanV (l % 256) (h % 256)) (by simp [results, Try.results84, go_sem, spanV]) rfl ⟨rfl, (Below.refl _ _).alloc (Nat.le_refl _) _⟩
theorem wrap_has {l h v : Int} (hl : l ≤ v) (hh : v ≤ h) : wrapLo l h ≤ v % 256 ∧ v % 256 ≤ wrapHi l h ∧ 0 ≤ wrapLo l h ∧ wrapLo l h ≤ wrapHi l h ∧ wrapHi l h ≤ 255 := by
  unfold wrapLo wrapHi
  split <;> omega

def TimesEnd (al ah bl bh : Int) (w : World) (e : Ending) (w' : World) : Prop :=
  Below w.heap.size w w' ∧ ∃ lo hi, e = .returned (spanV lo hi) ∧ 0 ≤ lo ∧ hi ≤ 255 ∧ ∀ x y, al ≤ x → x ≤ ah → bl ≤ y → y ≤ bh → lo ≤ (x * y) % 256 ∧ (x * y) % 256 ≤ hi
/-- All products up to x (not with it), and those of x up to y, lie in lo .. hi. -/
def Seen (al bl bh x y lo hi : Int) : Prop :=
  (∀ x' y', al ≤ x' → x' < x → bl ≤ y' → y' ≤ bh → lo ≤ (x' * y') % 256 ∧ (x' * y') % 256 ≤ hi) ∧ ∀ y', bl ≤ y' → y' < y → lo ≤ (x * y') % 256 ∧ (x * y') % 256 ≤ hi
theorem seen_start (al bl bh lo hi : Int) : Seen al bl bh al bl lo hi := ⟨fun _ _ h1 h2 => by omega, fun _ h1 h2 => by omega⟩
theorem seen_next {al bl bh x y lo hi : Int} (h : Seen al bl bh x y lo hi) (hy : bh < y) : Seen al bl bh (x + 1) bl lo hi := by
  refine ⟨fun x' y' h1 h2 h3 h4 => ?_, fun _ h1 h2 => by omega⟩
  by_cases hx : x' < x
  · exact h.1 x' y' h1 hx h3 h4
  · have : x' = x := by omega
    subst this
    exact h.2 y' h3 (by omega)
theorem seen_more {al bl bh x y lo hi lo' hi' : Int} (h : Seen al bl bh x y lo hi) (h1 : lo' ≤ lo) (h2 : hi ≤ hi') (h3 : lo' ≤ (x * y) % 256) (h4 : (x * y) % 256 ≤ hi') : Seen al bl bh x (y + 1) lo' hi' := by
  refine ⟨fun x' y' a b c d => ?_, fun y' a b => ?_⟩
  · have := h.1 x' y' a b c d; omega
  · by_cases hy : y' < y
    · have := h.2 y' a hy; omega
    · have : y' = y := by omega
      subst this
      exact ⟨h3, h4⟩
theorem seen_all {al ah bl bh x lo hi : Int} (h : Seen al bl bh x bl lo hi) (hx : ah < x) : ∀ x' y, al ≤ x' → x' ≤ ah → bl ≤ y → y ≤ bh → lo ≤ (x' * y) % 256 ∧ (x' * y) % 256 ≤ hi :=
  fun x' y h1 h2 h3 h4 => h.1 x' y h1 (by omega) h3 h4

abbrev timesW (al ah bl bh lo hi : Int) (w : World) : World :=
  (((w.alloc (.cells #[.int .i64 al, .int .i64 ah] 65)).alloc (.cells #[.int .i64 bl, .int .i64 bh] 65)).alloc (.cells #[.int .i64 0, .int .i64 0] 65)).alloc (.cells #[.int .i64 lo, .int .i64 hi] 65)

set_option maxHeartbeats 2000000 in
theorem times_calls (al ah bl bh : Int) (w : World) (ha : 0 ≤ al ∧ al ≤ ah ∧ ah ≤ 255) (hb : 0 ≤ bl ∧ bl ≤ bh ∧ bh ≤ 255) :
    Calls Try.prog 85 #[spanV al ah, spanV bl bh] w (TimesEnd al ah bl bh w) := by
  unfold spanV
  obtain ⟨ha1, ha2, ha3⟩ := ha
  obtain ⟨hb1, hb2, hb3⟩ := hb
  go_enter Try.func85, Try.ntmps85
  go_wp2
  go_loopw [6] (fun s wr => ∃ x lo hi : Int, al ≤ x ∧ x ≤ ah + 1 ∧ s = .int .i64 x ∧ 0 ≤ lo ∧ lo ≤ 255 ∧ 0 ≤ hi ∧ hi ≤ 255 ∧ Hid (Seen al bl bh x bl lo hi) ∧ wr = timesW al ah bl bh lo hi w) (fun s _ => (ah + 1 - intOf s).toNat)
  case atStart => exact ⟨al, 255, 0, by omega, by omega, rfl, by omega, by omega, by omega, by omega, seen_start _ _ _ _ _, rfl⟩
  case round =>
    obtain ⟨x, lo, hi, hx1, hx2, rfl, hlo1, hlo2, hhi1, hhi2, hS, rfl⟩ := hrel
    by_cases hlt : x ≤ ah
    · go_wp2
      go_loopw [7] (fun s wr => ∃ y lo hi : Int, bl ≤ y ∧ y ≤ bh + 1 ∧ s = .int .i64 y ∧ 0 ≤ lo ∧ lo ≤ 255 ∧ 0 ≤ hi ∧ hi ≤ 255 ∧ Hid (Seen al bl bh x y lo hi) ∧ wr = timesW al ah bl bh lo hi w) (fun s _ => (bh + 1 - intOf s).toNat)
      case atStart => exact ⟨bl, lo, hi, by omega, by omega, rfl, by omega, by omega, by omega, by omega, hS, rfl⟩
      case round =>
        clear hS hlo1 hlo2 hhi1 hhi2
        obtain ⟨y, lo, hi, hy1, hy2, rfl, hlo1, hlo2, hhi1, hhi2, hS, rfl⟩ := hrel
        by_cases hlty : y ≤ bh
        · have hv := doF_bd 5 x y
          have hvd : doF 5 x y = (x * y) % 256 := by unfold doF; simp
          have Hvd := Lib.hid hvd
          clear hvd
          have hcl := do_calls 5 x y
          have Hcl := Lib.hid hcl
          clear hcl
          generalize doF 5 x y = v at *
          by_cases hvl : v < lo <;> by_cases hvh : hi < v
          all_goals
            go_wp2_with (go_at_call 70; refine (Hcl.out _ (by omega) (by omega)).mono ?_; rintro e w2 ⟨rfl, rfl⟩)
          all_goals try simp only [beq_iff_eq] at *
          all_goals first
            | (refine bodyPost_ret (v := spanV 0 255) ?_ rfl ⟨(by repeat (first | exact Below.refl _ _ | refine Below.setCell ?_ (by first | omega | (simp; done) | (simp; omega)) _ | refine Below.alloc ?_ (by first | omega | (simp; done) | (simp; omega)) _ | refine below_dN ?_ _ | refine Below.drew ?_)), 0, 255, rfl, by omega, by omega, fun _ _ _ _ _ _ => by omega⟩; simp [results, Try.results85, go_sem, spanV]; done)
            | (refine bodyPost_ret (v := spanV 0 v) ?_ rfl ⟨(by repeat (first | exact Below.refl _ _ | refine Below.setCell ?_ (by first | omega | (simp; done) | (simp; omega)) _ | refine Below.alloc ?_ (by first | omega | (simp; done) | (simp; omega)) _ | refine below_dN ?_ _ | refine Below.drew ?_)), 0, v, rfl, by omega, by omega, fun _ _ _ _ _ _ => by omega⟩; simp [results, Try.results85, go_sem, spanV]; done)
            | (refine bodyPost_ret (v := spanV 0 hi) ?_ rfl ⟨(by repeat (first | exact Below.refl _ _ | refine Below.setCell ?_ (by first | omega | (simp; done) | (simp; omega)) _ | refine Below.alloc ?_ (by first | omega | (simp; done) | (simp; omega)) _ | refine below_dN ?_ _ | refine Below.drew ?_)), 0, hi, rfl, by omega, by omega, fun _ _ _ _ _ _ => by omega⟩; simp [results, Try.results85, go_sem, spanV]; done)
            | (refine bodyPost_ret (v := spanV v 255) ?_ rfl ⟨(by repeat (first | exact Below.refl _ _ | refine Below.setCell ?_ (by first | omega | (simp; done) | (simp; omega)) _ | refine Below.alloc ?_ (by first | omega | (simp; done) | (simp; omega)) _ | refine below_dN ?_ _ | refine Below.drew ?_)), v, 255, rfl, by omega, by omega, fun _ _ _ _ _ _ => by omega⟩; simp [results, Try.results85, go_sem, spanV]; done)
            | (refine bodyPost_ret (v := spanV v v) ?_ rfl ⟨(by repeat (first | exact Below.refl _ _ | refine Below.setCell ?_ (by first | omega | (simp; done) | (simp; omega)) _ | refine Below.alloc ?_ (by first | omega | (simp; done) | (simp; omega)) _ | refine below_dN ?_ _ | refine Below.drew ?_)), v, v, rfl, by omega, by omega, fun _ _ _ _ _ _ => by omega⟩; simp [results, Try.results85, go_sem, spanV]; done)
            | (refine bodyPost_ret (v := spanV v hi) ?_ rfl ⟨(by repeat (first | exact Below.refl _ _ | refine Below.setCell ?_ (by first | omega | (simp; done) | (simp; omega)) _ | refine Below.alloc ?_ (by first | omega | (simp; done) | (simp; omega)) _ | refine below_dN ?_ _ | refine Below.drew ?_)), v, hi, rfl, by omega, by omega, fun _ _ _ _ _ _ => by omega⟩; simp [results, Try.results85, go_sem, spanV]; done)
            | (refine bodyPost_ret (v := spanV lo 255) ?_ rfl ⟨(by repeat (first | exact Below.refl _ _ | refine Below.setCell ?_ (by first | omega | (simp; done) | (simp; omega)) _ | refine Below.alloc ?_ (by first | omega | (simp; done) | (simp; omega)) _ | refine below_dN ?_ _ | refine Below.drew ?_)), lo, 255, rfl, by omega, by omega, fun _ _ _ _ _ _ => by omega⟩; simp [results, Try.results85, go_sem, spanV]; done)
            | (refine bodyPost_ret (v := spanV lo v) ?_ rfl ⟨(by repeat (first | exact Below.refl _ _ | refine Below.setCell ?_ (by first | omega | (simp; done) | (simp; omega)) _ | refine Below.alloc ?_ (by first | omega | (simp; done) | (simp; omega)) _ | refine below_dN ?_ _ | refine Below.drew ?_)), lo, v, rfl, by omega, by omega, fun _ _ _ _ _ _ => by omega⟩; simp [results, Try.results85, go_sem, spanV]; done)
            | (refine bodyPost_ret (v := spanV lo hi) ?_ rfl ⟨(by repeat (first | exact Below.refl _ _ | refine Below.setCell ?_ (by first | omega | (simp; done) | (simp; omega)) _ | refine Below.alloc ?_ (by first | omega | (simp; done) | (simp; omega)) _ | refine below_dN ?_ _ | refine Below.drew ?_)), lo, hi, rfl, by omega, by omega, fun _ _ _ _ _ _ => by omega⟩; simp [results, Try.results85, go_sem, spanV]; done)
            | (go_roundw
               case rel =>
                 first
                 | exact ⟨y + 1, v, v, by omega, by omega, rfl, by omega, by omega, by omega, by omega, seen_more hS.out (by omega) (by omega) (by rw [← Hvd.out]; omega) (by rw [← Hvd.out]; omega), rfl⟩
                 | exact ⟨y + 1, v, hi, by omega, by omega, rfl, by omega, by omega, by omega, by omega, seen_more hS.out (by omega) (by omega) (by rw [← Hvd.out]; omega) (by rw [← Hvd.out]; omega), rfl⟩
                 | exact ⟨y + 1, lo, v, by omega, by omega, rfl, by omega, by omega, by omega, by omega, seen_more hS.out (by omega) (by omega) (by rw [← Hvd.out]; omega) (by rw [← Hvd.out]; omega), rfl⟩
                 | exact ⟨y + 1, lo, hi, by omega, by omega, rfl, by omega, by omega, by omega, by omega, seen_more hS.out (by omega) (by omega) (by rw [← Hvd.out]; omega) (by rw [← Hvd.out]; omega), rfl⟩
                 | exact ⟨y + 1, 0, hi, by omega, by omega, rfl, by omega, by omega, by omega, by omega, seen_more hS.out (by omega) (by omega) (by rw [← Hvd.out]; omega) (by rw [← Hvd.out]; omega), rfl⟩
                 | exact ⟨y + 1, 0, v, by omega, by omega, rfl, by omega, by omega, by omega, by omega, seen_more hS.out (by omega) (by omega) (by rw [← Hvd.out]; omega) (by rw [← Hvd.out]; omega), rfl⟩
               case measure => simp [intOf]; omega)
            | skip
          go_ways
        · go_wp2
          go_roundw
          case rel => exact ⟨x + 1, lo, hi, by omega, by omega, rfl, by omega, by omega, by omega, by omega, seen_next hS.out (by omega), rfl⟩
          case measure => simp [intOf]; omega
    · have hall := seen_all hS.out (show ah < x by omega)
      have Hall := Lib.hid hall
      clear hall
      go_wp2
      refine bodyPost_ret (v := spanV lo hi) (by simp [results, Try.results85, go_sem, spanV]) rfl ⟨(by repeat (first | exact Below.refl _ _ | refine Below.setCell ?_ (by first | omega | (simp; done) | (simp; omega)) _ | refine Below.alloc ?_ (by first | omega | (simp; done) | (simp; omega)) _ | refine below_dN ?_ _ | refine Below.drew ?_)), lo, hi, rfl, by omega, by omega, Hall.out⟩

end Go.Proofs.Ytadmmciiahdmcaa
