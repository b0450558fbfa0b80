/- The law SpanHas answers true. -/
import Derived.Test.YtiphhadhbokgmaaSpanC
namespace Go.Proofs.Ytiphhadhbokgmaa
open Go.RowKit

set_option maxHeartbeats 1000000 in
theorem has_kind (op al ah bl bh x y : Int) (w : World) (ho : op < 3 ∨ 6 < op) :
    Calls Try.prog 5 #[.int .i64 op, spanV al ah, spanV bl bh, .int .i64 x, .int .i64 y] w fun e w' => e = .returned (.bool true) ∧ Below w.heap.size w w' := by
  unfold spanV
  have Ho := Lib.hid ho
  have hd : decide (op < 3) = true ∨ (decide (op < 3) = false ∧ decide (6 < op) = true) := by
    by_cases h : op < 3
    · exact .inl (decide_eq_true h)
    · exact .inr ⟨decide_eq_false h, decide_eq_true (by omega)⟩
  clear ho
  rcases hd with hd | ⟨hd, hd2⟩
  all_goals
    go_enter Try.func5, Try.ntmps5
    go_wp2_with fail
    refine (top_kind op al ah bl bh _ Ho.out).mono ?_
    rintro e w1 ⟨rfl, hW⟩
    have z10 : w.heap.size < w1.heap.size := by have hz1 := hW.size; simp at hz1; omega
    have HW1 := Lib.hid hW
    clear hW
    unfold spanV
    go_wp2
    go_ret
    exact ⟨rfl, by repeat (first | exact Below.refl _ _ | refine below_via HW1.out (by first | omega | (simp; done) | (simp; omega)) ?_ | refine Below.setCell ?_ (by first | omega | (simp; done) | (simp; omega)) _ | refine Below.alloc ?_ (by first | omega | (simp; done) | (simp; omega)) _ | refine below_dN ?_ _ | refine Below.drew ?_)⟩

set_option maxHeartbeats 1000000 in
theorem has_a (op al ah bl bh x y : Int) (w : World) (ho : 3 ≤ op ∧ op ≤ 6) (ha : ¬ isSp al ah) :
    Calls Try.prog 5 #[.int .i64 op, spanV al ah, spanV bl bh, .int .i64 x, .int .i64 y] w fun e w' => e = .returned (.bool true) ∧ Below w.heap.size w w' := by
  unfold spanV
  have Ho := Lib.hid ho
  have Ha := Lib.hid ha
  have q1 : decide (op < 3) = false := decide_eq_false (by omega)
  have q2 : decide (6 < op) = false := decide_eq_false (by omega)
  clear ho ha
  go_enter Try.func5, Try.ntmps5
  go_wp2_with fail
  refine (top_range1 op al ah bl bh _ Ho.out Ha.out).mono ?_
  rintro e w1 ⟨rfl, hW⟩
  obtain ⟨hc1, hf1⟩ := bcell hW
  have hz1 := hW.size
  have z10 : w.heap.size < w1.heap.size := by simp at hz1; omega
  have z11 : w.heap.size + 1 < w1.heap.size := by simp at hz1; omega
  have HW1 := Lib.hid hW
  clear hW
  unfold spanV
  go_wp2_with fail
  refine (isSpan_no al ah _ Ha.out).mono ?_
  rintro e w2 ⟨rfl, hW⟩
  obtain ⟨hc2, hf2⟩ := bcell hW
  have hz2 := hW.size
  have z20 : w.heap.size < w2.heap.size := by first | omega | (simp at hz2; omega)
  have z21 : w.heap.size + 1 < w2.heap.size := by first | omega | (simp at hz2; omega)
  have y2 : w1.heap.size < w2.heap.size := by first | omega | (simp at hz2; omega)
  have HW2 := Lib.hid hW
  clear hW
  go_wp2
  go_ret
  exact ⟨rfl, by repeat (first | exact Below.refl _ _ | refine below_via HW2.out (by first | omega | (simp; done) | (simp; omega)) ?_ | refine below_via HW1.out (by first | omega | (simp; done) | (simp; omega)) ?_ | refine Below.setCell ?_ (by first | omega | (simp; done) | (simp; omega)) _ | refine Below.alloc ?_ (by first | omega | (simp; done) | (simp; omega)) _ | refine below_dN ?_ _ | refine Below.drew ?_)⟩

set_option maxHeartbeats 1000000 in
theorem has_b (op al ah bl bh x y : Int) (w : World) (ho : 3 ≤ op ∧ op ≤ 6) (ha : isSp al ah) (hb : ¬ isSp bl bh) :
    Calls Try.prog 5 #[.int .i64 op, spanV al ah, spanV bl bh, .int .i64 x, .int .i64 y] w fun e w' => e = .returned (.bool true) ∧ Below w.heap.size w w' := by
  unfold spanV
  have Ho := Lib.hid ho
  have Ha := Lib.hid ha
  have Hb := Lib.hid hb
  have q1 : decide (op < 3) = false := decide_eq_false (by omega)
  have q2 : decide (6 < op) = false := decide_eq_false (by omega)
  clear ho ha hb
  go_enter Try.func5, Try.ntmps5
  go_wp2_with fail
  refine (top_range2 op al ah bl bh _ Ho.out Ha.out Hb.out).mono ?_
  rintro e w1 ⟨rfl, hW⟩
  obtain ⟨hc1, hf1⟩ := bcell hW
  have hz1 := hW.size
  have z10 : w.heap.size < w1.heap.size := by simp at hz1; omega
  have z11 : w.heap.size + 1 < w1.heap.size := by simp at hz1; omega
  have HW1 := Lib.hid hW
  clear hW
  unfold spanV
  go_wp2_with fail
  refine (isSpan_yes al ah _ Ha.out).mono ?_
  rintro e w2 ⟨rfl, hW⟩
  obtain ⟨hc2, hf2⟩ := bcell hW
  have hz2 := hW.size
  have z20 : w.heap.size < w2.heap.size := by first | omega | (simp at hz2; omega)
  have z21 : w.heap.size + 1 < w2.heap.size := by first | omega | (simp at hz2; omega)
  have y2 : w1.heap.size < w2.heap.size := by first | omega | (simp at hz2; omega)
  have HW2 := Lib.hid hW
  clear hW
  go_wp2_with fail
  refine (isSpan_no bl bh _ Hb.out).mono ?_
  rintro e w3 ⟨rfl, hW⟩
  obtain ⟨hc3, hf3⟩ := bcell hW
  have hz3 := hW.size
  have z30 : w.heap.size < w3.heap.size := by first | omega | (simp at hz3; omega)
  have z31 : w.heap.size + 1 < w3.heap.size := by first | omega | (simp at hz3; omega)
  have y3 : w1.heap.size < w3.heap.size := by first | omega | (simp at hz3; omega)
  have HW3 := Lib.hid hW
  clear hW
  go_wp2
  go_ret
  exact ⟨rfl, by repeat (first | exact Below.refl _ _ | refine below_via HW3.out (by first | omega | (simp; done) | (simp; omega)) ?_ | refine below_via HW2.out (by first | omega | (simp; done) | (simp; omega)) ?_ | refine below_via HW1.out (by first | omega | (simp; done) | (simp; omega)) ?_ | refine Below.setCell ?_ (by first | omega | (simp; done) | (simp; omega)) _ | refine Below.alloc ?_ (by first | omega | (simp; done) | (simp; omega)) _ | refine below_dN ?_ _ | refine Below.drew ?_)⟩

set_option maxHeartbeats 1000000 in
theorem has_ok (op al ah bl bh x y : Int) (w : World) (ho : 3 ≤ op ∧ op ≤ 6) (ha : isSp al ah) (hb : isSp bl bh) :
    Calls Try.prog 5 #[.int .i64 op, spanV al ah, spanV bl bh, .int .i64 x, .int .i64 y] w fun e w' => e = .returned (.bool true) ∧ Below w.heap.size w w' := by
  have Ho := Lib.hid ho
  have Ha := Lib.hid ha
  have Hb := Lib.hid hb
  have q1 : decide (op < 3) = false := decide_eq_false (by omega)
  have q2 : decide (6 < op) = false := decide_eq_false (by omega)
  obtain ⟨ha1, ha2, ha3⟩ := ha
  obtain ⟨hb1, hb2, hb3⟩ := hb
  clear ho
  by_cases hr : al ≤ x ∧ x ≤ ah ∧ bl ≤ y ∧ y ≤ bh
  all_goals
    unfold spanV
    go_enter Try.func5, Try.ntmps5
    go_wp2_with fail
    refine (top_ok op al ah bl bh _ Ho.out Ha.out Hb.out).mono ?_
    rintro e w1 ⟨hW, lo, hi, rfl, hsp, hall⟩
    obtain ⟨hc1, hf1⟩ := bcell hW
    have hz1 := hW.size
    have z10 : w.heap.size < w1.heap.size := by simp at hz1; omega
    have z11 : w.heap.size + 1 < w1.heap.size := by simp at hz1; omega
    have HW1 := Lib.hid hW
    clear hW
    unfold spanV
    have Hsp := Lib.hid hsp
    have Hall := Lib.hid hall
    clear hsp hall
    go_wp2_with fail
    refine (isSpan_yes al ah _ Ha.out).mono ?_
    rintro e w2 ⟨rfl, hW⟩
    obtain ⟨hc2, hf2⟩ := bcell hW
    have hz2 := hW.size
    have z20 : w.heap.size < w2.heap.size := by first | omega | (simp at hz2; omega)
    have z21 : w.heap.size + 1 < w2.heap.size := by first | omega | (simp at hz2; omega)
    have y2 : w1.heap.size < w2.heap.size := by first | omega | (simp at hz2; omega)
    have HW2 := Lib.hid hW
    clear hW
    go_wp2_with fail
    refine (isSpan_yes bl bh _ Hb.out).mono ?_
    rintro e w3 ⟨rfl, hW⟩
    obtain ⟨hc3, hf3⟩ := bcell hW
    have hz3 := hW.size
    have z30 : w.heap.size < w3.heap.size := by first | omega | (simp at hz3; omega)
    have z31 : w.heap.size + 1 < w3.heap.size := by first | omega | (simp at hz3; omega)
    have y3 : w1.heap.size < w3.heap.size := by first | omega | (simp at hz3; omega)
    have HW3 := Lib.hid hW
    clear hW
    go_wp2_with fail
    refine (isSpan_yes lo hi _ Hsp.out).mono ?_
    rintro e w4 ⟨rfl, hW⟩
    obtain ⟨hc4, hf4⟩ := bcell hW
    have hz4 := hW.size
    have z40 : w.heap.size < w4.heap.size := by first | omega | (simp at hz4; omega)
    have z41 : w.heap.size + 1 < w4.heap.size := by first | omega | (simp at hz4; omega)
    have y4 : w1.heap.size < w4.heap.size := by first | omega | (simp at hz4; omega)
    have HW4 := Lib.hid hW
    clear hW
    go_wp2_with fail
    all_goals first
      | (go_ret; exact ⟨rfl, by repeat (first | exact Below.refl _ _ | refine below_via HW4.out (by first | omega | (simp; done) | (simp; omega)) ?_ | refine below_via HW3.out (by first | omega | (simp; done) | (simp; omega)) ?_ | refine below_via HW2.out (by first | omega | (simp; done) | (simp; omega)) ?_ | refine below_via HW1.out (by first | omega | (simp; done) | (simp; omega)) ?_ | refine Below.setCell ?_ (by first | omega | (simp; done) | (simp; omega)) _ | refine Below.alloc ?_ (by first | omega | (simp; done) | (simp; omega)) _ | refine below_dN ?_ _ | refine Below.drew ?_)⟩)
      | (have hv := Hall.out x y (by omega) (by omega) (by omega) (by omega)
         obtain ⟨hv1, hv2⟩ := hv
         refine (op_calls op x y _ Ho.out (by omega) (by omega)).mono ?_
         rintro e w5 ⟨rfl, rfl⟩
         generalize doF op x y = v at *
         go_wp2
         go_ret
         exact ⟨rfl, by repeat (first | exact Below.refl _ _ | refine below_via HW4.out (by first | omega | (simp; done) | (simp; omega)) ?_ | refine below_via HW3.out (by first | omega | (simp; done) | (simp; omega)) ?_ | refine below_via HW2.out (by first | omega | (simp; done) | (simp; omega)) ?_ | refine below_via HW1.out (by first | omega | (simp; done) | (simp; omega)) ?_ | refine Below.setCell ?_ (by first | omega | (simp; done) | (simp; omega)) _ | refine Below.alloc ?_ (by first | omega | (simp; done) | (simp; omega)) _ | refine below_dN ?_ _ | refine Below.drew ?_)⟩)
theorem spanHas_calls (op al ah bl bh x y : Int) (w : World) :
    Calls Try.prog 5 #[.int .i64 op, spanV al ah, spanV bl bh, .int .i64 x, .int .i64 y] w fun e w' => e = .returned (.bool true) ∧ Below w.heap.size w w' := by
  by_cases ho : 3 ≤ op ∧ op ≤ 6
  · by_cases ha : isSp al ah
    · by_cases hb : isSp bl bh
      · exact has_ok _ _ _ _ _ _ _ _ ho ha hb
      · exact has_b _ _ _ _ _ _ _ _ ho ha hb
    · exact has_a _ _ _ _ _ _ _ _ ho ha
  · exact has_kind _ _ _ _ _ _ _ _ (by omega)
end Go.Proofs.Ytiphhadhbokgmaa
