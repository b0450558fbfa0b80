/- span.Do, and the law SpanHas. -/
import Derived.Test.YtiphhadhbokgmaaSpanB
namespace Go.Proofs.Ytiphhadhbokgmaa
open Go.RowKit

set_option maxHeartbeats 1000000 in
theorem top_kind (op al ah bl bh : Int) (w : World) (ho : op < 3 ∨ 6 < op) :
    Calls Try.prog 13 #[.int .i64 op, spanV al ah, spanV bl bh] w fun e w' => e = .returned (.tuple #[spanV 0 0, .int .i64 6]) ∧ Below w.heap.size w w' := by
  unfold spanV
  rcases ho with ho | ho
  all_goals
    go_enter Try.func13, Try.ntmps13
    go_wp2
    refine bodyPost_ret (v := .tuple #[spanV 0 0, .int .i64 6]) ?_ rfl ⟨rfl, ?_⟩
    · simp [results, Try.results13, go_sem, spanV]
    · repeat (first | exact Below.refl _ _ |  refine Below.setCell ?_ (by first | omega | (simp; done) | (simp; omega)) _ | refine Below.alloc ?_ (by first | omega | (simp; done) | (simp; omega)) _ | refine below_dN ?_ _ | refine Below.drew ?_)

set_option maxHeartbeats 1000000 in
theorem top_range1 (op al ah bl bh : Int) (w : World) (ho : 3 ≤ op ∧ op ≤ 6) (ha : ¬ isSp al ah) :
    Calls Try.prog 13 #[.int .i64 op, spanV al ah, spanV bl bh] w fun e w' => e = .returned (.tuple #[spanV 0 0, .int .i64 4]) ∧ Below w.heap.size w w' := by
  have Ha := Lib.hid ha
  clear ha
  obtain ⟨ho1, ho2⟩ := ho
  have q1 : decide (op < 3) = false := decide_eq_false (by omega)
  have q2 : decide (6 < op) = false := decide_eq_false (by omega)
  unfold spanV
  go_enter Try.func13, Try.ntmps13
  go_wp2_with fail
  refine (is_no al ah _ Ha.out).mono ?_
  rintro e w1 ⟨rfl, hW⟩
  obtain ⟨hc1, hf1⟩ := bcell hW
  have hz1 := hW.size
  have z10 : w.heap.size < w1.heap.size := by simp at hz1; omega
  have z11 : w.heap.size + 1 < w1.heap.size := by simp at hz1; omega
  have z12 : w.heap.size + 1 + 1 < w1.heap.size := by simp at hz1; omega
  have HW1 := Lib.hid hW
  clear hW
  go_wp2
  refine bodyPost_ret (v := .tuple #[spanV 0 0, .int .i64 4]) ?_ rfl ⟨rfl, ?_⟩
  · simp [results, Try.results13, go_sem, spanV, hc1]
  · repeat (first | exact Below.refl _ _ | refine below_via HW1.out (by first | omega | (simp; done) | (simp; omega)) ?_ | refine Below.setCell ?_ (by first | omega | (simp; done) | (simp; omega)) _ | refine Below.alloc ?_ (by first | omega | (simp; done) | (simp; omega)) _ | refine below_dN ?_ _ | refine Below.drew ?_)

set_option maxHeartbeats 1000000 in
theorem top_range2 (op al ah bl bh : Int) (w : World) (ho : 3 ≤ op ∧ op ≤ 6) (ha : isSp al ah) (hb : ¬ isSp bl bh) :
    Calls Try.prog 13 #[.int .i64 op, spanV al ah, spanV bl bh] w fun e w' => e = .returned (.tuple #[spanV 0 0, .int .i64 4]) ∧ Below w.heap.size w w' := by
  have Ha := Lib.hid ha
  have Hb := Lib.hid hb
  clear ha hb
  obtain ⟨ho1, ho2⟩ := ho
  have q1 : decide (op < 3) = false := decide_eq_false (by omega)
  have q2 : decide (6 < op) = false := decide_eq_false (by omega)
  unfold spanV
  go_enter Try.func13, Try.ntmps13
  go_wp2_with fail
  refine (is_yes al ah _ Ha.out).mono ?_
  rintro e w1 ⟨rfl, hW⟩
  obtain ⟨hc1, hf1⟩ := bcell hW
  have hz1 := hW.size
  have z10 : w.heap.size < w1.heap.size := by simp at hz1; omega
  have z11 : w.heap.size + 1 < w1.heap.size := by simp at hz1; omega
  have z12 : w.heap.size + 1 + 1 < w1.heap.size := by simp at hz1; omega
  have HW1 := Lib.hid hW
  clear hW
  go_wp2_with fail
  refine (is_no bl bh _ Hb.out).mono ?_
  rintro e w2 ⟨rfl, hW⟩
  obtain ⟨hc2, hf2⟩ := bcell hW
  have hz2 := hW.size
  have z20 : w.heap.size < w2.heap.size := by omega
  have z21 : w.heap.size + 1 < w2.heap.size := by omega
  have z22 : w.heap.size + 1 + 1 < w2.heap.size := by omega
  have HW2 := Lib.hid hW
  clear hW
  go_wp2
  refine bodyPost_ret (v := .tuple #[spanV 0 0, .int .i64 4]) ?_ rfl ⟨rfl, ?_⟩
  · simp [results, Try.results13, go_sem, spanV, hc1, hc2, z12]
  · repeat (first | exact Below.refl _ _ | refine below_via HW2.out (by first | omega | (simp; done) | (simp; omega)) ?_ | refine below_via HW1.out (by first | omega | (simp; done) | (simp; omega)) ?_ | refine Below.setCell ?_ (by first | omega | (simp; done) | (simp; omega)) _ | refine Below.alloc ?_ (by first | omega | (simp; done) | (simp; omega)) _ | refine below_dN ?_ _ | refine Below.drew ?_)

set_option maxHeartbeats 1000000 in
theorem top_ok (op al ah bl bh : Int) (w : World) (ho : 3 ≤ op ∧ op ≤ 6) (ha : isSp al ah) (hb : isSp bl bh) :
    Calls Try.prog 13 #[.int .i64 op, spanV al ah, spanV bl bh] w fun e w' => Below w.heap.size w w' ∧ ∃ lo hi, e = .returned (.tuple #[spanV lo hi, .int .i64 0]) ∧ isSp lo hi ∧ ∀ x y, al ≤ x → x ≤ ah → bl ≤ y → y ≤ bh → lo ≤ doF op x y ∧ doF op x y ≤ hi := by
  have Ha := Lib.hid ha
  have Hb := Lib.hid hb
  clear ha hb
  obtain ⟨ho1, ho2⟩ := ho
  have q1 : decide (op < 3) = false := decide_eq_false (by omega)
  have q2 : decide (6 < op) = false := decide_eq_false (by omega)
  unfold spanV
  go_enter Try.func13, Try.ntmps13
  go_wp2_with fail
  refine (is_yes al ah _ Ha.out).mono ?_
  rintro e w1 ⟨rfl, hW⟩
  obtain ⟨hc1, hf1⟩ := bcell hW
  have hz1 := hW.size
  have z10 : w.heap.size < w1.heap.size := by simp at hz1; omega
  have z11 : w.heap.size + 1 < w1.heap.size := by simp at hz1; omega
  have z12 : w.heap.size + 1 + 1 < w1.heap.size := by simp at hz1; omega
  have HW1 := Lib.hid hW
  clear hW
  go_wp2_with fail
  refine (is_yes bl bh _ Hb.out).mono ?_
  rintro e w2 ⟨rfl, hW⟩
  obtain ⟨hc2, hf2⟩ := bcell hW
  have hz2 := hW.size
  have z20 : w.heap.size < w2.heap.size := by omega
  have z21 : w.heap.size + 1 < w2.heap.size := by omega
  have z22 : w.heap.size + 1 + 1 < w2.heap.size := by omega
  have HW2 := Lib.hid hW
  clear hW
  go_wp2_with fail
  refine (spanDo_calls op al ah bl bh _ ⟨ho1, ho2⟩ Ha.out Hb.out).mono ?_
  rintro e w3 ⟨hW, lo, hi, rfl, hsp, hall⟩
  obtain ⟨hc3, hf3⟩ := bcell hW
  have hz3 := hW.size
  have z30 : w.heap.size < w3.heap.size := by omega
  have z31 : w.heap.size + 1 < w3.heap.size := by omega
  have z32 : w.heap.size + 1 + 1 < w3.heap.size := by omega
  have HW3 := Lib.hid hW
  have Hsp := Lib.hid hsp
  have Hall := Lib.hid hall
  clear hW hsp hall
  unfold spanV
  go_wp2
  refine bodyPost_ret (v := .tuple #[spanV lo hi, .int .i64 0]) ?_ rfl ⟨?_, lo, hi, rfl, Hsp.out, Hall.out⟩
  · simp [results, Try.results13, go_sem, spanV, hc1, hc2, hc3, z12, z22]
  · repeat (first | exact Below.refl _ _ | refine below_via HW3.out (by first | omega | (simp; done) | (simp; omega)) ?_ | refine below_via HW2.out (by first | omega | (simp; done) | (simp; omega)) ?_ | refine below_via HW1.out (by first | omega | (simp; done) | (simp; omega)) ?_ | refine Below.setCell ?_ (by first | omega | (simp; done) | (simp; omega)) _ | refine Below.alloc ?_ (by first | omega | (simp; done) | (simp; omega)) _ | refine below_dN ?_ _ | refine Below.drew ?_)
end Go.Proofs.Ytiphhadhbokgmaa
