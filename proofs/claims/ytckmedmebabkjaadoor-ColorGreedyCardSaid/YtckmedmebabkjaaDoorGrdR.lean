/- ColorGreedy: for every input the law answers true and its arguments read as they did; math/bits' table of TrailingZeros32 starts as its text lays it, which the card ties. No other condition. -/
import Derived.Test.YtckmedmebabkjaaDoorRows
import Derived.Test.YtckmedmebabkjaaDoorCards
import Derived.Test.YtckmedmebabkjaaDoorTie
import Derived.Test.YtckmedmebabkjaaDoorRow
import Derived.Test.YtckmedmebabkjaaDoorRowLaid
import Derived.Test.YtckmedmebabkjaaDoorGrdB
import Derived.Test.YtckmedmebabkjaaDoorOpenPairs
namespace Go.Proofs.YtckmedmebabkjaaDoor
set_option maxRecDepth 100000
open Go.ChangeShapes Go.WideShapes Go.ChangeAt Go.RowKit Go.Deep

theorem colorGreedy_row : Rows.ColorGreedySaid :=
  OpenClaim.holds_of_wide 3 Tryd.f3 rfl rfl rfl rfl rfl rfl rfl ⟨rfl, rfl, rfl, rfl, rfl⟩ rfl rfl rfl rfl rfl (by kernel_rfl) Tryd.func3 (by kernel_rfl)
    (of_decide_eq_true (by kernel_rfl)) (by unfold Func.isWrapper; rw [if_neg (of_decide_eq_false (by kernel_rfl))]; exact ⟨rfl, rfl⟩)
    (fun os started H enc _ => law_lift_laid Rows.colorGreedySpec Tryd.func3 (by kernel_rfl) rfl rfl (fun H ds h => by match ds, h with | [d0, d1, d2], _ => rfl) (by kernel_rfl)
      (fun os started H enc => ChangeSpec.witness_shaped (enc := enc) (C := Tryd.checked) (os := os) (X := fun w _ => laidMetH Tryd.prog laidT w) false (World.doorLaid Tryd.prog 400 os) #[.int .i64 0, .slice none 0 0, .slice none 0 0] 8 rfl (World.shaped_of_RefB (by kernel_rfl) (by kernel_rfl)) (by kernel_rfl) (by kernel_rfl) (by kernel_rfl) (door_met os _))
      (fun H enc W base args ds p hval hA hsz hT => by
        rw [Tryd.params3] at hA hval hsz
        obtain ⟨v0, vs0, d0, ds0, p0, q0, e0, rfl, rfl, h0, r0⟩ := trodAll_cons hA
        obtain ⟨v1, vs1, d1, ds1, p1, q1, rfl, rfl, rfl, h1, r1⟩ := trodAll_cons r0
        obtain ⟨v2, vs2, d2, ds2, p2, q2, rfl, rfl, rfl, h2, r2⟩ := trodAll_cons r1
        obtain ⟨rfl, rfl, rfl⟩ := trodAll_nil r2
        have ha : args = #[v0, v1, v2] := by rw [← Array.toArray_toList (xs := args), e0]
        subst ha
        obtain ⟨x0, rfl, hx0⟩ := open_i64 Tryd.underlying3 (hval 0 3 v0 rfl rfl) h0
        obtain ⟨A1, cap1, l1, rfl, hR1, hm1, hw1⟩ := open_pairs (hval 1 22 v1 rfl rfl) h1
        obtain ⟨A2, cap2, l2, rfl, hR2, hm2, hw2⟩ := open_intlist (hval 2 23 v2 rfl rfl) h2
        exact colorGreedy_calls x0 A1 A2 l1 l2 cap1 cap2 W hR1 hR2 hm1 hm2 hT (tab_lt hT)) os started H enc)
theorem colorGreedy_holds : Rows.ColorGreedyCardSaid :=
  Claim7.holds_tied_plain_at .later [] [.data] true (true, "557505e30cb962fddddc525d46db502a8c963ef815c7c3280dafb656a97345b2") false
    colorGreedy_row (fun _ h => by cases h) (by kernel_rfl) (fun _ h => by cases h) colorGreedy_row_tie rfl ⟨rfl, rfl⟩ (by kernel_rfl) rfl
    (fun f fn hf hfn => by
      obtain rfl : f = 3 := Option.some.inj ((show Tryd.prog.funcNamed "codemason/codemasonkeep.ColorGreedy" = some 3 by kernel_rfl).symm.trans hf) |>.symm
      obtain rfl : fn = Tryd.f3 := (Option.some.inj (Tryd.func3.symm.trans hfn)).symm
      exact ⟨by kernel_rfl, fun j t ht => by
        rw [Tryd.params3] at ht
        have hm : t ∈ [3, 22, 23] := by simpa using Array.mem_of_getElem? ht
        have hall : ([3, 22, 23].all fun u => !Tryd.prog.wantsStandIn u) = true := by kernel_rfl
        exact (show Tryd.prog.wantsStandIn t = false by simpa using List.all_eq_true.1 hall t hm)⟩)
    (by kernel_rfl)
#print axioms colorGreedy_holds
end Go.Proofs.YtckmedmebabkjaaDoor
