/- ColorChordal: for every input the law answers true and its arguments read as they did; math/bits' table of TrailingZeros32 starts as its text lays it, which the card ties. No other condition. -/
import Derived.Test.YtckmedmebabkjaaDoorRows
import Derived.Test.YtckmedmebabkjaaDoorCards
import Derived.Test.YtckmedmebabkjaaDoorTie
import Derived.Test.YtckmedmebabkjaaDoorRow
import Derived.Test.YtckmedmebabkjaaDoorRowLaid
import Derived.Test.YtckmedmebabkjaaDoorChdB
import Derived.Test.YtckmedmebabkjaaDoorOpenPairs
namespace Go.Proofs.YtckmedmebabkjaaDoor
set_option maxRecDepth 100000
open Go.ChangeShapes Go.WideShapes Go.ChangeAt Go.RowKit Go.Deep

theorem colorChordal_row : Rows.ColorChordalSaid :=
  OpenClaim.holds_of_wide 4 Tryd.f4 rfl rfl rfl rfl rfl rfl rfl ⟨rfl, rfl, rfl, rfl, rfl⟩ rfl rfl rfl rfl rfl (by kernel_rfl) Tryd.func4 (by kernel_rfl)
    (of_decide_eq_true (by kernel_rfl)) (by unfold Func.isWrapper; rw [if_neg (of_decide_eq_false (by kernel_rfl))]; exact ⟨rfl, rfl⟩)
    (fun os started H enc _ => law_lift_laid Rows.colorChordalSpec Tryd.func4 (by kernel_rfl) rfl rfl (fun H ds h => by match ds, h with | [d0, d1], _ => rfl) (by kernel_rfl)
      (fun os started H enc => ChangeSpec.witness_shaped (enc := enc) (C := Tryd.checked) (os := os) (X := fun w _ => laidMetH Tryd.prog laidT w) false (World.doorLaid Tryd.prog 400 os) #[.int .i64 0, .slice none 0 0] 8 rfl (World.shaped_of_RefB (by kernel_rfl) (by kernel_rfl)) (by kernel_rfl) (by kernel_rfl) (by kernel_rfl) (door_met os _))
      (fun H enc W base args ds p hval hA hsz hT => by
        rw [Tryd.params4] at hA hval hsz
        obtain ⟨v0, vs0, d0, ds0, p0, q0, e0, rfl, rfl, h0, r0⟩ := trodAll_cons hA
        obtain ⟨v1, vs1, d1, ds1, p1, q1, rfl, rfl, rfl, h1, r1⟩ := trodAll_cons r0
        obtain ⟨rfl, rfl, rfl⟩ := trodAll_nil r1
        have ha : args = #[v0, v1] := by rw [← Array.toArray_toList (xs := args), e0]
        subst ha
        obtain ⟨x0, rfl, hx0⟩ := open_i64 Tryd.underlying3 (hval 0 3 v0 rfl rfl) h0
        obtain ⟨A1, cap1, l1, rfl, hR1, hm1, hw1⟩ := open_pairs (hval 1 22 v1 rfl rfl) h1
        exact colorChordal_calls x0 A1 l1 cap1 W hR1 hm1 hT (tab_lt hT)) os started H enc)
theorem colorChordal_holds : Rows.ColorChordalCardSaid :=
  Claim7.holds_tied_plain_at .later [] [.data] true (true, "557505e30cb962fddddc525d46db502a8c963ef815c7c3280dafb656a97345b2") false
    colorChordal_row (fun _ h => by cases h) (by kernel_rfl) (fun _ h => by cases h) colorChordal_row_tie rfl ⟨rfl, rfl⟩ (by kernel_rfl) rfl
    (fun f fn hf hfn => by
      obtain rfl : f = 4 := Option.some.inj ((show Tryd.prog.funcNamed "codemason/codemasonkeep.ColorChordal" = some 4 by kernel_rfl).symm.trans hf) |>.symm
      obtain rfl : fn = Tryd.f4 := (Option.some.inj (Tryd.func4.symm.trans hfn)).symm
      exact ⟨by kernel_rfl, fun j t ht => by
        rw [Tryd.params4] at ht
        have hm : t ∈ [3, 22] := by simpa using Array.mem_of_getElem? ht
        have hall : ([3, 22].all fun u => !Tryd.prog.wantsStandIn u) = true := by kernel_rfl
        exact (show Tryd.prog.wantsStandIn t = false by simpa using List.all_eq_true.1 hall t hm)⟩)
    (by kernel_rfl)
#print axioms colorChordal_holds
end Go.Proofs.YtckmedmebabkjaaDoor
