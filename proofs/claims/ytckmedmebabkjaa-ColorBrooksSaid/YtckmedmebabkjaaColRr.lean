/- ColorBrooks: for every input the law answers true and its arguments read as they did. No condition. -/
import Derived.Test.YtckmedmebabkjaaRows
import Derived.Test.YtckmedmebabkjaaRow
import Derived.Test.YtckmedmebabkjaaColR
import Derived.Test.YtckmedmebabkjaaOpenPairs
namespace Go.Proofs.Ytckmedmebabkjaa
open Go.ChangeShapes Go.WideShapes Go.ChangeAt Go.RowKit Go.Deep

theorem colorBrooks_holds : Rows.ColorBrooksSaid :=
  OpenClaim.holds_of_wide 5 Try.f5 rfl rfl rfl rfl rfl rfl rfl ⟨rfl, rfl, rfl, rfl, rfl⟩ rfl rfl rfl rfl rfl (by kernel_rfl) Try.func5 (by kernel_rfl)
    (of_decide_eq_true (by kernel_rfl)) (by unfold Func.isWrapper; rw [if_neg (of_decide_eq_false (by kernel_rfl))]; exact ⟨rfl, rfl⟩)
    (fun os started H enc _ => law_lift_sized Rows.colorBrooksSpec Try.func5 (by kernel_rfl) rfl rfl (fun H ds h => by match ds, h with | [d0, d1], _ => rfl) (by kernel_rfl)
      (fun os started H enc => ChangeSpec.witness6 (enc := enc) (C := Try.checked) false ⟨#[], #[.int .i64 0, .slice none 0 0], []⟩ 8 (by kernel_rfl) (by kernel_rfl) (by kernel_rfl) (by kernel_rfl))
      (fun H enc W base args ds p hval hA hsz => by
        rw [Try.params5] at hA hval hsz
        obtain ⟨v0, vs0, d0, ds0, p0, q0, e0, rfl, rfl, h0, r0⟩ := trodAll_cons hA
        obtain ⟨v1, vs1, d1, ds1, p1, q1, rfl, rfl, rfl, h1, r1⟩ := trodAll_cons r0
        obtain ⟨rfl, rfl, rfl⟩ := trodAll_nil r1
        have ha : args = #[v0, v1] := by rw [← Array.toArray_toList (xs := args), e0]
        subst ha
        obtain ⟨x0, rfl, hx0⟩ := open_i64 Try.underlying3 (hval 0 3 v0 rfl rfl) h0
        obtain ⟨A1, cap1, l1, rfl, hR1, hm1, hw1⟩ := open_pairs (hval 1 22 v1 rfl rfl) h1
        exact colorBrooks_calls x0 A1 l1 cap1 W hR1 hm1) os started H enc)
#print axioms colorBrooks_holds
end Go.Proofs.Ytckmedmebabkjaa
