/- FactTwo: for every input the law answers true and its arguments read as they did. No condition. -/
import Derived.Test.YtljmignfbagomaaRows
import Derived.Test.YtljmignfbagomaaRow
import Derived.Test.YtljmignfbagomaaFacO
import Derived.Test.YtljmignfbagomaaOpenWay
import Derived.Test.YtljmignfbagomaaOpenLaw
namespace Go.Proofs.Ytljmignfbagomaa
open Go.ChangeShapes Go.WideShapes Go.ChangeAt Go.RowKit Go.Deep

theorem factTwo_holds : Rows.FactTwoSaid :=
  OpenClaim.holds_of_wide 15 Try.f15 rfl rfl rfl rfl rfl rfl rfl ⟨rfl, rfl, rfl, rfl, rfl⟩ rfl rfl rfl rfl rfl (by kernel_rfl) Try.func15 (by kernel_rfl)
    (of_decide_eq_true (by kernel_rfl)) (by unfold Func.isWrapper; rw [if_neg (of_decide_eq_false (by kernel_rfl))]; exact ⟨rfl, rfl⟩)
    (fun os started H enc _ => law_lift_sized Rows.factTwoSpec Try.func15 (by kernel_rfl) rfl rfl (fun H ds h => by match ds, h with | [d0, d1], _ => rfl) (by kernel_rfl)
      (fun os started H enc => ChangeSpec.witness6 (enc := enc) (C := Try.checked) false ⟨#[], #[.slice none 0 0, .agg #[.bool false, .bool false, .slice none 0 0, .slice none 0 0, .int .u32 0]], []⟩ 8 (by kernel_rfl) (by kernel_rfl) (by kernel_rfl) (by kernel_rfl))
      (fun H enc W base args ds p hval hA hsz => by
        rw [Try.params15] at hA hval hsz
        obtain ⟨v0, vs0, d0, ds0, p0, q0, e0, rfl, rfl, h0, r0⟩ := trodAll_cons hA
        obtain ⟨v1, vs1, d1, ds1, p1, q1, rfl, rfl, rfl, h1, r1⟩ := trodAll_cons r0
        obtain ⟨rfl, rfl, rfl⟩ := trodAll_nil r1
        have ha : args = #[v0, v1] := by rw [← Array.toArray_toList (xs := args), e0]
        subst ha
        obtain ⟨A0, cap0, l0, rfl, hR0, hm0, hw0⟩ := open_ways (hval 0 22 v0 rfl rfl) h0
        obtain ⟨s1, rfl, hw1⟩ := open_Law (hval 1 58 v1 rfl rfl) h1
        exact factTwo_calls A0 s1.1 s1.2.2.1 l0 s1.2.2.2.2 cap0 s1.2.1 s1.2.2.2.1 W hR0 hm0 hw1.1 hw1.2.1 hw1.2.2) os started H enc)
#print axioms factTwo_holds
end Go.Proofs.Ytljmignfbagomaa
