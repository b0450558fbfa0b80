/- LoopFold: for every input the law answers true and its arguments read as they did. No condition. -/
import Derived.Test.YtljmignfbagomaaRows
import Derived.Test.YtljmignfbagomaaRow
import Derived.Test.YtljmignfbagomaaLpM
import Derived.Test.YtljmignfbagomaaOpenWay
namespace Go.Proofs.Ytljmignfbagomaa
set_option maxRecDepth 100000
open Go.ChangeShapes Go.WideShapes Go.ChangeAt Go.RowKit Go.Deep

theorem loopFold_holds : Rows.LoopFoldSaid :=
  OpenClaim.holds_of_wide 12 Try.f12 rfl rfl rfl rfl rfl rfl rfl ⟨rfl, rfl, rfl, rfl, rfl⟩ rfl rfl rfl rfl rfl (by kernel_rfl) Try.func12 (by kernel_rfl)
    (of_decide_eq_true (by kernel_rfl)) (by unfold Func.isWrapper; rw [if_neg (of_decide_eq_false (by kernel_rfl))]; exact ⟨rfl, rfl⟩)
    (fun os started H enc _ => law_lift_sized Rows.loopFoldSpec Try.func12 (by kernel_rfl) rfl rfl (fun H ds h => by match ds, h with | [d0], _ => rfl) (by kernel_rfl)
      (fun os started H enc => ChangeSpec.witness6 (enc := enc) (C := Try.checked) false ⟨#[], #[.slice none 0 0], []⟩ 8 (by kernel_rfl) (by kernel_rfl) (by kernel_rfl) (by kernel_rfl))
      (fun H enc W base args ds p hval hA hsz => by
        rw [Try.params12] at hA hval hsz
        obtain ⟨v0, vs0, d0, ds0, p0, q0, e0, rfl, rfl, h0, r0⟩ := trodAll_cons hA
        obtain ⟨rfl, rfl, rfl⟩ := trodAll_nil r0
        have ha : args = #[v0] := by rw [← Array.toArray_toList (xs := args), e0]
        subst ha
        obtain ⟨A0, cap0, l0, rfl, hR0, hm0, hw0⟩ := open_ways (hval 0 22 v0 rfl rfl) h0
        exact loopFold_calls A0 l0 cap0 W hR0 hm0) os started H enc)
#print axioms loopFold_holds
end Go.Proofs.Ytljmignfbagomaa
