/- LinkAlone: for every input the law answers true and its arguments read as they did. No condition. -/
import Derived.Test.YtiphhadhbokgmaaRows
import Derived.Test.YtiphhadhbokgmaaRow
import Derived.Test.YtiphhadhbokgmaaLnkS
import Derived.Test.YtiphhadhbokgmaaOpenOb
namespace Go.Proofs.Ytiphhadhbokgmaa
set_option maxRecDepth 100000
open Go.ChangeShapes Go.WideShapes Go.ChangeAt Go.RowKit Go.Deep

theorem linkAlone_holds : Rows.LinkAloneSaid :=
  OpenClaim.holds_of_wide 8 Try.f8 rfl rfl rfl rfl rfl rfl rfl ⟨rfl, rfl, rfl, rfl, rfl⟩ rfl rfl rfl rfl rfl (by kernel_rfl) Try.func8 (by kernel_rfl)
    (of_decide_eq_true (by kernel_rfl)) (by unfold Func.isWrapper; rw [if_neg (of_decide_eq_false (by kernel_rfl))]; exact ⟨rfl, rfl⟩)
    (fun os started H enc _ => law_lift_sized Rows.linkAloneSpec Try.func8 (by kernel_rfl) rfl rfl (fun H ds h => by match ds, h with | [d0], _ => rfl) (by kernel_rfl)
      (fun os started H enc => ChangeSpec.witness6 (enc := enc) (C := Try.checked) false ⟨#[], #[.slice none 0 0], []⟩ 8 (by kernel_rfl) (by kernel_rfl) (by kernel_rfl) (by kernel_rfl))
      (fun H enc W base args ds p hval hA hsz => by
        rw [Try.params8] at hA hval hsz
        obtain ⟨v0, vs0, d0, ds0, p0, q0, e0, rfl, rfl, h0, r0⟩ := trodAll_cons hA
        obtain ⟨rfl, rfl, rfl⟩ := trodAll_nil r0
        have ha : args = #[v0] := by rw [← Array.toArray_toList (xs := args), e0]
        subst ha
        obtain ⟨A0, cap0, l0, rfl, hR0, hm0, hw0⟩ := open_objects (hval 0 56 v0 rfl rfl) h0
        exact linkAlone_u A0 l0 cap0 W hR0 hm0 (fun o ho => (hw0 o ho).1) (fun o ho => (hw0 o ho).2)) os started H enc)
#print axioms linkAlone_holds
end Go.Proofs.Ytiphhadhbokgmaa
