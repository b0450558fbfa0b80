/- LinkPlace: for every input the law answers true and its arguments read as they did. No condition. -/
import Derived.Test.YtiphhadhbokgmaaRows
import Derived.Test.YtiphhadhbokgmaaRow
import Derived.Test.YtiphhadhbokgmaaLnkG
import Derived.Test.YtiphhadhbokgmaaOpenOb
namespace Go.Proofs.Ytiphhadhbokgmaa
set_option maxRecDepth 100000
open Go.ChangeShapes Go.WideShapes Go.ChangeAt Go.RowKit Go.Deep

theorem linkPlace_holds : Rows.LinkPlaceSaid :=
  OpenClaim.holds_of_wide 7 Try.f7 rfl rfl rfl rfl rfl rfl rfl ⟨rfl, rfl, rfl, rfl, rfl⟩ rfl rfl rfl rfl rfl (by kernel_rfl) Try.func7 (by kernel_rfl)
    (of_decide_eq_true (by kernel_rfl)) (by unfold Func.isWrapper; rw [if_neg (of_decide_eq_false (by kernel_rfl))]; exact ⟨rfl, rfl⟩)
    (fun os started H enc _ => law_lift_sized Rows.linkPlaceSpec Try.func7 (by kernel_rfl) rfl rfl (fun H ds h => by match ds, h with | [d0, d1], _ => rfl) (by kernel_rfl)
      (fun os started H enc => ChangeSpec.witness6 (enc := enc) (C := Try.checked) false ⟨#[], #[.slice none 0 0, .int .i64 0], []⟩ 8 (by kernel_rfl) (by kernel_rfl) (by kernel_rfl) (by kernel_rfl))
      (fun H enc W base args ds p hval hA hsz => by
        rw [Try.params7] at hA hval hsz
        obtain ⟨v0, vs0, d0, ds0, p0, q0, e0, rfl, rfl, h0, r0⟩ := trodAll_cons hA
        obtain ⟨v1, vs1, d1, ds1, p1, q1, rfl, rfl, rfl, h1, r1⟩ := trodAll_cons r0
        obtain ⟨rfl, rfl, rfl⟩ := trodAll_nil r1
        have ha : args = #[v0, v1] := by rw [← Array.toArray_toList (xs := args), e0]
        subst ha
        obtain ⟨A0, cap0, l0, rfl, hR0, hm0, hw0⟩ := open_objects (hval 0 56 v0 rfl rfl) h0
        obtain ⟨x1, rfl, hx1⟩ := open_i64 Try.underlying3 (hval 1 3 v1 rfl rfl) h1
        exact linkPlace_u A0 l0 cap0 x1 W hR0 hm0 (fun o ho => (hw0 o ho).1) (fun o ho => (hw0 o ho).2) hx1) os started H enc)
#print axioms linkPlace_holds
end Go.Proofs.Ytiphhadhbokgmaa
