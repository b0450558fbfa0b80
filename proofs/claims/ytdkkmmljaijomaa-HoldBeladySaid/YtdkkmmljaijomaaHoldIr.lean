/- HoldBelady: for every input the law answers true and its arguments read as they did. No condition. -/
import Derived.Test.YtdkkmmljaijomaaRows
import Derived.Test.YtdkkmmljaijomaaRow
import Derived.Test.YtdkkmmljaijomaaHoldI
import Derived.Test.YtdkkmmljaijomaaRowCap
namespace Go.Proofs.Ytdkkmmljaijomaa
open Go.ChangeShapes Go.WideShapes Go.ChangeAt Go.RowKit Go.Deep

theorem holdBelady_holds : Rows.HoldBeladySaid :=
  OpenClaim.holds_of_wide 5 Try.f5 rfl rfl rfl rfl rfl rfl rfl ⟨rfl, rfl, rfl, rfl, rfl⟩ rfl rfl rfl rfl rfl (by kernel_rfl) Try.func5 (by kernel_rfl)
    (of_decide_eq_true (by kernel_rfl)) (by unfold Func.isWrapper; rw [if_neg (of_decide_eq_false (by kernel_rfl))]; exact ⟨rfl, rfl⟩)
    (fun os started H enc _ => law_lift_sized Rows.holdBeladySpec Try.func5 (by kernel_rfl) rfl rfl (fun H ds h => by match ds, h with | [d0, d1, d2], _ => rfl) (by kernel_rfl)
      (fun os started H enc => ChangeSpec.witness6 (enc := enc) (C := Try.checked) false ⟨#[], #[.slice none 0 0, .int .i64 0, .slice none 0 0], []⟩ 8 (by kernel_rfl) (by kernel_rfl) (by kernel_rfl) (by kernel_rfl))
      (fun H enc W base args ds p hval hA hsz => by
        rw [Try.params5] at hA hval hsz
        obtain ⟨v0, vs0, d0, ds0, p0, q0, e0, rfl, rfl, h0, r0⟩ := trodAll_cons hA
        obtain ⟨v1, vs1, d1, ds1, p1, q1, rfl, rfl, rfl, h1, r1⟩ := trodAll_cons r0
        obtain ⟨v2, vs2, d2, ds2, p2, q2, rfl, rfl, rfl, h2, r2⟩ := trodAll_cons r1
        obtain ⟨rfl, rfl, rfl⟩ := trodAll_nil r2
        have ha : args = #[v0, v1, v2] := by rw [← Array.toArray_toList (xs := args), e0]
        subst ha
        obtain ⟨A0, cap0, l0, rfl, hR0, hm0, hw0⟩ := open_intlist (hval 0 22 v0 rfl rfl) h0
        have hs0 := slice_len Try.underlying22 h0 hsz 0 rfl rfl (of_decide_eq_true (by kernel_rfl))
        obtain ⟨x1, rfl, hx1⟩ := open_i64 Try.underlying3 (hval 1 3 v1 rfl rfl) h1
        obtain ⟨A2, cap2, l2, rfl, hR2, hm2, hw2⟩ := open_intlist (hval 2 22 v2 rfl rfl) h2
        have hs2 := slice_len Try.underlying22 h2 hsz 2 rfl rfl (of_decide_eq_true (by kernel_rfl))
        exact holdBelady_calls A0 A2 l0 l2 cap0 cap2 x1 W hR0 hm0 (slice_cap Try.underlying22 h0) hR2 hm2 (slice_cap Try.underlying22 h2)) os started H enc)
#print axioms holdBelady_holds
end Go.Proofs.Ytdkkmmljaijomaa
