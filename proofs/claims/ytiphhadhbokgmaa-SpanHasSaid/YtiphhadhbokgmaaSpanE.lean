/- SpanHas: for every input the law answers true and its arguments read as they did. No condition. -/
import Derived.Test.YtiphhadhbokgmaaRows
import Derived.Test.YtiphhadhbokgmaaRow
import Derived.Test.YtiphhadhbokgmaaSpanD
import Derived.Test.YtiphhadhbokgmaaOpenSpan
namespace Go.Proofs.Ytiphhadhbokgmaa
open Go.ChangeShapes Go.WideShapes Go.ChangeAt Go.RowKit Go.Deep

theorem spanHas_holds : Rows.SpanHasSaid :=
  OpenClaim.holds_of_wide 5 Try.f5 rfl rfl rfl rfl rfl rfl rfl ⟨rfl, rfl, rfl, rfl, rfl⟩ rfl rfl rfl rfl rfl (by kernel_rfl) Try.func5 (by kernel_rfl)
    (of_decide_eq_true (by kernel_rfl)) (by unfold Func.isWrapper; rw [if_neg (of_decide_eq_false (by kernel_rfl))]; exact ⟨rfl, rfl⟩)
    (fun os started H enc _ => law_lift Rows.spanHasSpec Try.func5 (by kernel_rfl) rfl rfl (fun H ds h => by match ds, h with | [d0, d1, d2, d3, d4], _ => rfl) (by kernel_rfl)
      (fun os started H enc => ChangeSpec.witness6 (enc := enc) (C := Try.checked) false ⟨#[], #[.int .i64 0, .agg #[.int .i64 0, .int .i64 0], .agg #[.int .i64 0, .int .i64 0], .int .i64 0, .int .i64 0], []⟩ 8 (by kernel_rfl) (by kernel_rfl) (by kernel_rfl) (by kernel_rfl))
      (fun H enc W base args ds p hval hA => by
        rw [Try.params5] at hA hval
        obtain ⟨v0, vs0, d0, ds0, p0, q0, e0, rfl, rfl, h0, r0⟩ := trodAll_cons hA
        obtain ⟨v1, vs1, d1, ds1, p1, q1, rfl, rfl, rfl, h1, r1⟩ := trodAll_cons r0
        obtain ⟨v2, vs2, d2, ds2, p2, q2, rfl, rfl, rfl, h2, r2⟩ := trodAll_cons r1
        obtain ⟨v3, vs3, d3, ds3, p3, q3, rfl, rfl, rfl, h3, r3⟩ := trodAll_cons r2
        obtain ⟨v4, vs4, d4, ds4, p4, q4, rfl, rfl, rfl, h4, r4⟩ := trodAll_cons r3
        obtain ⟨rfl, rfl, rfl⟩ := trodAll_nil r4
        have ha : args = #[v0, v1, v2, v3, v4] := by rw [← Array.toArray_toList (xs := args), e0]
        subst ha
        obtain ⟨x0, rfl, hx0⟩ := open_i64 Try.underlying3 (hval 0 3 v0 rfl rfl) h0
        obtain ⟨s1, rfl, hw1⟩ := open_Span (hval 1 40 v1 rfl rfl) h1
        obtain ⟨s2, rfl, hw2⟩ := open_Span (hval 2 40 v2 rfl rfl) h2
        obtain ⟨x3, rfl, hx3⟩ := open_i64 Try.underlying3 (hval 3 3 v3 rfl rfl) h3
        obtain ⟨x4, rfl, hx4⟩ := open_i64 Try.underlying3 (hval 4 3 v4 rfl rfl) h4
        exact spanHas_calls x0 s1.1 s1.2 s2.1 s2.2 x3 x4 W) os started H enc)
#print axioms spanHas_holds
end Go.Proofs.Ytiphhadhbokgmaa
