/- ValueSame: for every input the law answers true and its arguments read as they did. No condition. -/
import Derived.Test.YtmglhppfdhphbaaRows
import Derived.Test.YtmglhppfdhphbaaRow
import Derived.Test.YtmglhppfdhphbaaValR
import Derived.Test.YtmglhppfdhphbaaOpenTerm
import Derived.Test.YtmglhppfdhphbaaRowCap
namespace Go.Proofs.Ytmglhppfdhphbaa
open Go.ChangeShapes Go.WideShapes Go.ChangeAt Go.RowKit Go.Deep

theorem valueSame_holds : Rows.ValueSameSaid :=
  OpenClaim.holds_of_wide 3 Try.f3 rfl rfl rfl rfl rfl rfl rfl ⟨rfl, rfl, rfl, rfl, rfl⟩ rfl rfl rfl rfl rfl (by kernel_rfl) Try.func3 (by kernel_rfl)
    (of_decide_eq_true (by kernel_rfl)) (by unfold Func.isWrapper; rw [if_neg (of_decide_eq_false (by kernel_rfl))]; exact ⟨rfl, rfl⟩)
    (fun os started H enc _ => law_lift_sized Rows.valueSameSpec Try.func3 (by kernel_rfl) rfl rfl (fun H ds h => by match ds, h with | [d0, d1, d2, d3, d4, d5], _ => rfl) (by kernel_rfl)
      (fun os started H enc => ChangeSpec.witness6 (enc := enc) (C := Try.checked) false ⟨#[], #[.int .i64 0, .slice none 0 0, .int .i64 0, .int .i64 0, .int .i64 0, .slice none 0 0], []⟩ 8 (by kernel_rfl) (by kernel_rfl) (by kernel_rfl) (by kernel_rfl))
      (fun H enc W base args ds p hval hA hsz => by
        rw [Try.params3] at hA hval hsz
        obtain ⟨v0, vs0, d0, ds0, p0, q0, e0, rfl, rfl, h0, r0⟩ := trodAll_cons hA
        obtain ⟨v1, vs1, d1, ds1, p1, q1, rfl, rfl, rfl, h1, r1⟩ := trodAll_cons r0
        obtain ⟨v2, vs2, d2, ds2, p2, q2, rfl, rfl, rfl, h2, r2⟩ := trodAll_cons r1
        obtain ⟨v3, vs3, d3, ds3, p3, q3, rfl, rfl, rfl, h3, r3⟩ := trodAll_cons r2
        obtain ⟨v4, vs4, d4, ds4, p4, q4, rfl, rfl, rfl, h4, r4⟩ := trodAll_cons r3
        obtain ⟨v5, vs5, d5, ds5, p5, q5, rfl, rfl, rfl, h5, r5⟩ := trodAll_cons r4
        obtain ⟨rfl, rfl, rfl⟩ := trodAll_nil r5
        have ha : args = #[v0, v1, v2, v3, v4, v5] := by rw [← Array.toArray_toList (xs := args), e0]
        subst ha
        obtain ⟨x0, rfl, hx0⟩ := open_i64 Try.underlying3 (hval 0 3 v0 rfl rfl) h0
        obtain ⟨A1, cap1, l1, rfl, hR1, hm1, hw1⟩ := open_terms (hval 1 22 v1 rfl rfl) h1
        have hs1 := slice_len Try.underlying22 h1 hsz 1 rfl rfl (of_decide_eq_true (by kernel_rfl))
        obtain ⟨x2, rfl, hx2⟩ := open_i64 Try.underlying3 (hval 2 3 v2 rfl rfl) h2
        obtain ⟨x3, rfl, hx3⟩ := open_i64 Try.underlying3 (hval 3 3 v3 rfl rfl) h3
        obtain ⟨x4, rfl, hx4⟩ := open_i64 Try.underlying3 (hval 4 3 v4 rfl rfl) h4
        obtain ⟨A5, cap5, l5, rfl, hR5, hm5, hw5⟩ := open_intlist (hval 5 23 v5 rfl rfl) h5
        have hs5 := slice_len Try.underlying23 h5 hsz 5 rfl rfl (of_decide_eq_true (by kernel_rfl))
        exact valueSame_calls x0 x2 x3 x4 A1 A5 l1 l5 cap1 cap5 W hR1 hR5 (slice_cap Try.underlying22 h1) hm1 hm5) os started H enc)
#print axioms valueSame_holds
end Go.Proofs.Ytmglhppfdhphbaa
