/- WeakTwo: for every input of bulk at most 1048576 the law answers true and its arguments read as they did. No other condition. -/
import Derived.Test.YtmgejacndhnikaaRows
import Derived.Test.YtmgejacndhnikaaRowUpto
import Derived.Test.YtmgejacndhnikaaWkD
import Derived.Test.YtmgejacndhnikaaOpenStep
import Derived.Test.YtmgejacndhnikaaOpenTerm
namespace Go.Proofs.Ytmgejacndhnikaa
set_option maxRecDepth 100000
open Go.ChangeShapes Go.WideShapes Go.ChangeAt Go.RowKit Go.Deep

theorem weakTwo_holds : Rows.WeakTwoUptoSaid :=
  OpenClaim.holds_of_cond 6 Try.f6 rfl rfl rfl rfl rfl rfl rfl ⟨rfl, rfl, rfl, rfl, rfl⟩ rfl rfl rfl rfl rfl (by kernel_rfl) Try.func6 (by kernel_rfl)
    (of_decide_eq_true (by kernel_rfl)) (by unfold Func.isWrapper; rw [if_neg (of_decide_eq_false (by kernel_rfl))]; exact ⟨rfl, rfl⟩)
    (fun os started H enc _ F => law_lift_upto Rows.weakTwoSpec Try.func6 (by kernel_rfl) rfl rfl (fun H ds h => by match ds, h with | [d0, d1, d2, d3, d4], _ => rfl) (by kernel_rfl)
      (fun os started H enc => OpenSpec.witness (enc := enc) (C := Try.checked) (s := Rows.OpenSpec.upto Rows.weakTwoSpec) (k := Rows.uptoSmall) rfl false ⟨#[], #[.int .i64 0, .slice none 0 0, .slice none 0 0, .slice none 0 0, .slice none 0 0], []⟩ 8 (by kernel_rfl) (by kernel_rfl) (by kernel_rfl) (x := ([.lit (.int .i64 0), .nil, .nil, .nil, .nil], [], [])) (by kernel_rfl) rfl (by kernel_rfl))
      (fun H enc W base args ds p hval hA hk => by
        rw [Try.params6] at hA hval
        obtain ⟨v0, vs0, d0, ds0, p0, q0, e0, rfl, rfl, h0, r0⟩ := trodAll_cons hA
        obtain ⟨v1, vs1, d1, ds1, p1, q1, rfl, rfl, rfl, h1, r1⟩ := trodAll_cons r0
        obtain ⟨v2, vs2, d2, ds2, p2, q2, rfl, rfl, rfl, h2, r2⟩ := trodAll_cons r1
        obtain ⟨v3, vs3, d3, ds3, p3, q3, rfl, rfl, rfl, h3, r3⟩ := trodAll_cons r2
        obtain ⟨v4, vs4, d4, ds4, p4, q4, rfl, rfl, rfl, h4, r4⟩ := trodAll_cons r3
        obtain ⟨rfl, rfl, rfl⟩ := trodAll_nil r4
        have ha : args = #[v0, v1, v2, v3, v4] := by rw [← Array.toArray_toList (xs := args), e0]
        subst ha
        obtain ⟨x0, rfl, hx0⟩ := open_i64 Try.underlying3 (hval 0 3 v0 rfl rfl) h0
        obtain ⟨A1, cap1, l1, rfl, hR1, hm1, hw1⟩ := open_steps (hval 1 48 v1 rfl rfl) h1
        obtain ⟨A2, cap2, l2, rfl, hR2, hm2, hw2⟩ := open_steps (hval 2 48 v2 rfl rfl) h2
        obtain ⟨A3, cap3, l3, rfl, hR3, hm3, hw3⟩ := open_terms (hval 3 49 v3 rfl rfl) h3
        obtain ⟨A4, cap4, l4, rfl, hR4, hm4, hw4⟩ := open_intlist (hval 4 23 v4 rfl rfl) h4
        exact weakTwo_u x0 A1 A2 A3 A4 l1 l2 l3 l4 cap1 cap2 cap3 cap4 W hR1 hR2 hR3 hR4 (upto_slice Try.underlying48 h1 hk (by simp)) (upto_slice Try.underlying48 h2 hk (by simp)) hm3 hm4) os started H enc F)
#print axioms weakTwo_holds
end Go.Proofs.Ytmgejacndhnikaa
