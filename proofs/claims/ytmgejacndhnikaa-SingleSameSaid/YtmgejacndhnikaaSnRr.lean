/- SingleSame: for every input the law answers true and its arguments read as they did. No condition. -/
import Derived.Test.YtmgejacndhnikaaRows
import Derived.Test.YtmgejacndhnikaaRow
import Derived.Test.YtmgejacndhnikaaSnR
import Derived.Test.YtmgejacndhnikaaOpenBlk
namespace Go.Proofs.Ytmgejacndhnikaa
set_option maxRecDepth 100000
open Go.ChangeShapes Go.WideShapes Go.ChangeAt Go.RowKit Go.Deep

theorem singleSame_holds : Rows.SingleSameSaid :=
  OpenClaim.holds_of_wide 5 Try.f5 rfl rfl rfl rfl rfl rfl rfl ⟨rfl, rfl, rfl, rfl, rfl⟩ rfl rfl rfl rfl rfl (by kernel_rfl) Try.func5 (by kernel_rfl)
    (of_decide_eq_true (by kernel_rfl)) (by unfold Func.isWrapper; rw [if_neg (of_decide_eq_false (by kernel_rfl))]; exact ⟨rfl, rfl⟩)
    (fun os started H enc _ => law_lift_sized Rows.singleSameSpec Try.func5 (by kernel_rfl) rfl rfl (fun H ds h => by match ds, h with | [d0, d1, d2], _ => rfl) (by kernel_rfl)
      (fun os started H enc => ChangeSpec.witness6 (enc := enc) (C := Try.checked) false ⟨#[], #[.int .i64 0, .slice none 0 0, .slice none 0 0], []⟩ 8 (by kernel_rfl) (by kernel_rfl) (by kernel_rfl) (by kernel_rfl))
      (fun H enc W base args ds p hval hA hsz => by
        rw [Try.params5] at hA hval hsz
        obtain ⟨v0, vs0, d0, ds0, p0, q0, e0, rfl, rfl, h0, r0⟩ := trodAll_cons hA
        obtain ⟨v1, vs1, d1, ds1, p1, q1, rfl, rfl, rfl, h1, r1⟩ := trodAll_cons r0
        obtain ⟨v2, vs2, d2, ds2, p2, q2, rfl, rfl, rfl, h2, r2⟩ := trodAll_cons r1
        obtain ⟨rfl, rfl, rfl⟩ := trodAll_nil r2
        have ha : args = #[v0, v1, v2] := by rw [← Array.toArray_toList (xs := args), e0]
        subst ha
        obtain ⟨x0, rfl, hx0⟩ := open_i64 Try.underlying3 (hval 0 3 v0 rfl rfl) h0
        obtain ⟨A1, cap1, l1, rfl, hR1, hm1, hw1⟩ := open_blocks (hval 1 22 v1 rfl rfl) h1
        obtain ⟨A2, cap2, l2, rfl, hR2, hm2, hw2⟩ := open_intlist (hval 2 23 v2 rfl rfl) h2
        have hs2 := slice_len Try.underlying23 h2 hsz 2 rfl rfl (of_decide_eq_true (by kernel_rfl))
        exact singleSame_u x0 A1 A2 l1 l2 cap1 cap2 W hR1 hR2 hm1 (small_of hsz (j := 1) rfl rfl hw1) hm2) os started H enc)
#print axioms singleSame_holds
end Go.Proofs.Ytmgejacndhnikaa
