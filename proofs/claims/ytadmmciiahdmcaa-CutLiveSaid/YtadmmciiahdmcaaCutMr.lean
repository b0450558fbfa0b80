/- CutLive: for every input the law answers true and its arguments read as they did. No condition. -/
import Derived.Test.YtadmmciiahdmcaaRows
import Derived.Test.YtadmmciiahdmcaaRow
import Derived.Test.YtadmmciiahdmcaaCutM
import Derived.Test.YtadmmciiahdmcaaOpenBlk
namespace Go.Proofs.Ytadmmciiahdmcaa
set_option maxRecDepth 100000
open Go.ChangeShapes Go.WideShapes Go.ChangeAt Go.RowKit Go.Deep

theorem cutLive_holds : Rows.CutLiveSaid :=
  OpenClaim.holds_of_wide 14 Try.f14 rfl rfl rfl rfl rfl rfl rfl ⟨rfl, rfl, rfl, rfl, rfl⟩ rfl rfl rfl rfl rfl (by kernel_rfl) Try.func14 (by kernel_rfl)
    (of_decide_eq_true (by kernel_rfl)) (by unfold Func.isWrapper; rw [if_neg (of_decide_eq_false (by kernel_rfl))]; exact ⟨rfl, rfl⟩)
    (fun os started H enc _ => law_lift_sized Rows.cutLiveSpec Try.func14 (by kernel_rfl) rfl rfl (fun H ds h => by match ds, h with | [d0, d1, d2], _ => rfl) (by kernel_rfl)
      (fun os started H enc => ChangeSpec.witness6 (enc := enc) (C := Try.checked) false ⟨#[], #[.int .i64 0, .slice none 0 0, .int .u32 0], []⟩ 8 (by kernel_rfl) (by kernel_rfl) (by kernel_rfl) (by kernel_rfl))
      (fun H enc W base args ds p hval hA hsz => by
        rw [Try.params14] at hA hval hsz
        obtain ⟨v0, vs0, d0, ds0, p0, q0, e0, rfl, rfl, h0, r0⟩ := trodAll_cons hA
        obtain ⟨v1, vs1, d1, ds1, p1, q1, rfl, rfl, rfl, h1, r1⟩ := trodAll_cons r0
        obtain ⟨v2, vs2, d2, ds2, p2, q2, rfl, rfl, rfl, h2, r2⟩ := trodAll_cons r1
        obtain ⟨rfl, rfl, rfl⟩ := trodAll_nil r2
        have ha : args = #[v0, v1, v2] := by rw [← Array.toArray_toList (xs := args), e0]
        subst ha
        obtain ⟨x0, rfl, hx0⟩ := open_i64 Try.underlying3 (hval 0 3 v0 rfl rfl) h0
        obtain ⟨A1, cap1, l1, rfl, hR1, hm1, hw1⟩ := open_blocks (hval 1 26 v1 rfl rfl) h1
        obtain ⟨x2, rfl, _, _, hx2⟩ := open_int Try.underlying39 (hval 2 39 v2 rfl rfl) h2
        obtain ⟨a2, b2⟩ := wf_u32 hx2; obtain ⟨n2, rfl⟩ := Int.eq_ofNat_of_zero_le a2; exact cutLive_u x0 A1 l1 cap1 n2 W hR1 hm1 (small_of hsz (j := 1) rfl rfl hw1)) os started H enc)
#print axioms cutLive_holds
end Go.Proofs.Ytadmmciiahdmcaa
