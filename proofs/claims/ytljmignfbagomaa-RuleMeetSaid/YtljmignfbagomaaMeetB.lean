/- RuleMeet: for every input the law answers true and its arguments read as they did. No condition. -/
import Derived.Test.YtljmignfbagomaaRows
import Derived.Test.YtljmignfbagomaaRow
import Derived.Test.YtljmignfbagomaaMeetA
import Derived.Test.YtljmignfbagomaaOpenWay
namespace Go.Proofs.Ytljmignfbagomaa
open Go.ChangeShapes Go.WideShapes Go.ChangeAt Go.RowKit Go.Deep

theorem ruleMeet_u (A : Option Addr) (ls : List (List Int)) (x y : Int) (cap : Nat) (w : World) (hA : RdN w A ls) (hm : ls.length ≤ maxLen) (hx : (Lit.int .u32 x).wf = true) (hy : (Lit.int .u32 y).wf = true) :
    Calls Try.prog 8 #[.slice A ls.length cap, .int .u32 x, .int .u32 y] w fun e w' => e = .returned (.bool true) ∧ Below w.heap.size w w' := by
  obtain ⟨a0, a1⟩ := wf_u32 hx
  obtain ⟨b0, b1⟩ := wf_u32 hy
  obtain ⟨a, rfl⟩ := Int.eq_ofNat_of_zero_le a0
  obtain ⟨b, rfl⟩ := Int.eq_ofNat_of_zero_le b0
  exact ruleMeet_calls A ls a b cap w hA hm (by omega) (by omega)
theorem ruleMeet_holds : Rows.RuleMeetSaid :=
  OpenClaim.holds_of_wide 8 Try.f8 rfl rfl rfl rfl rfl rfl rfl ⟨rfl, rfl, rfl, rfl, rfl⟩ rfl rfl rfl rfl rfl (by kernel_rfl) Try.func8 (by kernel_rfl)
    (of_decide_eq_true (by kernel_rfl)) (by unfold Func.isWrapper; rw [if_neg (of_decide_eq_false (by kernel_rfl))]; exact ⟨rfl, rfl⟩)
    (fun os started H enc _ => law_lift_sized Rows.ruleMeetSpec Try.func8 (by kernel_rfl) rfl rfl (fun H ds h => by match ds, h with | [d0, d1, d2], _ => rfl) (by kernel_rfl)
      (fun os started H enc => ChangeSpec.witness6 (enc := enc) (C := Try.checked) false ⟨#[], #[.slice none 0 0, .int .u32 0, .int .u32 0], []⟩ 8 (by kernel_rfl) (by kernel_rfl) (by kernel_rfl) (by kernel_rfl))
      (fun H enc W base args ds p hval hA hsz => by
        rw [Try.params8] at hA hval hsz
        obtain ⟨v0, vs0, d0, ds0, p0, q0, e0, rfl, rfl, h0, r0⟩ := trodAll_cons hA
        obtain ⟨v1, vs1, d1, ds1, p1, q1, rfl, rfl, rfl, h1, r1⟩ := trodAll_cons r0
        obtain ⟨v2, vs2, d2, ds2, p2, q2, rfl, rfl, rfl, h2, r2⟩ := trodAll_cons r1
        obtain ⟨rfl, rfl, rfl⟩ := trodAll_nil r2
        have ha : args = #[v0, v1, v2] := by rw [← Array.toArray_toList (xs := args), e0]
        subst ha
        obtain ⟨A0, cap0, l0, rfl, hR0, hm0, hw0⟩ := open_ways (hval 0 22 v0 rfl rfl) h0
        have hs0 := slice_len Try.underlying22 h0 hsz 0 rfl rfl (of_decide_eq_true (by kernel_rfl))
        obtain ⟨x1, rfl, _, _, hx1⟩ := open_int Try.underlying29 (hval 1 29 v1 rfl rfl) h1
        obtain ⟨x2, rfl, _, _, hx2⟩ := open_int Try.underlying29 (hval 2 29 v2 rfl rfl) h2
        exact ruleMeet_u A0 l0 x1 x2 cap0 W hR0 hm0 hx1 hx2) os started H enc)
#print axioms ruleMeet_holds
end Go.Proofs.Ytljmignfbagomaa
