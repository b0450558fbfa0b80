/- FactPath: for every input of bulk at most 1048576 the law answers true and its arguments read as they did. No other condition. -/
import Derived.Test.YtljmignfbagomaaRows
import Derived.Test.YtljmignfbagomaaRowUpto
import Derived.Test.YtljmignfbagomaaFacJ
import Derived.Test.YtljmignfbagomaaOpenWay
import Derived.Test.YtljmignfbagomaaOpenLaw
import Derived.Test.YtljmignfbagomaaByteW
namespace Go.Proofs.Ytljmignfbagomaa
open Go.ChangeShapes Go.WideShapes Go.ChangeAt Go.RowKit Go.Deep

theorem factPath_holds : Rows.FactPathUptoSaid :=
  OpenClaim.holds_of_cond 16 Try.f16 rfl rfl rfl rfl rfl rfl rfl ⟨rfl, rfl, rfl, rfl, rfl⟩ rfl rfl rfl rfl rfl (by kernel_rfl) Try.func16 (by kernel_rfl)
    (of_decide_eq_true (by kernel_rfl)) (by unfold Func.isWrapper; rw [if_neg (of_decide_eq_false (by kernel_rfl))]; exact ⟨rfl, rfl⟩)
    (fun os started H enc _ F => law_lift_upto Rows.factPathSpec Try.func16 (by kernel_rfl) rfl rfl (fun H ds h => by match ds, h with | [d0, d1, d2, d3], _ => rfl) (by kernel_rfl)
      (fun os started H enc => OpenSpec.witness (enc := enc) (C := Try.checked) (s := Rows.OpenSpec.upto Rows.factPathSpec) (k := Rows.uptoSmall) rfl false ⟨#[], #[.slice none 0 0, .agg #[.bool false, .bool false, .slice none 0 0, .slice none 0 0, .int .u32 0], .int .u8 0, .slice none 0 0], []⟩ 8 (by kernel_rfl) (by kernel_rfl) (by kernel_rfl) (x := ([.nil, .agg [.lit (.bool false), .lit (.bool false), .nil, .nil, .lit (.int .u32 0)], .lit (.int .u8 0), .nil], [], [])) (by kernel_rfl) rfl (by kernel_rfl))
      (fun H enc W base args ds p hval hA hk => by
        rw [Try.params16] at hA hval
        obtain ⟨v0, vs0, d0, ds0, p0, q0, e0, rfl, rfl, h0, r0⟩ := trodAll_cons hA
        obtain ⟨v1, vs1, d1, ds1, p1, q1, rfl, rfl, rfl, h1, r1⟩ := trodAll_cons r0
        obtain ⟨v2, vs2, d2, ds2, p2, q2, rfl, rfl, rfl, h2, r2⟩ := trodAll_cons r1
        obtain ⟨v3, vs3, d3, ds3, p3, q3, rfl, rfl, rfl, h3, r3⟩ := trodAll_cons r2
        obtain ⟨rfl, rfl, rfl⟩ := trodAll_nil r3
        have ha : args = #[v0, v1, v2, v3] := by rw [← Array.toArray_toList (xs := args), e0]
        subst ha
        obtain ⟨A0, cap0, l0, rfl, hR0, hm0, hw0⟩ := open_ways (hval 0 22 v0 rfl rfl) h0
        obtain ⟨s1, rfl, hw1⟩ := open_Law (hval 1 58 v1 rfl rfl) h1
        obtain ⟨x2, rfl, _, _, hx2⟩ := open_int Try.underlying5 (hval 2 5 v2 rfl rfl) h2
        obtain ⟨A3, cap3, l3, rfl, hR3, hm3, hw3⟩ := open_bytes (hval 3 34 v3 rfl rfl) h3
        exact factPath_u A0 s1.1 s1.2.2.1 A3 l0 s1.2.2.2.2 x2 l3 cap0 s1.2.1 s1.2.2.2.1 cap3 W hR0 hm0 hw1.1 hw1.2.1 hw1.2.2 (wf_u8 hx2) hR3 hw3 (by have := upto_slice Try.underlying34 h3 hk (by simp); omega)) os started H enc F)
#print axioms factPath_holds
end Go.Proofs.Ytljmignfbagomaa
