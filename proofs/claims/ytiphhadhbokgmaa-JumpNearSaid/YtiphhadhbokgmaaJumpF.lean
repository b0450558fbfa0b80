/- JumpNear: for every list of pieces the law answers true and its argument reads as it did. No condition. -/
import Derived.Test.YtiphhadhbokgmaaRows
import Derived.Test.YtiphhadhbokgmaaJumpE
import Derived.Test.YtiphhadhbokgmaaRow
namespace Go.Proofs.Ytiphhadhbokgmaa
open Go.ChangeShapes Go.WideShapes Go.ChangeAt Go.RowKit Go.Deep

theorem jumpNear_calls (A : Option Addr) (l : List Piece) (cap : Nat) (w : World) (hA : RdP w A l) (hm : l.length ≤ maxLen) :
    Calls Try.prog 3 #[.slice A l.length cap] w fun e w' => e = .returned (.bool true) ∧ Below w.heap.size w w' := by
  by_cases h0 : pErr l = 0
  · exact jumpNear_ok A l cap w hA h0
  · exact jumpNear_bad A l cap w hA hm h0
theorem cellsPiece : Try.prog.cellsOf 29 = 3 := by kernel_rfl
theorem onePiece : ∃ fs : Array Field, Try.prog.underlying 29 = some (.struct fs) ∧ oneCellFields Try.prog fs = true ∧ fs.size = 3 ∧ fs[0]?.map (·.type) = some 3 ∧ fs[1]?.map (·.type) = some 4 ∧ fs[2]?.map (·.type) = some 3 :=
  ⟨_, Try.underlying29, by kernel_rfl, rfl, rfl, rfl, rfl⟩

theorem open_pieces {H : Type} {enc : TypeId × Value → H} {w : World} {base b0 : Nat} {spare : Nat → Bool} {held : Bool} {r : Reach} {v : Value} {d : DataW H} {ps : List MemPlace}
    (hval : Value.okWide Try.prog w r b0 22 v) (hd : DataW.Trod enc Try.prog w base spare held 22 v d ps) :
    ∃ (A : Option Addr) (cap : Nat) (l : List Piece), v = .slice A l.length cap ∧ RdP w A l ∧ l.length ≤ maxLen := by
  obtain ⟨fs, he, hone, hsz, f0, f1, f2⟩ := onePiece
  obtain ⟨A, cap, l, h1, h2, h3, _⟩ := open_rd (fs := fs) Try.underlying22 he hone (by rw [cellsPiece, hsz]) (by omega) Piece.cells (fun _ => True) (fun c hc => by
    obtain ⟨g0, hg0, e0⟩ := Option.map_eq_some_iff.1 f0
    obtain ⟨g1, hg1, e1⟩ := Option.map_eq_some_iff.1 f1
    obtain ⟨g2, hg2, e2⟩ := Option.map_eq_some_iff.1 f2
    obtain ⟨v0, y0, n0, c0, t0⟩ := hc 0 g0 hg0
    obtain ⟨v1, y1, n1, c1, t1⟩ := hc 1 g1 hg1
    obtain ⟨v2, y2, n2, c2, t2⟩ := hc 2 g2 hg2
    rw [e0] at t0; rw [e1] at t1; rw [e2] at t2
    obtain ⟨x0, q0, _, _⟩ := DataW.trod_int Try.underlying3 t0
    obtain ⟨x1, q1, _⟩ := DataW.trod_bool Try.underlying4 t1
    obtain ⟨x2, q2, _, _⟩ := DataW.trod_int Try.underlying3 t2
    simp at q0 q1 q2
    subst q0 q1 q2
    refine ⟨⟨x0, x1, x2⟩, trivial, fun j hj => ?_⟩
    rw [hsz] at hj
    match j, hj with
    | 0, _ => simpa [Piece.cells] using c0
    | 1, _ => simpa [Piece.cells] using c1
    | 2, _ => simpa [Piece.cells] using c2) (fun _ => by rw [hsz]; rfl) hval hd
  rw [hsz] at h2
  exact ⟨A, cap, l, h1, h2, h3⟩

theorem jumpNear_holds : Rows.JumpNearSaid :=
  OpenClaim.holds_of_wide 3 Try.f3 rfl rfl rfl rfl rfl rfl rfl ⟨rfl, rfl, rfl, rfl, rfl⟩ rfl rfl rfl rfl rfl (by kernel_rfl) Try.func3 (by kernel_rfl)
    (of_decide_eq_true (by kernel_rfl)) (by unfold Func.isWrapper; rw [if_neg (of_decide_eq_false (by kernel_rfl))]; exact ⟨rfl, rfl⟩)
    (fun os started H enc _ => law_lift Rows.jumpNearSpec Try.func3 (by kernel_rfl) rfl rfl (fun H ds h => by match ds, h with | [d], _ => rfl) (by kernel_rfl)
      (fun os started H enc => ChangeSpec.witness6 (enc := enc) (C := Try.checked) false ⟨#[], #[.slice none 0 0], []⟩ 8 (by kernel_rfl) (by kernel_rfl) (by kernel_rfl) (by kernel_rfl))
      (fun H enc W base args ds p hval hA => by
        rw [Try.params3] at hA hval
        obtain ⟨v0, d0, hargs, rfl, h0⟩ := trodAll_one hA
        obtain ⟨A, cap, l, e, hR, hm⟩ := open_pieces (hval 0 22 v0 rfl (by rw [← Array.getElem?_toList, hargs]; rfl)) h0
        have ha : args = #[v0] := by rw [← Array.toArray_toList (xs := args), hargs]
        subst ha e
        exact jumpNear_calls A l cap W hR hm) os started H enc)
#print axioms jumpNear_holds
end Go.Proofs.Ytiphhadhbokgmaa
