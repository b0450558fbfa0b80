/- An argument of type []api.Term, as a list. -/
import Derived.Test.YtmgejacndhnikaaRow
import Derived.Test.YtmgejacndhnikaaTermA
namespace Go.Proofs.Ytmgejacndhnikaa
set_option maxRecDepth 100000
open Go.ChangeShapes Go.WideShapes Go.ChangeAt Go.RowKit Go.Deep
theorem cellsTerm : Try.prog.cellsOf 62 = 4 := by kernel_rfl
theorem oneTerm : ∃ fs : Array Field, Try.prog.underlying 62 = some (.struct fs) ∧ oneCellFields Try.prog fs = true ∧ fs.size = 4 ∧ ∀ j, j < 4 → fs[j]?.map (·.type) = some 3 :=
  ⟨_, Try.underlying62, by kernel_rfl, rfl, fun j hj => by
    match j, hj with
    | 0, _ => rfl
    | 1, _ => rfl
    | 2, _ => rfl
    | 3, _ => rfl⟩
def Term.wf (t : Term) : Prop := i64In t.op ∧ i64In t.a ∧ i64In t.b ∧ i64In t.val
theorem open_terms {H : Type} {enc : TypeId × Value → H} {w : World} {base b0 : Nat} {spare : Nat → Bool} {held : Bool} {r : Reach} {v : Value} {d : DataW H} {ps : List MemPlace}
    (hval : Value.okWide Try.prog w r b0 49 v) (hd : DataW.Trod enc Try.prog w base spare held 49 v d ps) :
    ∃ (A : Option Addr) (cap : Nat) (l : List Term), v = .slice A l.length cap ∧ RdT w A l ∧ l.length ≤ maxLen ∧ ∀ t ∈ l, t.wf := by
  obtain ⟨fs, he, hone, hsz, hty⟩ := oneTerm
  obtain ⟨A, cap, l, h1, h2, h3, h4⟩ := open_rd (fs := fs) Try.underlying49 he hone (by rw [cellsTerm, hsz]) (by omega) Term.cells Term.wf (fun c hc => by
    have key : ∀ j, j < 4 → ∃ x : Int, c j = some (.int .i64 x) ∧ i64In x := fun j hj => by
      obtain ⟨g, hg, e⟩ := Option.map_eq_some_iff.1 (hty j hj)
      obtain ⟨v, y, n, cv, tv⟩ := hc j g hg
      rw [e] at tv
      obtain ⟨x, q, _, wx⟩ := DataW.trod_int Try.underlying3 tv
      simp at q
      subst q
      exact ⟨x, cv, wf_i64 wx⟩
    obtain ⟨x0, c0, w0⟩ := key 0 (by omega)
    obtain ⟨x1, c1, w1⟩ := key 1 (by omega)
    obtain ⟨x2, c2, w2⟩ := key 2 (by omega)
    obtain ⟨x3, c3, w3⟩ := key 3 (by omega)
    refine ⟨⟨x0, x1, x2, x3⟩, ⟨w0, w1, w2, w3⟩, fun j hj => ?_⟩
    rw [hsz] at hj
    match j, hj with
    | 0, _ => simpa [Term.cells] using c0
    | 1, _ => simpa [Term.cells] using c1
    | 2, _ => simpa [Term.cells] using c2
    | 3, _ => simpa [Term.cells] using c3) (fun _ => by rw [hsz]; rfl) hval hd
  rw [hsz] at h2
  exact ⟨A, cap, l, h1, h2, h3, h4⟩
end Go.Proofs.Ytmgejacndhnikaa
