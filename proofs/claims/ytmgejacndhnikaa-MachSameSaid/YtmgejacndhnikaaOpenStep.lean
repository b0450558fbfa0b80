/- An argument of type []api.Step, as a list. -/
import Derived.Test.YtmgejacndhnikaaRow
import Derived.Test.YtmgejacndhnikaaStep
namespace Go.Proofs.Ytmgejacndhnikaa
set_option maxRecDepth 100000
open Go.ChangeShapes Go.WideShapes Go.ChangeAt Go.RowKit Go.Deep
theorem cellsStep : Try.prog.cellsOf 87 = 5 := by kernel_rfl
theorem oneStep : ∃ fs : Array Field, Try.prog.underlying 87 = some (.struct fs) ∧ oneCellFields Try.prog fs = true ∧ fs.size = 5 ∧ ∀ j, j < 5 → fs[j]?.map (·.type) = some 3 :=
  ⟨_, Try.underlying87, by kernel_rfl, rfl, fun j hj => by
    match j, hj with
    | 0, _ => rfl
    | 1, _ => rfl
    | 2, _ => rfl
    | 3, _ => rfl
    | 4, _ => rfl⟩
def Step.wf (t : Step) : Prop := i64In t.op ∧ i64In t.to ∧ i64In t.a ∧ i64In t.b ∧ i64In t.val
theorem stepEl {H : Type} {enc : TypeId × Value → H} {w : World} {base : Nat} {spare : Nat → Bool} {held : Bool} {fs : Array Field} (hsz : fs.size = 5) (hty : ∀ j, j < 5 → fs[j]?.map (·.type) = some 3)
    (c : Nat → Option Value) (hc : ∀ (j : Nat) (fd : Field), fs[j]? = some fd → ∃ (v : Value) (y : DataW H × List MemPlace) (n : Nat), c j = some v ∧ DataW.trod enc Try.prog w base spare held n fd.type [v] = some y) :
    ∃ x : Step, x.wf ∧ ∀ j, j < fs.size → c j = x.cells[j]? := by
  have key : ∀ j, j < 5 → ∃ x : Int, c j = some (.int .i64 x) ∧ i64In x := fun j hj => by
    obtain ⟨g, hg, e⟩ := Option.map_eq_some_iff.1 (hty j hj)
    obtain ⟨v, y, n, cv, tv⟩ := hc j g hg
    rw [e] at tv
    obtain ⟨x, q, _, wx⟩ := DataW.trod_int Try.underlying3 tv
    simp at q
    subst q
    exact ⟨x, cv, wf_i64 wx⟩
  obtain ⟨x0, c0, w0⟩ := key 0 (by omega)
  obtain ⟨x1, c1, w1⟩ := key 1 (by omega)
  obtain ⟨x2, c2, w2⟩ := key 2 (by omega)
  obtain ⟨x3, c3, w3⟩ := key 3 (by omega)
  obtain ⟨x4, c4, w4⟩ := key 4 (by omega)
  refine ⟨⟨x0, x1, x2, x3, x4⟩, ⟨w0, w1, w2, w3, w4⟩, fun j hj => ?_⟩
  rw [hsz] at hj
  match j, hj with
  | 0, _ => simpa [Step.cells] using c0
  | 1, _ => simpa [Step.cells] using c1
  | 2, _ => simpa [Step.cells] using c2
  | 3, _ => simpa [Step.cells] using c3
  | 4, _ => simpa [Step.cells] using c4
theorem open_steps {H : Type} {enc : TypeId × Value → H} {w : World} {base b0 : Nat} {spare : Nat → Bool} {held : Bool} {r : Reach} {v : Value} {d : DataW H} {ps : List MemPlace}
    (hval : Value.okWide Try.prog w r b0 48 v) (hd : DataW.Trod enc Try.prog w base spare held 48 v d ps) :
    ∃ (A : Option Addr) (cap : Nat) (l : List Step), v = .slice A l.length cap ∧ RdSt w A l ∧ l.length ≤ maxLen ∧ ∀ t ∈ l, t.wf := by
  obtain ⟨fs, he, hone, hsz, hty⟩ := oneStep
  obtain ⟨A, cap, l, h1, h2, h3, h4⟩ := open_rd (fs := fs) Try.underlying48 he hone (by rw [cellsStep, hsz]) (by omega) Step.cells Step.wf (fun c hc => stepEl hsz hty c hc) (fun _ => by rw [hsz]; rfl) hval hd
  rw [hsz] at h2
  exact ⟨A, cap, l, h1, h2, h3, h4⟩
end Go.Proofs.Ytmgejacndhnikaa
