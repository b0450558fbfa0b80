/- An argument of type []api.Span. -/
import Derived.Test.YtadmmciiahdmcaaRow
import Derived.Test.YtadmmciiahdmcaaSpC
import Derived.Lib.SmallJoins
namespace Go.Proofs.Ytadmmciiahdmcaa
open Go.ChangeShapes Go.WideShapes Go.ChangeAt Go.RowKit Go.Deep
theorem cellsSp : Try.prog.cellsOf 65 = 2 := by kernel_rfl
theorem oneSp : ∃ fs : Array Field, Try.prog.underlying 65 = some (.struct fs) ∧ oneCellFields Try.prog fs = true ∧ fs.size = 2 ∧ ∀ j, j < 2 → fs[j]?.map (·.type) = some 3 :=
  ⟨_, Try.underlying65, by kernel_rfl, rfl, fun j hj => by
    match j, hj with
    | 0, _ => rfl
    | 1, _ => rfl⟩
set_option maxRecDepth 100000 in
theorem open_spans {H : Type} {enc : TypeId × Value → H} {w : World} {base b0 : Nat} {spare : Nat → Bool} {held : Bool} {r : Reach} {v : Value} {d : DataW H} {ps : List MemPlace}
    (hval : Value.okWide Try.prog w r b0 60 v) (hd : DataW.Trod enc Try.prog w base spare held 60 v d ps) :
    ∃ (A : Option Addr) (cap : Nat) (l : List Sp), v = .slice A l.length cap ∧ RdS w A l ∧ l.length ≤ maxLen ∧ ∀ t ∈ l, i64In t.1 ∧ i64In t.2 := by
  obtain ⟨fs, he, hone, hsz, hty⟩ := oneSp
  obtain ⟨A, cap, l, h1, h2, h3, h4⟩ := open_rd (fs := fs) Try.underlying60 he hone (by rw [cellsSp, hsz]) (by omega) spCells (fun t => i64In t.1 ∧ i64In t.2) (fun c hc => by
    have key : ∀ j, j < 2 → ∃ x : Int, c j = some (.int .i64 x) ∧ i64In x := fun j hj => by
      obtain ⟨g, hg, e⟩ := Option.map_eq_some_iff.1 (hty j hj)
      obtain ⟨v, y, n, cv, tv⟩ := hc j g hg
      rw [e] at tv
      obtain ⟨x, q, _, wx⟩ := DataW.trod_int Try.underlying3 tv
      simp at q
      subst q
      exact ⟨x, cv, wf_i64 wx⟩
    obtain ⟨x0, c0, w0⟩ := key 0 (by omega)
    obtain ⟨x1, c1, w1⟩ := key 1 (by omega)
    refine ⟨(x0, x1), ⟨w0, w1⟩, fun j hj => ?_⟩
    rw [hsz] at hj
    match j, hj with
    | 0, _ => simpa [spCells] using c0
    | 1, _ => simpa [spCells] using c1) (fun t => by rw [hsz]; exact spCells_len t) hval hd
  rw [hsz] at h2
  exact ⟨A, cap, l, h1, h2, h3, h4⟩
end Go.Proofs.Ytadmmciiahdmcaa
