/- Arguments of type api.Point, []api.Point. -/
import Derived.Test.YtdkkmmljaijomaaRow
import Derived.Test.YtdkkmmljaijomaaPtA
import Derived.Lib.SmallJoins
namespace Go.Proofs.Ytdkkmmljaijomaa
open Go.ChangeShapes Go.WideShapes Go.ChangeAt Go.RowKit Go.Deep
theorem cellsPt : Try.prog.cellsOf 43 = 3 := by kernel_rfl
theorem onePt : ∃ fs : Array Field, Try.prog.underlying 43 = some (.struct fs) ∧ oneCellFields Try.prog fs = true ∧ fs.size = 3 ∧ ∀ j, j < 3 → fs[j]?.map (·.type) = some 3 :=
  ⟨_, Try.underlying43, by kernel_rfl, rfl, fun j hj => by
    match j, hj with
    | 0, _ => rfl
    | 1, _ => rfl
    | 2, _ => rfl⟩
def Pt.wf (t : Pt) : Prop := i64In t.kind ∧ i64In t.to ∧ i64In t.from_
theorem open_points {H : Type} {enc : TypeId × Value → H} {w : World} {base b0 : Nat} {spare : Nat → Bool} {held : Bool} {r : Reach} {v : Value} {d : DataW H} {ps : List MemPlace}
    (hval : Value.okWide Try.prog w r b0 41 v) (hd : DataW.Trod enc Try.prog w base spare held 41 v d ps) :
    ∃ (A : Option Addr) (cap : Nat) (l : List Pt), v = .slice A l.length cap ∧ RdPt w A l ∧ l.length ≤ maxLen ∧ ∀ t ∈ l, t.wf := by
  obtain ⟨fs, he, hone, hsz, hty⟩ := onePt
  obtain ⟨A, cap, l, h1, h2, h3, h4⟩ := open_rd (fs := fs) Try.underlying41 he hone (by rw [cellsPt, hsz]) (by omega) Pt.cells Pt.wf (fun c hc => by
    have key : ∀ j, j < 3 → ∃ x : Int, c j = some (.int .i64 x) ∧ i64In x := fun j hj => by
      obtain ⟨g, hg, e⟩ := Option.map_eq_some_iff.1 (hty j hj)
      obtain ⟨v, y, n, cv, tv⟩ := hc j g hg
      rw [e] at tv
      obtain ⟨x, q, _, wx⟩ := DataW.trod_int Try.underlying3 tv
      simp at q
      subst q
      exact ⟨x, cv, wf_i64 wx⟩
    obtain ⟨x0, c0, w0⟩ := key 0 (by omega)
    obtain ⟨x1, c1, w1⟩ := key 1 (by omega)
    obtain ⟨x2, c2, w2⟩ := key 2 (by omega)
    refine ⟨⟨x0, x1, x2⟩, ⟨w0, w1, w2⟩, fun j hj => ?_⟩
    rw [hsz] at hj
    match j, hj with
    | 0, _ => simpa [Pt.cells] using c0
    | 1, _ => simpa [Pt.cells] using c1
    | 2, _ => simpa [Pt.cells] using c2) (fun _ => by rw [hsz]; rfl) hval hd
  rw [hsz] at h2
  exact ⟨A, cap, l, h1, h2, h3, h4⟩
/-- An argument of type api.Point, by value. -/
theorem open_Pt {H : Type} {enc : TypeId × Value → H} {w : World} {base b0 : Nat} {spare : Nat → Bool} {held : Bool} {r : Reach} {v : Value} {d : DataW H} {ps : List MemPlace}
    (hval : Value.okWide Try.prog w r b0 43 v) (hd : DataW.Trod enc Try.prog w base spare held 43 v d ps) :
    ∃ t : Pt, v = .agg #[.int .i64 t.kind, .int .i64 t.to, .int .i64 t.from_] ∧ True := by
  obtain ⟨c0, c1, c2, y0, y1, y2, m, rfl, _, _, hy0, hy1, hy2⟩ := Go.Joins.open_agg3 Try.underlying43 (by kernel_rfl) cellsPt hval hd
  obtain ⟨a, e0, _, _⟩ := DataW.trod_int Try.underlying3 hy0
  obtain ⟨b, e1, _, _⟩ := DataW.trod_int Try.underlying3 hy1
  obtain ⟨c, e2, _, _⟩ := DataW.trod_int Try.underlying3 hy2
  simp at e0 e1 e2
  subst e0 e1 e2
  exact ⟨⟨a, b, c⟩, rfl, trivial⟩
end Go.Proofs.Ytdkkmmljaijomaa
