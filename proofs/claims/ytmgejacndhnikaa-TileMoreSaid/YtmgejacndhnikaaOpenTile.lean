/- Arguments of type api.Tile, []api.Tile. -/
import Derived.Test.YtmgejacndhnikaaRow
import Derived.Test.YtmgejacndhnikaaTileA
import Derived.Lib.SmallJoins
namespace Go.Proofs.Ytmgejacndhnikaa
set_option maxRecDepth 100000
open Go.ChangeShapes Go.WideShapes Go.ChangeAt Go.RowKit Go.Deep
theorem cellsTile : Try.prog.cellsOf 70 = 4 := by kernel_rfl
theorem oneTile : ∃ fs : Array Field, Try.prog.underlying 70 = some (.struct fs) ∧ oneCellFields Try.prog fs = true ∧ fs.size = 4 ∧ ∀ j, j < 4 → fs[j]?.map (·.type) = some 3 :=
  ⟨_, Try.underlying70, by kernel_rfl, rfl, fun j hj => by
    match j, hj with
    | 0, _ => rfl
    | 1, _ => rfl
    | 2, _ => rfl
    | 3, _ => rfl⟩
def Tile.wf (t : Tile) : Prop := i64In t.op ∧ i64In t.left ∧ i64In t.right ∧ i64In t.cost
theorem open_tiles {H : Type} {enc : TypeId × Value → H} {w : World} {base b0 : Nat} {spare : Nat → Bool} {held : Bool} {r : Reach} {v : Value} {d : DataW H} {ps : List MemPlace}
    (hval : Value.okWide Try.prog w r b0 68 v) (hd : DataW.Trod enc Try.prog w base spare held 68 v d ps) :
    ∃ (A : Option Addr) (cap : Nat) (l : List Tile), v = .slice A l.length cap ∧ RdTl w A l ∧ l.length ≤ maxLen ∧ ∀ t ∈ l, t.wf := by
  obtain ⟨fs, he, hone, hsz, hty⟩ := oneTile
  obtain ⟨A, cap, l, h1, h2, h3, h4⟩ := open_rd (fs := fs) Try.underlying68 he hone (by rw [cellsTile, hsz]) (by omega) Tile.cells Tile.wf (fun c hc => by
    have key : ∀ j, j < 4 → ∃ x : Int, c j = some (.int .i64 x) ∧ i64In x := fun j hj => by
      obtain ⟨g, hg, e⟩ := Option.map_eq_some_iff.1 (hty j hj)
      obtain ⟨v, y, n, cv, tv⟩ := hc j g hg
      rw [e] at tv
      obtain ⟨x, q, _, wx⟩ := DataW.trod_int Try.underlying3 tv
      simp at q
      subst q
      exact ⟨x, cv, wf_i64 wx⟩
    obtain ⟨x0, c0, w0⟩ := key 0 (by omega)
    obtain ⟨x1, c1, w1⟩ := key 1 (by omega)
    obtain ⟨x2, c2, w2⟩ := key 2 (by omega)
    obtain ⟨x3, c3, w3⟩ := key 3 (by omega)
    refine ⟨⟨x0, x1, x2, x3⟩, ⟨w0, w1, w2, w3⟩, fun j hj => ?_⟩
    rw [hsz] at hj
    match j, hj with
    | 0, _ => simpa [Tile.cells] using c0
    | 1, _ => simpa [Tile.cells] using c1
    | 2, _ => simpa [Tile.cells] using c2
    | 3, _ => simpa [Tile.cells] using c3) (fun _ => by rw [hsz]; rfl) hval hd
  rw [hsz] at h2
  exact ⟨A, cap, l, h1, h2, h3, h4⟩
/-- An argument of type api.Tile, by value. -/
theorem open_Tile {H : Type} {enc : TypeId × Value → H} {w : World} {base b0 : Nat} {spare : Nat → Bool} {held : Bool} {r : Reach} {v : Value} {d : DataW H} {ps : List MemPlace}
    (hval : Value.okWide Try.prog w r b0 70 v) (hd : DataW.Trod enc Try.prog w base spare held 70 v d ps) :
    ∃ t : Tile, v = .agg #[.int .i64 t.op, .int .i64 t.left, .int .i64 t.right, .int .i64 t.cost] ∧ True := by
  obtain ⟨c0, c1, c2, c3, y0, y1, y2, y3, m, rfl, _, _, hy0, hy1, hy2, hy3⟩ := Go.Joins.open_agg4 Try.underlying70 (by kernel_rfl) cellsTile hval hd
  obtain ⟨a, e0, _, _⟩ := DataW.trod_int Try.underlying3 hy0
  obtain ⟨b, e1, _, _⟩ := DataW.trod_int Try.underlying3 hy1
  obtain ⟨c, e2, _, _⟩ := DataW.trod_int Try.underlying3 hy2
  obtain ⟨d, e3, _, _⟩ := DataW.trod_int Try.underlying3 hy3
  simp at e0 e1 e2 e3
  subst e0 e1 e2 e3
  exact ⟨⟨a, b, c, d⟩, rfl, trivial⟩
end Go.Proofs.Ytmgejacndhnikaa
