/- api.Step: slices of steps, and append at them. -/
import Derived.Test.YtmgejacndhnikaaRows
import Derived.Test.YtmgejacndhnikaaLib
namespace Go.Proofs.Ytmgejacndhnikaa
open Go.RowKit

/-- api.Step -/
structure Step where
  op : Int
  to : Int
  a : Int
  b : Int
  val : Int
def Step.cells (s : Step) : List Value := [.int .i64 s.op, .int .i64 s.to, .int .i64 s.a, .int .i64 s.b, .int .i64 s.val]
def Step.agg (s : Step) : Value := .agg #[.int .i64 s.op, .int .i64 s.to, .int .i64 s.a, .int .i64 s.b, .int .i64 s.val]

abbrev RdSt (w : World) (A : Option Addr) (l : List Step) : Prop := Rd Step.cells 5 w A l
abbrev OwnSt (w : World) (base E : Nat) (v : Value) (l : List Step) : Prop := Own Step.cells 5 w base E v l
theorem RdSt.at5 {w : World} {A : Option Addr} {l : List Step} (h : RdSt w A l) {k : Nat} (hk : k < l.length) :
    ∃ b off, A = some ⟨b, off, none⟩ ∧ b < w.heap.size ∧ w.cell? ⟨b, off + k * 5, none⟩ = some (.int .i64 l[k].op) ∧ w.cell? ⟨b, off + k * 5 + 1, none⟩ = some (.int .i64 l[k].to) ∧
      w.cell? ⟨b, off + k * 5 + 2, none⟩ = some (.int .i64 l[k].a) ∧ w.cell? ⟨b, off + k * 5 + 3, none⟩ = some (.int .i64 l[k].b) ∧ w.cell? ⟨b, off + k * 5 + 4, none⟩ = some (.int .i64 l[k].val) := by
  obtain ⟨b, off, e, hb, hc⟩ := h.at_ hk
  exact ⟨b, off, e, hb, by simpa [Step.cells] using hc 0 (by omega), by simpa [Step.cells] using hc 1 (by omega), by simpa [Step.cells] using hc 2 (by omega), by simpa [Step.cells] using hc 3 (by omega), by simpa [Step.cells] using hc 4 (by omega)⟩
theorem stepCells_len (x : Step) : x.cells.length = 5 := rfl
theorem stepCells_one (x : Step) : ∀ u ∈ x.cells, u.oneCell' = true := by intro u hu; simp [Step.cells] at hu; rcases hu with rfl | rfl | rfl | rfl | rfl <;> rfl
theorem infoStep : (Try.prog.info? 87).map (fun i => (i.zero, i.size, i.bytes)) = some (some (Step.mk 0 0 0 0 0).agg, 5, 40) := by kernel_rfl

/-- 'out = append(out, s)' for steps. -/
theorem wpList_appSt {w : World} {ops : Array Oper} {rest : List Oper} {o : Oper} {a : Act} {Q : Exit → Act → World → Prop} (hgd : o.guard = none) (s x : Operand)
    (ho : o.op = .call { callee := .builtin .append, args := #[s, x], argTypes := #[48, 48] })
    (base : Nat) (v : Value) (l : List Step) (y : Step) (hs : a.eval s = v) (hown : OwnSt w base 87 v l) (S c : Nat) (hx : a.eval x = .slice (some ⟨S, 0, none⟩) 1 c)
    (hnew : ∀ j, w.cell? ⟨S, j, none⟩ = y.cells[j]?) (hlen : l.length < 1000000) (hbase : base ≤ w.heap.size)
    (h : ∀ v' w', OwnSt w' base 87 v' (l ++ [y]) → w.grownBy w' v.ownBlock → wpList Try.prog ops Q rest (a.put o.dst v') w') : wpList Try.prog ops Q (o :: rest) a w :=
  wpList_app1 hgd s x 48 ho Step.cells 5 40 87 (Step.mk 0 0 0 0 0).agg Try.underlying48 infoStep rfl (by decide) stepCells_len stepCells_one base v l y hs hown S c hx
    (fun j _ => hnew j) (by unfold maxLen; omega) (by omega) hbase h
theorem cellSt_new (w : World) (y : Step) (cs : Array Value) (e s : Nat) (hs : w.heap.size = s) (hy : y.cells.toArray = cs) (j : Nat) : (w.alloc (.cells cs e)).cell? ⟨s, j, none⟩ = y.cells[j]? := by
  rw [cell_new w cs e s hs, ← hy, List.getElem?_toArray]
end Go.Proofs.Ytmgejacndhnikaa
