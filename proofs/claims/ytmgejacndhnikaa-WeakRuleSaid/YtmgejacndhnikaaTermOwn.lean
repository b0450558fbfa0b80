/- Rows of terms that the call itself makes. -/
import Derived.Test.YtmgejacndhnikaaTermA
namespace Go.Proofs.Ytmgejacndhnikaa
open Go.RowKit
def Term.agg (t : Term) : Value := .agg #[.int .i64 t.op, .int .i64 t.a, .int .i64 t.b, .int .i64 t.val]
abbrev OwnT (w : World) (base : Nat) (v : Value) (l : List Term) : Prop := Own Term.cells 4 w base 62 v l
theorem termCells_len (x : Term) : x.cells.length = 4 := rfl
theorem termCells_one (x : Term) : ∀ u ∈ x.cells, u.oneCell' = true := by intro u hu; simp [Term.cells] at hu; rcases hu with rfl | rfl | rfl | rfl <;> rfl
theorem infoTerm : (Try.prog.info? 62).map (fun i => (i.zero, i.size, i.bytes)) = some (some (Term.mk 0 0 0 0).agg, 4, 32) := by kernel_rfl
theorem cellT_new (w : World) (y : Term) (cs : Array Value) (e s : Nat) (hs : w.heap.size = s) (hy : y.cells.toArray = cs) (j : Nat) : (w.alloc (.cells cs e)).cell? ⟨s, j, none⟩ = y.cells[j]? := by
  rw [cell_new w cs e s hs, ← hy, List.getElem?_toArray]
/-- 'out = append(out, t)' for terms. -/
theorem wpList_appT {w : World} {ops : Array Oper} {rest : List Oper} {o : Oper} {a : Act} {Q : Exit → Act → World → Prop} (hgd : o.guard = none) (s x : Operand)
    (ho : o.op = .call { callee := .builtin .append, args := #[s, x], argTypes := #[49, 49] })
    (base : Nat) (v : Value) (l : List Term) (y : Term) (hs : a.eval s = v) (hown : OwnT w base v l) (S c : Nat) (hx : a.eval x = .slice (some ⟨S, 0, none⟩) 1 c)
    (hnew : ∀ j, w.cell? ⟨S, j, none⟩ = y.cells[j]?) (hlen : l.length < 1000000) (hbase : base ≤ w.heap.size)
    (h : ∀ v' w', OwnT w' base v' (l ++ [y]) → w.grownBy w' v.ownBlock → wpList Try.prog ops Q rest (a.put o.dst v') w') : wpList Try.prog ops Q (o :: rest) a w :=
  wpList_app1 hgd s x 49 ho Term.cells 4 32 62 (Term.mk 0 0 0 0).agg Try.underlying49 infoTerm rfl (by decide) termCells_len termCells_one base v l y hs hown S c hx
    (fun j _ => hnew j) (by unfold maxLen; omega) (by omega) hbase h
/-- 'out = append(out, ts...)' for terms, ts not empty. -/
theorem wpList_appTL {w : World} {ops : Array Oper} {rest : List Oper} {o : Oper} {a : Act} {Q : Exit → Act → World → Prop} (hgd : o.guard = none) (s x : Operand)
    (ho : o.op = .call { callee := .builtin .append, args := #[s, x], argTypes := #[49, 49] })
    (base : Nat) (v : Value) (l ys : List Term) (hs : a.eval s = v) (hown : OwnT w base v l) (A : Option Addr) (c : Nat) (hx : a.eval x = .slice A ys.length c)
    (hr : RdT w A ys) (hne : 0 < ys.length) (hlen : l.length + ys.length < 1000000) (hbase : base ≤ w.heap.size)
    (h : ∀ v' w', OwnT w' base v' (l ++ ys) → w.grownBy w' v.ownBlock → wpList Try.prog ops Q rest (a.put o.dst v') w') : wpList Try.prog ops Q (o :: rest) a w :=
  wpList_appL hgd s x 49 ho Term.cells 4 32 62 (Term.mk 0 0 0 0).agg Try.underlying49 infoTerm rfl (by decide) termCells_len termCells_one base v l ys hs hown A c hx hr hne
    (by unfold maxLen; omega) (by omega) hbase h
theorem OwnT.rd {w : World} {base : Nat} {v : Value} {l : List Term} (h : OwnT w base v l) : ∃ A cap, v = .slice A l.length cap ∧ RdT w A l :=
  let ⟨A, cap, h1, h2, _⟩ := h.form termCells_len
  ⟨A, cap, h1, h2⟩
/-- An empty literal. -/
theorem OwnT.empty (w : World) (base : Nat) (hb : base ≤ w.heap.size) : OwnT (w.alloc (.cells #[] 62)) base (.slice (some ⟨w.heap.size, 0, none⟩) 0 0) [] :=
  World.ownsRow_lit w #[] 0 hb (by decide) (by simp)
end Go.Proofs.Ytmgejacndhnikaa
