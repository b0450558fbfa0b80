/- The element types' rows of this translation's table, and append at ints. -/
import Derived.Test.YtmgejacndhnikaaRows
import Derived.Test.YtmgejacndhnikaaLib
namespace Go.Proofs.Ytmgejacndhnikaa
open Go.RowKit
theorem infoInt : (Try.prog.info? 3).map (fun i => (i.zero, i.size, i.bytes)) = some (some (.int .i64 0), 1, 8) := by kernel_rfl
theorem intCells_len (x : Int) : (intCells x).length = 1 := rfl
theorem intCells_one (x : Int) : ∀ u ∈ intCells x, u.oneCell' = true := by intro u hu; simp [intCells] at hu; subst hu; rfl

/-- 'out = append(out, y)' for ints, as the translation has it: y alone in a new block. -/
theorem wpList_appI {w : World} {ops : Array Oper} {rest : List Oper} {o : Oper} {a : Act} {Q : Exit → Act → World → Prop} (hgd : o.guard = none) (s x : Operand)
    (ho : o.op = .call { callee := .builtin .append, args := #[s, x], argTypes := #[23, 23] })
    (base : Nat) (v : Value) (l : List Int) (y : Int) (hs : a.eval s = v) (hown : OwnI w base 3 v l) (S c : Nat) (hx : a.eval x = .slice (some ⟨S, 0, none⟩) 1 c)
    (hnew : w.cell? ⟨S, 0, none⟩ = some (.int .i64 y)) (hlen : l.length < 1000000) (hbase : base ≤ w.heap.size)
    (h : ∀ v' w', OwnI w' base 3 v' (l ++ [y]) → w.grownBy w' v.ownBlock → wpList Try.prog ops Q rest (a.put o.dst v') w') : wpList Try.prog ops Q (o :: rest) a w :=
  wpList_app1 hgd s x 23 ho intCells 1 8 3 (.int .i64 0) Try.underlying23 infoInt rfl (by decide) intCells_len intCells_one base v l y hs hown S c hx
    (fun j hj => by have : j = 0 := by omega
                    subst this; rw [hnew]; rfl) (by unfold maxLen; omega) (by omega) hbase h

/-- 'make([]int, n)'. -/
theorem wpList_makeI {w : World} {ops : Array Oper} {rest : List Oper} {o : Oper} {a : Act} {Q : Exit → Act → World → Prop} (hg : o.guard = none) (lo c : Operand) (hop : o.op = Op.makeSlice 23 lo c)
    (base n : Nat) (hl : a.eval lo = .int .i64 (n : Int)) (hc : a.eval c = .int .i64 (n : Int)) (hn : n < 1000000) (hbase : base ≤ w.heap.size)
    (h : ∀ w', OwnI w' base 3 (.slice (some ⟨w.heap.size, 0, none⟩) n n) (List.replicate n 0) → w.grownBy w' none → wpList Try.prog ops Q rest (a.put o.dst (.slice (some ⟨w.heap.size, 0, none⟩) n n)) w') : wpList Try.prog ops Q (o :: rest) a w := by
  obtain ⟨i, hi, hz0, hz1, hz2⟩ := info_parts infoInt
  refine wpList_make_full w hg lo c 23 hop base 3 i (.int .i64 0) 1 Try.underlying23 hi hz0 hz1 .i64 .i64 n n n hl hc rfl rfl (by rw [hz2]; omega) (by unfold maxLen; omega) hbase fun w' h1 h2 => ?_
  refine h w' ?_ h2
  have e : (madeCells (Value.int .i64 0).cells (n * 1)).toList = (List.replicate n (0 : Int)).flatMap intCells := by
    rw [show (Value.int .i64 0).cells = #[.int .i64 0] from rfl, Nat.mul_one, toList_madeCells_one]
    clear h1 h2 hl hc h
    induction n with
    | zero => rfl
    | succ n ih => rw [List.replicate_succ, List.replicate_succ, List.flatMap_cons, ← ih (by omega)]; rfl
  rw [e] at h1
  unfold OwnI Own
  rw [List.length_replicate]
  exact h1

/-- A row of ints: its head, each cell, none frozen. -/
theorem OwnI.at_ {w : World} {base : Nat} {v : Value} {l : List Int} (h : OwnI w base 3 v l) (hl : 0 < l.length) :
    ∃ g cap, v = .slice (some ⟨g, 0, none⟩) l.length cap ∧ base ≤ g ∧ g < w.heap.size ∧ l.length ≤ cap ∧ (∀ j, w.frozen? ⟨g, j, none⟩ = false) ∧ ∀ k (hk : k < l.length), w.cell? ⟨g, k, none⟩ = some (.int .i64 (l[k]'hk)) := by
  obtain ⟨g, cap, rfl, h1, h2, h3, h4⟩ := h.some_ hl
  refine ⟨g, cap, rfl, h1, h2, h3, h4, fun k hk => ?_⟩
  have := h.cell_ intCells_len hk (j := 0) (by decide)
  simpa [intCells] using this
theorem OwnI.at2 {w : World} {base n c : Nat} {A : Option Addr} {l : List Int} (h : OwnI w base 3 (.slice A n c) l) (hl : 0 < l.length) :
    ∃ g, A = some ⟨g, 0, none⟩ ∧ base ≤ g ∧ g < w.heap.size ∧ l.length ≤ c ∧ (∀ j, w.frozen? ⟨g, j, none⟩ = false) ∧ ∀ k (_hk : k < l.length), w.cell? ⟨g, k, none⟩ = some (.int .i64 l[k]) := by
  obtain ⟨g, cap, e, h1, h2, h3, h4, h5⟩ := h.at_ hl
  injection e with e1 e2 e3
  subst e1 e3
  exact ⟨g, rfl, h1, h2, h3, h4, h5⟩
theorem OwnI.rd {w : World} {base : Nat} {v : Value} {l : List Int} (h : OwnI w base 3 v l) : ∃ A cap, v = .slice A l.length cap ∧ RdI w A l :=
  let ⟨A, cap, h1, h2, _⟩ := h.form intCells_len
  ⟨A, cap, h1, h2⟩
/-- A slice literal of ints. -/
theorem OwnI.lit (w : World) (l : List Int) (base : Nat) (hb : base ≤ w.heap.size) (hl : l.length ≤ maxLen) : OwnI (w.alloc (.cells (l.map (.int .i64)).toArray 3)) base 3 (.slice (some ⟨w.heap.size, 0, none⟩) l.length l.length) l := by
  have h := World.ownsRow_lit (base := base) (e := 3) (size := 1) w (l.map (.int .i64)).toArray l.length hb hl (by simp)
  have e : l.flatMap intCells = l.map (Value.int .i64) := by
    induction l with
    | nil => rfl
    | cons x r ih => rw [List.flatMap_cons, ih (by simp at hl; omega) (World.ownsRow_lit w _ _ hb (by simp at hl; omega) (by simp))]; rfl
  unfold OwnI Own
  rw [e]
  simpa using h
/-- l[k] = y -/
theorem OwnI.set_ {w : World} {base g cap n : Nat} {l : List Int} (h : OwnI w base 3 (.slice (some ⟨g, 0, none⟩) n cap) l) {k : Nat} (_hk : k < l.length) (y : Int) :
    OwnI (w.setCell ⟨g, k, none⟩ (.int .i64 y)) base 3 (.slice (some ⟨g, 0, none⟩) n cap) (l.set k y) := by
  have hn : n = l.length := by
    rcases h.2 with ⟨h0, _⟩ | ⟨_, _, _, h0, _⟩
    · cases h0
    · injection h0
  subst hn
  have e : ∀ l : List Int, l.flatMap intCells = l.map (Value.int .i64) := fun l => by
    induction l with
    | nil => rfl
    | cons x r ih => rw [List.flatMap_cons, ih]; rfl
  have h1 := World.ownsRow.stored (w := w) (base := base) (e := 3) (size := 1) (g := g) (cap := cap) (n := l.length) (xs := l.flatMap intCells) h k (.int .i64 y)
  unfold OwnI Own
  rw [e] at h1 ⊢
  rw [List.length_set, List.map_set]
  exact h1.1
end Go.Proofs.Ytmgejacndhnikaa
