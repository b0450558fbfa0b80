/- Rows of words (uint32) as lists of naturals. -/
import Derived.Test.YtckmedmebabkjaaDoorOwn
namespace Go.Proofs.YtckmedmebabkjaaDoor
open Go.RowKit
def u32Cells (s : Nat) : List Value := [.int .u32 (s : Int)]
abbrev OwnU (w : World) (base E : Nat) (v : Value) (l : List Nat) : Prop := Own u32Cells 1 w base E v l
abbrev RdU (w : World) (A : Option Addr) (l : List Nat) : Prop := Rd u32Cells 1 w A l
theorem RdU.at1 {w : World} {A : Option Addr} {l : List Nat} (h : RdU w A l) {k : Nat} (hk : k < l.length) :
    ∃ b off, A = some ⟨b, off, none⟩ ∧ b < w.heap.size ∧ w.cell? ⟨b, off + k, none⟩ = some (.int .u32 (l[k] : Nat)) := by
  obtain ⟨b, off, h1, h2, h3⟩ := h.at_ hk
  refine ⟨b, off, h1, h2, ?_⟩
  have := h3 0 (by omega)
  simpa [u32Cells] using this
theorem infoU : (Tryd.prog.info? 34).map (fun i => (i.zero, i.size, i.bytes)) = some (some (.int .u32 0), 1, 4) := by kernel_rfl
theorem u32Cells_len (x : Nat) : (u32Cells x).length = 1 := rfl
theorem u32Cells_one (x : Nat) : ∀ u ∈ u32Cells x, u.oneCell' = true := by intro u hu; simp [u32Cells] at hu; subst hu; rfl

/-- 'out = append(out, y)' for ints, as the translation has it: y alone in a new block. -/
theorem wpList_appU {w : World} {ops : Array Oper} {rest : List Oper} {o : Oper} {a : Act} {Q : Exit → Act → World → Prop} (hgd : o.guard = none) (s x : Operand)
    (ho : o.op = .call { callee := .builtin .append, args := #[s, x], argTypes := #[38, 38] })
    (base : Nat) (v : Value) (l : List Nat) (y : Nat) (hs : a.eval s = v) (hown : OwnU w base 34 v l) (S c : Nat) (hx : a.eval x = .slice (some ⟨S, 0, none⟩) 1 c)
    (hnew : w.cell? ⟨S, 0, none⟩ = some (.int .u32 y)) (hlen : l.length < 1000000) (hbase : base ≤ w.heap.size)
    (h : ∀ v' w', OwnU w' base 34 v' (l ++ [y]) → w.grownBy w' v.ownBlock → wpList Tryd.prog ops Q rest (a.put o.dst v') w') : wpList Tryd.prog ops Q (o :: rest) a w :=
  wpList_app1 hgd s x 38 ho u32Cells 1 4 34 (.int .u32 0) Tryd.underlying38 infoU rfl (by decide) u32Cells_len u32Cells_one base v l y hs hown S c hx
    (fun j hj => by have : j = 0 := by omega
                    subst this; rw [hnew]; rfl) (by unfold maxLen; omega) (by omega) hbase h

/-- 'make([]int, n)'. -/
theorem wpList_makeU {w : World} {ops : Array Oper} {rest : List Oper} {o : Oper} {a : Act} {Q : Exit → Act → World → Prop} (hg : o.guard = none) (lo c : Operand) (hop : o.op = Op.makeSlice 38 lo c)
    (base n : Nat) (hl : a.eval lo = .int .i64 (n : Int)) (hc : a.eval c = .int .i64 (n : Int)) (hn : n < 1000000) (hbase : base ≤ w.heap.size)
    (h : ∀ w', OwnU w' base 34 (.slice (some ⟨w.heap.size, 0, none⟩) n n) (List.replicate n 0) → w.grownBy w' none → wpList Tryd.prog ops Q rest (a.put o.dst (.slice (some ⟨w.heap.size, 0, none⟩) n n)) w') : wpList Tryd.prog ops Q (o :: rest) a w := by
  obtain ⟨i, hi, hz0, hz1, hz2⟩ := info_parts infoU
  refine wpList_make_full w hg lo c 38 hop base 34 i (.int .u32 0) 1 Tryd.underlying38 hi hz0 hz1 .i64 .i64 n n n hl hc rfl rfl (by rw [hz2]; omega) (by unfold maxLen; omega) hbase fun w' h1 h2 => ?_
  refine h w' ?_ h2
  have e : (madeCells (Value.int .u32 0).cells (n * 1)).toList = (List.replicate n (0 : Nat)).flatMap u32Cells := by
    rw [show (Value.int .u32 0).cells = #[.int .u32 0] from rfl, Nat.mul_one, toList_madeCells_one]
    clear h1 h2 hl hc h
    induction n with
    | zero => rfl
    | succ n ih => rw [List.replicate_succ, List.replicate_succ, List.flatMap_cons, ← ih (by omega)]; rfl
  rw [e] at h1
  unfold OwnU Own
  rw [List.length_replicate]
  exact h1

/-- A row of ints: its head, each cell, none frozen. -/
theorem OwnU.at_ {w : World} {base : Nat} {v : Value} {l : List Nat} (h : OwnU w base 34 v l) (hl : 0 < l.length) :
    ∃ g cap, v = .slice (some ⟨g, 0, none⟩) l.length cap ∧ base ≤ g ∧ g < w.heap.size ∧ l.length ≤ cap ∧ (∀ j, w.frozen? ⟨g, j, none⟩ = false) ∧ ∀ k (hk : k < l.length), w.cell? ⟨g, k, none⟩ = some (.int .u32 (l[k]'hk : Nat)) := by
  obtain ⟨g, cap, rfl, h1, h2, h3, h4⟩ := h.some_ hl
  refine ⟨g, cap, rfl, h1, h2, h3, h4, fun k hk => ?_⟩
  have := h.cell_ u32Cells_len hk (j := 0) (by decide)
  simpa [u32Cells] using this
theorem OwnU.at2 {w : World} {base n c : Nat} {A : Option Addr} {l : List Nat} (h : OwnU w base 34 (.slice A n c) l) (hl : 0 < l.length) :
    ∃ g, A = some ⟨g, 0, none⟩ ∧ base ≤ g ∧ g < w.heap.size ∧ l.length ≤ c ∧ (∀ j, w.frozen? ⟨g, j, none⟩ = false) ∧ ∀ k (_hk : k < l.length), w.cell? ⟨g, k, none⟩ = some (.int .u32 (l[k] : Nat)) := by
  obtain ⟨g, cap, e, h1, h2, h3, h4, h5⟩ := h.at_ hl
  injection e with e1 e2 e3
  subst e1 e3
  exact ⟨g, rfl, h1, h2, h3, h4, h5⟩
theorem OwnU.rd {w : World} {base : Nat} {v : Value} {l : List Nat} (h : OwnU w base 34 v l) : ∃ A cap, v = .slice A l.length cap ∧ RdU w A l :=
  let ⟨A, cap, h1, h2, _⟩ := h.form u32Cells_len
  ⟨A, cap, h1, h2⟩
/-- A slice literal of ints. -/
theorem OwnU.lit (w : World) (l : List Nat) (base : Nat) (hb : base ≤ w.heap.size) (hl : l.length ≤ maxLen) : OwnU (w.alloc (.cells (l.map (fun s : Nat => Value.int .u32 s)).toArray 34)) base 34 (.slice (some ⟨w.heap.size, 0, none⟩) l.length l.length) l := by
  have h := World.ownsRow_lit (base := base) (e := 34) (size := 1) w (l.map (fun s : Nat => Value.int .u32 s)).toArray l.length hb hl (by simp)
  have e : l.flatMap u32Cells = l.map (fun s : Nat => Value.int .u32 s) := by
    induction l with
    | nil => rfl
    | cons x r ih => rw [List.flatMap_cons, ih (by simp at hl; omega) (World.ownsRow_lit w _ _ hb (by simp at hl; omega) (by simp))]; rfl
  unfold OwnU Own
  rw [e]
  simpa using h
/-- l[k] = y -/
theorem OwnU.set_ {w : World} {base g cap n : Nat} {l : List Nat} (h : OwnU w base 34 (.slice (some ⟨g, 0, none⟩) n cap) l) {k : Nat} (_hk : k < l.length) (y : Nat) :
    OwnU (w.setCell ⟨g, k, none⟩ (.int .u32 y)) base 34 (.slice (some ⟨g, 0, none⟩) n cap) (l.set k y) := by
  have hn : n = l.length := by
    rcases h.2 with ⟨h0, _⟩ | ⟨_, _, _, h0, _⟩
    · cases h0
    · injection h0
  subst hn
  have e : ∀ l : List Nat, l.flatMap u32Cells = l.map (fun s : Nat => Value.int .u32 s) := fun l => by
    induction l with
    | nil => rfl
    | cons x r ih => rw [List.flatMap_cons, ih]; rfl
  have h1 := World.ownsRow.stored (w := w) (base := base) (e := 34) (size := 1) (g := g) (cap := cap) (n := l.length) (xs := l.flatMap u32Cells) h k (.int .u32 y)
  unfold OwnU Own
  rw [e] at h1 ⊢
  rw [List.length_set, List.map_set]
  exact h1.1
end Go.Proofs.YtckmedmebabkjaaDoor
