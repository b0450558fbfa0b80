/- Words for memory: a slice that reads as a list, whatever its elements; rows of the call's own. Program-independent. -/
import Derived.WalkKit
import Derived.WalkSpells
import Derived.Lib.Hide
import Derived.Deep.Draws
namespace Go.Proofs.Ytmgejacndhnikaa
open Go.RowKit

/-- The slice at A reads as l: element x has the cells f x, size of them. -/
def Rd {α : Type} (f : α → List Value) (size : Nat) (w : World) (A : Option Addr) (l : List α) : Prop :=
  0 < l.length → ∃ b off, A = some ⟨b, off, none⟩ ∧ b < w.heap.size ∧
    ∀ (k : Nat) (x : α), l[k]? = some x → ∀ j, j < size → w.cell? ⟨b, off + k * size + j, none⟩ = (f x)[j]?

section
variable {α : Type} {f : α → List Value} {size : Nat} {w w' : World} {A : Option Addr} {l : List α}

theorem Rd.nil_ : Rd f size w A [] := fun h => absurd h (by simp)
theorem Rd.keep (h : Rd f size w A l) (hs : w.heap.size ≤ w'.heap.size) (hk : ∀ p : Addr, p.block < w.heap.size → w'.cell? p = w.cell? p) : Rd f size w' A l := fun hn => by
  obtain ⟨b, off, e, hb, hc⟩ := h hn
  exact ⟨b, off, e, by omega, fun k x hx j hj => (hk _ hb).trans (hc k x hx j hj)⟩
theorem Rd.below (h : Rd f size w A l) (hb : Below w.heap.size w w') : Rd f size w' A l := h.keep hb.size fun _ hp => hb.cell hp
theorem Rd.at_ (h : Rd f size w A l) {k : Nat} (hk : k < l.length) :
    ∃ b off, A = some ⟨b, off, none⟩ ∧ b < w.heap.size ∧ ∀ j, j < size → w.cell? ⟨b, off + k * size + j, none⟩ = (f l[k])[j]? := by
  obtain ⟨b, off, e, hb, hc⟩ := h (by omega)
  exact ⟨b, off, e, hb, hc k _ (List.getElem?_eq_getElem hk)⟩
end

/-- Slices of ints. -/
def intCells (x : Int) : List Value := [.int .i64 x]
abbrev RdI (w : World) (A : Option Addr) (l : List Int) : Prop := Rd intCells 1 w A l

theorem RdI.at1 {w : World} {A : Option Addr} {l : List Int} (h : RdI w A l) {k : Nat} (hk : k < l.length) :
    ∃ b off, A = some ⟨b, off, none⟩ ∧ b < w.heap.size ∧ w.cell? ⟨b, off + k, none⟩ = some (.int .i64 l[k]) := by
  obtain ⟨b, off, e, hb, hc⟩ := h.at_ hk
  refine ⟨b, off, e, hb, ?_⟩
  have := hc 0 (by omega)
  simpa [intCells] using this

theorem cell_new (w : World) (cs : Array Value) (e s : Nat) (hs : w.heap.size = s) (j : Nat) : (w.alloc (.cells cs e)).cell? ⟨s, j, none⟩ = cs[j]? := by
  subst hs
  exact cell_of_row _ _ _ cs e (0, 0) (heap_alloc_new w _)
theorem rd_new {α : Type} {f : α → List Value} {size : Nat} (w : World) (l : List α) (cs : Array Value) (e s : Nat) (hs : w.heap.size = s)
    (hc : ∀ (k : Nat) (x : α), l[k]? = some x → ∀ j, j < size → cs[k * size + j]? = (f x)[j]?) : Rd f size (w.alloc (.cells cs e)) (some ⟨s, 0, none⟩) l := fun _ =>
  ⟨s, 0, rfl, by simp [← hs], fun k x hx j hj => by rw [Nat.zero_add, cell_new w cs e s hs, hc k x hx j hj]⟩
theorem rdI_new (w : World) (l : List Int) (e s : Nat) (hs : w.heap.size = s) : RdI (w.alloc (.cells (l.map (.int .i64)).toArray e)) (some ⟨s, 0, none⟩) l :=
  rd_new w l _ e s hs fun k x hx j hj => by
    have : j = 0 := by omega
    subst this
    simp [intCells, hx]
theorem rdI_new1 (w : World) (x : Int) (e s : Nat) (hs : w.heap.size = s) : RdI (w.alloc (.cells #[.int .i64 x] e)) (some ⟨s, 0, none⟩) [x] := rdI_new w [x] e s hs
theorem rdI_new2 (w : World) (x y : Int) (e s : Nat) (hs : w.heap.size = s) : RdI (w.alloc (.cells #[.int .i64 x, .int .i64 y] e)) (some ⟨s, 0, none⟩) [x, y] := rdI_new w [x, y] e s hs
theorem rdI_new3 (w : World) (x y z : Int) (e s : Nat) (hs : w.heap.size = s) : RdI (w.alloc (.cells #[.int .i64 x, .int .i64 y, .int .i64 z] e)) (some ⟨s, 0, none⟩) [x, y, z] := rdI_new w [x, y, z] e s hs

theorem flatMap_get {α : Type} {f : α → List Value} {size : Nat} (hf : ∀ x, (f x).length = size) : ∀ (l : List α) (k : Nat) (x : α), l[k]? = some x → ∀ j, j < size → (l.flatMap f)[k * size + j]? = (f x)[j]?
  | [], _, _, h, _, _ => by simp at h
  | y :: r, 0, x, h, j, hj => by
    simp at h; subst h
    rw [List.flatMap_cons, Nat.zero_mul, Nat.zero_add, List.getElem?_append_left (by rw [hf]; exact hj)]
  | y :: r, k + 1, x, h, j, hj => by
    have h' : r[k]? = some x := by simpa using h
    rw [List.flatMap_cons, List.getElem?_append_right (by rw [hf, Nat.succ_mul]; omega), hf, show (k + 1) * size + j - size = k * size + j by rw [Nat.succ_mul]; omega]
    exact flatMap_get hf r k x h' j hj
theorem flatMap_len {α : Type} {f : α → List Value} {size : Nat} (hf : ∀ x, (f x).length = size) : ∀ l : List α, (l.flatMap f).length = l.length * size
  | [] => by simp
  | y :: r => by rw [List.flatMap_cons, List.length_append, hf, flatMap_len hf r, List.length_cons, Nat.succ_mul]; omega

/-- A row of the call's own (in a block from base on, of elements of type E) that reads as l. -/
def Own {α : Type} (f : α → List Value) (size : Nat) (w : World) (base E : Nat) (v : Value) (l : List α) : Prop := w.ownsRow base E size v l.length (l.flatMap f)
abbrev OwnI (w : World) (base E : Nat) (v : Value) (l : List Int) : Prop := Own intCells 1 w base E v l

section
variable {α : Type} {f : α → List Value} {size base E : Nat} {w w' : World} {v : Value} {l : List α}
theorem Own.nil_ (w : World) (base E : Nat) : Own f size w base E (.slice none 0 0) [] := World.ownsRow_nil w base E size
theorem Own.form (hf : ∀ x, (f x).length = size) (h : Own f size w base E v l) :
    ∃ A cap, v = .slice A l.length cap ∧ Rd f size w A l ∧ (∀ p : Addr, A = some p → base ≤ p.block ∧ p.block < w.heap.size) ∧ l.length ≤ cap := by
  rcases h.2 with ⟨rfl, h0⟩ | ⟨g, cap, cur, rfl, hb, hh, hn, hm, hs, ht⟩
  · refine ⟨none, 0, by rw [h0], fun hn => absurd hn (by omega), (fun p hp => by cases hp), by omega⟩
  · have hlt : g < w.heap.size := by
      rcases Nat.lt_or_ge g w.heap.size with h | h
      · exact h
      · rw [Array.getElem?_eq_none h] at hh; cases hh
    refine ⟨some ⟨g, 0, none⟩, cap, rfl, fun _ => ⟨g, 0, rfl, hlt, fun k x hx j hj => ?_⟩, fun p hp => by cases hp; exact ⟨hb, hlt⟩, hn⟩
    have hk : k < l.length := (List.getElem?_eq_some_iff.1 hx).1
    have hlt2 : k * size + j < l.length * size := by
      have : (k + 1) * size ≤ l.length * size := Nat.mul_le_mul_right _ hk
      rw [Nat.succ_mul] at this; omega
    rw [Nat.zero_add, World.ownsRow.cellAt (w := w) (base := base) (e := E) (size := size) (g := g) (cap := cap) (n := l.length) (xs := l.flatMap f) h _ hlt2, flatMap_get hf l k x hx j hj]
/-- Where it is not empty: its head's block, its cells, and that none is frozen. -/
theorem Own.some_ (h : Own f size w base E v l) (hl : 0 < l.length) :
    ∃ g cap, v = .slice (some ⟨g, 0, none⟩) l.length cap ∧ base ≤ g ∧ g < w.heap.size ∧ l.length ≤ cap ∧ ∀ j, w.frozen? ⟨g, j, none⟩ = false := by
  rcases h.2 with ⟨rfl, h0⟩ | ⟨g, cap, cur, rfl, hb, hh, hn, hm, hs, ht⟩
  · omega
  · have hlt : g < w.heap.size := by
      rcases Nat.lt_or_ge g w.heap.size with h | h
      · exact h
      · rw [Array.getElem?_eq_none h] at hh; cases hh
    exact ⟨g, cap, rfl, hb, hlt, hn, fun j => by simp [World.frozen?, hh]⟩
theorem Own.cell_ (hf : ∀ x, (f x).length = size) {g cap n : Nat} (h : Own f size w base E (.slice (some ⟨g, 0, none⟩) n cap) l) {k : Nat} (hk : k < l.length) {j : Nat} (hj : j < size) :
    w.cell? ⟨g, k * size + j, none⟩ = (f l[k])[j]? := by
  have hlt2 : k * size + j < l.length * size := by
    have : (k + 1) * size ≤ l.length * size := Nat.mul_le_mul_right _ hk
    rw [Nat.succ_mul] at this; omega
  have hn : n = l.length := by
    rcases h.2 with ⟨h0, _⟩ | ⟨_, _, _, h0, _⟩
    · cases h0
    · injection h0
  subst hn
  rw [World.ownsRow.cellAt (w := w) (base := base) (e := E) (size := size) (g := g) (cap := cap) (n := l.length) (xs := l.flatMap f) h _ hlt2, flatMap_get hf l k _ (List.getElem?_eq_getElem hk) j hj]
theorem Own.alloc (h : Own f size w base E v l) (o : Obj) : Own f size (w.alloc o) base E v l := World.ownsRow.alloc h o
theorem Own.kept {row : Option Nat} (h : Own f size w base E v l) (hg : w.grownBy w' row) (hne : v.ownBlock = none ∨ v.ownBlock ≠ row) : Own f size w' base E v l := World.ownsRow.kept h hg hne
theorem Own.base_ (h : Own f size w base E v l) {b : Nat} (hb : b ≤ base) : Own f size w b E v l := by
  refine ⟨h.1, ?_⟩
  rcases h.2 with h0 | ⟨g, cap, cur, h1, h2, h3⟩
  · exact .inl h0
  · exact .inr ⟨g, cap, cur, h1, by omega, h3⟩
/-- Nothing in its own block turned. -/
theorem Own.below (h : Own f size w base E v l) (hb : Below w.heap.size w w') : Own f size w' base E v l := by
  refine ⟨h.1, ?_⟩
  rcases h.2 with h0 | ⟨g, cap, cur, h1, h2, h3, h4⟩
  · exact .inl h0
  · have hlt : g < w.heap.size := by
      rcases Nat.lt_or_ge g w.heap.size with h | h
      · exact h
      · rw [Array.getElem?_eq_none h] at h3; cases h3
    exact .inr ⟨g, cap, cur, h1, h2, (hb.block g hlt).trans h3, h4⟩
/-- A store elsewhere. -/
theorem Own.far (h : Own f size w base E v l) {p : Addr} (hp : v.ownBlock ≠ some p.block) (u : Value) : Own f size (w.setCell p u) base E v l := by
  refine ⟨h.1, ?_⟩
  rcases h.2 with h0 | ⟨g, cap, cur, h1, h2, h3, h4⟩
  · exact .inl h0
  · refine .inr ⟨g, cap, cur, h1, h2, (Below.heap_setCell w p u g ?_).trans h3, h4⟩
    rintro rfl
    exact hp (by rw [h1]; rfl)
end

section
variable {P : Program} {w : World}
/-- out = append(out, y): y's cells lie in a block of their own. -/
theorem wpList_app1 {ops : Array Oper} {rest : List Oper} {o : Oper} {a : Act} {Q : Exit → Act → World → Prop} (hgd : o.guard = none) (s x : Operand) (t : TypeId)
    (ho : o.op = .call { callee := .builtin .append, args := #[s, x], argTypes := #[t, t] })
    {α : Type} (f : α → List Value) (size bytes E : Nat) (z : Value) (hu : P.underlying t = some (.slice E)) (hinfo : (P.info? E).map (fun i => (i.zero, i.size, i.bytes)) = some (some z, size, bytes))
    (hzs : z.cells.size = size) (hsz : 0 < size) (hf : ∀ x, (f x).length = size) (h1 : ∀ x, ∀ u ∈ f x, u.oneCell' = true)
    (base : Nat) (v : Value) (l : List α) (y : α) (hs : a.eval s = v) (hown : Own f size w base E v l) (S c : Nat) (hx : a.eval x = .slice (some ⟨S, 0, none⟩) 1 c)
    (hnew : ∀ j, j < size → w.cell? ⟨S, j, none⟩ = (f y)[j]?) (hlen : l.length + 1 ≤ maxLen) (hb : (l.length + 1) * bytes ≤ 140737488355328) (hbase : base ≤ w.heap.size)
    (h : ∀ v' w', Own f size w' base E v' (l ++ [y]) → w.grownBy w' v.ownBlock → wpList P ops Q rest (a.put o.dst v') w') : wpList P ops Q (o :: rest) a w := by
  obtain ⟨i, hi, hz0, hz1, hz2⟩ := info_parts hinfo
  refine wpList_append_own w hgd s x t ho base E i z size bytes hu hi hz0 hz1 hz2 hzs hsz v l.length (l.flatMap f) hs hown ⟨S, 0, none⟩ 1 c (f y) hx (by rw [hf, Nat.one_mul]) ?_ (h1 y) hlen hb hbase ?_
  · intro j u hj
    have hlt : j < size := by rw [← hf y]; exact (List.getElem?_eq_some_iff.1 hj).1
    rw [← hj, ← hnew j hlt]
    congr 1
    unfold Addr.add
    by_cases h0 : j = 0 <;> simp [h0]
  · intro v' w' h2 h3 _
    refine h v' w' ?_ h3
    unfold Own
    rw [List.length_append, List.flatMap_append, List.flatMap_cons, List.flatMap_nil, List.append_nil]
    exact h2
end

section
variable {P : Program} {w : World}
/-- out = append(out, ys...), ys not empty. -/
theorem wpList_appL {ops : Array Oper} {rest : List Oper} {o : Oper} {a : Act} {Q : Exit → Act → World → Prop} (hgd : o.guard = none) (s x : Operand) (t : TypeId)
    (ho : o.op = .call { callee := .builtin .append, args := #[s, x], argTypes := #[t, t] })
    {α : Type} (f : α → List Value) (size bytes E : Nat) (z : Value) (hu : P.underlying t = some (.slice E)) (hinfo : (P.info? E).map (fun i => (i.zero, i.size, i.bytes)) = some (some z, size, bytes))
    (hzs : z.cells.size = size) (hsz : 0 < size) (hf : ∀ x, (f x).length = size) (h1 : ∀ x, ∀ u ∈ f x, u.oneCell' = true)
    (base : Nat) (v : Value) (l ys : List α) (hs : a.eval s = v) (hown : Own f size w base E v l) (A : Option Addr) (c : Nat) (hx : a.eval x = .slice A ys.length c)
    (hr : Rd f size w A ys) (hne : 0 < ys.length) (hlen : l.length + ys.length ≤ maxLen) (hb : (l.length + ys.length) * bytes ≤ 140737488355328) (hbase : base ≤ w.heap.size)
    (h : ∀ v' w', Own f size w' base E v' (l ++ ys) → w.grownBy w' v.ownBlock → wpList P ops Q rest (a.put o.dst v') w') : wpList P ops Q (o :: rest) a w := by
  obtain ⟨i, hi, hz0, hz1, hz2⟩ := info_parts hinfo
  obtain ⟨b, off, rfl, hbl, hc⟩ := hr hne
  refine wpList_append_own w hgd s x t ho base E i z size bytes hu hi hz0 hz1 hz2 hzs hsz v l.length (l.flatMap f) hs hown ⟨b, off, none⟩ ys.length c (ys.flatMap f) hx (flatMap_len hf ys) ?_ ?_ hlen hb hbase ?_
  · intro j u hj
    have hlt : j < ys.length * size := by rw [← flatMap_len hf]; exact (List.getElem?_eq_some_iff.1 hj).1
    have hk : j / size < ys.length := Nat.div_lt_of_lt_mul (by rw [Nat.mul_comm]; exact hlt)
    have hjm : j = j / size * size + j % size := by rw [Nat.mul_comm]; exact (Nat.div_add_mod j size).symm
    have hm := Nat.mod_lt j hsz
    have hg := List.getElem?_eq_getElem hk
    have e1 := hc (j / size) _ hg (j % size) hm
    have e2 := flatMap_get hf ys (j / size) _ hg (j % size) hm
    rw [← hjm] at e2
    rw [show off + j / size * size + j % size = off + j by omega] at e1
    rw [show ((⟨b, off, none⟩ : Addr).add j) = ⟨b, off + j, none⟩ from by unfold Addr.add; by_cases h0 : j = 0 <;> simp [h0]]
    rw [e1, ← e2, hj]
  · intro u hu
    obtain ⟨y, _, hy⟩ := List.mem_flatMap.1 hu
    exact h1 y u hy
  · intro v' w' h2 h3 _
    refine h v' w' ?_ h3
    unfold Own
    rw [List.length_append, List.flatMap_append]
    exact h2
end

/-- What a row of the call's own has turned lies from base on. -/
theorem below_own {α : Type} {f : α → List Value} {size base E B : Nat} {a w w' : World} {v : Value} {l : List α} (h : Below B a w) (hg : w.grownBy w' v.ownBlock) (hown : Own f size w base E v l) (hB : B ≤ base) (hB' : B ≤ w.heap.size) : Below B a w' :=
  h.grown hg hB' fun k hk => Nat.le_trans hB (World.ownsRow.lt hown k hk).1

theorem Own.drewN {α : Type} {f : α → List Value} {size base E : Nat} {w : World} {v : Value} {l : List α} (h : Own f size w base E v l) (n : Nat) : Own f size (w.drewN n) base E v l := h
theorem Own.drew {α : Type} {f : α → List Value} {size base E : Nat} {w : World} {v : Value} {l : List α} (h : Own f size w base E v l) : Own f size w.drew base E v l := h
theorem Rd.drewN {α : Type} {f : α → List Value} {size : Nat} {w : World} {A : Option Addr} {l : List α} (h : Rd f size w A l) (n : Nat) : Rd f size (w.drewN n) A l := h
theorem below_dN {B : Nat} {a w : World} (h : Below B a w) (n : Nat) : Below B a (w.drewN n) := ⟨h.os, h.tape, h.output, h.size, h.block⟩
theorem below_alloc2 {B : Nat} {a w : World} (h : Below B a w) (hB : B ≤ w.heap.size) (o : Obj) {p : Addr} (hp : p.block = w.heap.size) (u : Value) : Below B a ((w.alloc o).setCell p u) :=
  (h.alloc hB o).setCell (by omega) u

/-- Behind a contract that ends in Below: every old cell and every old mark reads as before. -/
theorem bcell {W w1 : World} (hb : Below W.heap.size W w1) : (∀ b o, b < W.heap.size → w1.cell? ⟨b, o, none⟩ = W.cell? ⟨b, o, none⟩) ∧ (∀ b o, b < W.heap.size → w1.frozen? ⟨b, o, none⟩ = W.frozen? ⟨b, o, none⟩) :=
  ⟨fun b o h => hb.cell (p := ⟨b, o, none⟩) h, fun b o h => hb.frozen (p := ⟨b, o, none⟩) h⟩
theorem below_via {B : Nat} {a W w1 : World} (hb : Below W.heap.size W w1) (hB : B ≤ W.heap.size) (h : Below B a W) : Below B a w1 := h.trans (hb.mono hB)
theorem ret_int {k : IntKind} {a b : Int} (h : a = b) : Ending.returned (.int k a) = .returned (.int k b) := by rw [h]
theorem ret_bool {a b : Bool} (h : a = b) : Ending.returned (.bool a) = .returned (.bool b) := by rw [h]
end Go.Proofs.Ytmgejacndhnikaa
