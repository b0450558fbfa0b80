/- Rows of ints in a row, all the call's own: make([][]int, n), then out[k] = append(out[k], x) at whatever k. -/
import Derived.Test.YtmgejacndhnikaaTurnG
import Derived.Maps.AppendAt
import Derived.Test.YtmgejacndhnikaaLib
import Derived.Test.YtmgejacndhnikaaAppN
namespace Go.Proofs.Ytmgejacndhnikaa
open Go.RowKit

theorem own_lt {α : Type} {f : α → List Value} {size base E : Nat} {w : World} {v : Value} {l : List α} (h : Own f size w base E v l) : ∀ g, v.ownBlock = some g → base ≤ g ∧ g < w.heap.size := fun g hg => World.ownsRow.lt h g hg
/-- Block b holds the slices vals, which read as rows; each in a block of its own above b. -/
structure OwnLL (w : World) (b B : Nat) (vals : List Value) (rows : List (List Int)) : Prop where
  len : vals.length = rows.length
  own : OwnV w b 23 (.slice (some ⟨b, 0, none⟩) rows.length rows.length) vals
  row : ∀ (k : Nat) (v : Value) (l : List Int), vals[k]? = some v → rows[k]? = some l → OwnI w B 3 v l
  far : ∀ (i j : Nat) (v u : Value), i ≠ j → vals[i]? = some v → vals[j]? = some u → v.ownBlock = none ∨ v.ownBlock ≠ u.ownBlock
  lt : b < w.heap.size
  hb : b < B
section
variable {w : World} {b B : Nat} {vals : List Value} {rows : List (List Int)}
theorem OwnLL.drew (h : OwnLL w b B vals rows) : OwnLL w.drew b B vals rows := ⟨h.len, h.own, h.row, h.far, h.lt, h.hb⟩
theorem OwnLL.drewN (h : OwnLL w b B vals rows) (n : Nat) : OwnLL (w.drewN n) b B vals rows := ⟨h.len, h.own, h.row, h.far, h.lt, h.hb⟩
theorem OwnLL.alloc (h : OwnLL w b B vals rows) (o : Obj) : OwnLL (w.alloc o) b B vals rows := ⟨h.len, Own.alloc h.own o, fun k v l h1 h2 => Own.alloc (h.row k v l h1 h2) o, h.far, by have := h.lt; simp; omega, h.hb⟩
theorem OwnLL.below (h : OwnLL w b B vals rows) {w' : World} (hb : Below w.heap.size w w') : OwnLL w' b B vals rows := ⟨h.len, Own.below h.own hb, fun k v l h1 h2 => Own.below (h.row k v l h1 h2) hb, h.far, Nat.lt_of_lt_of_le h.lt hb.size, h.hb⟩
/-- Row k grown by append, not yet stored. -/
theorem OwnLL.grown (h : OwnLL w b B vals rows) {k : Nat} {v : Value} {l : List Int} (hk : vals[k]? = some v) (hl : rows[k]? = some l) {w' : World} {v' : Value} {x : Int} (hown : OwnI w' B 3 v' (l ++ [x])) (hgrow : w.grownBy w' v.ownBlock) (hat : v'.ownBlock = v.ownBlock ∨ v'.ownBlock = some w.heap.size) :
    OwnV w' b 23 (.slice (some ⟨b, 0, none⟩) rows.length rows.length) vals ∧ OwnLL (w'.setCell ⟨b, k, none⟩ v') b B (vals.set k v') (rows.set k (l ++ [x])) := by
  have hr := h.row k v l hk hl
  have hV : OwnV w' b 23 (.slice (some ⟨b, 0, none⟩) rows.length rows.length) vals := Own.kept h.own hgrow (Or.inr (fun e => by
    have e : some b = v.ownBlock := e
    have := own_lt hr b e.symm; have := h.hb; omega))
  have hbk : b < w'.heap.size := Nat.lt_of_lt_of_le h.lt hgrow.size
  refine ⟨hV, ⟨by rw [List.length_set, List.length_set]; exact h.len, by rw [List.length_set]; exact OwnV.set_ hV v', fun j u m hu hm => ?_, fun i j u1 u2 hij h1 h2 => ?_, by simp [World.setCell]; exact hbk, h.hb⟩⟩
  · rw [List.getElem?_set] at hu hm
    by_cases e : k = j
    · subst e
      have hkv : k < vals.length := (List.getElem?_eq_some_iff.1 hk).1
      have hkr : k < rows.length := (List.getElem?_eq_some_iff.1 hl).1
      rw [if_pos rfl, if_pos hkv] at hu
      rw [if_pos rfl, if_pos hkr] at hm
      injection hu with hu
      injection hm with hm
      subst hu hm
      exact Own.far hown (fun e => by have := own_lt hown b e; have := h.hb; omega) v'
    · rw [if_neg e] at hu hm
      have hj := h.row j u m hu hm
      have hkeep : OwnI w' B 3 u m := Own.kept hj hgrow (h.far j k u v (fun e' => e e'.symm) hu hk)
      exact Own.far hkeep (fun e => by have := own_lt hkeep b e; have := h.hb; omega) v'
  · rw [List.getElem?_set] at h1 h2
    have hlt : ∀ (j : Nat) (u : Value), vals[j]? = some u → ∀ g, u.ownBlock = some g → g < w.heap.size := fun j u hu g hg => by
      have hj : j < rows.length := by rw [← h.len]; exact (List.getElem?_eq_some_iff.1 hu).1
      exact (own_lt (h.row j u _ hu (List.getElem?_eq_getElem hj)) g hg).2
    by_cases e1 : k = i
    · subst e1
      rw [if_pos rfl, if_pos (List.getElem?_eq_some_iff.1 hk).1] at h1
      rw [if_neg hij] at h2
      injection h1 with h1
      subst h1
      rcases hat with e | e
      · rw [e]; exact h.far k j v u2 hij hk h2
      · refine Or.inr fun e' => ?_
        rw [e] at e'
        have := hlt j u2 h2 _ e'.symm
        omega
    · rw [if_neg e1] at h1
      by_cases e2 : k = j
      · subst e2
        rw [if_pos rfl, if_pos (List.getElem?_eq_some_iff.1 hk).1] at h2
        injection h2 with h2
        subst h2
        rcases hat with e | e
        · rw [e]; exact h.far i k u1 v hij h1 hk
        · rw [e]
          cases hu : u1.ownBlock with
          | none => exact Or.inl rfl
          | some g =>
            refine Or.inr fun e' => ?_
            injection e' with e'
            have := hlt i u1 h1 g hu
            omega
      · rw [if_neg e2] at h2
        exact h.far i j u1 u2 hij h1 h2
theorem OwnLL.made {w' : World} {n b B : Nat} (hown : OwnV w' b 23 (.slice (some ⟨b, 0, none⟩) n n) (List.replicate n (.slice none 0 0))) (hlt : b < w'.heap.size) (hB : b < B) : OwnLL w' b B (List.replicate n (.slice none 0 0)) (List.replicate n []) :=
  ⟨by simp, by rw [List.length_replicate]; exact hown, (fun k v l h1 h2 => by
    rw [List.getElem?_replicate] at h1 h2
    by_cases hk : k < n
    · rw [if_pos hk] at h1 h2
      injection h1 with h1
      injection h2 with h2
      subst h1 h2
      exact Own.nil_ _ _ _
    · rw [if_neg hk] at h1; cases h1), (fun i j v u _ h1 _ => by
    rw [List.getElem?_replicate] at h1
    by_cases hk : i < n
    · rw [if_pos hk] at h1
      injection h1 with h1
      subst h1
      exact Or.inl rfl
    · rw [if_neg hk] at h1; cases h1), hlt, hB⟩
/-- It reads as rows. -/
theorem OwnLL.rd (h : OwnLL w b B vals rows) : RdN w (some ⟨b, 0, none⟩) rows := fun hn => by
  have hn' : 0 < vals.length := by rw [h.len]; exact hn
  obtain ⟨g, e, _, hlt, _, hc⟩ := OwnV.at2 h.own hn'
  injection e with e; injection e with e
  subst e
  refine ⟨b, 0, rfl, hlt, fun k l hk => ?_⟩
  have hkl : k < vals.length := by rw [h.len]; exact (List.getElem?_eq_some_iff.1 hk).1
  obtain ⟨A', cap', h1, h2, _⟩ := (h.row k _ l (List.getElem?_eq_getElem hkl) hk).form intCells_len
  refine ⟨A', cap', ?_, h2⟩
  rw [Nat.zero_add, hc k hkl, h1]
/-- append of one element, as a run. -/
theorem run_app1 {P : Program} {w : World} (t ty : TypeId) {α : Type} (f : α → List Value) (size bytes E : Nat) (z : Value) (hu : P.underlying t = some (.slice E)) (hinfo : (P.info? E).map (fun i => (i.zero, i.size, i.bytes)) = some (some z, size, bytes))
    (hzs : z.cells.size = size) (hsz : 0 < size) (hf : ∀ x, (f x).length = size) (h1 : ∀ x, ∀ u ∈ f x, u.oneCell' = true)
    (base : Nat) (v : Value) (l : List α) (y : α) (hown : Own f size w base E v l) (S c : Nat)
    (hnew : ∀ j, j < size → w.cell? ⟨S, j, none⟩ = (f y)[j]?) (hlen : l.length + 1 ≤ maxLen) (hb : (l.length + 1) * bytes ≤ 140737488355328) (hbase : base ≤ w.heap.size) :
    ∃ v' w', (Builtin.append_ #[t, t] ty #[v, .slice (some ⟨S, 0, none⟩) 1 c]).run P w = .ok v' w' ∧ Own f size w' base E v' (l ++ [y]) ∧ w.grownBy w' v.ownBlock ∧ (v'.ownBlock = v.ownBlock ∨ v'.ownBlock = some w.heap.size) := by
  obtain ⟨i, hi, hz0, hz1, hz2⟩ := info_parts hinfo
  obtain ⟨v', w', hr, h2, h3, _, h5⟩ := run_append_own_at (P := P) w base t ty E i z size bytes hu hi hz0 hz1 hz2 hzs hsz v l.length (l.flatMap f) hown ⟨S, 0, none⟩ 1 c (f y) (by rw [hf, Nat.one_mul]) (by
    intro j u hj
    have hlt : j < size := by rw [← hf y]; exact (List.getElem?_eq_some_iff.1 hj).1
    rw [← hj, ← hnew j hlt]
    congr 1
    unfold Addr.add
    by_cases h0 : j = 0 <;> simp [h0]) (h1 y) hlen hb hbase
  refine ⟨v', w', hr, ?_, h3, h5⟩
  unfold Own
  rw [List.length_append, List.flatMap_append, List.flatMap_cons, List.flatMap_nil, List.append_nil]
  exact h2
theorem cell_grown {w w' : World} {row : Option Nat} (hg : w.grownBy w' row) (b j : Nat) (hb : b < w.heap.size) (hne : some b ≠ row) : w'.cell? ⟨b, j, none⟩ = w.cell? ⟨b, j, none⟩ := World.cell?_of_block (hg.block b hb hne)
end
end Go.Proofs.Ytmgejacndhnikaa
namespace Go.Proofs.Ytmgejacndhnikaa
open Go.RowKit

/-- Of the blocks that were there all but block C and the row's own lie as they lay. -/
structure Kp2 (C : Nat) (v : Value) (w w' : World) : Prop where
  size : w.heap.size ≤ w'.heap.size
  block : ∀ k, k < w.heap.size → k ≠ C → v.ownBlock ≠ some k → w'.heap[k]? = w.heap[k]?
section
variable {C : Nat} {v v' : Value} {a w w' : World}
theorem Kp2.refl (C : Nat) (v : Value) (w : World) : Kp2 C v w w := ⟨Nat.le_refl _, fun _ _ _ _ => rfl⟩
theorem Kp2.alloc (h : Kp2 C v a w) (o : Obj) : Kp2 C v a (w.alloc o) := ⟨by rw [World.size_alloc]; have := h.size; omega, fun k hk h1 h2 => (Below.heap_alloc w o k (Nat.lt_of_lt_of_le hk h.size)).trans (h.block k hk h1 h2)⟩
theorem Kp2.set_ (h : Kp2 C v a w) {p : Addr} (hp : p.block = C ∨ a.heap.size ≤ p.block) (u : Value) : Kp2 C v a (w.setCell p u) :=
  ⟨by have := h.size; simpa [World.setCell] using this, fun k hk h1 h2 => (Below.heap_setCell w p u k (by rcases hp with h | h <;> omega)).trans (h.block k hk h1 h2)⟩
theorem Kp2.drew (h : Kp2 C v a w) : Kp2 C v a w.drew := ⟨h.size, h.block⟩
theorem Kp2.trans (h : Kp2 C v a w) (k : Kp2 C v' w w') (hv : v'.ownBlock = v.ownBlock ∨ ∃ m, v'.ownBlock = some m ∧ a.heap.size ≤ m) : Kp2 C v a w' :=
  ⟨Nat.le_trans h.size k.size, fun j hj h1 h2 => (k.block j (Nat.lt_of_lt_of_le hj h.size) h1 (fun e => by
    rcases hv with hv | ⟨m, hm, hl⟩
    · exact h2 (hv.symm.trans e)
    · rw [hm] at e; injection e with e; omega)).trans (h.block j hj h1 h2)⟩
theorem Kp2.grown (h : Kp2 C v a w) (hg : w.grownBy w' v'.ownBlock) (hv : v'.ownBlock = v.ownBlock ∨ ∃ m, v'.ownBlock = some m ∧ a.heap.size ≤ m) : Kp2 C v a w' :=
  h.trans ⟨hg.size, fun j hj _ h2 => hg.block j hj (fun e => h2 e.symm)⟩ hv
theorem Kp2.heap (h : Kp2 C v w w') {k : Nat} {o : Obj} (hk : w.heap[k]? = some o) (h1 : k ≠ C) (h2 : v.ownBlock ≠ some k) : w'.heap[k]? = some o :=
  (h.block k (by
    rcases Nat.lt_or_ge k w.heap.size with h | h
    · exact h
    · rw [Array.getElem?_eq_none h] at hk; cases hk) h1 h2).trans hk
theorem own_lt' {α : Type} {f : α → List Value} {size base E : Nat} {w : World} {v : Value} {l : List α} (h : Own f size w base E v l) : ∀ g, v.ownBlock = some g → base ≤ g ∧ g < w.heap.size := fun g hg => World.ownsRow.lt h g hg
/-- A cell in a block by its heap's fact. -/
theorem cell_h {w : World} {k : Nat} {cs : Array Value} {E : Nat} (h : w.heap[k]? = some (.cells cs E (0, 0))) (j : Nat) : w.cell? ⟨k, j, none⟩ = cs[j]? := by
  rw [cell_of_row w k j _ _ _ h]
theorem fz_h {w : World} {k : Nat} {cs : Array Value} {E : Nat} (h : w.heap[k]? = some (.cells cs E (0, 0))) (j : Nat) : w.frozen? ⟨k, j, none⟩ = false := by simp [World.frozen?, h]
theorem lt_h {w : World} {k : Nat} {o : Obj} (h : w.heap[k]? = some o) : k < w.heap.size := by
  rcases Nat.lt_or_ge k w.heap.size with h' | h'
  · exact h'
  · rw [Array.getElem?_eq_none h'] at h; cases h
end
end Go.Proofs.Ytmgejacndhnikaa
namespace Go.Proofs.Ytmgejacndhnikaa
open Go.RowKit

/-- Block b holds the slices vals, which read as rows; an empty one is nil. -/
structure LLn (w : World) (b B : Nat) (vals : List Value) (rows : List (List Int)) : Prop where
  ll : OwnLL w b B vals rows
  nil : ∀ (k : Nat) (v : Value), vals[k]? = some v → rows[k]? = some [] → v = .slice none 0 0
/-- None of vals lies in x's block. -/
def FarV (vals : List Value) (x : Value) : Prop := ∀ u ∈ vals, ∀ g, u.ownBlock = some g → x.ownBlock ≠ some g
section
variable {w w' : World} {b B : Nat} {vals : List Value} {rows : List (List Int)}
theorem LLn.made {n : Nat} (hown : OwnV w' b 23 (.slice (some ⟨b, 0, none⟩) n n) (List.replicate n (.slice none 0 0))) (hlt : b < w'.heap.size) (hB : b < B) : LLn w' b B (List.replicate n (.slice none 0 0)) (List.replicate n []) :=
  ⟨OwnLL.made hown hlt hB, fun k v h _ => by
    rw [List.getElem?_replicate] at h
    split at h
    · injection h with h; exact h.symm
    · cases h⟩
theorem LLn.drew (h : LLn w b B vals rows) : LLn w.drew b B vals rows := ⟨h.ll.drew, h.nil⟩
theorem LLn.drewN (h : LLn w b B vals rows) (n : Nat) : LLn (w.drewN n) b B vals rows := ⟨h.ll.drewN n, h.nil⟩
theorem LLn.alloc (h : LLn w b B vals rows) (o : Obj) : LLn (w.alloc o) b B vals rows := ⟨h.ll.alloc o, h.nil⟩
theorem LLn.below (h : LLn w b B vals rows) (hb : Below w.heap.size w w') : LLn w' b B vals rows := ⟨h.ll.below hb, h.nil⟩
theorem LLn.blk (h : LLn w b B vals rows) {v : Value} (hv : v ∈ vals) : ∀ g, v.ownBlock = some g → B ≤ g ∧ g < w.heap.size := fun g hg => by
  obtain ⟨k, hk, rfl⟩ := List.getElem_of_mem hv
  have hr : k < rows.length := by rw [← h.ll.len]; exact hk
  exact own_lt (h.ll.row k _ _ (List.getElem?_eq_getElem hk) (List.getElem?_eq_getElem hr)) g hg
/-- A row that was made after all of them is put in. -/
theorem LLn.put (h : LLn w b B vals rows) {k : Nat} (hk : k < rows.length) (hb : Below w.heap.size w w') {v' : Value} {l : List Int} (hv : OwnI w' w.heap.size 3 v' l) (hB : B ≤ w.heap.size) (hl : l ≠ []) :
    LLn (w'.setCell ⟨b, k, none⟩ v') b B (vals.set k v') (rows.set k l) := by
  have h1 := h.ll.below hb
  have hbk : b < w'.heap.size := h1.lt
  have hfr : ∀ u ∈ vals, u.ownBlock = none ∨ u.ownBlock ≠ v'.ownBlock := fun u hu => by
    cases e : u.ownBlock with
    | none => exact .inl rfl
    | some g =>
      refine .inr fun e2 => ?_
      have := (h.blk hu g e).2
      have := (own_lt hv g e2.symm).1
      omega
  have hfar : ∀ {x : List Int} {u : Value}, OwnI w' B 3 u x → OwnI (w'.setCell ⟨b, k, none⟩ v') B 3 u x := fun {x u} hu => Own.far hu (fun e => by have := own_lt hu b e; have := h1.hb; omega) v'
  refine ⟨⟨by rw [List.length_set, List.length_set]; exact h1.len, by rw [List.length_set]; exact OwnV.set_ h1.own v', fun j u m hu hm => ?_, fun i j u1 u2 hij g1 g2 => ?_, by simp [World.setCell]; exact hbk, h1.hb⟩, fun j u hu hm => ?_⟩
  · rw [List.getElem?_set] at hu hm
    by_cases e : k = j
    · subst e
      rw [if_pos rfl, if_pos (by rw [h1.len]; exact hk)] at hu
      rw [if_pos rfl, if_pos hk] at hm
      injection hu with hu; injection hm with hm
      subst hu hm
      exact hfar (Own.base_ hv hB)
    · rw [if_neg e] at hu hm
      exact hfar (h1.row j u m hu hm)
  · rw [List.getElem?_set] at g1 g2
    by_cases e1 : k = i
    · subst e1
      rw [if_pos rfl, if_pos (by rw [h1.len]; exact hk)] at g1
      rw [if_neg hij] at g2
      injection g1 with g1
      subst g1
      rcases hfr u2 (List.mem_of_getElem? g2) with e | e
      · cases e3 : v'.ownBlock with
        | none => exact .inl rfl
        | some g => rw [e]; exact .inr (by intro e; cases e)
      · exact .inr (fun e' => e e'.symm)
    · rw [if_neg e1] at g1
      by_cases e2 : k = j
      · subst e2
        rw [if_pos rfl, if_pos (by rw [h1.len]; exact hk)] at g2
        injection g2 with g2
        subst g2
        exact hfr u1 (List.mem_of_getElem? g1)
      · rw [if_neg e2] at g2
        exact h1.far i j u1 u2 hij g1 g2
  · rw [List.getElem?_set] at hu hm
    by_cases e : k = j
    · subst e
      rw [if_pos rfl, if_pos hk] at hm
      injection hm with hm
      exact absurd hm hl
    · rw [if_neg e] at hu hm
      exact h.nil j u hu hm
theorem FarV.put {x v' : Value} (h : FarV vals x) (k : Nat) (hv : ∀ g, v'.ownBlock = some g → x.ownBlock ≠ some g) : FarV (vals.set k v') x := fun u hu g hg => by
  rcases List.mem_or_eq_of_mem_set hu with h1 | rfl
  · exact h u h1 g hg
  · exact hv g hg
/-- What is at place k. -/
theorem LLn.at_ (h : LLn w b B vals rows) {k : Nat} {r : List Int} (hr : rows[k]? = some r) :
    ∃ u, vals[k]? = some u ∧ w.cell? ⟨b, k, none⟩ = some u ∧ (∀ j, w.frozen? ⟨b, j, none⟩ = false) ∧ (r = [] → u = .slice none 0 0) ∧
      (r ≠ [] → ∃ g c, u = .slice (some ⟨g, 0, none⟩) r.length c ∧ B ≤ g ∧ g < w.heap.size ∧ (∀ j, w.frozen? ⟨g, j, none⟩ = false) ∧ RdI w (some ⟨g, 0, none⟩) r ∧ ∀ i (_hi : i < r.length), w.cell? ⟨g, i, none⟩ = some (.int .i64 r[i])) := by
  have hk : k < vals.length := by rw [h.ll.len]; exact (List.getElem?_eq_some_iff.1 hr).1
  obtain ⟨g0, e, -, -, hfz, hcell⟩ := OwnV.at2 h.ll.own (by omega)
  injection e with e; injection e with e
  subst e
  have hu := List.getElem?_eq_getElem hk
  refine ⟨vals[k], hu, hcell k hk, hfz, fun e => h.nil k _ hu (e ▸ hr), fun hne => ?_⟩
  have hrow := h.ll.row k _ _ hu hr
  have hpos : 0 < r.length := by cases r with | nil => exact absurd rfl hne | cons => simp
  obtain ⟨g, c, e, h1, h2, h3, h4, h5⟩ := OwnI.at_ hrow hpos
  obtain ⟨A', c', e', hR⟩ := OwnI.rd hrow
  rw [e] at e'
  injection e' with e1
  subst e1
  exact ⟨g, c, e, h1, h2, h4, hR, h5⟩
/-- A cell of row k is stored. -/
theorem LLn.cell (h : LLn w b B vals rows) {k g n c : Nat} {r : List Int} (hv : vals[k]? = some (.slice (some ⟨g, 0, none⟩) n c)) (hr : rows[k]? = some r) {i : Nat} (hi : i < r.length) (x : Int) :
    LLn (w.setCell ⟨g, i, none⟩ (.int .i64 x)) b B vals (rows.set k (r.set i x)) := by
  have hk : k < rows.length := (List.getElem?_eq_some_iff.1 hr).1
  have hrow := h.ll.row k _ _ hv hr
  have hg := own_lt hrow g rfl
  have hbB := h.ll.hb
  refine ⟨⟨by rw [List.length_set]; exact h.ll.len, by rw [List.length_set]; exact Own.far h.ll.own (fun e => by have e : some b = some g := e; injection e with e; omega) _, fun j u m hu hm => ?_, h.ll.far, by simp [World.setCell]; exact h.ll.lt, hbB⟩, fun j u hu hm => ?_⟩
  · rw [List.getElem?_set] at hm
    by_cases e : k = j
    · subst e
      rw [if_pos rfl, if_pos hk] at hm
      injection hm with hm
      rw [hv] at hu
      injection hu with hu
      subst hu hm
      exact OwnI.set_ hrow hi x
    · rw [if_neg e] at hm
      refine Own.far (h.ll.row j u m hu hm) (fun e2 => ?_) _
      rcases h.ll.far j k u _ (fun e' => e e'.symm) hu hv with e3 | e3
      · rw [e3] at e2; cases e2
      · exact e3 e2
  · rw [List.getElem?_set] at hm
    by_cases e : k = j
    · subst e
      rw [if_pos rfl, if_pos hk] at hm
      injection hm with hm
      have := congrArg List.length hm
      rw [List.length_set] at this
      simp at this; subst this; simp at hi
    · rw [if_neg e] at hm
      exact h.nil j u hu hm
end
end Go.Proofs.Ytmgejacndhnikaa
