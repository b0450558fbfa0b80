/- Rows of ints in a row, all the call's own, an empty one being nil: a row put in, a cell stored in a row. -/
import Derived.Test.YtadmmciiahdmcaaOwnLG
import Derived.Test.YtadmmciiahdmcaaRecK
import Derived.Test.YtadmmciiahdmcaaAppN
namespace Go.Proofs.Ytadmmciiahdmcaa
open Go.RowKit

/-- Block b holds the slices vals, which read as rows; an empty one is nil. -/
structure LLn (w : World) (b B : Nat) (vals : List Value) (rows : List (List Int)) : Prop where
  ll : OwnLL w b B vals rows
  nil : ∀ (k : Nat) (v : Value), vals[k]? = some v → rows[k]? = some [] → v = .slice none 0 0
/-- None of vals lies in x's block. -/
def FarV (vals : List Value) (x : Value) : Prop := ∀ u ∈ vals, ∀ g, u.ownBlock = some g → x.ownBlock ≠ some g
section
variable {w w' : World} {b B : Nat} {vals : List Value} {rows : List (List Int)}
theorem LLn.made {n : Nat} (hown : OwnV w' b 23 (.slice (some ⟨b, 0, none⟩) n n) (List.replicate n (.slice none 0 0))) (hlt : b < w'.heap.size) (hB : b < B) : LLn w' b B (List.replicate n (.slice none 0 0)) (List.replicate n []) :=
  ⟨OwnLL.made hown hlt hB, fun k v h _ => by
    rw [List.getElem?_replicate] at h
    split at h
    · injection h with h; exact h.symm
    · cases h⟩
theorem LLn.drew (h : LLn w b B vals rows) : LLn w.drew b B vals rows := ⟨h.ll.drew, h.nil⟩
theorem LLn.drewN (h : LLn w b B vals rows) (n : Nat) : LLn (w.drewN n) b B vals rows := ⟨h.ll.drewN n, h.nil⟩
theorem LLn.alloc (h : LLn w b B vals rows) (o : Obj) : LLn (w.alloc o) b B vals rows := ⟨h.ll.alloc o, h.nil⟩
theorem LLn.below (h : LLn w b B vals rows) (hb : Below w.heap.size w w') : LLn w' b B vals rows := ⟨h.ll.below hb, h.nil⟩
theorem LLn.blk (h : LLn w b B vals rows) {v : Value} (hv : v ∈ vals) : ∀ g, v.ownBlock = some g → B ≤ g ∧ g < w.heap.size := fun g hg => by
  obtain ⟨k, hk, rfl⟩ := List.getElem_of_mem hv
  have hr : k < rows.length := by rw [← h.ll.len]; exact hk
  exact own_lt (h.ll.row k _ _ (List.getElem?_eq_getElem hk) (List.getElem?_eq_getElem hr)) g hg
/-- A row that was made after all of them is put in. -/
theorem LLn.put (h : LLn w b B vals rows) {k : Nat} (hk : k < rows.length) (hb : Below w.heap.size w w') {v' : Value} {l : List Int} (hv : OwnI w' w.heap.size 3 v' l) (hB : B ≤ w.heap.size) (hl : l ≠ []) :
    LLn (w'.setCell ⟨b, k, none⟩ v') b B (vals.set k v') (rows.set k l) := by
  have h1 := h.ll.below hb
  have hbk : b < w'.heap.size := h1.lt
  have hfr : ∀ u ∈ vals, u.ownBlock = none ∨ u.ownBlock ≠ v'.ownBlock := fun u hu => by
    cases e : u.ownBlock with
    | none => exact .inl rfl
    | some g =>
      refine .inr fun e2 => ?_
      have := (h.blk hu g e).2
      have := (own_lt hv g e2.symm).1
      omega
  have hfar : ∀ {x : List Int} {u : Value}, OwnI w' B 3 u x → OwnI (w'.setCell ⟨b, k, none⟩ v') B 3 u x := fun {x u} hu => Own.far hu (fun e => by have := own_lt hu b e; have := h1.hb; omega) v'
  refine ⟨⟨by rw [List.length_set, List.length_set]; exact h1.len, by rw [List.length_set]; exact OwnV.set_ h1.own v', fun j u m hu hm => ?_, fun i j u1 u2 hij g1 g2 => ?_, by simp [World.setCell]; exact hbk, h1.hb⟩, fun j u hu hm => ?_⟩
  · rw [List.getElem?_set] at hu hm
    by_cases e : k = j
    · subst e
      rw [if_pos rfl, if_pos (by rw [h1.len]; exact hk)] at hu
      rw [if_pos rfl, if_pos hk] at hm
      injection hu with hu; injection hm with hm
      subst hu hm
      exact hfar (Own.base_ hv hB)
    · rw [if_neg e] at hu hm
      exact hfar (h1.row j u m hu hm)
  · rw [List.getElem?_set] at g1 g2
    by_cases e1 : k = i
    · subst e1
      rw [if_pos rfl, if_pos (by rw [h1.len]; exact hk)] at g1
      rw [if_neg hij] at g2
      injection g1 with g1
      subst g1
      rcases hfr u2 (List.mem_of_getElem? g2) with e | e
      · cases e3 : v'.ownBlock with
        | none => exact .inl rfl
        | some g => rw [e]; exact .inr (by intro e; cases e)
      · exact .inr (fun e' => e e'.symm)
    · rw [if_neg e1] at g1
      by_cases e2 : k = j
      · subst e2
        rw [if_pos rfl, if_pos (by rw [h1.len]; exact hk)] at g2
        injection g2 with g2
        subst g2
        exact hfr u1 (List.mem_of_getElem? g1)
      · rw [if_neg e2] at g2
        exact h1.far i j u1 u2 hij g1 g2
  · rw [List.getElem?_set] at hu hm
    by_cases e : k = j
    · subst e
      rw [if_pos rfl, if_pos hk] at hm
      injection hm with hm
      exact absurd hm hl
    · rw [if_neg e] at hu hm
      exact h.nil j u hu hm
theorem FarV.put {x v' : Value} (h : FarV vals x) (k : Nat) (hv : ∀ g, v'.ownBlock = some g → x.ownBlock ≠ some g) : FarV (vals.set k v') x := fun u hu g hg => by
  rcases List.mem_or_eq_of_mem_set hu with h1 | rfl
  · exact h u h1 g hg
  · exact hv g hg
/-- What is at place k. -/
theorem LLn.at_ (h : LLn w b B vals rows) {k : Nat} {r : List Int} (hr : rows[k]? = some r) :
    ∃ u, vals[k]? = some u ∧ w.cell? ⟨b, k, none⟩ = some u ∧ (∀ j, w.frozen? ⟨b, j, none⟩ = false) ∧ (r = [] → u = .slice none 0 0) ∧
      (r ≠ [] → ∃ g c, u = .slice (some ⟨g, 0, none⟩) r.length c ∧ B ≤ g ∧ g < w.heap.size ∧ (∀ j, w.frozen? ⟨g, j, none⟩ = false) ∧ RdI w (some ⟨g, 0, none⟩) r ∧ ∀ i (_hi : i < r.length), w.cell? ⟨g, i, none⟩ = some (.int .i64 r[i])) := by
  have hk : k < vals.length := by rw [h.ll.len]; exact (List.getElem?_eq_some_iff.1 hr).1
  obtain ⟨g0, e, -, -, hfz, hcell⟩ := OwnV.at2 h.ll.own (by omega)
  injection e with e; injection e with e
  subst e
  have hu := List.getElem?_eq_getElem hk
  refine ⟨vals[k], hu, hcell k hk, hfz, fun e => h.nil k _ hu (e ▸ hr), fun hne => ?_⟩
  have hrow := h.ll.row k _ _ hu hr
  have hpos : 0 < r.length := by cases r with | nil => exact absurd rfl hne | cons => simp
  obtain ⟨g, c, e, h1, h2, h3, h4, h5⟩ := OwnI.at_ hrow hpos
  obtain ⟨A', c', e', hR⟩ := OwnI.rd hrow
  rw [e] at e'
  injection e' with e1
  subst e1
  exact ⟨g, c, e, h1, h2, h4, hR, h5⟩
/-- A cell of row k is stored. -/
theorem LLn.cell (h : LLn w b B vals rows) {k g n c : Nat} {r : List Int} (hv : vals[k]? = some (.slice (some ⟨g, 0, none⟩) n c)) (hr : rows[k]? = some r) {i : Nat} (hi : i < r.length) (x : Int) :
    LLn (w.setCell ⟨g, i, none⟩ (.int .i64 x)) b B vals (rows.set k (r.set i x)) := by
  have hk : k < rows.length := (List.getElem?_eq_some_iff.1 hr).1
  have hrow := h.ll.row k _ _ hv hr
  have hg := own_lt hrow g rfl
  have hbB := h.ll.hb
  refine ⟨⟨by rw [List.length_set]; exact h.ll.len, by rw [List.length_set]; exact Own.far h.ll.own (fun e => by have e : some b = some g := e; injection e with e; omega) _, fun j u m hu hm => ?_, h.ll.far, by simp [World.setCell]; exact h.ll.lt, hbB⟩, fun j u hu hm => ?_⟩
  · rw [List.getElem?_set] at hm
    by_cases e : k = j
    · subst e
      rw [if_pos rfl, if_pos hk] at hm
      injection hm with hm
      rw [hv] at hu
      injection hu with hu
      subst hu hm
      exact OwnI.set_ hrow hi x
    · rw [if_neg e] at hm
      refine Own.far (h.ll.row j u m hu hm) (fun e2 => ?_) _
      rcases h.ll.far j k u _ (fun e' => e e'.symm) hu hv with e3 | e3
      · rw [e3] at e2; cases e2
      · exact e3 e2
  · rw [List.getElem?_set] at hm
    by_cases e : k = j
    · subst e
      rw [if_pos rfl, if_pos hk] at hm
      injection hm with hm
      have := congrArg List.length hm
      rw [List.length_set] at this
      simp at this; subst this; simp at hi
    · rw [if_neg e] at hm
      exact h.nil j u hu hm
end
end Go.Proofs.Ytadmmciiahdmcaa
