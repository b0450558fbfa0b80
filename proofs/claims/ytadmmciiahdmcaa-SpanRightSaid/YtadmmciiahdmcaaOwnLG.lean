/- Rows of ints in a row, all the call's own: make([][]int, n), then out[k] = append(out[k], x) at whatever k. -/
import Derived.Test.YtadmmciiahdmcaaTurnG
import Derived.Maps.AppendAt
namespace Go.Proofs.Ytadmmciiahdmcaa
open Go.RowKit

theorem own_lt {α : Type} {f : α → List Value} {size base E : Nat} {w : World} {v : Value} {l : List α} (h : Own f size w base E v l) : ∀ g, v.ownBlock = some g → base ≤ g ∧ g < w.heap.size := fun g hg => World.ownsRow.lt h g hg
/-- Block b holds the slices vals, which read as rows; each in a block of its own above b. -/
structure OwnLL (w : World) (b B : Nat) (vals : List Value) (rows : List (List Int)) : Prop where
  len : vals.length = rows.length
  own : OwnV w b 23 (.slice (some ⟨b, 0, none⟩) rows.length rows.length) vals
  row : ∀ (k : Nat) (v : Value) (l : List Int), vals[k]? = some v → rows[k]? = some l → OwnI w B 3 v l
  far : ∀ (i j : Nat) (v u : Value), i ≠ j → vals[i]? = some v → vals[j]? = some u → v.ownBlock = none ∨ v.ownBlock ≠ u.ownBlock
  lt : b < w.heap.size
  hb : b < B
section
variable {w : World} {b B : Nat} {vals : List Value} {rows : List (List Int)}
theorem OwnLL.drew (h : OwnLL w b B vals rows) : OwnLL w.drew b B vals rows := ⟨h.len, h.own, h.row, h.far, h.lt, h.hb⟩
theorem OwnLL.drewN (h : OwnLL w b B vals rows) (n : Nat) : OwnLL (w.drewN n) b B vals rows := ⟨h.len, h.own, h.row, h.far, h.lt, h.hb⟩
theorem OwnLL.alloc (h : OwnLL w b B vals rows) (o : Obj) : OwnLL (w.alloc o) b B vals rows := ⟨h.len, Own.alloc h.own o, fun k v l h1 h2 => Own.alloc (h.row k v l h1 h2) o, h.far, by have := h.lt; simp; omega, h.hb⟩
theorem OwnLL.below (h : OwnLL w b B vals rows) {w' : World} (hb : Below w.heap.size w w') : OwnLL w' b B vals rows := ⟨h.len, Own.below h.own hb, fun k v l h1 h2 => Own.below (h.row k v l h1 h2) hb, h.far, Nat.lt_of_lt_of_le h.lt hb.size, h.hb⟩
/-- Row k grown by append, not yet stored. -/
theorem OwnLL.grown (h : OwnLL w b B vals rows) {k : Nat} {v : Value} {l : List Int} (hk : vals[k]? = some v) (hl : rows[k]? = some l) {w' : World} {v' : Value} {x : Int} (hown : OwnI w' B 3 v' (l ++ [x])) (hgrow : w.grownBy w' v.ownBlock) (hat : v'.ownBlock = v.ownBlock ∨ v'.ownBlock = some w.heap.size) :
    OwnV w' b 23 (.slice (some ⟨b, 0, none⟩) rows.length rows.length) vals ∧ OwnLL (w'.setCell ⟨b, k, none⟩ v') b B (vals.set k v') (rows.set k (l ++ [x])) := by
  have hr := h.row k v l hk hl
  have hV : OwnV w' b 23 (.slice (some ⟨b, 0, none⟩) rows.length rows.length) vals := Own.kept h.own hgrow (Or.inr (fun e => by
    have e : some b = v.ownBlock := e
    have := own_lt hr b e.symm; have := h.hb; omega))
  have hbk : b < w'.heap.size := Nat.lt_of_lt_of_le h.lt hgrow.size
  refine ⟨hV, ⟨by rw [List.length_set, List.length_set]; exact h.len, by rw [List.length_set]; exact OwnV.set_ hV v', fun j u m hu hm => ?_, fun i j u1 u2 hij h1 h2 => ?_, by simp [World.setCell]; exact hbk, h.hb⟩⟩
  · rw [List.getElem?_set] at hu hm
    by_cases e : k = j
    · subst e
      have hkv : k < vals.length := (List.getElem?_eq_some_iff.1 hk).1
      have hkr : k < rows.length := (List.getElem?_eq_some_iff.1 hl).1
      rw [if_pos rfl, if_pos hkv] at hu
      rw [if_pos rfl, if_pos hkr] at hm
      injection hu with hu
      injection hm with hm
      subst hu hm
      exact Own.far hown (fun e => by have := own_lt hown b e; have := h.hb; omega) v'
    · rw [if_neg e] at hu hm
      have hj := h.row j u m hu hm
      have hkeep : OwnI w' B 3 u m := Own.kept hj hgrow (h.far j k u v (fun e' => e e'.symm) hu hk)
      exact Own.far hkeep (fun e => by have := own_lt hkeep b e; have := h.hb; omega) v'
  · rw [List.getElem?_set] at h1 h2
    have hlt : ∀ (j : Nat) (u : Value), vals[j]? = some u → ∀ g, u.ownBlock = some g → g < w.heap.size := fun j u hu g hg => by
      have hj : j < rows.length := by rw [← h.len]; exact (List.getElem?_eq_some_iff.1 hu).1
      exact (own_lt (h.row j u _ hu (List.getElem?_eq_getElem hj)) g hg).2
    by_cases e1 : k = i
    · subst e1
      rw [if_pos rfl, if_pos (List.getElem?_eq_some_iff.1 hk).1] at h1
      rw [if_neg hij] at h2
      injection h1 with h1
      subst h1
      rcases hat with e | e
      · rw [e]; exact h.far k j v u2 hij hk h2
      · refine Or.inr fun e' => ?_
        rw [e] at e'
        have := hlt j u2 h2 _ e'.symm
        omega
    · rw [if_neg e1] at h1
      by_cases e2 : k = j
      · subst e2
        rw [if_pos rfl, if_pos (List.getElem?_eq_some_iff.1 hk).1] at h2
        injection h2 with h2
        subst h2
        rcases hat with e | e
        · rw [e]; exact h.far i k u1 v hij h1 hk
        · rw [e]
          cases hu : u1.ownBlock with
          | none => exact Or.inl rfl
          | some g =>
            refine Or.inr fun e' => ?_
            injection e' with e'
            have := hlt i u1 h1 g hu
            omega
      · rw [if_neg e2] at h2
        exact h.far i j u1 u2 hij h1 h2
theorem OwnLL.made {w' : World} {n b B : Nat} (hown : OwnV w' b 23 (.slice (some ⟨b, 0, none⟩) n n) (List.replicate n (.slice none 0 0))) (hlt : b < w'.heap.size) (hB : b < B) : OwnLL w' b B (List.replicate n (.slice none 0 0)) (List.replicate n []) :=
  ⟨by simp, by rw [List.length_replicate]; exact hown, (fun k v l h1 h2 => by
    rw [List.getElem?_replicate] at h1 h2
    by_cases hk : k < n
    · rw [if_pos hk] at h1 h2
      injection h1 with h1
      injection h2 with h2
      subst h1 h2
      exact Own.nil_ _ _ _
    · rw [if_neg hk] at h1; cases h1), (fun i j v u _ h1 _ => by
    rw [List.getElem?_replicate] at h1
    by_cases hk : i < n
    · rw [if_pos hk] at h1
      injection h1 with h1
      subst h1
      exact Or.inl rfl
    · rw [if_neg hk] at h1; cases h1), hlt, hB⟩
/-- It reads as rows. -/
theorem OwnLL.rd (h : OwnLL w b B vals rows) : RdN w (some ⟨b, 0, none⟩) rows := fun hn => by
  have hn' : 0 < vals.length := by rw [h.len]; exact hn
  obtain ⟨g, e, _, hlt, _, hc⟩ := OwnV.at2 h.own hn'
  injection e with e; injection e with e
  subst e
  refine ⟨b, 0, rfl, hlt, fun k l hk => ?_⟩
  have hkl : k < vals.length := by rw [h.len]; exact (List.getElem?_eq_some_iff.1 hk).1
  obtain ⟨A', cap', h1, h2, _⟩ := (h.row k _ l (List.getElem?_eq_getElem hkl) hk).form intCells_len
  refine ⟨A', cap', ?_, h2⟩
  rw [Nat.zero_add, hc k hkl, h1]
/-- append of one element, as a run. -/
theorem run_app1 {P : Program} {w : World} (t ty : TypeId) {α : Type} (f : α → List Value) (size bytes E : Nat) (z : Value) (hu : P.underlying t = some (.slice E)) (hinfo : (P.info? E).map (fun i => (i.zero, i.size, i.bytes)) = some (some z, size, bytes))
    (hzs : z.cells.size = size) (hsz : 0 < size) (hf : ∀ x, (f x).length = size) (h1 : ∀ x, ∀ u ∈ f x, u.oneCell' = true)
    (base : Nat) (v : Value) (l : List α) (y : α) (hown : Own f size w base E v l) (S c : Nat)
    (hnew : ∀ j, j < size → w.cell? ⟨S, j, none⟩ = (f y)[j]?) (hlen : l.length + 1 ≤ maxLen) (hb : (l.length + 1) * bytes ≤ 140737488355328) (hbase : base ≤ w.heap.size) :
    ∃ v' w', (Builtin.append_ #[t, t] ty #[v, .slice (some ⟨S, 0, none⟩) 1 c]).run P w = .ok v' w' ∧ Own f size w' base E v' (l ++ [y]) ∧ w.grownBy w' v.ownBlock ∧ (v'.ownBlock = v.ownBlock ∨ v'.ownBlock = some w.heap.size) := by
  obtain ⟨i, hi, hz0, hz1, hz2⟩ := info_parts hinfo
  obtain ⟨v', w', hr, h2, h3, _, h5⟩ := run_append_own_at (P := P) w base t ty E i z size bytes hu hi hz0 hz1 hz2 hzs hsz v l.length (l.flatMap f) hown ⟨S, 0, none⟩ 1 c (f y) (by rw [hf, Nat.one_mul]) (by
    intro j u hj
    have hlt : j < size := by rw [← hf y]; exact (List.getElem?_eq_some_iff.1 hj).1
    rw [← hj, ← hnew j hlt]
    congr 1
    unfold Addr.add
    by_cases h0 : j = 0 <;> simp [h0]) (h1 y) hlen hb hbase
  refine ⟨v', w', hr, ?_, h3, h5⟩
  unfold Own
  rw [List.length_append, List.flatMap_append, List.flatMap_cons, List.flatMap_nil, List.append_nil]
  exact h2
theorem cell_grown {w w' : World} {row : Option Nat} (hg : w.grownBy w' row) (b j : Nat) (hb : b < w.heap.size) (hne : some b ≠ row) : w'.cell? ⟨b, j, none⟩ = w.cell? ⟨b, j, none⟩ := World.cell?_of_block (hg.block b hb hne)
end
end Go.Proofs.Ytadmmciiahdmcaa
