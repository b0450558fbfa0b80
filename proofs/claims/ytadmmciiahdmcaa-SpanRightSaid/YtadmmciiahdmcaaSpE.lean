/- span.place on the heap. -/
import Derived.Test.YtadmmciiahdmcaaSpC
namespace Go.Proofs.Ytadmmciiahdmcaa
open Go.RowKit

theorem heap_setP (w : World) (g j : Nat) (v : Value) (cs : Array Value) (E : Nat) (h : w.heap[g]? = some (.cells cs E (0, 0))) : (w.setCell ⟨g, j, none⟩ v).heap[g]? = some (.cells (cs.setIfInBounds j v) E (0, 0)) := by
  obtain ⟨hlt, hv⟩ := Array.getElem?_eq_some_iff.1 h
  unfold World.setCell
  rw [Array.getElem?_eq_getElem (by simpa using hlt), Array.getElem_modify]
  simp [hv]
theorem ty_neP {w : World} {a b : Nat} {x y : Array Value} {e e' : Nat} (h : w.heap[a]? = some (.cells x e (0, 0))) (k : w.heap[b]? = some (.cells y e' (0, 0))) (hne : e ≠ e') : a ≠ b := fun h1 => by
  rw [h1, k] at h
  injection h with h
  injection h with h1 h2
  exact hne h2.symm
theorem lt_P {w : World} {a : Nat} {o : Obj} (h : w.heap[a]? = some o) : a < w.heap.size := (Array.getElem?_eq_some_iff.1 h).1
/-- Block G holds the spans r. -/
def RowS (w : World) (G : Nat) (r : List Sp) : Prop := ∃ zs, w.heap[G]? = some (.cells (r.flatMap spCells ++ zs).toArray 65 (0, 0))
theorem RowS.of_own {w : World} {base g n c : Nat} {r : List Sp} (h : OwnS w base (.slice (some ⟨g, 0, none⟩) n c) r) : RowS w g r := by
  rcases h.2 with ⟨h0, _⟩ | ⟨b, cap, cur, e, h1, h2, h3, h4, h5, h6⟩
  · cases h0
  · injection e with e1 e2 e3
    injection e1 with e1
    injection e1 with e1
    subst e1
    refine ⟨cur.toList.drop (r.length * 2), ?_⟩
    rw [h2, ← h6, List.take_append_drop]
theorem RowS.at2 {w : World} {G : Nat} {r : List Sp} (h : RowS w G r) {k : Nat} (hk : k < r.length) : w.cell? ⟨G, k * 2, none⟩ = some (.int .i64 (gS r k).1) ∧ w.cell? ⟨G, k * 2 + 1, none⟩ = some (.int .i64 (gS r k).2) ∧ (∀ j, w.frozen? ⟨G, j, none⟩ = false) := by
  obtain ⟨zs, hz⟩ := h
  have key : ∀ j (hj : j < 2), w.cell? ⟨G, k * 2 + j, none⟩ = some ((spCells r[k])[j]'hj) := fun j hj => by
    rw [cell_of_row w G _ _ _ _ hz, List.getElem?_toArray, List.getElem?_append_left (by rw [flatMap_len spCells_len]; omega)]
    exact (flatMap_get spCells_len r k _ (List.getElem?_eq_getElem hk) j hj).trans (List.getElem?_eq_getElem _)
  rw [gS_get hk]
  exact ⟨key 0 (by decide), key 1 (by decide), fun j => by simp [World.frozen?, hz]⟩
theorem RowS.set2 {w : World} {G : Nat} {r : List Sp} (h : RowS w G r) {k : Nat} (hk : k < r.length) (y : Sp) : RowS ((w.setCell ⟨G, k * 2, none⟩ (.int .i64 y.1)).setCell ⟨G, k * 2 + 1, none⟩ (.int .i64 y.2)) G (r.set k y) := by
  obtain ⟨zs, hz⟩ := h
  have hf := flatMap_len spCells_len r
  refine ⟨zs, ?_⟩
  rw [heap_setP _ G _ _ _ _ (heap_setP w G _ _ _ _ hz), flatS_set y r k hk, List.setIfInBounds_toArray, List.setIfInBounds_toArray, List.set_append_left _ _ (by omega), List.set_append_left _ _ (by rw [List.length_set]; omega)]
theorem RowS.blk {w w' : World} {G : Nat} {r : List Sp} (h : RowS w G r) (hb : w'.heap[G]? = w.heap[G]?) : RowS w' G r := h.imp fun _ hz => hb.trans hz
theorem RowS.rd {w : World} {G : Nat} {r : List Sp} (h : RowS w G r) : RdS w (some ⟨G, 0, none⟩) r := fun _ => by
  refine ⟨G, 0, rfl, ?_, fun k y hy j hj => ?_⟩
  · obtain ⟨zs, hz⟩ := h; exact lt_P hz
  · obtain ⟨hk, rfl⟩ := List.getElem?_eq_some_iff.1 hy
    obtain ⟨h1, h2, -⟩ := h.at2 hk
    rw [gS_get hk] at h1 h2
    rcases j with _ | _ | j
    · simpa [spCells] using h1
    · simpa [spCells] using h2
    · omega
theorem RdS.blk {w w' : World} {G off : Nat} {r : List Sp} (h : RdS w (some ⟨G, off, none⟩) r) (hb : w'.heap[G]? = w.heap[G]?) (hs : w.heap.size ≤ w'.heap.size) : RdS w' (some ⟨G, off, none⟩) r := fun hn => by
  obtain ⟨b, o, e, hl, hc⟩ := h hn
  injection e with e
  injection e with e1 e2
  subst e1 e2
  exact ⟨_, _, rfl, Nat.lt_of_lt_of_le hl hs, fun k y hy j hj => (World.cell?_of_block hb).trans (hc k y hy j hj)⟩
/-- What block SB holds at place i. -/
def rvS (R C : Nat → Nat) (F : FnS) (i : Nat) : Value := if F i = [] then .slice none 0 0 else .slice (some ⟨R i, 0, none⟩) (F i).length (C i)
def updN (R : Nat → Nat) (j x : Nat) (i : Nat) : Nat := if i = j then x else R i
/-- A place: block T; its slices in block SB; the rows in blocks R i. -/
structure ST (w : World) (T SB m : Nat) (R C : Nat → Nat) (F : FnS) (b : Bool) : Prop where
  hT : w.heap[T]? = some (.cells #[.slice (some ⟨SB, 0, none⟩) m m, .bool b] 101 (0, 0))
  hS : w.heap[SB]? = some (.cells ((List.range m).map (rvS R C F)).toArray 60 (0, 0))
  hR : ∀ i, i < m → F i ≠ [] → RowS w (R i) (F i)
  inj : ∀ i j, i < m → j < m → F i ≠ [] → F j ≠ [] → R i = R j → i = j
/-- Of the blocks that were there only T, SB and the rows may be others. -/
structure FrS (T SB m : Nat) (R : Nat → Nat) (F : FnS) (w w' : World) : Prop where
  os : w'.os = w.os
  tape : w'.tape = w.tape
  output : w'.output = w.output
  size : w.heap.size ≤ w'.heap.size
  block : ∀ k, k < w.heap.size → k ≠ T → k ≠ SB → (∀ i, i < m → F i ≠ [] → k ≠ R i) → w'.heap[k]? = w.heap[k]?
section
variable {w w' w'' : World} {T SB m : Nat} {R C : Nat → Nat} {F : FnS} {b : Bool}
theorem FrS.refl : FrS T SB m R F w w := ⟨rfl, rfl, rfl, Nat.le_refl _, fun _ _ _ _ _ => rfl⟩
theorem FrS.trans (h : FrS T SB m R F w w') (k : FrS T SB m R F w' w'') : FrS T SB m R F w w'' :=
  ⟨k.os.trans h.os, k.tape.trans h.tape, k.output.trans h.output, Nat.le_trans h.size k.size, fun x h0 h1 h2 h3 => (k.block x (Nat.lt_of_lt_of_le h0 h.size) h1 h2 h3).trans (h.block x h0 h1 h2 h3)⟩
theorem FrS.of_below (hb : Below w.heap.size w w') : FrS T SB m R F w w' := ⟨hb.os, hb.tape, hb.output, hb.size, fun k hk _ _ _ => hb.block k hk⟩
theorem FrS.alloc (h : FrS T SB m R F w w') (o : Obj) : FrS T SB m R F w (w'.alloc o) := h.trans ⟨rfl, rfl, rfl, by simp, fun k h0 _ _ _ => Below.heap_alloc _ _ _ h0⟩
theorem FrS.drew (h : FrS T SB m R F w w') : FrS T SB m R F w w'.drew := ⟨h.os, h.tape, h.output, h.size, h.block⟩
theorem FrS.setT (h : FrS T SB m R F w w') (i : Nat) (v : Value) : FrS T SB m R F w (w'.setCell ⟨T, i, none⟩ v) := h.trans ⟨rfl, rfl, rfl, by simp [World.setCell], fun k _ h1 _ _ => Below.heap_setCell _ _ _ _ h1⟩
theorem FrS.setS (h : FrS T SB m R F w w') (i : Nat) (v : Value) : FrS T SB m R F w (w'.setCell ⟨SB, i, none⟩ v) := h.trans ⟨rfl, rfl, rfl, by simp [World.setCell], fun k _ _ h2 _ => Below.heap_setCell _ _ _ _ h2⟩
theorem FrS.setR (h : FrS T SB m R F w w') {j : Nat} (hj : j < m) (hF : F j ≠ []) (i : Nat) (v : Value) : FrS T SB m R F w (w'.setCell ⟨R j, i, none⟩ v) := h.trans ⟨rfl, rfl, rfl, by simp [World.setCell], fun k _ _ _ h3 => Below.heap_setCell _ _ _ _ (h3 j hj hF)⟩
theorem FrS.below {B : Nat} {w0 : World} (h : FrS T SB m R F w w') (hb : Below B w0 w) (hB : B ≤ w.heap.size) (hT : B ≤ T) (hS : B ≤ SB) (hR : ∀ i, i < m → F i ≠ [] → B ≤ R i) : Below B w0 w' :=
  hb.trans ⟨h.os, h.tape, h.output, h.size, fun k hk => h.block k (by omega) (by omega) (by omega) (fun i hi hF => by have := hR i hi hF; omega)⟩
theorem rvS_nil {i : Nat} (h : F i = []) : rvS R C F i = .slice none 0 0 := by unfold rvS; rw [if_pos h]
theorem rvS_row {i : Nat} (h : F i ≠ []) : rvS R C F i = .slice (some ⟨R i, 0, none⟩) (F i).length (C i) := by unfold rvS; rw [if_neg h]
theorem ST.c0 (h : ST w T SB m R C F b) : w.cell? ⟨T, 0, none⟩ = some (.slice (some ⟨SB, 0, none⟩) m m) := by rw [cell_of_row w T 0 _ _ _ h.hT]; rfl
theorem ST.c1 (h : ST w T SB m R C F b) : w.cell? ⟨T, 1, none⟩ = some (.bool b) := by rw [cell_of_row w T 1 _ _ _ h.hT]; rfl
theorem ST.fT (h : ST w T SB m R C F b) (j : Nat) : w.frozen? ⟨T, j, none⟩ = false := by simp [World.frozen?, h.hT]
theorem ST.cS (h : ST w T SB m R C F b) {i : Nat} (hi : i < m) : w.cell? ⟨SB, i, none⟩ = some (rvS R C F i) := by
  rw [cell_of_row w SB i _ _ _ h.hS, List.getElem?_toArray, List.getElem?_map, List.getElem?_range hi]; rfl
theorem ST.fS (h : ST w T SB m R C F b) (j : Nat) : w.frozen? ⟨SB, j, none⟩ = false := by simp [World.frozen?, h.hS]
theorem ST.neTS (h : ST w T SB m R C F b) : T ≠ SB := ty_neP h.hT h.hS (by decide)
theorem ST.neTR (h : ST w T SB m R C F b) {i : Nat} (hi : i < m) (hF : F i ≠ []) : T ≠ R i := by
  obtain ⟨zs, hz⟩ := h.hR i hi hF
  exact ty_neP h.hT hz (by decide)
theorem ST.neSR (h : ST w T SB m R C F b) {i : Nat} (hi : i < m) (hF : F i ≠ []) : SB ≠ R i := by
  obtain ⟨zs, hz⟩ := h.hR i hi hF
  exact ty_neP h.hS hz (by decide)
theorem ST.neTG (h : ST w T SB m R C F b) {G : Nat} {r : List Sp} (hr : RowS w G r) : T ≠ G := by
  obtain ⟨zs, hz⟩ := hr
  exact ty_neP h.hT hz (by decide)
theorem ST.neSG (h : ST w T SB m R C F b) {G : Nat} {r : List Sp} (hr : RowS w G r) : SB ≠ G := by
  obtain ⟨zs, hz⟩ := hr
  exact ty_neP h.hS hz (by decide)
theorem ST.ltT (h : ST w T SB m R C F b) : T < w.heap.size := lt_P h.hT
theorem ST.ltS (h : ST w T SB m R C F b) : SB < w.heap.size := lt_P h.hS
theorem ST.ltR (h : ST w T SB m R C F b) {i : Nat} (hi : i < m) (hF : F i ≠ []) : R i < w.heap.size := by
  obtain ⟨zs, hz⟩ := h.hR i hi hF
  exact lt_P hz
theorem ST.drew (h : ST w T SB m R C F b) : ST w.drew T SB m R C F b := ⟨h.hT, h.hS, h.hR, h.inj⟩
theorem ST.drewN (h : ST w T SB m R C F b) (k : Nat) : ST (w.drewN k) T SB m R C F b := ⟨h.hT, h.hS, h.hR, h.inj⟩
theorem ST.below (h : ST w T SB m R C F b) (hb : Below w.heap.size w w') : ST w' T SB m R C F b :=
  ⟨(hb.block _ h.ltT).trans h.hT, (hb.block _ h.ltS).trans h.hS, fun i hi hF => (h.hR i hi hF).blk (hb.block _ (h.ltR hi hF)), h.inj⟩
theorem ST.alloc (h : ST w T SB m R C F b) (o : Obj) : ST (w.alloc o) T SB m R C F b := h.below ((Below.refl _ _).alloc (Nat.le_refl _) o)
theorem ST.setT (h : ST w T SB m R C F b) (b' : Bool) : ST (w.setCell ⟨T, 1, none⟩ (.bool b')) T SB m R C F b' := by
  refine ⟨?_, (Below.heap_setCell _ _ _ _ h.neTS.symm).trans h.hS, fun i hi hF => (h.hR i hi hF).blk (Below.heap_setCell _ _ _ _ (h.neTR hi hF).symm), h.inj⟩
  rw [heap_setP w T 1 _ _ _ h.hT]; rfl
theorem ST.putS (h : ST w T SB m R C F b) {j G c : Nat} {v : List Sp} (hj : j < m) (hG : RowS w G v) (hv : v ≠ []) (hne : ∀ i, i < m → F i ≠ [] → G ≠ R i) :
    ST (w.setCell ⟨SB, j, none⟩ (.slice (some ⟨G, 0, none⟩) v.length c)) T SB m (updN R j G) (updN C j c) (updS F j v) b := by
  have hsb : SB ≠ G := h.neSG hG
  refine ⟨(Below.heap_setCell _ _ _ _ h.neTS).trans h.hT, ?_, fun i hi hF => ?_, fun i k hi hk hF hK e => ?_⟩
  · rw [heap_setP w SB j _ _ _ h.hS, List.setIfInBounds_toArray]
    congr 3
    refine List.ext_getElem? fun i => ?_
    rw [List.getElem?_set, List.getElem?_map, List.getElem?_map]
    by_cases hi : i < m
    · rw [List.getElem?_range hi]
      by_cases e : j = i
      · subst e
        rw [if_pos rfl, if_pos (by simpa using hj)]
        simp [rvS, updS, updN, hv]
      · rw [if_neg e]
        simp only [Option.map_some, Option.some.injEq]
        have e' : i ≠ j := fun h => e h.symm
        unfold rvS updS updN
        rw [if_neg e', if_neg e', if_neg e']
    · rw [if_neg (by intro e; omega), List.getElem?_eq_none (by simpa using hi)]; rfl
  · unfold updS updN at *
    by_cases e : i = j
    · rw [if_pos e, if_pos e]; exact hG.blk (Below.heap_setCell _ _ _ _ hsb.symm)
    · rw [if_neg e] at hF
      rw [if_neg e, if_neg e]
      exact (h.hR i hi hF).blk (Below.heap_setCell _ _ _ _ (h.neSR hi hF).symm)
  · unfold updS updN at *
    by_cases e1 : i = j
    · by_cases e2 : k = j
      · rw [e1, e2]
      · rw [if_pos e1, if_neg e2] at e
        rw [if_neg e2] at hK
        exact absurd e (hne k hk hK)
    · rw [if_neg e1] at hF
      by_cases e2 : k = j
      · rw [if_neg e1, if_pos e2] at e
        exact absurd e.symm (hne i hi hF)
      · rw [if_neg e2] at hK
        rw [if_neg e1, if_neg e2] at e
        exact h.inj i k hi hk hF hK e
theorem ST.setR (h : ST w T SB m R C F b) {j k : Nat} (hj : j < m) (hk : k < (F j).length) (y : Sp) :
    ST ((w.setCell ⟨R j, k * 2, none⟩ (.int .i64 y.1)).setCell ⟨R j, k * 2 + 1, none⟩ (.int .i64 y.2)) T SB m R C (updS F j ((F j).set k y)) b := by
  have hFj : F j ≠ [] := fun e => by rw [e] at hk; simp at hk
  have hn : ∀ x, x ≠ R j → ((w.setCell ⟨R j, k * 2, none⟩ (.int .i64 y.1)).setCell ⟨R j, k * 2 + 1, none⟩ (.int .i64 y.2)).heap[x]? = w.heap[x]? := fun x hx => (Below.heap_setCell _ _ _ _ hx).trans (Below.heap_setCell _ _ _ _ hx)
  have hem : ∀ i, updS F j ((F j).set k y) i = [] ↔ F i = [] := fun i => by
    unfold updS
    split
    · rename_i e; rw [e]; simp
    · exact Iff.rfl
  have hlen : ∀ i, (updS F j ((F j).set k y) i).length = (F i).length := fun i => by
    unfold updS
    split
    · rename_i e; rw [e]; simp
    · rfl
  refine ⟨(hn _ (h.neTR hj hFj)).trans h.hT, ?_, fun i hi hF => ?_, fun i k hi hk hF hK e => h.inj i k hi hk (fun e => hF ((hem i).2 e)) (fun e => hK ((hem k).2 e)) e⟩
  · rw [hn _ (h.neSR hj hFj), h.hS]
    congr 3
    refine List.map_congr_left fun i _ => ?_
    unfold rvS
    rw [hlen]
    by_cases e : F i = []
    · rw [if_pos e, if_pos ((hem i).2 e)]
    · rw [if_neg e, if_neg (fun e' => e ((hem i).1 e'))]
  · by_cases e : i = j
    · subst e
      rw [show updS F i ((F i).set k y) i = (F i).set k y from by unfold updS; rw [if_pos rfl]]
      exact (h.hR i hi hFj).set2 hk y
    · have hFi : F i ≠ [] := fun e' => hF ((hem i).2 e')
      rw [show updS F j ((F j).set k y) i = F i from by unfold updS; rw [if_neg e]]
      exact (h.hR i hi hFi).blk (hn _ (fun e' => e (h.inj i j hi hj hFi hFj e')))
theorem updS_upd (F : FnS) (j : Nat) (r s : List Sp) : updS (updS F j r) j s = updS F j s := by
  funext i; unfold updS; split <;> rfl
theorem updS_self (F : FnS) (j : Nat) : updS F j (F j) = F := by
  funext i; unfold updS; split <;> simp_all
theorem updS_at (F : FnS) (j : Nat) (r : List Sp) : updS F j r j = r := by unfold updS; rw [if_pos rfl]
end
end Go.Proofs.Ytadmmciiahdmcaa
