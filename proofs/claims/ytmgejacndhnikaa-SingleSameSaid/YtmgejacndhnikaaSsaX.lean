/- SingleSame, plain: what is known of a program's graph. -/
import Derived.Test.YtmgejacndhnikaaSsaW
namespace Go.Proofs.Ytmgejacndhnikaa

/-- Where a Join is for what P sets: the least set. -/
inductive Jv (ls : List (List Int)) (P : Nat → Prop) : Nat → Prop
  | put {d j : Nat} (h : P d) (he : W.EdgeF ls d j) : Jv ls P j
  | join {d j : Nat} (h : Jv ls P d) (he : W.EdgeF ls d j) : Jv ls P j
/-- A reached block that sets v; the beginning sets each. -/
def PutV (p : List Blk) (v d : Nat) : Prop := W.Rch (nexts p) d ∧ (d = 0 ∨ ∃ s ∈ (p.getD d bnul).code, s.to = (v : Int))
open Classical in
noncomputable def joinsX (vars : Nat) (p : List Blk) : List (List Int) := (List.range p.length).map fun i => ((List.range vars).filter fun v => decide (Jv (nexts p) (PutV p v) i)).map fun v : Nat => (v : Int)
noncomputable def envX (vars : Nat) (p : List Blk) : NE := ⟨p, nexts p, fromX (nexts p), joinsX vars p, vars⟩
theorem joinsX_mem {vars : Nat} {p : List Blk} {i : Nat} (hi : i < p.length) {v : Int} : v ∈ joinsAt (envX vars p) i ↔ ∃ u : Nat, v = u ∧ u < vars ∧ Jv (nexts p) (PutV p u) i := by
  have e : joinsAt (envX vars p) i = ((List.range vars).filter fun v => @decide (Jv (nexts p) (PutV p v) i) (Classical.propDecidable _)).map fun v : Nat => (v : Int) := by
    show (joinsX vars p).getD i [] = _
    unfold joinsX
    rw [List.getD_eq_getElem?_getD, List.getElem?_map, List.getElem?_range hi]; rfl
  rw [e, List.mem_map]
  constructor
  · rintro ⟨u, hu, rfl⟩
    obtain ⟨h1, h2⟩ := List.mem_filter.1 hu
    exact ⟨u, rfl, List.mem_range.1 h1, @of_decide_eq_true _ (Classical.propDecidable _) h2⟩
  · rintro ⟨u, rfl, h1, h2⟩
    exact ⟨u, List.mem_filter.2 ⟨List.mem_range.2 h1, @decide_eq_true _ (Classical.propDecidable _) h2⟩, rfl⟩
theorem joinsX_out {vars : Nat} {p : List Blk} {i : Nat} (hi : ¬ i < p.length) : joinsAt (envX vars p) i = [] := by
  show (joinsX vars p).getD i [] = _
  unfold joinsX
  rw [List.getD_eq_getElem?_getD, List.getElem?_map, List.getElem?_eq_none (by rw [List.length_range]; omega)]; rfl
theorem joinsX_nodup (vars : Nat) (p : List Blk) (i : Nat) : (joinsAt (envX vars p) i).Nodup := by
  by_cases hi : i < p.length
  · have e : joinsAt (envX vars p) i = ((List.range vars).filter fun v => @decide (Jv (nexts p) (PutV p v) i) (Classical.propDecidable _)).map fun v : Nat => (v : Int) := by
      show (joinsX vars p).getD i [] = _
      unfold joinsX
      rw [List.getD_eq_getElem?_getD, List.getElem?_map, List.getElem?_range hi]; rfl
    rw [e]
    exact List.Pairwise.map _ (fun a b h e => h (by omega)) (List.Pairwise.filter _ List.nodup_range)
  · rw [joinsX_out hi]; exact List.nodup_nil
theorem nexts_get {p : List Blk} {i : Nat} (hi : i < p.length) : (nexts p).getD i [] = nxB p[i] := by
  unfold nexts; rw [List.getD_eq_getElem?_getD, List.getElem?_map, List.getElem?_eq_getElem hi]; rfl
theorem nexts_out {p : List Blk} {i : Nat} (hi : ¬ i < p.length) : (nexts p).getD i [] = [] := by
  unfold nexts; rw [List.getD_eq_getElem?_getD, List.getElem?_map, List.getElem?_eq_none (by omega)]; rfl
theorem nx_in {vars : Int} {p : List Blk} (hp : POk vars p) {b : Blk} (hb : b ∈ p) : ∀ x ∈ nxB b, 0 ≤ x ∧ x < p.length := by
  have h := hp.bs b hb
  have h2 := h.two
  have h1 := h.one
  have h0 := h.lo
  intro x hx
  unfold nxB at hx
  rcases List.mem_append.1 hx with hx | hx
  · split at hx
    · obtain rfl := List.mem_singleton.1 hx
      by_cases ht : 0 ≤ b.test
      · exact (h2 ht).1
      · have := h1 (by omega); omega
    · cases hx
  · split at hx
    · rename_i hc
      obtain rfl := List.mem_singleton.1 hx
      exact (h2 hc.1).2
    · cases hx
theorem nexts_valid {vars : Int} {p : List Blk} (hp : POk vars p) : W.Valid (nexts p) := by
  intro l hl
  have hl' := hl
  unfold nexts at hl
  obtain ⟨b, hb, rfl⟩ := List.mem_map.1 hl
  have hn : (nexts p).length = p.length := by simp [nexts]
  refine ⟨?_, fun x hx => by rw [hn]; exact nx_in hp hb x hx⟩
  unfold nxB
  split <;> split <;> simp
theorem ed_edge {vars : Nat} {p : List Blk} {i j : Nat} : Ed (envX vars p) i j ↔ W.Edge (nexts p) (-1) i j := by
  show (j : Int) ∈ (nexts p).getD i [] ↔ _
  unfold W.Edge
  constructor
  · intro h
    by_cases hi : i < (nexts p).length
    · refine ⟨_, List.getElem?_eq_getElem hi, ?_, by omega⟩
      rwa [List.getD_eq_getElem?_getD, List.getElem?_eq_getElem hi] at h
    · rw [List.getD_eq_getElem?_getD, List.getElem?_eq_none (by omega)] at h
      cases h
  · rintro ⟨l, h1, h2, _⟩
    rw [List.getD_eq_getElem?_getD, h1]
    exact h2
theorem gr_ok {vars : Nat} {p : List Blk} (hp : POk vars p) : Gr (envX vars p) (W.Rch (nexts p)) (W.Dom (nexts p)) := by
  have hn : (nexts p).length = p.length := by simp [nexts]
  have hv := nexts_valid hp
  have h1 : 1 ≤ (nexts p).length := by rw [hn]; exact hp.n1
  have hfr : ∀ i, i < p.length → fromAt (envX vars p) i = if i = 0 then -1 :: turnRow (nexts p) 0 else turnRow (nexts p) i := fun i hi => by
    show (fromX (nexts p)).getD i [] = _
    unfold fromX
    have hl : (turnX (nexts p)).length = p.length := by simp [turnX, hn]
    rw [List.getD_eq_getElem?_getD, List.getElem?_set]
    by_cases e : 0 = i
    · subst e
      rw [if_pos rfl, if_pos (by rw [hl]; exact hi), if_pos rfl]; rfl
    · rw [if_neg e, if_neg (fun e2 => e e2.symm)]
      unfold turnX
      rw [List.getElem?_map, List.getElem?_range (by rw [hn]; exact hi)]; rfl
  have htr : ∀ l i : Nat, (l : Int) ∈ turnRow (nexts p) i ↔ Ed (envX vars p) l i := fun l i => by
    rw [turnRow_mem]
    constructor
    · rintro ⟨a, e, r, hr, hm⟩
      have e : l = a := by omega
      subst e
      exact ed_edge.2 ⟨r, hr, hm, by omega⟩
    · intro h
      obtain ⟨r, hr, hm, _⟩ := ed_edge.1 h
      exact ⟨l, rfl, r, hr, hm⟩
  refine ⟨hp, rfl, fun l i _ hi => ?_, ?_, fun i => ⟨joinsX_nodup vars p i, fun v hv' => ?_⟩, fun i x hx => ?_, W.Comes_.refl _ _ _, fun P h0 hs i hi => ?_, fun i j hi he => ?_, fun i hi => ?_, fun i hi => W.Dom.refl hi, fun i hi => W.Dom.zero hi, fun a i j hi he hd => W.Dom.back hi (ed_edge.1 he) hd, fun a h => W.dom_zero_only h, fun a b h g => W.Dom.antisymm h g, fun v d i j hv' hi hd he ho hf => ?_⟩
  · rw [hfr i hi]
    by_cases e : i = 0
    · subst e
      rw [if_pos rfl, List.mem_cons]
      constructor
      · rintro (h | h)
        · omega
        · exact (htr l 0).1 h
      · exact fun h => .inr ((htr l 0).2 h)
    · rw [if_neg e]; exact htr l i
  · rw [hfr 0 hp.n1, if_pos rfl]; exact List.mem_cons_self ..
  · by_cases hi : i < p.length
    · obtain ⟨u, rfl, hu, _⟩ := (joinsX_mem hi).1 hv'
      exact ⟨by omega, by show (u : Int) < vars; omega⟩
    · rw [joinsX_out hi] at hv'; cases hv'
  · by_cases hi : i < p.length
    · have hx : x ∈ (nexts p).getD i [] := hx
      rw [nexts_get hi] at hx
      exact (nx_in hp (List.getElem_mem hi) x hx).1
    · have hx : x ∈ (nexts p).getD i [] := hx
      rw [nexts_out hi] at hx; cases hx
  · exact W.Comes_.closed (p := P) h0 (fun b c hb he => hs b c hb (ed_edge.2 he)) i hi
  · exact W.Comes_.step hi (ed_edge.1 he)
  · have := W.Rch.lt h1 hv hi
    rwa [hn] at this
  · have hef : W.EdgeF (nexts p) d j := ⟨i, hd, ed_edge.1 he, ho⟩
    have hj : j < p.length := by
      have := W.Rch.lt h1 hv (W.Comes_.step hi (ed_edge.1 he))
      rwa [hn] at this
    refine (joinsX_mem hj).2 ⟨v, rfl, hv', ?_⟩
    have hRd := W.Dom.reached hd
    rcases hf with h0 | h0 | h0
    · exact .put ⟨hRd, .inl h0⟩ hef
    · exact .put ⟨hRd, .inr h0⟩ hef
    · have hdl : d < p.length := by
        have := W.Rch.lt h1 hv hRd
        rwa [hn] at this
      obtain ⟨u, e, _, hu⟩ := (joinsX_mem hdl).1 h0
      have e : v = u := by omega
      subst e
      exact .join hu hef
end Go.Proofs.Ytmgejacndhnikaa
