/- SingleSame, plain: the names that Joins get; a named program may be. -/
import Derived.Test.YtmgejacndhnikaaSsaX
namespace Go.Proofs.Ytmgejacndhnikaa

/-- What Joins have are names. -/
def Frs (st : NS) : Prop := ∀ (i : Nat) (j : Jn) (x : Int), j ∈ (st.out.getD i sgnul).joins → x ∈ j.fr → 0 ≤ x ∧ x < st.many
theorem fillJ_fr {x : Nat} {vs : List Int} {js : List Jn} {ns : List Int} (hl : vs.length = js.length) (h0 : ∀ v ∈ vs, 0 ≤ v) (hd : vs.Nodup) {j : Jn} (hj : j ∈ (fillJ x vs js ns).1) {y : Int} (hy : y ∈ j.fr) : (∃ q ∈ js, y ∈ q.fr) ∨ ∃ v ∈ vs, y = gI ns v := by
  obtain ⟨h1, h2⟩ := fillJ_1 (x := x) vs js ns hl h0 hd
  obtain ⟨k, hk⟩ := List.getElem?_of_mem hj
  have hkl : k < js.length := by rw [← h1]; exact (List.getElem?_eq_some_iff.1 hk).1
  have hkv : k < vs.length := by omega
  rw [h2 k _ _ (List.getElem?_eq_getElem hkv) (List.getElem?_eq_getElem hkl)] at hk
  injection hk with hk
  subst hk
  rcases List.mem_or_eq_of_mem_set hy with h | h
  · exact .inl ⟨_, List.getElem_mem hkl, h⟩
  · exact .inr ⟨_, List.getElem_mem hkv, h⟩
section
variable {E : NE} {R : Nat → Prop} {D : Nat → Nat → Prop} {base : Nat → Nat} {nin : Nat → List Int} {own : Int → Nat} {st : NS}
theorem src_names (h : Inv E R D st base nin own) {l : Int} {i : Nat} (hc : Come E st l i) {v : Int} (h0 : 0 ≤ v) (h1 : v < E.vars) : 0 ≤ gI (srcOf E st l) v ∧ gI (srcOf E st l) v < st.many := by
  unfold gI
  rcases hc with ⟨rfl, _⟩ | ⟨r, rfl, hr, _, _⟩
  · unfold srcOf
    rw [if_pos (by omega), firstL_get E (by omega)]
    have := h.many
    omega
  · rw [src_nat]
    have h2 := ((h.ow r hr).2.1 v.toNat (by omega)).2
    have h3 := (h.bd r hr v.toNat (by omega)).2
    unfold nm at h3
    exact ⟨h2, h3⟩
theorem again_fr (hG : Gr E R D) (h : Inv E R D st base nin own) {l : Int} {i : Nat} (hd : st.done.testBit i = true) (hc : Come E st l i) (hF : Frs st) : Frs (againN E l i (srcOf E st l) st) := by
  have hi : i < st.out.length := by rw [h.len]; exact hG.rlt i (h.dlt i hd)
  have hN := h.nd i hd
  have hJ := hG.js i
  have hfi : firstIn E i st = (st.out.getD i sgnul).joins := by unfold firstIn; rw [if_pos hd]
  intro k j x hj hx
  unfold againN at hj
  dsimp only at hj
  rw [getS_set hi] at hj
  by_cases e : i = k
  · rw [if_pos e] at hj
    dsimp only at hj
    unfold filled at hj
    rw [hfi] at hj
    rcases fillJ_fr hN.jl.symm (fun v hv => (hJ.2 v hv).1) hJ.1 hj hx with ⟨q, hq, hy⟩ | ⟨v, hv, rfl⟩
    · exact hF i q x hq hy
    · exact src_names h hc (hJ.2 v hv).1 (hJ.2 v hv).2
  · rw [if_neg e] at hj
    exact hF k j x hj hx
theorem first_fr (hG : Gr E R D) (h : Inv E R D st base nin own) {l : Int} {i : Nat} (hd : st.done.testBit i = false) (hR : R i) (hc : Come E st l i) (hF : Frs st) : Frs (firstN E l i (srcOf E st l) st) := by
  have hip := hG.rlt i hR
  have hi : i < st.out.length := by rw [h.len]; exact hip
  have hJ := hG.js i
  have hraw := h.raw i hip hd
  have hm : st.many ≤ (firstN E l i (srcOf E st l) st).many := by
    unfold firstN manyIn
    rw [hd]
    simp
    omega
  have hfi : firstIn E i st = mkJ st.many (joinsAt E i).length (fromAt E i).length := by
    unfold firstIn
    rw [if_neg (by rw [hd]; simp), hraw]
    rfl
  intro k j x hj hx
  have key : 0 ≤ x ∧ x < st.many ∨ x = 0 := by
    have hj : j ∈ ((st.out.set i (nameB (E.p.getD i bnul) (st.out.getD i sgnul) (filled E l i (srcOf E st l) st).1 (filled E l i (srcOf E st l) st).2 (manyIn E i st))).getD k sgnul).joins := hj
    rw [getS_set hi] at hj
    by_cases e : i = k
    · rw [if_pos e] at hj
      have hj : j ∈ (filled E l i (srcOf E st l) st).1 := hj
      unfold filled at hj
      rw [hfi] at hj
      rcases fillJ_fr (mkJ_len _ _ _).symm (fun v hv => (hJ.2 v hv).1) hJ.1 hj hx with ⟨q, hq, hy⟩ | ⟨v, hv, rfl⟩
      · right
        unfold mkJ at hq
        obtain ⟨a, _, rfl⟩ := List.mem_map.1 hq
        exact (List.mem_replicate.1 hy).2
      · exact .inl (src_names h hc (hJ.2 v hv).1 (hJ.2 v hv).2)
    · rw [if_neg e] at hj
      exact .inl (hF k j x hj hx)
  have hv := hG.ok.v1
  have hm2 := h.many
  rcases key with ⟨h1, h2⟩ | h1 <;> omega
end
theorem walks_fr {E : NE} {R : Nat → Prop} {D : Nat → Nat → Prop} (hG : Gr E R D) {f : Nat}
    (ih : ∀ (st : NS) (base : Nat → Nat) (nin : Nat → List Int) (own : Int → Nat) (l : Int) (i : Nat), Inv E R D st base nin own → undN E st < f → R i → l ∈ fromAt E i → Come E st l i → Frs st → Frs (walkN E f l i (srcOf E st l) st))
    {i : Nat} : ∀ (js : List Int) (st : NS) (base : Nat → Nat) (nin : Nat → List Int) (own : Int → Nat), Inv E R D st base nin own → undN E st < f → st.done.testBit i = true → st.done.testBit 0 = true → (∀ j ∈ js, 0 ≤ j ∧ j ∈ E.next.getD i []) → Frs st →
      Frs (walksN E f i (lastN i st) js st)
  | [], st, base, nin, own, h, _, _, _, _, hF => by rw [walksN]; exact hF
  | j :: js, st, base, nin, own, h, hu, hi, h0, hjs, hF => by
    rw [walksN]
    obtain ⟨j0, j1⟩ := hjs j (by simp)
    have hed : Ed E i j.toNat := by unfold Ed; rw [show ((j.toNat : Nat) : Int) = j by omega]; exact j1
    have hRi := h.dlt i hi
    have hRj := hG.rs i _ hRi hed
    have hm : ((i : Nat) : Int) ∈ fromAt E j.toNat := (hG.frm i j.toNat (hG.rlt i hRi) (hG.rlt _ hRj)).2 hed
    have hF1 := ih st base nin own (i : Int) j.toNat h hu hRj hm (.inr ⟨i, rfl, hi, hed, h0⟩) hF
    obtain ⟨⟨b1, n1, o1, hI1, hE1, -⟩, -⟩ := walk_ok hG f st base nin own (i : Int) j.toNat h hu hRj hm (.inr ⟨i, rfl, hi, hed, h0⟩)
    rw [src_nat] at hI1 hE1 hF1
    have hl := hE1.last i hi
    have := walks_fr hG ih js _ b1 n1 o1 hI1 (Nat.lt_of_le_of_lt (und_le hE1.done) hu) (hE1.done i hi) (hE1.done 0 h0) (fun k hk => hjs k (by simp [hk])) hF1
    rw [hl] at this
    exact this
theorem walk_fr {E : NE} {R : Nat → Prop} {D : Nat → Nat → Prop} (hG : Gr E R D) : ∀ (f : Nat) (st : NS) (base : Nat → Nat) (nin : Nat → List Int) (own : Int → Nat) (l : Int) (i : Nat), Inv E R D st base nin own → undN E st < f → R i → l ∈ fromAt E i → Come E st l i → Frs st → Frs (walkN E f l i (srcOf E st l) st)
  | 0, _, _, _, _, _, _, _, h, _, _, _, _ => absurd h (Nat.not_lt_zero _)
  | f + 1, st, base, nin, own, l, i, h, hu, hR, hm, hc, hF => by
    rw [walkN]
    by_cases hd : st.done.testBit i = true
    · rw [if_pos hd]
      exact again_fr hG h hd hc hF
    · rw [if_neg hd]
      have hd' : st.done.testBit i = false := by simpa using hd
      have hcm : Cm E st l i := by
        rcases hc with e | ⟨r, e1, e2, e3, e4⟩
        · exact .inl e
        · exact .inr ⟨r, e1, e2, e3, fun e => by subst e; exact hd e4⟩
      have hF1 := first_fr hG h hd' hR hc hF
      obtain ⟨b1, n1, o1, hI1, hE1, hW1, hbit⟩ := first_ok hG h hd' hR hm hcm
      have hi1 := (hbit i).2 (.inr rfl)
      have h01 : (firstN E l i (srcOf E st l) st).done.testBit 0 = true := by
        rcases hc with ⟨_, rfl⟩ | ⟨r, _, _, _, e4⟩
        · exact hi1
        · exact hE1.done 0 e4
      have hu1 := und_lt hE1.done (hG.rlt i hR) hd' hi1
      exact walks_fr hG (walk_fr hG f) (i := i) (E.next.getD i []) _ b1 n1 o1 hI1 (by omega) hi1 h01 (fun j hj => ⟨hG.nn i j hj, hj⟩) hF1
theorem end_fr {E : NE} {R : Nat → Prop} {D : Nat → Nat → Prop} (hG : Gr E R D) : Frs (endN E) := by
  have hu : undN E (startN E) < E.p.length + 1 := by
    have := List.length_filter_le (fun i => !(startN E).done.testBit i) (List.range E.p.length)
    rw [List.length_range] at this
    unfold undN
    omega
  have := walk_fr hG (E.p.length + 1) (startN E) _ _ _ (-1) 0 (start_inv (E := E) (R := R) (D := D)) hu hG.r0 hG.frm0 (.inl ⟨rfl, rfl⟩) (fun i j x hj _ => by
    have : (startN E).out.getD i sgnul = rawSg E i ∨ (startN E).out.getD i sgnul = sgnul := by
      unfold startN
      dsimp only
      rw [List.getD_eq_getElem?_getD, List.getElem?_map]
      rcases Nat.lt_or_ge i E.p.length with h | h
      · rw [List.getElem?_range h]; exact .inl rfl
      · rw [List.getElem?_eq_none (by simpa using h)]; exact .inr rfl
    rcases this with e | e <;> (rw [e] at hj; exact absurd hj List.not_mem_nil))
  have e : srcOf E (startN E) (-1) = firstL E := by unfold srcOf; rw [if_pos (by decide)]
  rw [e] at this
  exact this
end Go.Proofs.Ytmgejacndhnikaa
