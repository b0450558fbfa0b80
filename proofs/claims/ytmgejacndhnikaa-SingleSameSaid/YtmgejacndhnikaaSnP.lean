/- SingleSame, plain: the named program may be. -/
import Derived.Test.YtmgejacndhnikaaSnB
import Derived.Test.YtmgejacndhnikaaSnF
namespace Go.Proofs.Ytmgejacndhnikaa
set_option maxRecDepth 100000

theorem map_range_getD {α β : Type} (g : α → β) (d : α) : ∀ l : List α, (List.range l.length).map (fun i => g (l.getD i d)) = l.map g := fun l => by
  apply List.ext_getElem (by simp)
  intro i h1 h2
  rw [List.getElem_map, List.getElem_map, List.getElem_range, List.getD_eq_getElem?_getD, List.getElem?_eq_getElem (by simpa using h2)]
  rfl
theorem sum_mono {f g : Nat → Nat} : ∀ (n : Nat), (∀ i, i < n → f i ≤ g i) → ((List.range n).map f).sum ≤ ((List.range n).map g).sum
  | 0, _ => by simp
  | n + 1, h => by
    have h1 := sum_mono n (fun i hi => h i (by omega))
    have h2 := h n (by omega)
    rw [List.range_succ, List.map_append, List.map_append, List.sum_append, List.sum_append]
    simp
    omega
theorem sum_add {f g : Nat → Nat} : ∀ (n : Nat), ((List.range n).map fun i => f i + g i).sum = ((List.range n).map f).sum + ((List.range n).map g).sum
  | 0 => by simp
  | n + 1 => by
    have h1 := sum_add (f := f) (g := g) n
    rw [List.range_succ, List.map_append, List.map_append, List.map_append, List.sum_append, List.sum_append, List.sum_append, h1]
    simp
    omega
section
variable {E : NE} {R : Nat → Prop} {D : Nat → Nat → Prop} {base : Nat → Nat} {nin : Nat → List Int} {own : Int → Nat} {st : NS}
theorem code_sum (E : NE) : ((List.range E.p.length).map fun i => (codeAt E i).length).sum = manyB E.p := by
  unfold manyB codeAt
  rw [map_range_getD (fun b : Blk => b.code.length) bnul]
theorem Inv.many_74 (hG : Gr E R D) (h : Inv E R D st base nin own) : st.many ≤ 74 := by
  have h1 := h.tot
  have h6 := hG.ok.v6
  have h8 := hG.ok.n8
  have hm := hG.ok.many
  have h2 : sumN E st.done ≤ ((List.range E.p.length).map fun i => 6 + (codeAt E i).length).sum := sum_mono _ (fun i hi => by
    split
    · unfold lenN
      have := joins_6 hG i
      omega
    · omega)
  rw [sum_add, code_sum] at h2
  have h3 : ((List.range E.p.length).map fun _ : Nat => 6).sum ≤ E.p.length * 6 := sum_le _ (fun _ _ => Nat.le_refl _)
  omega
theorem ren_names (hG : Gr E R D) (h : Inv E R D st base nin own) {i : Nat} (hd : st.done.testBit i = true) (k : Nat) {v : Nat} (hv : v < E.vars) : 0 ≤ (renC (nin i) (base i + (joinsAt E i).length) ((codeAt E i).take k)).2.getD v 0 ∧ (renC (nin i) (base i + (joinsAt E i).length) ((codeAt E i).take k)).2.getD v 0 < st.many := by
  have hin := hG.rlt i (h.dlt i hd)
  have hN := h.nd i hd
  have hbok := hG.ok.bs _ (List.getElem_mem hin)
  rw [← bget hin] at hbok
  have hhi := hN.hi
  unfold lenN at hhi
  rcases renC_at (vars := E.vars) ((codeAt E i).take k) (nin i) (base i + (joinsAt E i).length) hN.nl (fun s hs => by
    have := (hbok.code s (List.mem_of_mem_take hs)).2.2.2.2.1
    omega) v hv with ⟨e, -⟩ | ⟨m, s, e1, e2, e3⟩
  · rw [e]
    exact ⟨((h.ow i hd).1 v hv).2, (h.bd i hd v hv).1⟩
  · rw [e3]
    have hm := (List.getElem?_eq_some_iff.1 e1).1
    rw [List.length_take] at hm
    omega
theorem out_ins (hG : Gr E R D) (h : Done E R D base nin own) (hF : Frs (endN E)) {i : Nat} (hi : i < E.p.length) : InsOk ((endN E).out.getD i sgnul) (fromAt E i).length := by
  have h74 := Inv.many_74 hG h.inv
  have h6 := hG.ok.v6
  have hbok := hG.ok.bs _ (List.getElem_mem hi)
  rw [← bget hi] at hbok
  by_cases hd : (endN E).done.testBit i = true
  · have hN := h.inv.nd i hd
    have hhi := hN.hi
    unfold lenN at hhi
    obtain ⟨o1, o2, o3, o4⟩ := h.inv.ow i hd
    have hlast : ∀ v : Nat, v < E.vars → NmOk ((lastN i (endN E)).getD v 0) := fun v hv => ⟨(o2 v hv).2, by have := (h.inv.bd i hd v hv).2; unfold nm at this; omega⟩
    refine ⟨fun j hj => ?_, fun s hs => ?_, fun ht => ?_, fun x hx => ?_⟩
    · obtain ⟨k, hk⟩ := List.getElem?_of_mem hj
      have hkl := (List.getElem?_eq_some_iff.1 hk).1
      rw [hN.jl] at hkl
      obtain ⟨e1, e2⟩ := hN.jt k j hk
      refine ⟨e2, ⟨by omega, by omega⟩, fun x hx => ?_⟩
      have := hF i j x hj hx
      exact ⟨this.1, by omega⟩
    · rw [hN.code] at hs
      obtain ⟨k, hk⟩ := List.getElem?_of_mem hs
      have hkl := (List.getElem?_eq_some_iff.1 hk).1
      rw [(renC_len _ _ _).1] at hkl
      have hg := List.getElem?_eq_getElem hkl
      rw [renC_get _ _ _ k _ hg] at hk
      injection hk with hk
      subst hk
      have hso := hbok.code _ (List.getElem_mem hkl)
      generalize (codeAt E i)[k] = s at *
      obtain ⟨s1, s6, sv1, sv2, -, sab⟩ := hso
      have hn : ∀ x : Int, 0 ≤ x → x < E.vars → NmOk (gI (renC (nin i) (base i + (joinsAt E i).length) ((codeAt E i).take k)).2 x) := fun x h0 h1 => by
        have := ren_names hG h.inv hd k (v := x.toNat) (by omega)
        exact ⟨this.1, by unfold gI; omega⟩
      unfold renS
      refine ⟨s1, s6, fun e => ?_, ⟨Int.natCast_nonneg _, by show ((base i + (joinsAt E i).length + k : Nat) : Int) < 128; omega⟩, fun x hx => ?_⟩
      · show 0 ≤ (if s.op = 2 then _ else s.val) ∧ (if s.op = 2 then _ else s.val) ≤ 255
        have e : s.op = 1 := e
        rw [if_neg (by omega)]
        exact sv1 e
      · unfold usesL at hx
        dsimp only at hx
        by_cases e1 : s.op = 1
        · rw [if_pos e1] at hx; exact absurd hx List.not_mem_nil
        · rw [if_neg e1] at hx
          by_cases e2 : s.op = 2
          · rw [if_pos e2, if_pos e2] at hx
            rw [List.mem_singleton.1 hx]
            exact hn _ (sv2 e2).1 (sv2 e2).2
          · rw [if_neg e2, if_pos (by omega), if_pos (by omega)] at hx
            have := sab (by omega)
            simp at hx
            rcases hx with rfl | rfl
            · exact hn _ this.1.1 this.1.2
            · exact hn _ this.2.1 this.2.2
    · rw [hN.test] at ht ⊢
      by_cases e : 0 ≤ (E.p.getD i bnul).test
      · rw [if_pos e]
        have := hlast (E.p.getD i bnul).test.toNat (by have := hbok.hi; omega)
        have e2 : lastN i (endN E) = _ := hN.last
        rw [e2] at this
        exact this.2
      · rw [if_neg e] at ht; omega
    · obtain ⟨v, hv⟩ := List.getElem?_of_mem hx
      have hvl := (List.getElem?_eq_some_iff.1 hv).1
      have hl : (lastN i (endN E)).length = E.vars := by
        show ((endN E).out.getD i sgnul).last.length = _
        rw [hN.last, (renC_len _ _ _).2, hN.nl]
      have := hlast v (by rw [← hl]; exact hvl)
      have e : (lastN i (endN E)).getD v 0 = x := by
        rw [List.getD_eq_getElem?_getD]
        show (((endN E).out.getD i sgnul).last[v]?).getD 0 = x
        rw [hv]; rfl
      rwa [e] at this
  · have e := h.inv.raw i hi (by simpa using hd)
    rw [e]
    refine ⟨fun j hj => absurd hj List.not_mem_nil, fun s hs => absurd hs List.not_mem_nil, fun ht => ?_, fun x hx => ?_⟩
    · show (if 0 ≤ (E.p.getD i bnul).test then (E.p.getD i bnul).test else -1) < 128
      split
      · have := hbok.hi; omega
      · omega
    · have hx : x ∈ firstL E := hx
      unfold firstL at hx
      obtain ⟨v, hv, rfl⟩ := List.mem_map.1 hx
      have := List.mem_range.1 hv
      exact ⟨by omega, by omega⟩
/-- What stands of a block besides its names. -/
theorem out_shape (hG : Gr E R D) (h : Done E R D base nin own) {i : Nat} (hi : i < E.p.length) : ((endN E).out.getD i sgnul).thn = (E.p.getD i bnul).thn ∧ ((endN E).out.getD i sgnul).els = (E.p.getD i bnul).els ∧ ((endN E).out.getD i sgnul).last.length = E.vars ∧ (0 ≤ ((endN E).out.getD i sgnul).test ↔ 0 ≤ (E.p.getD i bnul).test) ∧ -1 ≤ ((endN E).out.getD i sgnul).test ∧ ((endN E).out.getD i sgnul).code.length ≤ (codeAt E i).length ∧ ((endN E).out.getD i sgnul).joins.length ≤ 6 := by
  have hbok := hG.ok.bs _ (List.getElem_mem hi)
  rw [← bget hi] at hbok
  by_cases hd : (endN E).done.testBit i = true
  · have hN := h.inv.nd i hd
    obtain ⟨o1, o2, o3, o4⟩ := h.inv.ow i hd
    have e2 : lastN i (endN E) = _ := hN.last
    have ht : 0 ≤ (E.p.getD i bnul).test → 0 ≤ gI (renC (nin i) (base i + (joinsAt E i).length) (codeAt E i)).2 (E.p.getD i bnul).test := fun e => by
      rw [← e2]
      exact (o2 _ (by have := hbok.hi; omega)).2
    refine ⟨hN.thn, hN.els, by rw [hN.last, (renC_len _ _ _).2, hN.nl], ?_, ?_, by rw [hN.code, (renC_len _ _ _).1]; exact Nat.le_refl _, by rw [hN.jl]; exact joins_6 hG i⟩
    · rw [hN.test]
      by_cases e : 0 ≤ (E.p.getD i bnul).test
      · rw [if_pos e]; exact ⟨fun _ => e, fun _ => ht e⟩
      · rw [if_neg e]; exact ⟨fun h => by omega, fun h => absurd h e⟩
    · rw [hN.test]
      by_cases e : 0 ≤ (E.p.getD i bnul).test
      · rw [if_pos e]; have := ht e; omega
      · rw [if_neg e]; exact Int.le_refl _
  · have e := h.inv.raw i hi (by simpa using hd)
    rw [e]
    refine ⟨rfl, rfl, firstL_len E, ?_, ?_, Nat.zero_le _, Nat.zero_le _⟩
    · show 0 ≤ (if 0 ≤ (E.p.getD i bnul).test then (E.p.getD i bnul).test else -1) ↔ _
      split
      · exact Iff.rfl
      · exact ⟨fun h => by omega, fun h => absurd h (by assumption)⟩
    · show -1 ≤ (if 0 ≤ (E.p.getD i bnul).test then (E.p.getD i bnul).test else -1)
      split
      · omega
      · exact Int.le_refl _
end
/-- A block without what is in it. -/
def bareB (b : Sg) : Blk := ⟨[], b.test, b.thn, b.els⟩
/-- A named program may be; frm: where one comes from. -/
structure SgOk (vars : Int) (l : List Sg) (frm : List (List Int)) : Prop where
  v1 : 1 ≤ vars
  v6 : vars ≤ 6
  n1 : 1 ≤ l.length
  n8 : l.length ≤ 8
  steps : sumS l ≤ 20
  joins : sumJ l ≤ 64
  lo : ∀ b ∈ l, -1 ≤ b.test
  two : ∀ b ∈ l, 0 ≤ b.test → (0 ≤ b.thn ∧ b.thn < l.length) ∧ 0 ≤ b.els ∧ b.els < l.length
  one : ∀ b ∈ l, b.test < 0 → b.thn = -1 ∨ (0 ≤ b.thn ∧ b.thn < l.length)
  last : ∀ b ∈ l, (b.last.length : Int) = vars
  fe : frm = fromX (nexts (l.map bareB))
  ins : ∀ i, i < l.length → InsOk (l.getD i sgnul) (frm.getD i []).length
theorem end_ok {vars : Nat} {p : List Blk} (hp : POk vars p) : SgOk vars (endN (envX vars p)).out (fromX (nexts p)) ∧ nexts ((endN (envX vars p)).out.map bareB) = nexts p ∧ (endN (envX vars p)).out.length = p.length := by
  have hG := gr_ok hp
  obtain ⟨base, nin, own, h⟩ := end_done hG
  have hF := end_fr hG
  have hlen : (endN (envX vars p)).out.length = p.length := h.inv.len
  have hsh := fun i (hi : i < p.length) => out_shape hG h (i := i) hi
  have hins := fun i (hi : i < p.length) => out_ins hG h hF (i := i) hi
  generalize (endN (envX vars p)).out = out at *
  have hget : ∀ b ∈ out, ∃ i, i < p.length ∧ b = out.getD i sgnul := fun b hb => by
    obtain ⟨i, hi⟩ := List.getElem?_of_mem hb
    refine ⟨i, by rw [← hlen]; exact (List.getElem?_eq_some_iff.1 hi).1, ?_⟩
    rw [List.getD_eq_getElem?_getD, hi]; rfl
  have hnx : nexts (out.map bareB) = nexts p := by
    unfold nexts
    apply List.ext_getElem (by simp [hlen])
    intro i h1 h2
    have hi : i < p.length := by simpa using h2
    have hio : i < out.length := by omega
    rw [List.getElem_map, List.getElem_map, List.getElem_map]
    obtain ⟨e1, e2, -, e4, -⟩ := hsh i hi
    have eo : out.getD i sgnul = out[i] := by rw [List.getD_eq_getElem?_getD, List.getElem?_eq_getElem hio]; rfl
    rw [eo] at e1 e2 e4
    have e1 : out[i].thn = p[i].thn := by rw [e1]; exact congrArg Blk.thn (bget hi)
    have e2 : out[i].els = p[i].els := by rw [e2]; exact congrArg Blk.els (bget hi)
    have e4 : 0 ≤ out[i].test ↔ 0 ≤ p[i].test := e4.trans (by rw [show (envX vars p).p.getD i bnul = p[i] from bget hi])
    unfold nxB bareB
    dsimp only
    rw [e1, e2]
    by_cases ht : 0 ≤ p[i].test
    · have := e4.2 ht
      simp [ht, this]
    · have : ¬ 0 ≤ out[i].test := fun e => ht (e4.1 e)
      simp [ht, this]
  refine ⟨⟨hp.v1, hp.v6, by rw [hlen]; exact hp.n1, by rw [hlen]; exact hp.n8, ?_, ?_, fun b hb => ?_, fun b hb ht => ?_, fun b hb ht => ?_, fun b hb => ?_, by rw [hnx], fun i hi => ?_⟩, hnx, hlen⟩
  · unfold sumS
    rw [← map_range_getD (fun b : Sg => b.code.length) sgnul, hlen]
    refine Nat.le_trans (sum_mono _ (fun i hi => (hsh i hi).2.2.2.2.2.1)) ?_
    have := code_sum (envX vars p)
    have e : (envX vars p).p.length = p.length := rfl
    rw [e] at this
    rw [this]
    exact hp.many
  · unfold sumJ
    rw [← map_range_getD (fun b : Sg => b.joins.length) sgnul, hlen]
    have := sum_le (f := fun i => (out.getD i sgnul).joins.length) (c := 6) p.length (fun i hi => (hsh i hi).2.2.2.2.2.2)
    have := hp.n8
    omega
  · obtain ⟨i, hi, rfl⟩ := hget b hb
    exact (hsh i hi).2.2.2.2.1
  · obtain ⟨i, hi, rfl⟩ := hget b hb
    obtain ⟨e1, e2, -, e4, -⟩ := hsh i hi
    have hbok := hp.bs _ (List.getElem_mem hi)
    rw [← bget hi] at hbok
    have := hbok.two (e4.1 ht)
    rw [e1, e2, hlen]
    exact this
  · obtain ⟨i, hi, rfl⟩ := hget b hb
    obtain ⟨e1, e2, -, e4, -⟩ := hsh i hi
    have hbok := hp.bs _ (List.getElem_mem hi)
    rw [← bget hi] at hbok
    have hlo := hbok.lo
    have := hbok.one (by
      have : ¬ 0 ≤ (p.getD i bnul).test := fun e => by have := e4.2 e; omega
      omega)
    rw [e1, hlen]
    exact this
  · obtain ⟨i, hi, rfl⟩ := hget b hb
    have := (hsh i hi).2.2.1
    rw [this]
    rfl
  · rw [hlen] at hi
    exact hins i hi
end Go.Proofs.Ytmgejacndhnikaa
