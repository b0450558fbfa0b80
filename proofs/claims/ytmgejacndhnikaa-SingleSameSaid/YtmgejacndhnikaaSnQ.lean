/- SingleSame, plain: the named program is what Once asks for, and its run goes with the block's. -/
import Derived.Test.YtmgejacndhnikaaSnM
namespace Go.Proofs.Ytmgejacndhnikaa
set_option maxRecDepth 100000
section
variable {E : NE} {R : Nat → Prop} {D : Nat → Nat → Prop} {base : Nat → Nat} {nin : Nat → List Int} {own : Int → Nat}
theorem nodup_incr {l : List Int} (h : l.Pairwise (· < ·)) : l.Nodup := h.imp (fun h => by omega)
theorem frow_nodup (ls : List (List Int)) (i : Nat) : ((fromX ls).getD i []).Nodup := by
  have hrow : (fromX ls).getD i [] = [] ∨ (fromX ls).getD i [] = turnRow ls i ∨ ((fromX ls).getD i [] = -1 :: turnRow ls i) := by
    unfold fromX turnX
    rw [List.getD_eq_getElem?_getD, List.getElem?_set]
    by_cases h0 : 0 = i
    · subst h0
      rw [if_pos rfl]
      by_cases hl : 0 < ((List.range ls.length).map (turnRow ls)).length
      · rw [if_pos hl]; exact .inr (.inr rfl)
      · rw [if_neg hl]; exact .inl rfl
    · rw [if_neg h0, List.getElem?_map]
      by_cases hl : i < ls.length
      · rw [List.getElem?_range hl]; exact .inr (.inl rfl)
      · rw [List.getElem?_eq_none (by simpa using hl)]; exact .inl rfl
  rcases hrow with e | e | e <;> rw [e]
  · exact List.nodup_nil
  · exact nodup_incr (turnRow_incr ls i)
  · refine nodup_incr (List.pairwise_cons.2 ⟨fun x hx => ?_, turnRow_incr ls i⟩)
    obtain ⟨a, rfl, -⟩ := turnRow_mem.1 hx
    omega
theorem frow_mem {ls : List (List Int)} {i : Nat} {x : Int} (h : x ∈ (fromX ls).getD i []) : (x = -1 ∧ i = 0) ∨ ∃ a : Nat, x = a ∧ a < ls.length ∧ (i : Int) ∈ ls.getD a [] := by
  have hT : x ∈ turnRow ls i → ∃ a : Nat, x = a ∧ a < ls.length ∧ (i : Int) ∈ ls.getD a [] := fun h => by
    obtain ⟨a, rfl, r, hr, hm⟩ := turnRow_mem.1 h
    refine ⟨a, rfl, (List.getElem?_eq_some_iff.1 hr).1, ?_⟩
    rw [List.getD_eq_getElem?_getD, hr]; exact hm
  unfold fromX turnX at h
  rw [List.getD_eq_getElem?_getD, List.getElem?_set] at h
  by_cases h0 : 0 = i
  · subst h0
    rw [if_pos rfl] at h
    by_cases hl : 0 < ((List.range ls.length).map (turnRow ls)).length
    · rw [if_pos hl] at h
      rcases List.mem_cons.1 (show x ∈ -1 :: turnRow ls 0 from h) with rfl | h
      · exact .inl ⟨rfl, rfl⟩
      · exact .inr (hT h)
    · rw [if_neg hl] at h; exact absurd h List.not_mem_nil
  · rw [if_neg h0, List.getElem?_map] at h
    by_cases hl : i < ls.length
    · rw [List.getElem?_range hl] at h; exact .inr (hT h)
    · rw [List.getElem?_eq_none (by simpa using hl)] at h; exact absurd h List.not_mem_nil
theorem idx_nodup {l : List Int} (h : l.Nodup) {k : Nat} (hk : k < l.length) : l.idxOf l[k] = k := by
  induction l generalizing k with
  | nil => exact absurd hk (Nat.not_lt_zero _)
  | cons a l ih =>
    obtain ⟨h1, h2⟩ := List.nodup_cons.1 h
    cases k with
    | zero => simp
    | succ k =>
      have hk' : k < l.length := by simpa using hk
      rw [List.getElem_cons_succ, List.idxOf_cons]
      have : (a == l[k]) = false := by
        rw [beq_eq_false_iff_ne]
        intro e
        exact h1 (e ▸ List.getElem_mem hk')
      rw [this]
      show l.idxOf l[k] + 1 = k + 1
      rw [ih h2 hk']
/-- The entries of Joins. -/
theorem once_jn (hG : Gr E R D) (h : Done E R D base nin own) {frm : List (List Int)} (hfe : frm = fromX E.next) (hEf : E.frm = frm) (hnl : E.next.length = E.p.length) : ∀ i, i < E.p.length → R i → ∀ j ∈ ((endN E).out.getD i sgnul).joins, ∀ k, k < j.fr.length →
    (0 ≤ gI (frm.getD i []) (k : Nat) ∧ gI (frm.getD i []) (k : Nat) < E.next.length ∧ ¬ R (gI (frm.getD i []) (k : Nat)).toNat) ∨ (gI (frm.getD i []) (k : Nat) < E.next.length ∧ (0 ≤ gI (frm.getD i []) (k : Nat) → R (gI (frm.getD i []) (k : Nat)).toNat) ∧ SetA D (preE E.vars (endN E).out E.p.length) (j.fr.getD k 0) (gI (frm.getD i []) (k : Nat)) 20) := by
  intro i hi hR j hj k hk
  obtain ⟨m, hm⟩ := List.getElem?_of_mem hj
  obtain ⟨hd, hw⟩ := h.all i hR
  have hN := h.inv.nd i hd
  have hjt := (hN.jt m j hm).2
  have hml : m < (joinsAt E i).length := by rw [← hN.jl]; exact (List.getElem?_eq_some_iff.1 hm).1
  have hv := List.getElem?_eq_getElem hml
  obtain ⟨-, hjs⟩ := hG.js i
  obtain ⟨v0, v1⟩ := hjs _ (List.getElem_mem hml)
  generalize (joinsAt E i)[m] = v at *
  have hrow : fromAt E i = frm.getD i [] := by unfold fromAt; rw [hEf]
  have hkl : k < (frm.getD i []).length := by rw [← hrow, ← hjt]; exact hk
  have hx : gI (frm.getD i []) (k : Nat) = (frm.getD i [])[k] := by
    unfold gI; rw [Int.toNat_natCast, List.getD_eq_getElem?_getD, List.getElem?_eq_getElem hkl]; rfl
  have hxm := List.getElem_mem hkl
  have hix := idx_nodup (by rw [hfe]; exact frow_nodup E.next i) hkl
  rw [hx]
  generalize (frm.getD i [])[k] = x at *
  obtain ⟨v, rfl⟩ := Int.eq_ofNat_of_zero_le v0
  have hvn : v < E.vars := by omega
  rcases frow_mem (ls := E.next) (by rw [← hfe]; exact hxm) with ⟨rfl, rfl⟩ | ⟨a, rfl, ha, hai⟩
  · refine .inr ⟨by omega, fun h => absurd h (by decide), ?_⟩
    have hf := h.zero.fill m _ j hv hm
    rw [hrow, hix] at hf
    rw [hf]
    refine ⟨_, ent_first hvn rfl, ?_, .inl (by show (-1 : Int) < 0; decide)⟩
    show ((v : Nat) : Int) = gI (srcOf E (endN E) (-1)) (v : Nat)
    unfold srcOf gI
    rw [if_pos (by decide), Int.toNat_natCast]
    unfold firstL
    rw [List.getD_eq_getElem?_getD, List.getElem?_map, List.getElem?_range hvn]; rfl
  · by_cases hRa : R a
    · refine .inr ⟨by omega, fun _ => by rw [Int.toNat_natCast]; exact hRa, ?_⟩
      have hed : Ed E a i := hai
      have hf := ((h.all a hRa).2 i hed).fill m _ j hv hm
      rw [hrow, hix] at hf
      rw [hf]
      have e : gI (srcOf E (endN E) (a : Int)) (v : Nat) = nm (endN E) a v := by
        unfold srcOf gI nm
        rw [if_neg (by omega), Int.toNat_natCast, Int.toNat_natCast]
      rw [e]
      exact set_end hG h hRa hvn
    · exact .inl ⟨by omega, by omega, by rw [Int.toNat_natCast]; exact hRa⟩
/-- What the steps use. -/
theorem once_st (hG : Gr E R D) (h : Done E R D base nin own) : ∀ i, i < E.p.length → R i → ∀ (k : Nat) (s : Step), ((endN E).out.getD i sgnul).code[k]? = some s → ∀ n ∈ usesL s, SetA D (preE E.vars (endN E).out E.p.length) n (i : Int) (k : Int) := by
  intro i hi hR k s hk n hn
  have hbok := hG.ok.bs _ (List.getElem_mem hi)
  rw [← bget hi] at hbok
  have hN := h.inv.nd i (h.all i hR).1
  rw [hN.code] at hk
  have hkl := (List.getElem?_eq_some_iff.1 hk).1
  rw [(renC_len _ _ _).1] at hkl
  have hg := List.getElem?_eq_getElem hkl
  rw [renC_get _ _ _ k _ hg] at hk
  injection hk with hk
  subst hk
  have hso := hbok.code _ (List.getElem_mem hkl)
  generalize (codeAt E i)[k] = s at *
  obtain ⟨s1, s6, sv1, sv2, -, sab⟩ := hso
  have hS : ∀ x : Int, 0 ≤ x → x < E.vars → SetA D (preE E.vars (endN E).out E.p.length) (gI (renC (nin i) (base i + (joinsAt E i).length) ((codeAt E i).take k)).2 x) (i : Int) (k : Int) := fun x h0 h1 => by
    unfold gI
    exact set_step hG h hR (by omega)
  unfold renS at hn
  unfold usesL at hn
  dsimp only at hn
  by_cases e1 : s.op = 1
  · rw [if_pos e1] at hn; exact absurd hn List.not_mem_nil
  · rw [if_neg e1] at hn
    by_cases e2 : s.op = 2
    · rw [if_pos e2, if_pos e2] at hn
      rw [List.mem_singleton.1 hn]
      exact hS _ (sv2 e2).1 (sv2 e2).2
    · rw [if_neg e2, if_pos (by omega), if_pos (by omega)] at hn
      have := sab (by omega)
      simp at hn
      rcases hn with rfl | rfl
      · exact hS _ this.1.1 this.1.2
      · exact hS _ this.2.1 this.2.2
/-- What a block ends with, and its test. -/
theorem once_ls (hG : Gr E R D) (h : Done E R D base nin own) : ∀ i, i < E.p.length → R i → ∀ n ∈ ((endN E).out.getD i sgnul).last ++ [((endN E).out.getD i sgnul).test], n < 0 ∨ SetA D (preE E.vars (endN E).out E.p.length) n (i : Int) 20 := by
  intro i hi hR n hn
  have hbok := hG.ok.bs _ (List.getElem_mem hi)
  rw [← bget hi] at hbok
  have hN := h.inv.nd i (h.all i hR).1
  rcases List.mem_append.1 hn with hn | hn
  · obtain ⟨v, hv⟩ := List.getElem?_of_mem hn
    have hvl := (List.getElem?_eq_some_iff.1 hv).1
    have hl : ((endN E).out.getD i sgnul).last.length = E.vars := by
      rw [hN.last, (renC_len _ _ _).2, hN.nl]
    have e : nm (endN E) i v = n := by
      unfold nm
      rw [List.getD_eq_getElem?_getD]
      show (((endN E).out.getD i sgnul).last[v]?).getD 0 = n
      rw [hv]; rfl
    rw [← e]
    exact .inr (set_end hG h hR (by omega))
  · rw [List.mem_singleton.1 hn, hN.test]
    by_cases e : 0 ≤ (E.p.getD i bnul).test
    · rw [if_pos e]
      have e2 : lastN i (endN E) = _ := hN.last
      rw [← e2]
      exact .inr (set_end hG h hR (by have := hbok.hi; omega))
    · rw [if_neg e]; exact .inl (by decide)
end
theorem sm0 {vars : Nat} {p : List Blk} {hv V : List Int} (hl : hv.length = vars) (hV : V = hv ++ (List.replicate 128 0).drop hv.length) : Sm vars V (firstL (envX vars p)) hv := by
  intro v hv'
  have e : (firstL (envX vars p)).getD v 0 = (v : Int) := by
    unfold firstL
    rw [List.getD_eq_getElem?_getD, List.getElem?_map, List.getElem?_range (show v < (envX vars p).vars from hv')]; rfl
  rw [e, Int.toNat_natCast, hV, List.getD_eq_getElem?_getD, List.getElem?_append_left (by omega), ← List.getD_eq_getElem?_getD]
/-- The two runs go together. -/
theorem sims {vars : Nat} {p : List Blk} {hv V : List Int} (hp : POk vars p) (hhe : haveErr vars hv = 0) (hV : V = hv ++ (List.replicate 128 0).drop hv.length) :
    (∀ k, runsB p hv k → 0 ≤ (stB p hv k).1 → TurnOk (envX vars p) (endN (envX vars p)).out (stS (envX vars p) (endN (envX vars p)).out V k).1 (stS (envX vars p) (endN (envX vars p)).out V k).2.1 (stS (envX vars p) (endN (envX vars p)).out V k).2.2)
    ∧ (∀ k, runsB p hv k → (stS (envX vars p) (endN (envX vars p)).out V k).2.1 = (stB p hv k).1)
    ∧ (∀ k, runsB p hv (k + 1) → ((endN (envX vars p)).out.getD (stB p hv k).1.toNat sgnul).last.map (fun n => (stS (envX vars p) (endN (envX vars p)).out V (k + 1)).2.2.getD n.toNat 0) = (stB p hv (k + 1)).2) := by
  obtain ⟨hl, hb⟩ := haveErr_ok hhe
  have hl : hv.length = vars := by omega
  have hv6 := hp.v6
  have hG := gr_ok hp
  obtain ⟨base, nin, own, h⟩ := end_done hG
  obtain ⟨hok, hnx, hlen⟩ := end_ok hp
  have hM : (endN (envX vars p)).many ≤ 128 := Nat.le_trans (Inv.many_74 hG h.inv) (by decide)
  have hVl : V.length = 128 := by rw [hV]; simp; omega
  have hVb : ∀ x ∈ V, 0 ≤ x ∧ x ≤ 255 := fun x hx => by
    rw [hV] at hx
    rcases List.mem_append.1 hx with hx | hx
    · exact hb x hx
    · have := List.mem_of_mem_drop hx
      rw [(List.mem_replicate.1 this).2]
      exact ⟨by decide, by decide⟩
  have hs := sm0 (p := p) hl hV
  have hsim := run_sim hG h hM hVl hl hs
  have hbd : ∀ k, runsB p hv k → (∀ x ∈ (stS (envX vars p) (endN (envX vars p)).out V k).2.2, 0 ≤ x ∧ x ≤ 255) ∧ (0 ≤ (stB p hv k).1 → TurnOk (envX vars p) (endN (envX vars p)).out (stS (envX vars p) (endN (envX vars p)).out V k).1 (stS (envX vars p) (endN (envX vars p)).out V k).2.1 (stS (envX vars p) (endN (envX vars p)).out V k).2.2) := by
    intro k
    induction k with
    | zero =>
      intro hr
      have hT := hsim 0 hr
      refine ⟨hVb, fun h0 => ⟨by rw [hT.1]; exact h0, ?_, ?_, hT.2.1, hVb⟩⟩
      · show (0 : Int) < _
        have := hok.n1; omega
      · exact hG.frm0
    | succ k ih =>
      intro hr
      have hr' : runsB p hv k := fun j hj => hr j (by omega)
      obtain ⟨ib, iT⟩ := ih hr'
      have hTk := iT (hr k (by omega))
      have hT := hsim (k + 1) hr
      have hB : ∀ x ∈ (stS (envX vars p) (endN (envX vars p)).out V (k + 1)).2.2, 0 ≤ x ∧ x ≤ 255 := by
        refine (turn_bd hTk (ins_sok (hok.ins (stS (envX vars p) (endN (envX vars p)).out V k).2.1.toNat ?_))).2
        have := hTk.i0; have := hTk.il; omega
      refine ⟨hB, fun h0 => ?_⟩
      obtain ⟨t1, t2, t3, t4, t5, t6⟩ := hT
      obtain ⟨i, ei, hRi, hc⟩ := t6 h0
      have hil := hG.rlt i hRi
      have hil : i < p.length := hil
      refine ⟨by rw [t1]; exact h0, by rw [t1, hlen, ei]; omega, ?_, t2, hB⟩
      rw [t1, ei, Int.toNat_natCast]
      rcases hc with ⟨e, rfl⟩ | ⟨r, e, hRr, hed⟩
      · rw [e]; exact hG.frm0
      · rw [e]; exact (hG.frm r i (hG.rlt r hRr) hil).2 hed
  refine ⟨fun k hr => (hbd k hr).2, fun k hr => (hsim k hr).1, fun k hr => ?_⟩
  have hr' : runsB p hv k := fun j hj => hr j (by omega)
  obtain ⟨s1, s2, s3, s4, s5, s6⟩ := hsim k hr'
  obtain ⟨t1, t2, t3, t4, t5, t6⟩ := hsim (k + 1) hr
  obtain ⟨i, ei, hRi, hc⟩ := s6 (hr k (by omega))
  have ei : (stB p hv k).1 = (i : Int) := ei
  have s1 : (stS (envX vars p) (endN (envX vars p)).out V k).2.1 = (stB p hv k).1 := s1
  rw [ei, Int.toNat_natCast]
  have hi : (stS (envX vars p) (endN (envX vars p)).out V (k + 1)).1 = (i : Int) := by
    show (stS (envX vars p) (endN (envX vars p)).out V k).2.1 = _
    rw [s1, ei]
  rw [hi] at t4
  refine out_sim h hRi t3 ?_
  unfold srcOf at t4
  rw [if_neg (by omega), Int.toNat_natCast] at t4
  exact t4
end Go.Proofs.Ytmgejacndhnikaa
