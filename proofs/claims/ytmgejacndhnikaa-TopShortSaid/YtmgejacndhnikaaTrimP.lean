/- live.Trim, plain: what is not needed goes, pass by pass; the program that is left runs alike. -/
import Derived.Test.YtmgejacndhnikaaCutP
import Derived.Test.YtmgejacndhnikaaBlkU
namespace Go.Proofs.Ytmgejacndhnikaa
open Go.RowKit

/-- Of a block's steps those that are needed. -/
noncomputable def kpC : List Step → Nat → List Step
  | [], _ => []
  | s :: c, l => if (ctC c l).testBit s.to.toNat = true then s :: kpC c l else kpC c l
theorem kpC_yes {s : Step} {c : List Step} {l : Nat} (h : (ctC c l).testBit s.to.toNat = true) : kpC (s :: c) l = s :: kpC c l ∧ ctC (s :: c) l = ahL s (ctC c l) :=
  ⟨by rw [kpC, if_pos h], by rw [ctC_cons, ctS, if_pos h]⟩
theorem kpC_no {s : Step} {c : List Step} {l : Nat} (h : ¬ (ctC c l).testBit s.to.toNat = true) : kpC (s :: c) l = kpC c l ∧ ctC (s :: c) l = ctC c l :=
  ⟨by rw [kpC, if_neg h], by rw [ctC_cons, ctS, if_neg h]⟩
theorem kpC_sub : ∀ (c : List Step) (l : Nat), (kpC c l).Sublist c
  | [], _ => .slnil
  | s :: c, l => by
    by_cases h : (ctC c l).testBit s.to.toNat = true
    · rw [(kpC_yes h).1]; exact (kpC_sub c l).cons_cons s
    · rw [(kpC_no h).1]; exact (kpC_sub c l).cons s
theorem kpC_full {c : List Step} {l : Nat} (h : (kpC c l).length = c.length) : kpC c l = c := (kpC_sub c l).eq_of_length h
theorem leN.to32 {a b : Nat} (h : leN a b) : Sub32 a b := fun x _ hx => h x hx
theorem Sub32.leN {a b : Nat} (h : Sub32 a b) (ha : a < 4294967296) : leN a b := fun x hx => by
  rcases Nat.lt_or_ge x 32 with h1 | h1
  · exact h x h1 hx
  · rw [Nat.testBit_lt_two_pow (Nat.lt_of_lt_of_le ha (show 2 ^ 32 ≤ 2 ^ x from Nat.pow_le_pow_right (by decide) h1))] at hx; cases hx
theorem Sub32.trans {a b c : Nat} (h : Sub32 a b) (k : Sub32 b c) : Sub32 a c := fun x hx hb => k x hx (h x hx hb)
/-- No more is needed with steps left out. -/
theorem ct_ah : ∀ {c : List Step} (l : Nat), (∀ s ∈ c, s.to.toNat < 32) → Sub32 (ctC c l) (ahC c l)
  | [], l, _ => Sub32.refl l
  | s :: c, l, hc => by
    have ih := ct_ah (c := c) l (fun t ht => hc t (by simp [ht]))
    rw [ahC_cons]
    by_cases h : (ctC c l).testBit s.to.toNat = true
    · rw [(kpC_yes h).2]; exact ahL_sub ih
    · rw [(kpC_no h).2]; exact keep_sub ih (by simpa using h)
section
variable {vars : Int} {n : Nat}
theorem ctC_lt (hn : vars = n) (h6 : n ≤ 6) : ∀ {c : List Step} {l : Nat}, (∀ s ∈ c, SOk vars s) → l < 2 ^ n → ctC c l < 2 ^ n
  | [], _, _, h => h
  | s :: c, l, hc, h => by
    have ih := ctC_lt hn h6 (c := c) (fun t ht => hc t (by simp [ht])) h
    by_cases h1 : (ctC c l).testBit s.to.toNat = true
    · rw [(kpC_yes h1).2]; exact ahL_lt (hc s (by simp)) hn h6 ih
    · rw [(kpC_no h1).2]; exact ih
theorem to32 (h6 : vars ≤ 6) {c : List Step} (hc : ∀ s ∈ c, SOk vars s) : ∀ s ∈ c, s.to.toNat < 32 := fun s hs => by
  have := (hc s hs).2.2.2.2.1
  omega
/-- A block without what is not needed does the same to what is needed. -/
theorem kp_like (hn : vars = n) (h6 : n ≤ 6) : ∀ {c : List Step} {l : Nat} {v u : List Int}, (∀ s ∈ c, SOk vars s) → (v.length : Int) = vars → l < 2 ^ n → aliL (ctC c l) v u → aliL l (dgR v c) (dgR u (kpC c l))
  | [], _, _, _, _, _, _, h => h
  | s :: c, l, v, u, hc, hv, hl, h => by
    have hc' : ∀ t ∈ c, SOk vars t := fun t ht => hc t (by simp [ht])
    have h64 : 2 ^ n ≤ 4294967296 := Nat.le_trans (Nat.pow_le_pow_right (by decide) h6) (by decide)
    by_cases h1 : (ctC c l).testBit s.to.toNat = true
    · rw [(kpC_yes h1).2] at h
      rw [(kpC_yes h1).1]
      show aliL l (dgR (dg1 v s) c) (dgR (dg1 u s) (kpC c l))
      exact kp_like hn h6 hc' (by rw [dg1_len]; exact hv) hl (aliL_step (hc s (by simp)) hv (Nat.lt_of_lt_of_le (ctC_lt hn h6 hc' hl) h64) h)
    · rw [(kpC_no h1).2] at h
      rw [(kpC_no h1).1]
      show aliL l (dgR (dg1 v s) c) (dgR u (kpC c l))
      refine kp_like hn h6 hc' (by rw [dg1_len]; exact hv) hl ⟨by rw [dg1_len]; exact h.1, fun k hk => ?_⟩
      have h2 := (hc s (by simp)).2.2.2.2.1
      rw [dg1_put, getD_setI _ _ (by omega), if_neg (fun e => h1 (by rw [e]; exact hk))]
      exact h.2 k hk
end
/-- One pass. -/
noncomputable def trB (want : Nat) (F : List Nat) (b : Blk) : Blk := { b with code := kpC b.code (bhL want F b) }
noncomputable def trM (p : List Blk) (want : Nat) (F : List Nat) : List Blk := p.map (trB want F)
theorem trM_len (p : List Blk) (want : Nat) (F : List Nat) : (trM p want F).length = p.length := by simp [trM]
theorem trM_get {p : List Blk} (want : Nat) (F : List Nat) {i : Nat} (hi : i < p.length) : (trM p want F).getD i bnul = trB want F (p.getD i bnul) := by
  rw [bget (by rw [trM_len]; exact hi), bget hi]; simp [trM]
inductive TrR (want : Nat) : List Blk → List Blk → Prop
  | done {p : List Blk} {F : List Nat} : SolL p want F → trM p want F = p → TrR want p p
  | step {p q : List Blk} {F : List Nat} : SolL p want F → TrR want (trM p want F) q → TrR want p q
def Tight (want : Nat) (q : List Blk) : Prop := ∃ F, SolL q want F ∧ trM q want F = q
theorem TrR.tight {want : Nat} {p q : List Blk} (h : TrR want p q) : Tight want q := by
  induction h with
  | done h1 h2 => exact ⟨_, h1, h2⟩
  | step _ _ ih => exact ih
theorem TrR.same {want : Nat} {p q : List Blk} (h : TrR want p q) (ht : Tight want p) : q = p := by
  induction h with
  | done _ _ => rfl
  | step h1 h2 ih =>
    obtain ⟨G, hG, e⟩ := ht
    rw [h1.uniq hG, e] at ih
    exact ih ⟨G, hG, e⟩
theorem cErrs_all {vars : Int} : ∀ {c : List Step}, cErrs vars c = 0 ↔ ∀ s ∈ c, stErr vars s = 0
  | [] => ⟨fun _ s h => (by cases h), fun _ => rfl⟩
  | t :: r => by
    rw [show cErrs vars (t :: r) = if stErr vars t = 0 then cErrs vars r else stErr vars t from rfl]
    by_cases h : stErr vars t = 0
    · rw [if_pos h, cErrs_all]; simp [h]
    · rw [if_neg h]; simp [h]
theorem bErrs_all {vars n : Int} : ∀ {p : List Blk}, bErrs vars n p = 0 ↔ ∀ b ∈ p, bErr vars n b = 0
  | [] => ⟨fun _ s h => (by cases h), fun _ => rfl⟩
  | t :: r => by
    rw [show bErrs vars n (t :: r) = if bErr vars n t = 0 then bErrs vars n r else bErr vars n t from rfl]
    by_cases h : bErr vars n t = 0
    · rw [if_pos h, bErrs_all]; simp [h]
    · rw [if_neg h]; simp [h]
theorem bErr_zero {vars n : Int} {b : Blk} : bErr vars n b = 0 ↔ cErrs vars b.code = 0 ∧ eErr vars n b = 0 := by
  unfold bErr
  by_cases h : cErrs vars b.code = 0
  · rw [if_pos h]; simp [h]
  · rw [if_neg h]; simp [h]
theorem bErr_sub {vars n : Int} {b : Blk} {c : List Step} (hs : c.Sublist b.code) (h : bErr vars n b = 0) : bErr vars n { b with code := c } = 0 := by
  rw [bErr_zero] at h ⊢
  exact ⟨cErrs_all.2 fun s hs' => cErrs_all.1 h.1 s (hs.subset hs'), h.2⟩
theorem many_sub (f : Blk → Blk) (h : ∀ b, (f b).code.length ≤ b.code.length) : ∀ p : List Blk, manyB (p.map f) ≤ manyB p
  | [] => Nat.le_refl _
  | b :: p => by
    have := many_sub f h p
    have := h b
    unfold manyB at *
    simp only [List.map_cons, List.sum_cons]
    omega
theorem many_eq (f : Blk → Blk) (h : ∀ b, (f b).code.length ≤ b.code.length) : ∀ p : List Blk, manyB (p.map f) = manyB p → ∀ b ∈ p, (f b).code.length = b.code.length
  | [], _, _, hb => by cases hb
  | b :: p, e, x, hx => by
    have h1 := many_sub f h p
    have h2 := h b
    have e' : (f b).code.length + manyB (p.map f) = b.code.length + manyB p := e
    rcases List.mem_cons.1 hx with rfl | hx
    · omega
    · exact many_eq f h p (by omega) x hx
theorem pkErr_zero {vars : Int} {p : List Blk} : pkErr vars p = 0 ↔ (1 ≤ vars ∧ vars ≤ 6 ∧ 1 ≤ p.length ∧ p.length ≤ 8 ∧ manyB p ≤ 20) ∧ ∀ b ∈ p, bErr vars p.length b = 0 := by
  unfold pkErr
  rw [← bErrs_all]
  split
  · exact ⟨fun h => (by cases h), fun h => by omega⟩
  · exact ⟨fun h => ⟨by omega, h⟩, fun h => h.2⟩
theorem pkErr_tr {vars : Int} {p : List Blk} (want : Nat) (F : List Nat) (h : pkErr vars p = 0) : pkErr vars (trM p want F) = 0 := by
  rw [pkErr_zero] at h ⊢
  have := many_sub (trB want F) (fun _ => (kpC_sub _ _).length_le) p
  rw [trM_len]
  refine ⟨⟨by omega, by omega, by omega, by omega, Nat.le_trans this (by omega)⟩, fun b hb => ?_⟩
  unfold trM at hb
  obtain ⟨a, ha, rfl⟩ := List.mem_map.1 hb
  exact bErr_sub (kpC_sub _ _) (h.2 a ha)
theorem tr_fix {p : List Blk} {want : Nat} {F : List Nat} (h : manyB (trM p want F) = manyB p) : trM p want F = p := by
  have h1 := many_eq (trB want F) (fun _ => (kpC_sub _ _).length_le) p h
  unfold trM
  refine (List.map_congr_left fun b hb => ?_).trans (List.map_id p)
  have : kpC b.code (bhL want F b) = b.code := kpC_full (h1 b hb)
  unfold trB
  rw [this]; rfl
theorem tr_less {p : List Blk} {want : Nat} {F : List Nat} (h : trM p want F ≠ p) : manyB (trM p want F) < manyB p :=
  Nat.lt_of_le_of_ne (many_sub (trB want F) (fun _ => (kpC_sub _ _).length_le) p) fun e => h (tr_fix e)
theorem likeP_tr {vars : Int} {p : List Blk} (hp : POk vars p) {n : Nat} (hn : vars = n) {want : Nat} (hw : want < 2 ^ n) {F : List Nat} (hF : ltU F (2 ^ n)) (h : phL p want F = F) : LikeP vars p (trM p want F) want F := by
  have key : ∀ i, ((trM p want F).getD i bnul).test = (p.getD i bnul).test ∧ ((trM p want F).getD i bnul).thn = (p.getD i bnul).thn ∧ ((trM p want F).getD i bnul).els = (p.getD i bnul).els := fun i => by
    by_cases hi : i < p.length
    · rw [trM_get want F hi]; exact ⟨rfl, rfl, rfl⟩
    · rw [List.getD_eq_getElem?_getD, List.getD_eq_getElem?_getD, List.getElem?_eq_none (by rw [trM_len]; omega), List.getElem?_eq_none (by omega)]; exact ⟨rfl, rfl, rfl⟩
  refine ⟨fun i => (key i).1, fun i => (key i).2.1, fun i => (key i).2.2, fun i hi v u hv ha => ?_⟩
  have hb := hp.bs _ (List.getElem_mem hi)
  rw [← bget hi] at hb
  have h6 := hp.v6
  rw [trM_get want F hi]
  refine kp_like hn (by omega) hb.code hv (bhL_lt hb hn hw hF) (ha.le ?_)
  have hlt := ctC_lt hn (by omega) hb.code (bhL_lt hb hn hw hF)
  have e := getU_phL want F hi
  rw [h] at e
  rw [e]
  exact (ct_ah _ (to32 h6 hb.code)).leN (Nat.lt_of_lt_of_le hlt (Nat.le_trans (Nat.pow_le_pow_right (by decide) (show n ≤ 6 by omega)) (by decide)))
theorem SolL.lt {vars : Int} {p : List Blk} (hp : POk vars p) {n : Nat} (hn : vars = n) {want : Nat} (hw : want < 2 ^ n) {F : List Nat} (h : SolL p want F) : ltU F (2 ^ n) := by
  obtain ⟨⟨k, rfl⟩, -⟩ := h
  exact lvK_lt hp hn hw k
/-- What is left runs as the whole did: where one is, and behind the last what is wanted. -/
theorem TrR.run {vars : Int} {n : Nat} (hn : vars = n) {want : Nat} (hw : want < 2 ^ n) {p q : List Blk} (h : TrR want p q) : pkErr vars p = 0 → pkErr vars q = 0 ∧ q.length = p.length ∧ ∀ v : List Int, (v.length : Int) = vars → (∀ x ∈ v, 0 ≤ x ∧ x ≤ 255) →
    ∀ k, runsB p v k → (stB q v k).1 = (stB p v k).1 ∧ ((stB p v k).1 < 0 → aliL want (stB p v k).2 (stB q v k).2) := by
  induction h with
  | done h1 h2 =>
    intro h0
    refine ⟨h0, rfl, fun v _ _ k _ => ⟨rfl, fun _ => ⟨rfl, fun _ _ => rfl⟩⟩⟩
  | @step p q F h1 h2 ih =>
    intro h0
    have hp := pok_of h0
    obtain ⟨i1, i2, i3⟩ := ih (pkErr_tr want F h0)
    refine ⟨i1, by rw [i2, trM_len], fun v hv hb k hr => ?_⟩
    have hl := likeP_tr hp hn hw (h1.lt hp hn hw) h1.2
    have r1 := run_like hp hl hv hb ⟨rfl, fun _ _ => rfl⟩
    have r2 := i3 v hv hb k ((runs_pair (fun k hk => (r1 k hk).1) k).1 hr)
    refine ⟨r2.1.trans (r1 k hr).1, fun hk => ?_⟩
    have a1 := (r1 k hr).2.2 hk
    have a2 := r2.2 (by rw [(r1 k hr).1]; exact hk)
    exact ⟨a1.1.trans a2.1, fun j hj => (a1.2 j hj).trans (a2.2 j hj)⟩
end Go.Proofs.Ytmgejacndhnikaa
