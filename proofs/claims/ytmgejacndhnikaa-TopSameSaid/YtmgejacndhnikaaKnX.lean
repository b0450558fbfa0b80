/- package known, plain: a pass of solve, turn by turn. -/
import Derived.Test.YtmgejacndhnikaaKnD
namespace Go.Proofs.Ytmgejacndhnikaa
open Go.RowKit

/-- Ahead of block i of a pass that began with F0. -/
structure Ps (vars : Int) (p : List Blk) (h0 : List Int) (F0 F : List (List Int)) (a : Bool) (i : Nat) : Prop where
  inv : InvK vars p h0 F
  le : potF F ≤ potF F0
  less : a = true → potF F < potF F0
  same : a = false → F = F0
  done : a = false → ∀ k, k < i → closedK p F k
/-- Ahead of the t-th to which one goes from block i. -/
structure Pt (vars : Int) (p : List Blk) (h0 : List Int) (F0 F : List (List Int)) (a : Bool) (i : Nat) (v ts : List Int) (t : Nat) : Prop where
  ps : Ps vars p h0 F0 F a i
  here : a = false → ∀ (k : Nat) (j : Int), k < t → ts[k]? = some j → rowF F j.toNat ≠ [] ∧ leK v (rowF F j.toNat)
section
variable {vars : Int} {p : List Blk} {h0 v ts : List Int} {F0 F F1 : List (List Int)} {a a1 : Bool} {i t : Nat}
theorem Ps.start (h : InvK vars p h0 F) : Ps vars p h0 F F false 0 := ⟨h, Nat.le_refl _, (fun e => by cases e), fun _ => rfl, fun _ k hk => by omega⟩
theorem Ps.skip (h : Ps vars p h0 F0 F a i) (hr : rowF F i = []) : Ps vars p h0 F0 F a (i + 1) :=
  ⟨h.inv, h.le, h.less, h.same, fun e k hk => by
    rcases Nat.lt_or_ge k i with h1 | h1
    · exact h.done e k h1
    · obtain rfl : k = i := by omega
      exact fun hn => absurd hr hn⟩
theorem Pt.start (h : Ps vars p h0 F0 F a i) : Pt vars p h0 F0 F a i v ts 0 := ⟨h, fun _ k _ hk => by omega⟩
theorem Pt.next (h : Pt vars p h0 F0 F a i (knR (rowF F1 i) (p.getD i bnul).code) (goK (p.getD i bnul) (knR (rowF F1 i) (p.getD i bnul).code)) (goK (p.getD i bnul) (knR (rowF F1 i) (p.getD i bnul).code)).length) (h1 : a = false → F = F1) : Ps vars p h0 F0 F a (i + 1) :=
  ⟨h.ps.inv, h.ps.le, h.ps.less, h.ps.same, fun e k hk => by
    rcases Nat.lt_or_ge k i with hk' | hk'
    · exact h.ps.done e k hk'
    · obtain rfl : k = i := by omega
      intro hn j hj
      have e1 := h1 e
      subst e1
      obtain ⟨n, hn', e2⟩ := List.getElem_of_mem hj
      exact h.here e n j hn' (by rw [List.getElem?_eq_getElem hn', e2])⟩
theorem Pt.step (h : Pt vars p h0 F0 F a i v ts t) {j : Nat} (hj : ts[t]? = some (j : Int)) (hjl : j < F.length) (hv1 : v ≠ []) (hv8 : v.length ≤ 8) (hl : rowF F j ≠ [] → v.length = (rowF F j).length) (hu : InvK vars p h0 (updF F j v))
    (h1 : a1 = true → a = true ∨ updF F j v ≠ F) (h2 : a1 = false → a = false ∧ updF F j v = F) : Pt vars p h0 F0 (updF F j v) a1 i v ts (t + 1) := by
  obtain ⟨q1, q2⟩ := updF_pot hjl hv1 hv8 hl
  refine ⟨⟨hu, Nat.le_trans q1 h.ps.le, fun e => ?_, fun e => ?_, fun e k hk => ?_⟩, fun e k j' hk hj' => ?_⟩
  · rcases h1 e with e1 | e1
    · exact Nat.lt_of_le_of_lt q1 (h.ps.less e1)
    · have : potF (updF F j v) ≠ potF F := fun e2 => e1 (q2 e2)
      have := h.ps.le
      omega
  · obtain ⟨e1, e2⟩ := h2 e
    rw [e2]; exact h.ps.same e1
  · obtain ⟨e1, e2⟩ := h2 e
    rw [e2]; exact h.ps.done e1 k hk
  · obtain ⟨e1, e2⟩ := h2 e
    rw [e2]
    rcases Nat.lt_or_ge k t with hk' | hk'
    · exact h.here e1 k j' hk' hj'
    · obtain rfl : k = t := by omega
      rw [hj] at hj'
      injection hj' with hj'
      subst hj'
      rw [Int.toNat_natCast]
      exact updF_same hjl hv1 hl e2
end
/-- The flag behind block j: the row was not there (n), or one of its cells turned. -/
def FlagK (F : List (List Int)) (j : Nat) (v r0 : List Int) (a a1 : Bool) : Prop :=
  updF F j v = F.set j (joinK v r0) ∧ (a1 = true → a = true ∨ updF F j v ≠ F) ∧ (a1 = false → a = false) ∧ (joinK v r0 ≠ r0 → updF F j v ≠ F) ∧ (a1 = false → joinK v r0 = r0 → updF F j v = F)
theorem FlagK.new {F : List (List Int)} {j : Nat} {v : List Int} (a : Bool) (hj : j < F.length) (hv : v ≠ []) (h0 : rowF F j = []) : FlagK F j v v a true := by
  have hne : updF F j v ≠ F := fun e => by
    have := congrArg (fun G => rowF G j) e
    unfold updF at this
    rw [rowF_set _ _ hj, if_pos rfl, h0, if_pos rfl, joinK_self] at this
    exact hv this
  refine ⟨by unfold updF; rw [h0, if_pos rfl], fun _ => .inr hne, (fun e => by cases e), fun _ => hne, fun e => by cases e⟩
theorem FlagK.old {F : List (List Int)} {j : Nat} {v : List Int} (a : Bool) (hj : j < F.length) (h0 : rowF F j ≠ []) : FlagK F j v (rowF F j) a a := by
  have e0 : updF F j v = F.set j (joinK v (rowF F j)) := by unfold updF; rw [if_neg h0]
  refine ⟨e0, fun h => .inl h, fun h => h, fun hn e => hn ?_, fun _ e => ?_⟩
  · have := congrArg (fun G => rowF G j) e
    rw [e0, rowF_set _ _ hj, if_pos rfl] at this
    exact this
  · rw [e0, e, rowF_get hj]; exact List.set_getElem_self _
end Go.Proofs.Ytmgejacndhnikaa
namespace Go.Proofs.Ytmgejacndhnikaa
open Go.RowKit

theorem stErr_of {vars : Int} {s : Step} (h : SOk vars s) : stErr vars s = 0 := by
  obtain ⟨h1, h2, h3, h4, h5, h6⟩ := h
  unfold stErr
  by_cases e1 : s.op = 1
  · have := h3 e1
    rw [if_neg (by omega), if_neg (by omega), if_neg (by omega)]
  · by_cases e2 : s.op = 2
    · have := h4 e2
      rw [if_neg (by omega), if_neg (by omega), if_neg (by omega)]
    · have := h6 (by omega)
      rw [if_neg (by omega), if_neg (by omega), if_neg (by omega)]
theorem cErrs_of {vars : Int} : ∀ {c : List Step}, (∀ s ∈ c, SOk vars s) → cErrs vars c = 0
  | [], _ => rfl
  | s :: r, h => by
    rw [show cErrs vars (s :: r) = if stErr vars s = 0 then cErrs vars r else stErr vars s from rfl, if_pos (stErr_of (h s (by simp)))]
    exact cErrs_of fun t ht => h t (by simp [ht])
theorem bErr_of {vars n : Int} {b : Blk} (h : BOk vars n b) : bErr vars n b = 0 := by
  unfold bErr
  rw [if_pos (cErrs_of h.code)]
  unfold eErr
  have h1 := h.lo; have h2 := h.hi; have h3 := h.two; have h4 := h.one
  rw [if_neg (by omega), if_neg (by omega)]
theorem bErrs_of {vars n : Int} : ∀ {p : List Blk}, (∀ b ∈ p, BOk vars n b) → bErrs vars n p = 0
  | [], _ => rfl
  | b :: r, h => by
    rw [show bErrs vars n (b :: r) = if bErr vars n b = 0 then bErrs vars n r else bErr vars n b from rfl, if_pos (bErr_of (h b (by simp)))]
    exact bErrs_of fun t ht => h t (by simp [ht])
theorem pkErr_of {vars : Int} {p : List Blk} (h : POk vars p) : pkErr vars p = 0 := by
  unfold pkErr
  have h1 := h.v1; have h2 := h.v6; have h3 := h.n1; have h4 := h.n8; have h5 := h.many
  rw [if_neg (by omega)]
  exact bErrs_of h.bs

/-- A step, with what is known put in. -/
def fd1 (a : List Int) (s : Step) : Step := if mkK a s = -1 then s else ⟨1, s.to, 0, 0, mkK a s⟩
/-- Steps, with what is known put in. -/
def fdC : List Step → List Int → List Step
  | [], _ => []
  | s :: c, a => fd1 a s :: fdC c (kn1 a s)
theorem fdC_append : ∀ (c d : List Step) (a : List Int), fdC (c ++ d) a = fdC c a ++ fdC d (knR a c)
  | [], _, _ => rfl
  | s :: c, d, a => by
    show fd1 a s :: fdC (c ++ d) (kn1 a s) = fd1 a s :: (fdC c (kn1 a s) ++ fdC d (knR (kn1 a s) c))
    rw [fdC_append c d]
theorem fdC_len : ∀ (c : List Step) (a : List Int), (fdC c a).length = c.length
  | [], _ => rfl
  | s :: c, a => by show (fdC c (kn1 a s)).length + 1 = c.length + 1; rw [fdC_len c]
/-- Behind k steps of the turn. -/
def fdK (c : List Step) (a : List Int) (k : Nat) : List Step := fdC (c.take k) a ++ c.drop k
theorem fdK_zero (c : List Step) (a : List Int) : fdK c a 0 = c := rfl
theorem fdK_len (c : List Step) (a : List Int) (k : Nat) : (fdK c a k).length = c.length := by
  unfold fdK; rw [List.length_append, fdC_len, ← List.length_append, List.take_append_drop]
theorem fdK_all (c : List Step) (a : List Int) : fdK c a c.length = fdC c a := by
  unfold fdK; rw [List.take_length, List.drop_length, List.append_nil]
theorem fdK_succ {c : List Step} {k : Nat} (hk : k < c.length) (a : List Int) : (fdK c a k).set k (fd1 (knR a (c.take k)) c[k]) = fdK c a (k + 1) := by
  unfold fdK
  rw [List.take_succ_eq_append_getElem hk, fdC_append, List.drop_eq_getElem_cons hk, List.append_assoc]
  have hl : (fdC (c.take k) a).length = k := by rw [fdC_len, List.length_take]; omega
  rw [List.set_append_right _ _ (by omega), hl, Nat.sub_self]
  rfl
theorem fdK_keep {c : List Step} {k : Nat} (hk : k < c.length) (a : List Int) (h : mkK (knR a (c.take k)) c[k] = -1) : fdK c a k = fdK c a (k + 1) := by
  rw [← fdK_succ hk a]
  unfold fd1
  rw [if_pos h]
  refine (List.set_getElem_self (show k < (fdK c a k).length by rw [fdK_len]; exact hk)).symm.trans ?_
  congr 1
  unfold fdK
  have hl : (fdC (c.take k) a).length = k := by rw [fdC_len, List.length_take]; omega
  rw [List.getElem_append_right (by omega)]
  simp [hl]
theorem fdK_at {c : List Step} {k : Nat} (hk : k < c.length) (a : List Int) : (fdK c a k)[k]? = some c[k] := by
  unfold fdK
  have hl : (fdC (c.take k) a).length = k := by rw [fdC_len, List.length_take]; omega
  rw [List.getElem?_append_right (by omega), hl, Nat.sub_self, List.drop_eq_getElem_cons hk]
  rfl
theorem mkK_bd {vars : Int} {a : List Int} {s : Step} (ha : ∀ x ∈ a, -1 ≤ x ∧ x ≤ 255) (hs : SOk vars s) : -1 ≤ mkK a s ∧ mkK a s ≤ 255 := by
  obtain ⟨o1, o6, on, ov, _, _⟩ := hs
  unfold mkK
  split
  · rename_i h1; have := on h1; omega
  · split
    · exact getK_bd ha _
    · split
      · omega
      · split
        · omega
        · have := doF_bd s.op (a.getD s.a.toNat 0) (a.getD s.b.toNat 0); omega
theorem fdC_ok {vars : Int} : ∀ {c : List Step} {a : List Int}, (∀ s ∈ c, SOk vars s) → (∀ x ∈ a, -1 ≤ x ∧ x ≤ 255) → ∀ s ∈ fdC c a, SOk vars s
  | [], _, _, _ => fun s hs => absurd hs (by simp [fdC])
  | t :: c, a, hc, ha => fun s hs => by
    rcases List.mem_cons.1 (show s ∈ fd1 a t :: fdC c (kn1 a t) from hs) with rfl | hs
    · have ht := hc t (by simp)
      unfold fd1
      split
      · exact ht
      · rename_i hne
        have := mkK_bd ha ht
        obtain ⟨-, -, -, -, h5, -⟩ := ht
        exact ⟨by simp, by simp, fun _ => by dsimp only; omega, fun h => by simp at h, h5, fun h => by simp at h⟩
    · exact fdC_ok (fun u hu => hc u (by simp [hu])) (kn1_bd ha (hc t (by simp))) s hs
theorem fdC_run {vars : Int} : ∀ {c : List Step} {v a : List Int}, (∀ s ∈ c, SOk vars s) → leK v a → (a.length : Int) = vars → (∀ x ∈ v, 0 ≤ x ∧ x ≤ 255) → dgR v (fdC c a) = dgR v c
  | [], _, _, _, _, _, _ => rfl
  | s :: c, v, a, hc, h, hl, hv => by
    show dgR (dg1 v (fd1 a s)) (fdC c (kn1 a s)) = dgR (dg1 v s) c
    have hs := hc s (by simp)
    have e : dg1 v (fd1 a s) = dg1 v s := by
      unfold fd1
      split
      · rfl
      · rename_i hne
        have e1 := mkK_full (v := v) (s := s) hv
        rcases mkK_mono h hl hs with e2 | e2
        · exact absurd e2 hne
        · rw [← e1]
          unfold dg1 kn1
          rw [if_pos rfl, e2]
    rw [e]
    have h1 := leK_step h hl hs
    rw [mkK_full hv] at h1
    exact fdC_run (fun t ht => hc t (by simp [ht])) h1 (by rw [kn1_len]; exact hl) (dg1_bd hv hs)

/-- A block, with what is known put in. -/
def fdT (b : Blk) (a : List Int) : Blk :=
  if 0 ≤ b.test ∧ (goK b (knR a b.code)).length = 1 then ⟨fdC b.code a, -1, (goK b (knR a b.code)).headD 0, 0⟩ else ⟨fdC b.code a, b.test, b.thn, b.els⟩
def fdB (b : Blk) (a : List Int) : Blk := if a = [] then bnul else fdT b a
theorem fdT_code (b : Blk) (a : List Int) : (fdT b a).code = fdC b.code a := by unfold fdT; split <;> rfl
theorem bnul_ok {vars n : Int} (h : 1 ≤ vars) : BOk vars n bnul := ⟨fun s hs => absurd hs (by simp [bnul]), by decide, by show (-1 : Int) < vars; omega, fun h => absurd h (by decide), fun _ => .inl rfl⟩
theorem goK_mem {b : Blk} {a : List Int} (ht : 0 ≤ b.test) : ∀ j ∈ goK b a, j = b.thn ∨ j = b.els := by
  intro j hj
  unfold goK at hj
  rw [if_neg (by omega)] at hj
  split at hj
  · simp at hj; exact .inl hj
  · split at hj
    · simp at hj; exact .inr hj
    · simp at hj; exact hj
theorem goK_ne {b : Blk} {a : List Int} (ht : 0 ≤ b.test) : goK b a ≠ [] := by
  unfold goK
  rw [if_neg (by omega)]
  split
  · simp
  · split <;> simp
theorem fdB_ok {vars n : Int} {b : Blk} {a : List Int} (h : BOk vars n b) (hv : 1 ≤ vars) (ha : ∀ x ∈ a, -1 ≤ x ∧ x ≤ 255) : BOk vars n (fdB b a) := by
  unfold fdB
  split
  · exact bnul_ok hv
  · unfold fdT
    split
    · rename_i ht
      refine ⟨fdC_ok h.code ha, by simp, by show (-1 : Int) < vars; omega, fun h => by simp at h, fun _ => .inr ?_⟩
      have h2 := h.two ht.1
      have hm : (goK b (knR a b.code)).headD 0 ∈ goK b (knR a b.code) := by
        have := goK_ne (a := knR a b.code) ht.1
        revert this
        cases goK b (knR a b.code) with
        | nil => intro h; exact absurd rfl h
        | cons x r => intro _; simp
      rcases goK_mem ht.1 _ hm with e | e <;> · dsimp only; rw [e]; omega
    · exact ⟨fdC_ok h.code ha, h.lo, h.hi, h.two, h.one⟩
def foldP (p : List Blk) (F : List (List Int)) : List Blk := List.zipWith fdB p F
theorem foldP_len {p : List Blk} {F : List (List Int)} (h : F.length = p.length) : (foldP p F).length = p.length := by unfold foldP; rw [List.length_zipWith]; omega
theorem foldP_get {p : List Blk} {F : List (List Int)} (h : F.length = p.length) {i : Nat} (hi : i < p.length) : (foldP p F).getD i bnul = fdB p[i] (rowF F i) := by
  rw [bget (by rw [foldP_len h]; exact hi)]
  unfold foldP
  rw [List.getElem_zipWith, rowF_get (by omega)]
theorem foldP_succ {p : List Blk} {F : List (List Int)} (h : F.length = p.length) {k : Nat} (hk : k < p.length) : foldP (p.take (k + 1)) (F.take (k + 1)) = foldP (p.take k) (F.take k) ++ [fdB p[k] (rowF F k)] := by
  unfold foldP
  rw [List.take_succ_eq_append_getElem hk, List.take_succ_eq_append_getElem (show k < F.length by omega), List.zipWith_append (by rw [List.length_take, List.length_take]; omega), rowF_get (by omega)]
  rfl
theorem manyB_fold : ∀ (p : List Blk) (F : List (List Int)), manyB (foldP p F) ≤ manyB p
  | [], _ => by simp [foldP, manyB]
  | b :: p, [] => by simp [foldP, manyB]
  | b :: p, a :: F => by
    have := manyB_fold p F
    have e : (fdB b a).code.length ≤ b.code.length := by
      unfold fdB
      split
      · simp [bnul]
      · rw [fdT_code, fdC_len]; exact Nat.le_refl _
    show manyB (fdB b a :: foldP p F) ≤ _
    have e1 : manyB (fdB b a :: foldP p F) = (fdB b a).code.length + manyB (foldP p F) := by unfold manyB; simp
    have e2 : manyB (b :: p) = b.code.length + manyB p := by unfold manyB; simp
    omega
theorem foldP_ok {vars : Int} {p : List Blk} {h0 : List Int} {F : List (List Int)} (hp : POk vars p) (hF : InvK vars p h0 F) : POk vars (foldP p F) := by
  have hl := foldP_len hF.len
  refine ⟨hp.v1, hp.v6, by rw [hl]; exact hp.n1, by rw [hl]; exact hp.n8, Nat.le_trans (manyB_fold p F) hp.many, fun b hb => ?_⟩
  obtain ⟨i, hi, rfl⟩ := List.getElem_of_mem hb
  have hi' : i < p.length := by omega
  have e := foldP_get hF.len hi'
  rw [bget hi] at e
  rw [e, hl]
  exact fdB_ok (hp.bs _ (List.getElem_mem hi')) hp.v1 (hF.bd i)
/-- One turn goes alike. -/
theorem fdB_go {vars : Int} {p : List Blk} {h0 v : List Int} {F : List (List Int)} (hp : POk vars p) (hF : InvK vars p h0 F) {i : Nat} (hi : i < p.length) (hne : rowF F i ≠ []) (h : leK v (rowF F i)) (hv : ∀ x ∈ v, 0 ≤ x ∧ x ≤ 255) : goB (foldP p F) (i : Int) v = goB p (i : Int) v := by
  have hb := hp.bs _ (List.getElem_mem hi)
  have hw := hF.wid i hne
  have hr := fdC_run (vars := vars) hb.code h hw hv
  have hk := leK_run hb.code h hw hv
  have hg := goK_in (v := v) hp hi (a := knR (rowF F i) p[i].code) (by rw [knR_len]; exact hw) hk
  unfold goB at hg ⊢
  rw [Int.toNat_natCast] at hg ⊢
  rw [foldP_get hF.len hi]
  rw [bget hi] at hg ⊢
  unfold fdB
  rw [if_neg hne]
  generalize rowF F i = a at *
  unfold fdT
  dsimp only at hg
  by_cases hc : 0 ≤ p[i].test ∧ (goK p[i] (knR a p[i].code)).length = 1
  · rw [if_pos hc]
    dsimp only
    rw [hr, if_neg (show ¬ ((0 : Int) ≤ -1 ∧ _) from fun h => by have := h.1; omega)]
    have h2 := hb.two hc.1
    have hg := hg (by split <;> omega)
    obtain ⟨x, hx⟩ := List.length_eq_one_iff.1 hc.2
    rw [hx] at hg ⊢
    rw [List.mem_singleton] at hg
    rw [hg]; rfl
  · rw [if_neg hc]
    dsimp only
    rw [hr]
/-- The folded program runs as the program does. -/
theorem fold_run {vars : Int} {p : List Blk} {h0 v : List Int} {F : List (List Int)} (hp : POk vars p) (hF : SolK vars p h0 F) (hl : (v.length : Int) = vars) (hv : ∀ x ∈ v, 0 ≤ x ∧ x ≤ 255) (hs : leK v h0) : ∀ k, runsB p v k → stB (foldP p F) v k = stB p v k
  | 0, _ => rfl
  | k + 1, hr => by
    have ih := fold_run hp hF hl hv hs k (fun j hj => hr j (by omega))
    obtain ⟨a, h1, h2⟩ := known_run hp hF.2.postK hl hv hs k hr
    obtain ⟨rfl, hne⟩ := optF_get.1 h1
    obtain ⟨s1, s2, s3, s4⟩ := st_ok hp hl hv k (fun j hj => hr j (by omega))
    have hn := hr k (by omega)
    show goB (foldP p F) (stB (foldP p F) v k).1 (stB (foldP p F) v k).2 = goB p (stB p v k).1 (stB p v k).2
    rw [ih]
    generalize stB p v k = st at *
    obtain ⟨i, u⟩ := st
    dsimp only at *
    obtain ⟨n, rfl⟩ := Int.eq_ofNat_of_zero_le hn
    rw [Int.toNat_natCast] at hne h2
    exact fdB_go hp hF.1 (by omega) hne h2 s2
theorem fold_runs {vars : Int} {p : List Blk} {h0 v : List Int} {F : List (List Int)} (hp : POk vars p) (hF : SolK vars p h0 F) (hl : (v.length : Int) = vars) (hv : ∀ x ∈ v, 0 ≤ x ∧ x ≤ 255) (hs : leK v h0) : ∀ k, runsB (foldP p F) v k ↔ runsB p v k
  | 0 => ⟨fun _ j hj => by omega, fun _ j hj => by omega⟩
  | k + 1 => by
    have ih := fold_runs hp hF hl hv hs k
    constructor
    · intro h j hj
      have hk := ih.1 fun j hj => h j (by omega)
      rcases Nat.lt_or_ge j k with h1 | h1
      · exact hk j h1
      · obtain rfl : j = k := by omega
        rw [← fold_run hp hF hl hv hs j hk]; exact h j hj
    · intro h j hj
      rw [fold_run hp hF hl hv hs j (fun i hi => h i (by omega))]
      exact h j hj
theorem fold_was {vars : Int} {p : List Blk} {h0 v : List Int} {F : List (List Int)} (hp : POk vars p) (hF : SolK vars p h0 F) (hl : (v.length : Int) = vars) (hv : ∀ x ∈ v, 0 ≤ x ∧ x ≤ 255) (hs : leK v h0) (k : Nat) (h : runsB p v k) : wasB (foldP p F) v k = wasB p v k := by
  unfold wasB
  refine List.map_congr_left fun j hj => ?_
  rw [List.mem_range] at hj
  rw [fold_run hp hF hl hv hs j (fun i hi => h i (by omega))]
end Go.Proofs.Ytmgejacndhnikaa
