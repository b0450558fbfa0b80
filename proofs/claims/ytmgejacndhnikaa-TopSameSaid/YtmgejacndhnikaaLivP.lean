/- Liveness, plain: the sets that package live makes, round by round; what agrees in them runs alike. -/
import Derived.Test.YtmgejacndhnikaaBlkP
import Derived.Test.YtmgejacndhnikaaAndN
namespace Go.Proofs.Ytmgejacndhnikaa
open Go.RowKit

/-- Ahead of a step. -/
noncomputable def ahL (s : Step) (l : Nat) : Nat :=
  if s.op = 1 then andN l (2 ^ s.to.toNat) else if s.op = 2 then andN l (2 ^ s.to.toNat) ||| 2 ^ s.val.toNat else (andN l (2 ^ s.to.toNat) ||| 2 ^ s.a.toNat) ||| 2 ^ s.b.toNat
/-- Ahead of steps. -/
noncomputable def ahC (c : List Step) (l : Nat) : Nat := c.foldr ahL l
theorem ahC_cons (s : Step) (c : List Step) (l : Nat) : ahC (s :: c) l = ahL s (ahC c l) := rfl
theorem ahC_append (a b : List Step) (l : Nat) : ahC (a ++ b) l = ahC a (ahC b l) := List.foldr_append ..
def getU (F : List Nat) (i : Nat) : Nat := F.getD i 0
theorem getU_get {F : List Nat} {i : Nat} (h : i < F.length) : getU F i = F[i] := by unfold getU; rw [List.getD_eq_getElem?_getD, List.getElem?_eq_getElem h]; rfl
/-- Behind a block's steps, ahead of its test. -/
def bh0 (want : Nat) (b : Blk) : Nat := if nxB b = [] then want else if 0 ≤ b.test then 2 ^ b.test.toNat else 0
def bhL (want : Nat) (F : List Nat) (b : Blk) : Nat := (nxB b).foldl (fun s j => s ||| getU F j.toNat) (bh0 want b)
def bhF (p : List Blk) (want : Nat) (F : List Nat) : List Nat := p.map (bhL want F)
noncomputable def phL (p : List Blk) (want : Nat) (F : List Nat) : List Nat := p.map fun b => ahC b.code (bhL want F b)
noncomputable def lvK (p : List Blk) (want : Nat) : Nat → List Nat
  | 0 => List.replicate p.length 0
  | k + 1 => phL p want (lvK p want k)
theorem phL_len (p : List Blk) (want : Nat) (F : List Nat) : (phL p want F).length = p.length := by simp [phL]
theorem bhF_len (p : List Blk) (want : Nat) (F : List Nat) : (bhF p want F).length = p.length := by simp [bhF]
theorem lvK_len (p : List Blk) (want : Nat) : ∀ k, (lvK p want k).length = p.length
  | 0 => by simp [lvK]
  | k + 1 => phL_len _ _ _

/-- Bits. -/
theorem ahL_bit {s : Step} {l : Nat} (hl : l < 4294967296) (k : Nat) : (ahL s l).testBit k = true ↔ (l.testBit k = true ∧ s.to.toNat ≠ k) ∨ (s.op = 2 ∧ s.val.toNat = k) ∨ (s.op ≠ 1 ∧ s.op ≠ 2 ∧ (s.a.toNat = k ∨ s.b.toNat = k)) := by
  have h1 : (andN l (2 ^ s.to.toNat)).testBit k = true ↔ l.testBit k = true ∧ s.to.toNat ≠ k := by
    rw [andN_bit _ hl, testBit_pow, Bool.and_eq_true, Bool.not_eq_true', decide_eq_false_iff_not]
  unfold ahL
  by_cases o1 : s.op = 1
  · rw [if_pos o1, h1]
    exact ⟨.inl, fun h => h.elim id (fun h => h.elim (fun h => by omega) (fun h => absurd o1 h.1))⟩
  rw [if_neg o1]
  by_cases o2 : s.op = 2
  · rw [if_pos o2, set_bit, Bool.or_eq_true, h1, decide_eq_true_eq]
    exact ⟨fun h => h.elim .inl (fun h => .inr (.inl ⟨o2, h⟩)), fun h => h.elim .inl (fun h => h.elim (fun h => .inr h.2) (fun h => absurd o2 h.2.1))⟩
  · rw [if_neg o2, set_bit, set_bit, Bool.or_eq_true, Bool.or_eq_true, h1, decide_eq_true_eq, decide_eq_true_eq]
    exact ⟨fun h => h.elim (fun h => h.elim .inl (fun h => .inr (.inr ⟨o1, o2, .inl h⟩))) (fun h => .inr (.inr ⟨o1, o2, .inr h⟩)),
      fun h => h.elim (fun h => .inl (.inl h)) (fun h => h.elim (fun h => absurd h.1 o2) (fun h => h.2.2.elim (fun h => .inl (.inr h)) .inr))⟩
theorem fold_bit (F : List Nat) (k : Nat) : ∀ (js : List Int) (s : Nat), (js.foldl (fun s j => s ||| getU F j.toNat) s).testBit k = true ↔ s.testBit k = true ∨ ∃ j ∈ js, (getU F j.toNat).testBit k = true
  | [], s => by simp
  | j :: js, s => by
    rw [List.foldl_cons, fold_bit F k js, Nat.testBit_or, Bool.or_eq_true]
    simp only [List.mem_cons, exists_eq_or_imp, or_assoc]
theorem bhL_bit (want : Nat) (F : List Nat) (b : Blk) (k : Nat) : (bhL want F b).testBit k = true ↔ (bh0 want b).testBit k = true ∨ ∃ j ∈ nxB b, (getU F j.toNat).testBit k = true := fold_bit F k _ _
theorem bh0_bit (want : Nat) (b : Blk) (k : Nat) : (bh0 want b).testBit k = true ↔ (nxB b = [] ∧ want.testBit k = true) ∨ (nxB b ≠ [] ∧ 0 ≤ b.test ∧ b.test.toNat = k) := by
  unfold bh0
  by_cases h : nxB b = []
  · rw [if_pos h]; simp [h]
  · rw [if_neg h]
    by_cases h0 : 0 ≤ b.test
    · rw [if_pos h0, testBit_pow, decide_eq_true_eq]; simp [h, h0]
    · rw [if_neg h0]; simp [h, h0]

/-- All words of F lie below b. -/
def ltU (F : List Nat) (b : Nat) : Prop := ∀ i, getU F i < b
theorem getU_phL {p : List Blk} (want : Nat) (F : List Nat) {i : Nat} (hi : i < p.length) : getU (phL p want F) i = ahC (p.getD i bnul).code (bhL want F (p.getD i bnul)) := by
  rw [getU_get (by rw [phL_len]; exact hi), bget hi]
  unfold phL
  rw [List.getElem_map]
theorem getU_bhF {p : List Blk} (want : Nat) (F : List Nat) {i : Nat} (hi : i < p.length) : getU (bhF p want F) i = bhL want F (p.getD i bnul) := by
  rw [getU_get (by rw [bhF_len]; exact hi), bget hi]
  unfold bhF
  rw [List.getElem_map]
theorem getU_out {F : List Nat} {i : Nat} (h : F.length ≤ i) : getU F i = 0 := by unfold getU; rw [List.getD_eq_getElem?_getD, List.getElem?_eq_none h]; rfl
theorem lt_of_bits {s n : Nat} (h : ∀ k, s.testBit k = true → k < n) : s < 2 ^ n := lt_pow_of_bits h
theorem ahL_lt {vars : Int} {s : Step} (hs : SOk vars s) {n : Nat} (hn : vars = n) (h6 : n ≤ 6) {l : Nat} (hl : l < 2 ^ n) : ahL s l < 2 ^ n := by
  obtain ⟨_, _, _, h2, h3, h4⟩ := hs
  have hl32 : l < 4294967296 := Nat.lt_of_lt_of_le hl (Nat.le_trans (Nat.pow_le_pow_right (by decide) h6) (by decide))
  refine lt_of_bits fun k hk => ?_
  rw [ahL_bit hl32] at hk
  rcases hk with ⟨h, _⟩ | ⟨e, rfl⟩ | ⟨n1, n2, rfl | rfl⟩
  · exact bit_lt hl h
  · have := h2 e; omega
  · have := (h4 (by omega)).1; omega
  · have := (h4 (by omega)).2; omega
theorem ahC_lt {vars : Int} {n : Nat} (hn : vars = n) (h6 : n ≤ 6) : ∀ {c : List Step} {l : Nat}, (∀ s ∈ c, SOk vars s) → l < 2 ^ n → ahC c l < 2 ^ n
  | [], _, _, h => h
  | s :: c, l, hs, h => by
    rw [ahC_cons]
    exact ahL_lt (hs s (by simp)) hn h6 (ahC_lt hn h6 (fun t ht => hs t (by simp [ht])) h)
theorem bhL_lt {vars : Int} {m : Int} {b : Blk} (hb : BOk vars m b) {n : Nat} (hn : vars = n) {want : Nat} (hw : want < 2 ^ n) {F : List Nat} (hF : ltU F (2 ^ n)) : bhL want F b < 2 ^ n := by
  refine lt_of_bits fun k hk => ?_
  rw [bhL_bit, bh0_bit] at hk
  rcases hk with (⟨_, h⟩ | ⟨_, h0, rfl⟩) | ⟨j, _, h⟩
  · exact bit_lt hw h
  · have := hb.hi; omega
  · exact bit_lt (hF _) h
theorem phL_lt {vars : Int} {p : List Blk} (hp : POk vars p) {n : Nat} (hn : vars = n) {want : Nat} (hw : want < 2 ^ n) {F : List Nat} (hF : ltU F (2 ^ n)) : ltU (phL p want F) (2 ^ n) := fun i => by
  have := hp.v6
  rcases Nat.lt_or_ge i p.length with hi | hi
  · rw [getU_phL want F hi, bget hi]
    have hb := hp.bs _ (List.getElem_mem hi)
    exact ahC_lt hn (by omega) hb.code (bhL_lt hb hn hw hF)
  · rw [getU_out (by rw [phL_len]; exact hi)]; exact Nat.two_pow_pos n
theorem lvK_lt {vars : Int} {p : List Blk} (hp : POk vars p) {n : Nat} (hn : vars = n) {want : Nat} (hw : want < 2 ^ n) : ∀ k, ltU (lvK p want k) (2 ^ n)
  | 0 => fun i => by
    have : getU (lvK p want 0) i = 0 := by
      show (List.replicate p.length 0).getD i 0 = 0
      rw [List.getD_eq_getElem?_getD, List.getElem?_replicate]; split <;> rfl
    rw [this]; exact Nat.two_pow_pos n
  | k + 1 => phL_lt hp hn hw (lvK_lt hp hn hw k)

/-- Sets within sets. -/
def leN (s t : Nat) : Prop := ∀ k, s.testBit k = true → t.testBit k = true
def leU (F G : List Nat) : Prop := ∀ i, leN (getU F i) (getU G i)
theorem leN.refl (s : Nat) : leN s s := fun _ h => h
theorem leN.trans {a b c : Nat} (h : leN a b) (k : leN b c) : leN a c := fun i hi => k i (h i hi)
theorem ahL_mono {s : Step} {l m : Nat} (hl : l < 4294967296) (hm : m < 4294967296) (h : leN l m) : leN (ahL s l) (ahL s m) := fun k hk => by
  rw [ahL_bit hl] at hk; rw [ahL_bit hm]
  exact hk.imp (fun x => ⟨h k x.1, x.2⟩) id
theorem ahC_mono {vars : Int} {n : Nat} (hn : vars = n) (h6 : n ≤ 6) : ∀ {c : List Step} {l m : Nat}, (∀ s ∈ c, SOk vars s) → l < 2 ^ n → m < 2 ^ n → leN l m → leN (ahC c l) (ahC c m)
  | [], _, _, _, _, _, h => h
  | s :: c, l, m, hs, hl, hm, h => by
    have h64 : 2 ^ n ≤ 4294967296 := Nat.le_trans (Nat.pow_le_pow_right (by decide) h6) (by decide)
    have hs' : ∀ t ∈ c, SOk vars t := fun t ht => hs t (by simp [ht])
    rw [ahC_cons, ahC_cons]
    exact ahL_mono (Nat.lt_of_lt_of_le (ahC_lt hn h6 hs' hl) h64) (Nat.lt_of_lt_of_le (ahC_lt hn h6 hs' hm) h64) (ahC_mono hn h6 hs' hl hm h)
theorem bhL_mono {want want' : Nat} {F G : List Nat} {b : Blk} (hw : leN want want') (h : leU F G) : leN (bhL want F b) (bhL want' G b) := fun k hk => by
  rw [bhL_bit, bh0_bit] at hk ⊢
  exact hk.imp (fun x => x.imp (fun y => ⟨y.1, hw k y.2⟩) id) (fun ⟨j, hj, x⟩ => ⟨j, hj, h _ k x⟩)
theorem phL_mono {vars : Int} {p : List Blk} (hp : POk vars p) {n : Nat} (hn : vars = n) {want want' : Nat} (hw : want < 2 ^ n) (hw' : want' < 2 ^ n) (hww : leN want want') {F G : List Nat} (hF : ltU F (2 ^ n)) (hG : ltU G (2 ^ n)) (h : leU F G) : leU (phL p want F) (phL p want' G) := fun i => by
  have := hp.v6
  rcases Nat.lt_or_ge i p.length with hi | hi
  · rw [getU_phL want F hi, getU_phL want' G hi, bget hi]
    have hb := hp.bs _ (List.getElem_mem hi)
    exact ahC_mono hn (by omega) hb.code (bhL_lt hb hn hw hF) (bhL_lt hb hn hw' hG) (bhL_mono hww h)
  · rw [getU_out (by rw [phL_len]; exact hi), getU_out (by rw [phL_len]; exact hi)]; exact leN.refl _
theorem lvK_zero {p : List Blk} {want : Nat} (i : Nat) : getU (lvK p want 0) i = 0 := by
  show (List.replicate p.length 0).getD i 0 = 0
  rw [List.getD_eq_getElem?_getD, List.getElem?_replicate]; split <;> rfl
theorem lvK_up {vars : Int} {p : List Blk} (hp : POk vars p) {n : Nat} (hn : vars = n) {want : Nat} (hw : want < 2 ^ n) : ∀ k, leU (lvK p want k) (lvK p want (k + 1))
  | 0 => fun i k h => by rw [lvK_zero, Nat.zero_testBit] at h; cases h
  | k + 1 => phL_mono hp hn hw hw (leN.refl _) (lvK_lt hp hn hw k) (lvK_lt hp hn hw (k + 1)) (lvK_up hp hn hw k)

/-- How much is set: what a round raises. -/
def wgU (F : List Nat) : Nat := (F.map cnt8).sum
theorem wgU_le : ∀ F : List Nat, wgU F ≤ 8 * F.length
  | [] => by simp [wgU]
  | s :: F => by
    have h1 := cnt8_le s
    have h2 := wgU_le F
    have e : wgU (s :: F) = cnt8 s + wgU F := by simp [wgU]
    rw [e, List.length_cons]; omega
theorem wgU_lt : ∀ {F G : List Nat}, F.length = G.length → leU F G → ltU G 256 → F ≠ G → wgU F < wgU G
  | [], [], _, _, _, h => absurd rfl h
  | s :: F, t :: G, hl, h, hG, hne => by
    have e1 : wgU (s :: F) = cnt8 s + wgU F := by simp [wgU]
    have e2 : wgU (t :: G) = cnt8 t + wgU G := by simp [wgU]
    have h0 : leN s t := h 0
    have ht : t < 256 := hG 0
    have hs : leU F G := fun i => h (i + 1)
    have hG' : ltU G 256 := fun i => hG (i + 1)
    have hl' : F.length = G.length := by simpa using hl
    rw [e1, e2]
    have c1 : cnt8 s ≤ cnt8 t := by
      by_cases e : s = t
      · rw [e]; exact Nat.le_refl _
      · exact Nat.le_of_lt (cnt8_mono_lt h0 e ht)
    have c2 : wgU F ≤ wgU G := by
      by_cases e : F = G
      · rw [e]; exact Nat.le_refl _
      · exact Nat.le_of_lt (wgU_lt hl' hs hG' e)
    by_cases e : s = t
    · have : F ≠ G := fun e' => hne (by rw [e, e'])
      have := wgU_lt hl' hs hG' this
      omega
    · have := cnt8_mono_lt h0 e ht; omega

/-- What solve makes. -/
def SolL (p : List Blk) (want : Nat) (F : List Nat) : Prop := (∃ k, F = lvK p want k) ∧ phL p want F = F
theorem lvK_stay {p : List Blk} {want k : Nat} (h : phL p want (lvK p want k) = lvK p want k) : ∀ m, lvK p want (k + m) = lvK p want k
  | 0 => rfl
  | m + 1 => by show phL p want (lvK p want (k + m)) = _; rw [lvK_stay h m, h]
theorem SolL.late {p : List Blk} {want : Nat} {F : List Nat} (h : SolL p want F) : ∃ k, ∀ m, k ≤ m → lvK p want m = F := by
  obtain ⟨⟨k, rfl⟩, h2⟩ := h
  exact ⟨k, fun m hm => by rw [show m = k + (m - k) by omega]; exact lvK_stay h2 _⟩
theorem SolL.uniq {p : List Blk} {want : Nat} {F G : List Nat} (h : SolL p want F) (h' : SolL p want G) : F = G := by
  obtain ⟨k, hk⟩ := h.late
  obtain ⟨k', hk'⟩ := h'.late
  rw [← hk (max k k') (by omega), ← hk' (max k k') (by omega)]
/-- The least one. -/
theorem SolL.least {vars : Int} {p : List Blk} (hp : POk vars p) {n : Nat} (hn : vars = n) {want : Nat} (hw : want < 2 ^ n) {F G : List Nat} (h : SolL p want F) (hG : ltU G (2 ^ n)) (hpost : leU (phL p want G) G) : leU F G := by
  obtain ⟨⟨k, rfl⟩, -⟩ := h
  induction k with
  | zero => exact fun i k h => by rw [lvK_zero, Nat.zero_testBit] at h; cases h
  | succ k ih => exact fun i => leN.trans (phL_mono hp hn hw hw (leN.refl _) (lvK_lt hp hn hw k) hG ih i) (hpost i)

/-- LiveMore: the sets of a union. -/
def orU (F G : List Nat) : List Nat := List.zipWith (· ||| ·) F G
theorem getU_orU {F G : List Nat} (h : F.length = G.length) (i : Nat) : getU (orU F G) i = getU F i ||| getU G i := by
  rcases Nat.lt_or_ge i F.length with hi | hi
  · rw [getU_get (by unfold orU; rw [List.length_zipWith]; omega), getU_get hi, getU_get (by omega)]
    unfold orU; rw [List.getElem_zipWith]
  · rw [getU_out (by unfold orU; rw [List.length_zipWith]; omega), getU_out hi, getU_out (by omega)]; rfl
theorem ext_U {F G : List Nat} (hl : F.length = G.length) (h : ∀ i, getU F i = getU G i) : F = G := by
  apply List.ext_getElem hl
  intro i h1 h2
  rw [← getU_get h1, ← getU_get h2, h]
theorem ahL_or {s : Step} {l m : Nat} (hl : l < 4294967296) (hm : m < 4294967296) : ahL s (l ||| m) = ahL s l ||| ahL s m := set_ext fun k => by
  have h32 : l ||| m < 4294967296 := Nat.or_lt_two_pow (n := 32) hl hm
  rw [Bool.eq_iff_iff, Nat.testBit_or, Bool.or_eq_true, ahL_bit h32, ahL_bit hl, ahL_bit hm, Nat.testBit_or, Bool.or_eq_true]
  constructor
  · rintro (⟨h | h, h'⟩ | h | h)
    · exact .inl (.inl ⟨h, h'⟩)
    · exact .inr (.inl ⟨h, h'⟩)
    · exact .inl (.inr (.inl h))
    · exact .inl (.inr (.inr h))
  · rintro ((⟨h, h'⟩ | h) | (⟨h, h'⟩ | h))
    · exact .inl ⟨.inl h, h'⟩
    · exact .inr h
    · exact .inl ⟨.inr h, h'⟩
    · exact .inr h
theorem ahC_or {vars : Int} {n : Nat} (hn : vars = n) (h6 : n ≤ 6) : ∀ {c : List Step} {l m : Nat}, (∀ s ∈ c, SOk vars s) → l < 2 ^ n → m < 2 ^ n → ahC c (l ||| m) = ahC c l ||| ahC c m
  | [], _, _, _, _, _ => rfl
  | s :: c, l, m, hs, hl, hm => by
    have h64 : 2 ^ n ≤ 4294967296 := Nat.le_trans (Nat.pow_le_pow_right (by decide) h6) (by decide)
    have hs' : ∀ t ∈ c, SOk vars t := fun t ht => hs t (by simp [ht])
    rw [ahC_cons, ahC_or hn h6 hs' hl hm, ahL_or (Nat.lt_of_lt_of_le (ahC_lt hn h6 hs' hl) h64) (Nat.lt_of_lt_of_le (ahC_lt hn h6 hs' hm) h64), ahC_cons, ahC_cons]
theorem bhL_or {a b : Nat} {F G : List Nat} (h : F.length = G.length) (x : Blk) : bhL (a ||| b) (orU F G) x = bhL a F x ||| bhL b G x := set_ext fun k => by
  rw [Bool.eq_iff_iff, Nat.testBit_or, Bool.or_eq_true, bhL_bit, bhL_bit, bhL_bit, bh0_bit, bh0_bit, bh0_bit, Nat.testBit_or, Bool.or_eq_true]
  simp only [getU_orU h, Nat.testBit_or, Bool.or_eq_true]
  constructor
  · rintro ((⟨h1, h | h⟩ | h) | ⟨j, hj, h | h⟩)
    · exact .inl (.inl (.inl ⟨h1, h⟩))
    · exact .inr (.inl (.inl ⟨h1, h⟩))
    · exact .inl (.inl (.inr h))
    · exact .inl (.inr ⟨j, hj, h⟩)
    · exact .inr (.inr ⟨j, hj, h⟩)
  · rintro (((⟨h1, h⟩ | h) | ⟨j, hj, h⟩) | ((⟨h1, h⟩ | h) | ⟨j, hj, h⟩))
    · exact .inl (.inl ⟨h1, .inl h⟩)
    · exact .inl (.inr h)
    · exact .inr ⟨j, hj, .inl h⟩
    · exact .inl (.inl ⟨h1, .inr h⟩)
    · exact .inl (.inr h)
    · exact .inr ⟨j, hj, .inr h⟩
theorem lvK_or {vars : Int} {p : List Blk} (hp : POk vars p) {n : Nat} (hn : vars = n) {a b : Nat} (ha : a < 2 ^ n) (hb : b < 2 ^ n) : ∀ k, lvK p (a ||| b) k = orU (lvK p a k) (lvK p b k)
  | 0 => ext_U (by simp [lvK, orU]) fun i => by rw [getU_orU (by rw [lvK_len, lvK_len]), lvK_zero, lvK_zero, lvK_zero]; rfl
  | k + 1 => ext_U (by unfold orU; rw [List.length_zipWith, lvK_len, lvK_len, lvK_len]; omega) fun i => by
    have h6 := hp.v6
    rw [getU_orU (by rw [lvK_len, lvK_len])]
    rcases Nat.lt_or_ge i p.length with hi | hi
    · show getU (phL p (a ||| b) (lvK p (a ||| b) k)) i = getU (phL p a (lvK p a k)) i ||| getU (phL p b (lvK p b k)) i
      rw [getU_phL _ _ hi, getU_phL _ _ hi, getU_phL _ _ hi, lvK_or hp hn ha hb k, bhL_or (by rw [lvK_len, lvK_len]), bget hi]
      have hbk := hp.bs _ (List.getElem_mem hi)
      exact ahC_or hn (by omega) hbk.code (bhL_lt hbk hn ha (lvK_lt hp hn ha k)) (bhL_lt hbk hn hb (lvK_lt hp hn hb k))
    · rw [getU_out (by rw [lvK_len]; exact hi), getU_out (by rw [lvK_len]; exact hi), getU_out (by rw [lvK_len]; exact hi)]; rfl
theorem SolL.more {vars : Int} {p : List Blk} (hp : POk vars p) {n : Nat} (hn : vars = n) {a b : Nat} (ha : a < 2 ^ n) (hb : b < 2 ^ n) {F G H : List Nat} (h1 : SolL p a F) (h2 : SolL p b G) (h3 : SolL p (a ||| b) H) : H = orU F G := by
  obtain ⟨k1, e1⟩ := h1.late
  obtain ⟨k2, e2⟩ := h2.late
  obtain ⟨k3, e3⟩ := h3.late
  have := lvK_or hp hn ha hb (max k1 (max k2 k3))
  rw [e1 _ (by omega), e2 _ (by omega), e3 _ (by omega)] at this
  exact this

/-- Alike for the variables of a set. -/
def aliL (s : Nat) (v u : List Int) : Prop := v.length = u.length ∧ ∀ k, s.testBit k = true → v.getD k 0 = u.getD k 0
theorem aliL.le {s t : Nat} {v u : List Int} (h : aliL t v u) (hs : leN s t) : aliL s v u := ⟨h.1, fun k hk => h.2 k (hs k hk)⟩
theorem getD_setI {r : List Int} {j : Nat} (x : Int) (i : Nat) (hj : j < r.length) : (r.set j x).getD i 0 = if j = i then x else r.getD i 0 := by
  rw [List.getD_eq_getElem?_getD, List.getElem?_set]
  by_cases h : j = i
  · rw [if_pos h, if_pos h, if_pos hj]; rfl
  · rw [if_neg h, if_neg h]; rfl
/-- What a step puts. -/
def putS (s : Step) (v : List Int) : Int := if s.op = 1 then s.val else if s.op = 2 then v.getD s.val.toNat 0 else doF s.op (v.getD s.a.toNat 0) (v.getD s.b.toNat 0)
theorem dg1_put (s : Step) (v : List Int) : dg1 v s = v.set s.to.toNat (putS s v) := rfl
theorem aliL_step {vars : Int} {s : Step} (hs : SOk vars s) {v u : List Int} (hv : (v.length : Int) = vars) {l : Nat} (hl : l < 4294967296) (h : aliL (ahL s l) v u) : aliL l (dg1 v s) (dg1 u s) := by
  obtain ⟨h1, h6, h2, h3, h4, h5⟩ := hs
  refine ⟨by rw [dg1_len, dg1_len]; exact h.1, fun k hk => ?_⟩
  have hlv := h.1
  rw [dg1_put, dg1_put, getD_setI _ _ (by omega), getD_setI _ _ (by omega)]
  have hb := fun k => ahL_bit (s := s) hl k
  by_cases e : s.to.toNat = k
  · rw [if_pos e, if_pos e]
    unfold putS
    by_cases o1 : s.op = 1
    · rw [if_pos o1, if_pos o1]
    rw [if_neg o1, if_neg o1]
    by_cases o2 : s.op = 2
    · rw [if_pos o2, if_pos o2]
      exact h.2 _ ((hb _).2 (.inr (.inl ⟨o2, rfl⟩)))
    · rw [if_neg o2, if_neg o2, h.2 _ ((hb _).2 (.inr (.inr ⟨o1, o2, .inl rfl⟩))), h.2 _ ((hb _).2 (.inr (.inr ⟨o1, o2, .inr rfl⟩)))]
  · rw [if_neg e, if_neg e]
    exact h.2 k ((hb k).2 (.inl ⟨hk, e⟩))
theorem aliL_code {vars : Int} {n : Nat} (hn : vars = n) (h6 : n ≤ 6) : ∀ {c : List Step} {v u : List Int} {l : Nat}, (∀ s ∈ c, SOk vars s) → (v.length : Int) = vars → l < 2 ^ n → aliL (ahC c l) v u → aliL l (dgR v c) (dgR u c)
  | [], _, _, _, _, _, _, h => h
  | s :: c, v, u, l, hs, hv, hl, h => by
    have h64 : 2 ^ n ≤ 4294967296 := Nat.le_trans (Nat.pow_le_pow_right (by decide) h6) (by decide)
    have hs' : ∀ t ∈ c, SOk vars t := fun t ht => hs t (by simp [ht])
    rw [ahC_cons] at h
    show aliL l (dgR (dg1 v s) c) (dgR (dg1 u s) c)
    exact aliL_code hn h6 hs' (by rw [dg1_len]; exact hv) hl (aliL_step (hs s (by simp)) hv (Nat.lt_of_lt_of_le (ahC_lt hn h6 hs' hl) h64) h)
/-- One block that is left alike: where one goes, what one has. -/
theorem go_like {vars : Int} {p q : List Blk} (hp : POk vars p) {want : Nat} {F : List Nat} {i : Nat} (hi : i < p.length) {v u : List Int}
    (ht : (q.getD i bnul).test = (p.getD i bnul).test) (hth : (q.getD i bnul).thn = (p.getD i bnul).thn) (he : (q.getD i bnul).els = (p.getD i bnul).els)
    (h : aliL (bhL want F (p.getD i bnul)) (dgR v (p.getD i bnul).code) (dgR u (q.getD i bnul).code)) :
    (goB q (i : Int) u).1 = (goB p (i : Int) v).1 ∧ (0 ≤ (goB p (i : Int) v).1 → aliL (getU F (goB p (i : Int) v).1.toNat) (goB p (i : Int) v).2 (goB q (i : Int) u).2) ∧ ((goB p (i : Int) v).1 < 0 → aliL want (goB p (i : Int) v).2 (goB q (i : Int) u).2) := by
  have e1 : (goB q (i : Int) u).1 = (goB p (i : Int) v).1 := by
    unfold goB
    rw [Int.toNat_natCast, ht, hth, he]
    dsimp only
    by_cases h0 : 0 ≤ (p.getD i bnul).test
    · have hb := hp.bs _ (List.getElem_mem hi)
      rw [← bget hi] at hb
      have hne : nxB (p.getD i bnul) ≠ [] := by
        have := hb.two h0
        unfold nxB
        rw [if_pos this.1.1]; simp
      have := h.2 _ ((bhL_bit _ _ _ _).2 (.inl ((bh0_bit _ _ _).2 (.inr ⟨hne, h0, rfl⟩))))
      rw [this]
    · rw [if_neg (fun h => h0 h.1), if_neg (fun h => h0 h.1)]
  have e2 : (goB p (i : Int) v).2 = dgR v (p.getD i bnul).code := by unfold goB; rw [Int.toNat_natCast]
  have e3 : (goB q (i : Int) u).2 = dgR u (q.getD i bnul).code := by unfold goB; rw [Int.toNat_natCast]
  refine ⟨e1, fun h0 => ?_, fun h0 => ?_⟩
  · have hm := go_in hp hi h0
    rw [← bget hi] at hm
    rw [e2, e3]
    exact h.le fun k hk => (bhL_bit _ _ _ _).2 (.inr ⟨_, hm, hk⟩)
  · have hm := go_end hp hi h0
    rw [← bget hi] at hm
    rw [e2, e3]
    exact h.le fun k hk => (bhL_bit _ _ _ _).2 (.inl ((bh0_bit _ _ _).2 (.inl ⟨hm, hk⟩)))
/-- Blocks of q as of p, but for steps. -/
structure LikeP (vars : Int) (p q : List Blk) (want : Nat) (F : List Nat) : Prop where
  test : ∀ i, (q.getD i bnul).test = (p.getD i bnul).test
  thn : ∀ i, (q.getD i bnul).thn = (p.getD i bnul).thn
  els : ∀ i, (q.getD i bnul).els = (p.getD i bnul).els
  code : ∀ i, i < p.length → ∀ v u : List Int, (v.length : Int) = vars → aliL (getU F i) v u → aliL (bhL want F (p.getD i bnul)) (dgR v (p.getD i bnul).code) (dgR u (q.getD i bnul).code)
theorem run_like {vars : Int} {p q : List Blk} (hp : POk vars p) {want : Nat} {F : List Nat} (hq : LikeP vars p q want F) {v u : List Int} (hl : (v.length : Int) = vars) (hb : ∀ x ∈ v, 0 ≤ x ∧ x ≤ 255) (h0 : aliL (getU F 0) v u) :
    ∀ k, runsB p v k → (stB q u k).1 = (stB p v k).1 ∧ (0 ≤ (stB p v k).1 → aliL (getU F (stB p v k).1.toNat) (stB p v k).2 (stB q u k).2) ∧ ((stB p v k).1 < 0 → aliL want (stB p v k).2 (stB q u k).2)
  | 0, _ => ⟨rfl, fun _ => h0, fun h => absurd h (by show ¬ (0 : Int) < 0; omega)⟩
  | k + 1, hr => by
    obtain ⟨i1, i2, -⟩ := run_like hp hq hl hb h0 k (fun j hj => hr j (by omega))
    have hk := hr k (by omega)
    obtain ⟨s1, s2, s3, s4⟩ := st_ok hp hl hb k (fun j hj => hr j (by omega))
    rw [st_succ, st_succ, i1]
    have i2 := i2 hk
    generalize stB p v k = a at *
    generalize stB q u k = b at *
    obtain ⟨ai, av⟩ := a
    obtain ⟨bi, bv⟩ := b
    dsimp only at *
    obtain ⟨n, rfl⟩ := Int.eq_ofNat_of_zero_le hk
    exact go_like hp (by omega) (hq.test n) (hq.thn n) (hq.els n) (hq.code n (by omega) _ _ s1 i2)
theorem likeP_self {vars : Int} {p : List Blk} (hp : POk vars p) {n : Nat} (hn : vars = n) {want : Nat} (hw : want < 2 ^ n) {F : List Nat} (hF : ltU F (2 ^ n)) (h : phL p want F = F) : LikeP vars p p want F :=
  ⟨fun _ => rfl, fun _ => rfl, fun _ => rfl, fun i hi v u hv ha => by
    have hb := hp.bs _ (List.getElem_mem hi)
    rw [← bget hi] at hb
    have h6 := hp.v6
    refine aliL_code hn (by omega) hb.code hv (bhL_lt hb hn hw hF) ?_
    rw [← getU_phL want F hi, h]
    exact ha⟩
/-- Alike runs: the same turns. -/
theorem runs_like {p q : List Blk} {v u : List Int} (h : ∀ k, runsB p v k → (stB q u k).1 = (stB p v k).1) : ∀ k, runsB p v k ↔ runsB q u k
  | 0 => ⟨fun _ j hj => by omega, fun _ j hj => by omega⟩
  | k + 1 => by
    constructor
    · intro hr j hj
      rw [h j (fun i hi => hr i (by omega))]; exact hr j hj
    · intro hr
      have ih := (runs_like h k).2 (fun j hj => hr j (by omega))
      intro j hj
      rcases Nat.lt_or_ge j k with h1 | h1
      · exact ih j h1
      · have : j = k := by omega
        subst this
        have := hr j (by omega)
        rw [h j ih] at this
        exact this
theorem was_like {p q : List Blk} {v u : List Int} (h : ∀ k, runsB p v k → (stB q u k).1 = (stB p v k).1) {k : Nat} (hr : runsB p v k) : wasB q u k = wasB p v k := by
  unfold wasB
  apply List.map_congr_left
  intro j hj
  rw [List.mem_range] at hj
  exact h j fun i hi => hr i (by omega)
end Go.Proofs.Ytmgejacndhnikaa
