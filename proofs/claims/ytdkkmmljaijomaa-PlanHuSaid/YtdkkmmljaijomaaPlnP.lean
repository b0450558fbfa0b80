/- Plans, plain: tasks that wait for each other, so many at a time. -/
import Derived.Test.YtdkkmmljaijomaaCntM
import Derived.Test.YtdkkmmljaijomaaSets
namespace Go.Proofs.Ytdkkmmljaijomaa
open Go.RowKit

theorem nodup_len {α : Type} : ∀ {l m : List α}, l.Nodup → (∀ x ∈ l, x ∈ m) → l.length ≤ m.length
  | [], _, _, _ => Nat.zero_le _
  | x :: r, m, hn, h => by
    rw [List.nodup_cons] at hn
    obtain ⟨a, b, rfl⟩ := List.append_of_mem (h x (by simp))
    have := nodup_len (l := r) (m := a ++ b) hn.2 fun y hy => by
      have hm := h y (by simp [hy])
      rw [List.mem_append, List.mem_cons] at hm
      rw [List.mem_append]
      rcases hm with hm | rfl | hm
      · exact .inl hm
      · exact absurd hy hn.1
      · exact .inr hm
    simp only [List.length_append, List.length_cons] at this ⊢
    omega
/-- How many numbers below 8 are so. -/
def cntB (p : Nat → Bool) : Nat := ((List.range 8).filter p).length
theorem cnt8_B (s : Nat) : cnt8 s = cntB fun k => s.testBit k := rfl
theorem cntB_inj {p q : Nat → Bool} (f : Nat → Nat) (hf : ∀ i, i < 8 → p i = true → f i < 8 ∧ q (f i) = true) (inj : ∀ i j, i < 8 → j < 8 → p i = true → p j = true → f i = f j → i = j) : cntB p ≤ cntB q := by
  unfold cntB
  rw [← List.length_map (as := (List.range 8).filter p) f]
  apply nodup_len
  · unfold List.Nodup
    rw [List.pairwise_map]
    have h : ((List.range 8).filter p).Pairwise (· ≠ ·) := (List.nodup_range (n := 8)).filter _
    refine h.imp_of_mem fun {a b} ha hb hne e => hne ?_
    rw [List.mem_filter, List.mem_range] at ha hb
    exact inj a b ha.1 hb.1 ha.2 hb.2 e
  · intro x hx
    obtain ⟨i, hi, rfl⟩ := List.mem_map.1 hx
    rw [List.mem_filter, List.mem_range] at hi ⊢
    exact hf i hi.1 hi.2
theorem cntB_mono {p q : Nat → Bool} (h : ∀ i, i < 8 → p i = true → q i = true) : cntB p ≤ cntB q := cntB_inj id (fun i hi hp => ⟨hi, h i hi hp⟩) fun _ _ _ _ _ _ e => e
theorem cntB_or {p q : Nat → Bool} (h : ∀ i, p i = true → q i = true → False) : cntB (fun k => p k || q k) = cntB p + cntB q := by
  unfold cntB
  generalize List.range 8 = l
  induction l with
  | nil => rfl
  | cons a l ih =>
    have ha := h a
    rw [List.filter_cons, List.filter_cons, List.filter_cons]
    cases hp : p a <;> cases hq : q a
    · simpa using ih
    · simp only [Bool.false_or, if_true, Bool.false_eq_true, if_false, List.length_cons]; omega
    · simp only [Bool.true_or, if_true, Bool.false_eq_true, if_false, List.length_cons]; omega
    · exact absurd hq (by intro e; exact ha hp e)
theorem cntB_le8 (p : Nat → Bool) : cntB p ≤ 8 := by
  unfold cntB
  have := List.length_filter_le p (List.range 8)
  simpa using this
theorem cntB_one : ∀ j : Fin 8, cntB (fun k => decide (k = j.1)) = 1 := by decide
theorem cntB_lt {p q : Nat → Bool} (h : ∀ i, i < 8 → p i = true → q i = true) {j : Nat} (hj : j < 8) (hq : q j = true) (hp : p j = false) : cntB p < cntB q := by
  have h1 := cntB_or (p := p) (q := fun k => decide (k = j)) (fun i h1 h2 => by
    have := of_decide_eq_true h2
    subst this
    rw [hp] at h1; cases h1)
  have h2 := cntB_one ⟨j, hj⟩
  have h3 : cntB (fun k => p k || decide (k = j)) ≤ cntB q := cntB_mono fun i hi hx => by
    rw [Bool.or_eq_true, decide_eq_true_eq] at hx
    rcases hx with hx | rfl
    · exact h i hi hx
    · exact hq
  dsimp only at h2
  omega
theorem cntB_pos {p : Nat → Bool} (h : 0 < cntB p) : ∃ i, i < 8 ∧ p i = true := by
  unfold cntB at h
  obtain ⟨x, hx⟩ := List.exists_mem_of_length_pos h
  rw [List.mem_filter, List.mem_range] at hx
  exact ⟨x, hx⟩

/-- Words as sets. -/
abbrev inW (s i : Nat) : Prop := s.testBit i = true
def subW (s t : Nat) : Prop := ∀ i, inW s i → inW t i
theorem subW.trans {a b c : Nat} (h : subW a b) (k : subW b c) : subW a c := fun i hi => k i (h i hi)
theorem or_in (a b i : Nat) : inW (a ||| b) i ↔ inW a i ∨ inW b i := by unfold inW; rw [Nat.testBit_or, Bool.or_eq_true]
theorem cnt8_sub {a b : Nat} (h : subW a b) : cnt8 a ≤ cnt8 b := cntB_mono fun i _ hi => h i hi
theorem cnt8_or_le (a b : Nat) : cnt8 (a ||| b) ≤ cnt8 a + cnt8 b := by
  have h1 := cntB_or (p := fun k => a.testBit k) (q := fun k => b.testBit k && !a.testBit k) (fun i h1 h2 => by rw [h1] at h2; simp at h2)
  have h2 : cntB (fun k => b.testBit k && !a.testBit k) ≤ cnt8 b := cntB_mono fun i _ hi => by rw [Bool.and_eq_true] at hi; exact hi.1
  have h3 : cnt8 (a ||| b) = cntB (fun k => a.testBit k || (b.testBit k && !a.testBit k)) := by
    rw [cnt8_B]; congr 1; funext k; rw [Nat.testBit_or]; cases a.testBit k <;> simp
  rw [h3, h1, ← cnt8_B]; omega
theorem cnt8_or_dis {a b : Nat} (h : ∀ i, inW a i → inW b i → False) : cnt8 (a ||| b) = cnt8 a + cnt8 b := by
  have h3 : cnt8 (a ||| b) = cntB (fun k => a.testBit k || b.testBit k) := by
    rw [cnt8_B]; congr 1; funext k; rw [Nat.testBit_or]
  rw [h3, cntB_or h]; rfl
theorem sub_eq {a b : Nat} (h : subW a b) (hb : b < 256) (hc : cnt8 b ≤ cnt8 a) : a = b := by
  apply Classical.byContradiction
  intro hne
  have := cnt8_mono_lt h hne hb
  omega
theorem lt256_of {s : Nat} (h : ∀ i, inW s i → i < 8) : s < 256 := lt_pow_of_bits (n := 8) h
theorem sub_lt {a b : Nat} (h : subW a b) (hb : b < 256) : a < 256 := lt256_of fun i hi => bit_lt (n := 8) hb (h i hi)
theorem cnt8_pos {s : Nat} (h : 0 < cnt8 s) : ∃ i, i < 8 ∧ inW s i := cntB_pos h
theorem cnt8_ne {s : Nat} (hs : s < 256) (h : s ≠ 0) : 0 < cnt8 s := by
  have := cnt8_mono_lt (s := 0) (t := s) (fun k hk => by rw [Nat.zero_testBit] at hk; cases hk) (fun e => h e.symm) hs
  omega
theorem cnt8_zero : cnt8 0 = 0 := by decide
theorem sub_of_cnt {r : Nat} (hr : r < 256) : ∀ (m : Nat) {a c : Nat}, c - cnt8 a = m → subW a r → cnt8 a ≤ c → c ≤ cnt8 r → ∃ s, subW a s ∧ subW s r ∧ cnt8 s = c
  | 0, a, c, hm, ha, h1, _ => ⟨a, fun _ h => h, ha, by omega⟩
  | m + 1, a, c, hm, ha, h1, h2 => by
    have hne : ∃ j, inW r j ∧ a.testBit j = false := by
      apply Classical.byContradiction
      intro hn
      have : subW r a := fun i hi => by
        cases h : a.testBit i
        · exact absurd ⟨i, hi, h⟩ hn
        · exact h
      have := cnt8_sub this
      omega
    obtain ⟨j, hj, hja⟩ := hne
    have hj8 := bit_lt (n := 8) hr hj
    have hc := cnt8_set hj8 hja
    obtain ⟨s, s1, s2, s3⟩ := sub_of_cnt hr m (a := a ||| 2 ^ j) (c := c) (by omega) (fun i hi => by
      unfold inW at hi
      rw [set_bit, Bool.or_eq_true, decide_eq_true_eq] at hi
      rcases hi with hi | rfl
      · exact ha i hi
      · exact hj) (by omega) h2
    exact ⟨s, fun i hi => s1 i ((or_in _ _ _).2 (.inl hi)), s2, s3⟩
def fullW (n : Nat) : Nat := 2 ^ n - 1
theorem full_in (n i : Nat) : inW (fullW n) i ↔ i < n := by unfold inW fullW; rw [Nat.testBit_two_pow_sub_one, decide_eq_true_eq]
theorem full_lt {n : Nat} (h : n ≤ 8) : fullW n < 256 := lt256_of fun i hi => by have := (full_in n i).1 hi; omega
theorem full_cnt : ∀ {n : Nat}, n ≤ 8 → cnt8 (fullW n) = n := by
  have h : ∀ n : Fin 9, cnt8 (fullW n.1) = n.1 := by decide
  exact fun {n} hn => h ⟨n, by omega⟩

/-- Which may be done next. -/
def Ready (n : Nat) (R : Nat → Nat → Prop) (d i : Nat) : Prop := i < n ∧ d.testBit i = false ∧ ∀ j, R j i → inW d j
noncomputable def rdW (n : Nat) (R : Nat → Nat → Prop) (d : Nat) : Nat := setN (Ready n R d)
/-- Each waits for lesser ones. -/
structure Dag (n : Nat) (R : Nat → Nat → Prop) (rk : Nat → Nat) : Prop where
  n8 : n ≤ 8
  lt : ∀ j i, R j i → j < n ∧ i < n ∧ rk j < rk i
  rk : ∀ i, i < n → rk i < n
section
variable {n : Nat} {R : Nat → Nat → Prop} {rk : Nat → Nat}
theorem rdW_in (hD : Dag n R rk) (d i : Nat) : inW (rdW n R d) i ↔ Ready n R d i := by
  unfold rdW inW
  rw [setN_bit]
  exact ⟨fun h => h.2, fun h => ⟨Nat.lt_of_lt_of_le h.1 hD.n8, h⟩⟩
theorem rdW_lt (d : Nat) : rdW n R d < 256 := setN_lt _
theorem rdW_dis (hD : Dag n R rk) {d s : Nat} (h : subW s (rdW n R d)) : ∀ i, inW d i → inW s i → False := fun i h1 h2 => by
  have := ((rdW_in hD _ _).1 (h i h2)).2.1
  unfold inW at h1
  rw [this] at h1; cases h1
theorem ready_ex (hD : Dag n R rk) {d : Nat} (h : ∃ i, i < n ∧ d.testBit i = false) : ∃ i, Ready n R d i := by
  have key : ∀ m i, rk i ≤ m → i < n → d.testBit i = false → ∃ i, Ready n R d i := fun m => by
    induction m with
    | zero =>
      intro i hr hi hb
      exact ⟨i, hi, hb, fun j hj => by have := (hD.lt j i hj).2.2; omega⟩
    | succ m ih =>
      intro i hr hi hb
      apply Classical.byContradiction
      intro hn
      have : ∀ j, R j i → inW d j := fun j hj => by
        apply Classical.byContradiction
        intro hb'
        have := hD.lt j i hj
        exact hn (ih j (by omega) this.1 (by unfold inW at hb'; simpa using hb'))
      exact hn ⟨i, hi, hb, this⟩
  obtain ⟨i, hi, hb⟩ := h
  exact key (rk i) i (Nat.le_refl _) hi hb
/-- One turn with h hands. -/
def Stp (n : Nat) (R : Nat → Nat → Prop) (h d d' : Nat) : Prop := ∃ s, s ≠ 0 ∧ subW s (rdW n R d) ∧ (cnt8 s = h ∨ (cnt8 s < h ∧ s = rdW n R d)) ∧ d' = d ||| s
def Rch (n : Nat) (R : Nat → Nat → Prop) (h : Nat) : Nat → Nat → Prop
  | 0, d => d = 0
  | t + 1, d' => ∃ d, Rch n R h t d ∧ Stp n R h d d'
/-- k turns are the fewest. -/
structure IsBest (n : Nat) (R : Nat → Nat → Prop) (h k : Nat) : Prop where
  full : Rch n R h k (fullW n)
  least : ∀ t, t < k → ¬ Rch n R h t (fullW n)
theorem not_full {d : Nat} (hs : subW d (fullW n)) (h : d ≠ fullW n) : ∃ i, i < n ∧ d.testBit i = false := by
  apply Classical.byContradiction
  intro hn
  refine h (set_ext fun k => ?_)
  cases hk : d.testBit k
  · cases hf : (fullW n).testBit k
    · rfl
    · exact absurd ⟨k, (full_in n k).1 hf, hk⟩ hn
  · exact (hs k hk).symm
theorem stp_ex (hD : Dag n R rk) {h d : Nat} (hh : 1 ≤ h) (hu : ∃ i, i < n ∧ d.testBit i = false) {a : Nat} (ha : subW a (rdW n R d)) (hc : cnt8 a ≤ h) : ∃ s, subW a s ∧ s ≠ 0 ∧ subW s (rdW n R d) ∧ (cnt8 s = h ∨ (cnt8 s < h ∧ s = rdW n R d)) := by
  obtain ⟨i, hi⟩ := ready_ex hD hu
  have hi := (rdW_in hD d i).2 hi
  rcases Nat.lt_or_ge (cnt8 (rdW n R d)) h with hl | hl
  · refine ⟨_, ha, fun e => ?_, fun _ h => h, .inr ⟨hl, rfl⟩⟩
    unfold inW at hi
    rw [e, Nat.zero_testBit] at hi; cases hi
  · obtain ⟨s, s1, s2, s3⟩ := sub_of_cnt (rdW_lt (n := n) (R := R) d) _ rfl ha hc hl
    refine ⟨s, s1, fun e => ?_, s2, .inl s3⟩
    rw [e, cnt8_zero] at s3; omega
theorem rch_sub (hD : Dag n R rk) {h : Nat} : ∀ {t d : Nat}, Rch n R h t d → subW d (fullW n)
  | 0, d, hd => fun i hi => by
    have hd : d = 0 := hd
    subst hd
    unfold inW at hi
    rw [Nat.zero_testBit] at hi; cases hi
  | t + 1, d, ⟨d0, h0, s, _, hs, _, e⟩ => fun i hi => by
    subst e
    rcases (or_in _ _ _).1 hi with hi | hi
    · exact rch_sub hD h0 i hi
    · exact (full_in n i).2 ((rdW_in hD _ _).1 (hs i hi)).1
/-- Turns, one by one. -/
structure Path (n : Nat) (R : Nat → Nat → Prop) (h k : Nat) (D : Nat → Nat) : Prop where
  zero : D 0 = 0
  step : ∀ t, t < k → Stp n R h (D t) (D (t + 1))
theorem path_of_rch {h : Nat} : ∀ {t d : Nat}, Rch n R h t d → ∃ D, Path n R h t D ∧ D t = d
  | 0, d, hd => ⟨fun _ => 0, ⟨rfl, fun t ht => by omega⟩, (show d = 0 from hd).symm⟩
  | t + 1, d, ⟨d0, h0, hs⟩ => by
    obtain ⟨D, hp, e⟩ := path_of_rch h0
    refine ⟨fun i => if i ≤ t then D i else d, ⟨?_, fun i hi => ?_⟩, ?_⟩
    · try dsimp only
      rw [if_pos (Nat.zero_le _)]; exact hp.zero
    · try dsimp only
      by_cases h1 : i < t
      · rw [if_pos (by omega), if_pos (by omega)]; exact hp.step i h1
      · have : i = t := by omega
        subst this
        rw [if_pos (Nat.le_refl _), if_neg (by omega), e]; exact hs
    · try dsimp only
      rw [if_neg (by omega)]
theorem rch_of_path {h k : Nat} {D : Nat → Nat} (hp : Path n R h k D) : ∀ t, t ≤ k → Rch n R h t (D t)
  | 0, _ => hp.zero
  | t + 1, ht => ⟨D t, rch_of_path hp t (by omega), hp.step t (by omega)⟩
theorem Path.closed (hD : Dag n R rk) {h k : Nat} {D : Nat → Nat} (hp : Path n R h k D) : ∀ t, t ≤ k → ∀ j i, R j i → inW (D t) i → inW (D t) j
  | 0, _ => fun j i _ hi => by unfold inW at hi; rw [hp.zero, Nat.zero_testBit] at hi; cases hi
  | t + 1, ht => fun j i hR hi => by
    obtain ⟨s, _, hs, _, e⟩ := hp.step t (by omega)
    rw [e] at hi ⊢
    rw [or_in] at hi ⊢
    rcases hi with hi | hi
    · exact .inl (hp.closed hD t (by omega) j i hR hi)
    · exact .inl (((rdW_in hD _ _).1 (hs i hi)).2.2 j hR)
/-- A way to do all in k turns with h hands, whatever it does not use. -/
structure Sched (n : Nat) (R : Nat → Nat → Prop) (h k : Nat) (D : Nat → Nat) : Prop where
  zero : D 0 = 0
  mono : ∀ t, t < k → subW (D t) (D (t + 1))
  prev : ∀ t, t < k → ∀ j i, inW (D (t + 1)) i → R j i → inW (D t) j
  few : ∀ t, t < k → cnt8 (D (t + 1)) ≤ cnt8 (D t) + h
  full : ∀ i, i < n → inW (D k) i
theorem Path.sched (hD : Dag n R rk) {h k : Nat} {D : Nat → Nat} (hp : Path n R h k D) (hf : D k = fullW n) : Sched n R h k D := by
  refine ⟨hp.zero, fun t ht i hi => ?_, fun t ht j i hi hR => ?_, fun t ht => ?_, fun i hi => by rw [hf]; exact (full_in n i).2 hi⟩
  · obtain ⟨s, _, hs, _, e⟩ := hp.step t ht
    rw [e]; exact (or_in _ _ _).2 (.inl hi)
  · obtain ⟨s, _, hs, _, e⟩ := hp.step t ht
    rw [e, or_in] at hi
    rcases hi with hi | hi
    · exact hp.closed hD t (by omega) j i hR hi
    · exact ((rdW_in hD _ _).1 (hs i hi)).2.2 j hR
  · obtain ⟨s, _, hs, hc, e⟩ := hp.step t ht
    rw [e]
    have := cnt8_or_le (D t) s
    omega
theorem IsBest.sched (hD : Dag n R rk) {h k : Nat} (hb : IsBest n R h k) : ∃ D, Sched n R h k D := by
  obtain ⟨D, hp, e⟩ := path_of_rch hb.full
  exact ⟨D, hp.sched hD e⟩
/-- m tasks, each waiting for the one ahead of it, of which j is the first. -/
inductive Chain (n : Nat) (R : Nat → Nat → Prop) : Nat → Nat → Prop
  | one {j : Nat} (h : j < n) : Chain n R 1 j
  | more {j i m : Nat} (h : R j i) (c : Chain n R m i) : Chain n R (m + 1) j
theorem Chain.lt (hD : Dag n R rk) {m j : Nat} (h : Chain n R m j) : j < n := by
  cases h with
  | one h => exact h
  | more h _ => exact (hD.lt _ _ h).1
theorem Chain.pos {m j : Nat} (h : Chain n R m j) : 1 ≤ m := by cases h <;> omega
theorem Chain.rank (hD : Dag n R rk) {m j : Nat} (h : Chain n R m j) : rk j + m ≤ n := by
  induction h with
  | one h => have := hD.rk _ h; omega
  | more h _ ih => have := hD.lt _ _ h; omega
theorem Sched.low {h k : Nat} {D : Nat → Nat} (hD : Dag n R rk) (hS : Sched n R h k D) {m j : Nat} (hc : Chain n R m j) : ∀ t, t ≤ k → ¬ inW (D t) j → t + m ≤ k := by
  induction hc with
  | one h =>
    intro t ht hn
    rcases Nat.lt_or_ge t k with h1 | h1
    · omega
    · have : t = k := by omega
      subst this; exact absurd (hS.full _ h) hn
  | more h c ih =>
    intro t ht hn
    have hj := (hD.lt _ _ h).1
    rcases Nat.lt_or_ge t k with h1 | h1
    · have := ih (t + 1) h1 (fun hi => hn (hS.prev t h1 _ _ hi h)); omega
    · have : t = k := by omega
      subst this; exact absurd (hS.full _ hj) hn
theorem Sched.cnt {h k : Nat} {D : Nat → Nat} (hS : Sched n R h k D) : ∀ t, t ≤ k → cnt8 (D t) ≤ h * t
  | 0, _ => by rw [hS.zero, cnt8_zero]; exact Nat.zero_le _
  | t + 1, ht => by
    have h1 := hS.cnt t (by omega)
    have h2 := hS.few t (by omega)
    rw [Nat.mul_succ]; omega
theorem Sched.all {h k : Nat} {D : Nat → Nat} (h8 : n ≤ 8) (hS : Sched n R h k D) : n ≤ h * k := by
  have h1 := hS.cnt k (Nat.le_refl _)
  have h2 : cnt8 (fullW n) ≤ cnt8 (D k) := cnt8_sub fun i hi => hS.full i ((full_in n i).1 hi)
  rw [full_cnt h8] at h2; omega
theorem Sched.top {h k : Nat} {D : Nat → Nat} (hD : Dag n R rk) (hS : Sched n R h k D) {m j : Nat} (hc : Chain n R m j) : m ≤ k := by
  have := hS.low hD hc 0 (Nat.zero_le _) (by unfold inW; rw [hS.zero, Nat.zero_testBit]; simp)
  omega

/-- More hands. -/
theorem more_hands (hD : Dag n R rk) {h : Nat} (hh : 1 ≤ h) : ∀ {t d : Nat}, Rch n R h t d → (∃ t', t' ≤ t ∧ Rch n R (h + 1) t' (fullW n)) ∨ ∃ d', Rch n R (h + 1) t d' ∧ subW d d'
  | 0, d, hd => .inr ⟨0, rfl, fun i hi => by rw [show d = 0 from hd] at hi; exact hi⟩
  | t + 1, d, ⟨d0, h0, s, s0, ss, sc, e⟩ => by
    rcases more_hands hD hh h0 with ⟨t', h1, h2⟩ | ⟨d', h1, h2⟩
    · exact .inl ⟨t', by omega, h2⟩
    by_cases hf : d' = fullW n
    · exact .inl ⟨t, by omega, hf ▸ h1⟩
    refine .inr ?_
    have hu := not_full (rch_sub hD h1) hf
    have hr := rdW_lt (n := n) (R := R) d0
    -- what is still wanted of s
    have ha : subW (setN fun i => inW s i ∧ ¬ inW d' i) (rdW n R d') := fun i hi => by
      unfold inW at hi
      rw [setN_bit] at hi
      have := (rdW_in hD _ _).1 (ss i hi.2.1)
      exact (rdW_in hD _ _).2 ⟨this.1, by have := hi.2.2; unfold inW at this; simpa using this, fun j hj => h2 j (this.2.2 j hj)⟩
    have hc : cnt8 (setN fun i => inW s i ∧ ¬ inW d' i) ≤ h + 1 := by
      have : cnt8 (setN fun i => inW s i ∧ ¬ inW d' i) ≤ cnt8 s := cnt8_sub fun i hi => by unfold inW at hi; rw [setN_bit] at hi; exact hi.2.1
      omega
    obtain ⟨s', t1, t2, t3, t4⟩ := stp_ex hD (by omega) hu ha hc
    refine ⟨d' ||| s', ⟨d', h1, s', t2, t3, t4, rfl⟩, fun i hi => ?_⟩
    rw [e, or_in] at hi
    rw [or_in]
    rcases hi with hi | hi
    · exact .inl (h2 i hi)
    · by_cases hd : inW d' i
      · exact .inl hd
      · refine .inr (t1 i ?_)
        unfold inW
        rw [setN_bit]
        exact ⟨bit_lt (n := 8) hr (ss i hi), hi, hd⟩
theorem IsBest.more (hD : Dag n R rk) {h a b : Nat} (hh : 1 ≤ h) (ha : IsBest n R h a) (hb : IsBest n R (h + 1) b) : b ≤ a := by
  rcases more_hands hD hh ha.full with ⟨t', h1, h2⟩ | ⟨d', h1, h2⟩
  · rcases Nat.lt_or_ge t' b with h3 | h3
    · exact absurd h2 (hb.least t' h3)
    · omega
  · have : d' = fullW n := set_ext fun k => by
      cases hk : d'.testBit k
      · cases hf : (fullW n).testBit k
        · rfl
        · have := h2 k hf; unfold inW at this; rw [hk] at this; cases this
      · exact (rch_sub hD h1 k hk).symm
    rw [this] at h1
    rcases Nat.lt_or_ge a b with h3 | h3
    · exact absurd h1 (hb.least a h3)
    · exact h3
theorem rch_cnt_le (hD : Dag n R rk) {h : Nat} : ∀ {t d : Nat}, Rch n R h t d → t ≤ cnt8 d
  | 0, _, _ => Nat.zero_le _
  | t + 1, d, ⟨d0, h0, s, s0, ss, sc, e⟩ => by
    have h1 := rch_cnt_le hD h0
    have h2 := cnt8_or_dis (rdW_dis hD ss)
    have h3 := cnt8_ne (sub_lt ss (rdW_lt _)) s0
    rw [e]; omega
theorem IsBest.le_n (hD : Dag n R rk) {h k : Nat} (hb : IsBest n R h k) : k ≤ n := by
  have := rch_cnt_le hD hb.full
  rw [full_cnt hD.n8] at this
  exact this
theorem IsBest.one (hD : Dag n R rk) {k : Nat} (hb : IsBest n R 1 k) : k = n := by
  obtain ⟨D, hS⟩ := hb.sched hD
  have h1 := hS.all hD.n8
  have h2 := hb.le_n hD
  omega
/-- There is such a k: what a search finds. -/
theorem rch_ex (hD : Dag n R rk) {h : Nat} (hh : 1 ≤ h) : ∀ t, (∀ t', t' ≤ t → ¬ Rch n R h t' (fullW n)) → ∃ d, Rch n R h t d ∧ d ≠ fullW n
  | 0, hn => ⟨0, rfl, fun e => hn 0 (Nat.le_refl _) e.symm⟩
  | t + 1, hn => by
    obtain ⟨d, h1, h2⟩ := rch_ex hD hh t fun t' ht => hn t' (by omega)
    obtain ⟨s, _, s1, s2, s3⟩ := stp_ex hD hh (not_full (rch_sub hD h1) h2) (a := 0) (fun i hi => by unfold inW at hi; rw [Nat.zero_testBit] at hi; cases hi) (by rw [cnt8_zero]; omega)
    have hr : Rch n R h (t + 1) (d ||| s) := ⟨d, h1, s, s1, s2, s3, rfl⟩
    exact ⟨_, hr, fun e => hn (t + 1) (Nat.le_refl _) (e ▸ hr)⟩
theorem rch_bound (hD : Dag n R rk) {h : Nat} (hh : 1 ≤ h) {t : Nat} (hn : ∀ t', t' ≤ t → ¬ Rch n R h t' (fullW n)) : t < n := by
  obtain ⟨d, h1, h2⟩ := rch_ex hD hh t hn
  have h3 := rch_cnt_le hD h1
  have h4 := cnt8_mono_lt (rch_sub hD h1) h2 (full_lt hD.n8)
  rw [full_cnt hD.n8] at h4
  omega
/-- As many hands as tasks: as many turns as the longest chain. -/
theorem path_back (hD : Dag n R rk) {h k : Nat} {D : Nat → Nat} (hp : Path n R h k D) (hw : ∀ t, t < k → ∀ i, Ready n R (D t) i → inW (D (t + 1)) i) : ∀ t, t ≤ k → ∀ m j, Chain n R m j → ¬ inW (D t) j → ∃ i, Chain n R (m + t) i
  | 0, _, m, j, hc, _ => ⟨j, hc⟩
  | t + 1, ht, m, j, hc, hn => by
    obtain ⟨s, _, hs, _, e⟩ := hp.step t (by omega)
    have hj : ¬ inW (D t) j := fun h => hn (by rw [e]; exact (or_in _ _ _).2 (.inl h))
    have hnr : ¬ Ready n R (D t) j := fun h => hn (hw t (by omega) j h)
    have : ∃ i, R i j ∧ ¬ inW (D t) i := by
      apply Classical.byContradiction
      intro hx
      exact hnr ⟨hc.lt hD, by unfold inW at hj; simpa using hj, fun i hi => Classical.byContradiction fun h => hx ⟨i, hi, h⟩⟩
    obtain ⟨i, hR, hi⟩ := this
    obtain ⟨x, hx⟩ := path_back hD hp hw t (by omega) (m + 1) i (.more hR hc) hi
    exact ⟨x, by rw [show m + (t + 1) = m + 1 + t by omega]; exact hx⟩
theorem IsBest.wide (hD : Dag n R rk) {k : Nat} (hb : IsBest n R n k) (h1 : 1 ≤ k) : ∃ j, Chain n R k j := by
  obtain ⟨D, hp, e⟩ := path_of_rch hb.full
  have hk := hb.least (k - 1) (by omega)
  have hr := rch_of_path hp (k - 1) (by omega)
  have hne : D (k - 1) ≠ fullW n := fun e => hk (e ▸ hr)
  obtain ⟨i, hi, hb'⟩ := not_full (rch_sub hD hr) hne
  obtain ⟨x, hx⟩ := path_back hD hp (fun t ht i hi => by
    obtain ⟨s, _, hs, hc, e⟩ := hp.step t ht
    rw [e, or_in]
    have hir := (rdW_in hD _ _).2 hi
    rcases hc with hc | ⟨_, rfl⟩
    · refine .inr ?_
      have : s = fullW n := sub_eq (fun i hi => (full_in n i).2 ((rdW_in hD _ _).1 (hs i hi)).1) (full_lt hD.n8) (by rw [full_cnt hD.n8]; omega)
      rw [this]; exact (full_in n i).2 hi.1
    · exact .inr hir) (k - 1) (by omega) 1 i (.one hi) (by unfold inW; rw [hb']; simp)
  exact ⟨x, by rw [show k = 1 + (k - 1) by omega]; exact hx⟩

/-- Turns by a list: as many as may be, those that the list prefers. -/
structure Grd (n : Nat) (R : Nat → Nat → Prop) (h T : Nat) (pri : Nat → Nat → Prop) (D : Nat → Nat) : Prop where
  zero : D 0 = 0
  full : D T = fullW n
  open_ : ∀ t, t < T → D t ≠ fullW n
  step : ∀ t, t < T → ∃ s, subW s (rdW n R (D t)) ∧ cnt8 s = min h (cnt8 (rdW n R (D t))) ∧ D (t + 1) = D t ||| s ∧ ∀ i x, inW (rdW n R (D t)) i → ¬ inW s i → inW s x → pri x i
theorem Grd.path (hD : Dag n R rk) {h T : Nat} {pri : Nat → Nat → Prop} {D : Nat → Nat} (hh : 1 ≤ h) (hg : Grd n R h T pri D) : Path n R h T D := by
  have hsub : ∀ t, t ≤ T → subW (D t) (fullW n) := fun t => by
    induction t with
    | zero => intro _ i hi; unfold inW at hi; rw [hg.zero, Nat.zero_testBit] at hi; cases hi
    | succ t ih =>
      intro ht i hi
      obtain ⟨s, hs, _, e, _⟩ := hg.step t (by omega)
      rw [e, or_in] at hi
      rcases hi with hi | hi
      · exact ih (by omega) i hi
      · exact (full_in n i).2 ((rdW_in hD _ _).1 (hs i hi)).1
  refine ⟨hg.zero, fun t ht => ?_⟩
  obtain ⟨s, hs, hc, e, _⟩ := hg.step t ht
  obtain ⟨i, hi⟩ := ready_ex hD (not_full (hsub t (by omega)) (hg.open_ t ht))
  have hi := (rdW_in hD _ _).2 hi
  have hpos : 0 < cnt8 (rdW n R (D t)) := cnt8_ne (rdW_lt _) (fun e => by unfold inW at hi; rw [e, Nat.zero_testBit] at hi; cases hi)
  refine ⟨s, fun e0 => ?_, hs, ?_, e⟩
  · rw [e0, cnt8_zero] at hc; omega
  · rcases Nat.lt_or_ge (cnt8 (rdW n R (D t))) h with h1 | h1
    · exact .inr ⟨by omega, sub_eq hs (rdW_lt _) (by omega)⟩
    · exact .inl (by omega)
theorem Grd.best (hD : Dag n R rk) {h T k : Nat} {pri : Nat → Nat → Prop} {D : Nat → Nat} (hh : 1 ≤ h) (hg : Grd n R h T pri D) (hb : IsBest n R h k) : k ≤ T := by
  have := rch_of_path (hg.path hD hh) T (Nat.le_refl _)
  rw [hg.full] at this
  rcases Nat.lt_or_ge T k with h1 | h1
  · exact absurd this (hb.least T h1)
  · exact h1
/-- Of the first t turns how many have hands to spare. -/
noncomputable def idle (n : Nat) (R : Nat → Nat → Prop) (h : Nat) (D : Nat → Nat) : Nat → Nat
  | 0 => 0
  | t + 1 => idle n R h D t + if cnt8 (rdW n R (D t)) < h then 1 else 0
theorem Grd.back (hD : Dag n R rk) {h T : Nat} {pri : Nat → Nat → Prop} {D : Nat → Nat} (hg : Grd n R h T pri D) : ∀ t, t ≤ T → ∀ m j, Chain n R m j → ¬ inW (D t) j → ∃ i, Chain n R (m + idle n R h D t) i
  | 0, _, m, j, hc, _ => ⟨j, hc⟩
  | t + 1, ht, m, j, hc, hn => by
    obtain ⟨s, hs, hcs, e, _⟩ := hg.step t (by omega)
    have hj : ¬ inW (D t) j := fun h => hn (by rw [e]; exact (or_in _ _ _).2 (.inl h))
    unfold idle
    split
    · rename_i hlt
      have hse : s = rdW n R (D t) := sub_eq hs (rdW_lt _) (by omega)
      have hnr : ¬ Ready n R (D t) j := fun h => hn (by rw [e, hse]; exact (or_in _ _ _).2 (.inr ((rdW_in hD _ _).2 h)))
      have : ∃ i, R i j ∧ ¬ inW (D t) i := by
        apply Classical.byContradiction
        intro hx
        exact hnr ⟨hc.lt hD, by unfold inW at hj; simpa using hj, fun i hi => Classical.byContradiction fun h => hx ⟨i, hi, h⟩⟩
      obtain ⟨i, hR, hi⟩ := this
      obtain ⟨x, hx⟩ := hg.back hD t (by omega) (m + 1) i (.more hR hc) hi
      exact ⟨x, by rw [show m + (idle n R h D t + 1) = m + 1 + idle n R h D t by omega]; exact hx⟩
    · obtain ⟨x, hx⟩ := hg.back hD t (by omega) m j hc hj
      exact ⟨x, hx⟩
theorem Grd.count (hD : Dag n R rk) {h T : Nat} {pri : Nat → Nat → Prop} {D : Nat → Nat} (hh : 1 ≤ h) (hg : Grd n R h T pri D) : ∀ t, t ≤ T → idle n R h D t ≤ t ∧ h * (t - idle n R h D t) + idle n R h D t ≤ cnt8 (D t)
  | 0, _ => ⟨Nat.le_refl _, by simp [idle]⟩
  | t + 1, ht => by
    obtain ⟨i1, i2⟩ := hg.count hD hh t (by omega)
    obtain ⟨s, hs, hcs, e, _⟩ := hg.step t (by omega)
    obtain ⟨s', s0, -, -, e'⟩ := (hg.path hD hh).step t (by omega)
    have h2 := cnt8_or_dis (rdW_dis hD hs)
    rw [← e] at h2
    have hsn : s ≠ 0 := fun e0 => by
      rw [e0, Nat.or_zero] at e
      obtain ⟨_, s1, s2, _, e2⟩ := (hg.path hD hh).step t (by omega)
      have h3 := cnt8_or_dis (rdW_dis hD s2)
      have h4 := cnt8_ne (sub_lt s2 (rdW_lt _)) s1
      rw [← e2, e] at h3
      omega
    have h3 := cnt8_ne (sub_lt hs (rdW_lt _)) hsn
    unfold idle
    split
    · refine ⟨by omega, ?_⟩
      rw [show t + 1 - (idle n R h D t + 1) = t - idle n R h D t by omega]
      omega
    · refine ⟨by omega, ?_⟩
      rw [show t + 1 - (idle n R h D t + 0) = t - idle n R h D t + 1 by omega, Nat.mul_succ]
      omega
/-- GRAHAM. -/
theorem graham (hD : Dag n R rk) {h T k : Nat} {pri : Nat → Nat → Prop} {D : Nat → Nat} (hh : 1 ≤ h) (hg : Grd n R h T pri D) (hb : IsBest n R h k) (hT : 1 ≤ T) : h * T ≤ (2 * h - 1) * k := by
  obtain ⟨E, hS⟩ := hb.sched hD
  have ha := hS.all hD.n8
  obtain ⟨c1, c2⟩ := hg.count hD hh T (Nat.le_refl _)
  rw [hg.full, full_cnt hD.n8] at c2
  have hr := rch_of_path (hg.path hD hh) (T - 1) (by omega)
  obtain ⟨i, hi, hb'⟩ := not_full (rch_sub hD hr) (hg.open_ (T - 1) (by omega))
  obtain ⟨x, hx⟩ := hg.back hD (T - 1) (by omega) 1 i (.one hi) (by unfold inW; rw [hb']; simp)
  have ht := hS.top hD hx
  have hI : idle n R h D T ≤ k := by
    have e : idle n R h D T = idle n R h D (T - 1) + if cnt8 (rdW n R (D (T - 1))) < h then 1 else 0 := by
      rw [show T = T - 1 + 1 by omega]; rfl
    rw [e]
    split <;> omega
  generalize idle n R h D T = I at *
  have e1 : h * (T - I) + h * I = h * T := by rw [← Nat.mul_add]; congr 1; omega
  have e2 : (2 * h - 1) * k = h * k + (h - 1) * k := by rw [← Nat.add_mul]; congr 1; omega
  have e3 : h * I = (h - 1) * I + I := by
    have : h = (h - 1) + 1 := by omega
    rw [this, Nat.add_mul, Nat.one_mul]; simp
  have e4 : (h - 1) * I ≤ (h - 1) * k := Nat.mul_le_mul_left _ hI
  omega

/-- How high a task lies: the longest chain of which it is the first. -/
def IsLev (n : Nat) (R : Nat → Nat → Prop) (L : Nat → Nat) : Prop := ∀ j, j < n → Chain n R (L j) j ∧ ∀ m, Chain n R m j → m ≤ L j
theorem IsLev.up (hD : Dag n R rk) {L : Nat → Nat} (hL : IsLev n R L) {j i : Nat} (h : R j i) : L i + 1 ≤ L j := by
  have := hD.lt _ _ h
  exact (hL j this.1).2 _ (.more h (hL i this.2.1).1)
/-- HU. -/
theorem hu (hD : Dag n R rk) {h T k : Nat} {pri : Nat → Nat → Prop} {D : Nat → Nat} {L : Nat → Nat} (hh : 1 ≤ h) (hg : Grd n R h T pri D) (hb : IsBest n R h k) (hL : IsLev n R L) (hpri : ∀ x i, x < n → i < n → pri x i → L i ≤ L x) (hone : ∀ j a b, R j a → R j b → a = b) : T ≤ k := by
  obtain ⟨E, hS⟩ := hb.sched hD
  have hp := hg.path hD hh
  have hsub := fun t (ht : t ≤ T) => rch_sub hD (rch_of_path hp t ht)
  rcases Nat.eq_zero_or_pos T with h0 | h0
  · omega
  -- the least turn from which on all falls
  let P : Nat → Prop := fun s => s < T ∧ ∃ j, j < n ∧ ¬ inW (D s) j ∧ T ≤ s + L j
  have hex : ∃ s, P s := by
    obtain ⟨i, hi, hb'⟩ := not_full (hsub (T - 1) (by omega)) (hg.open_ (T - 1) (by omega))
    have := (hL i hi).1.pos
    exact ⟨T - 1, by omega, i, hi, by unfold inW; rw [hb']; simp, by omega⟩
  obtain ⟨s, ⟨hsT, j, hj, hjn, hjT⟩, hmin⟩ : ∃ s, P s ∧ ∀ s', s' < s → ¬ P s' := by
    obtain ⟨s, hs⟩ := hex
    induction s using Nat.strongRecOn with
    | _ s ih =>
      by_cases hm : ∃ s', s' < s ∧ P s'
      · obtain ⟨s', h1, h2⟩ := hm; exact ih s' h1 h2
      · exact ⟨s, hs, fun s' h1 h2 => hm ⟨s', h1, h2⟩⟩
  rcases Nat.eq_zero_or_pos s with hs0 | hs0
  · subst hs0
    have := hS.top hD (hL j hj).1
    omega
  have hprev := hmin (s - 1) (by omega)
  have hall : ∀ i, i < n → ¬ inW (D (s - 1)) i → s - 1 + L i < T := fun i hi hn => by
    rcases Nat.lt_or_ge (s - 1 + L i) T with h1 | h1
    · exact h1
    · exact absurd ⟨by omega, i, hi, hn, h1⟩ hprev
  have mono1 : ∀ t, t < T → subW (D t) (D (t + 1)) := (hp.sched hD hg.full).mono
  have hjn' : ¬ inW (D (s - 1)) j := fun h => hjn (by have := mono1 (s - 1) (by omega) j h; rwa [show s - 1 + 1 = s by omega] at this)
  have hlj : s + L j = T := by have := hall j hj hjn'; omega
  -- the number of those ready that lie at least as high
  let A : Nat → Nat → Bool := fun t i => (rdW n R (D t)).testBit i && decide (L j ≤ L i)
  have hAin : ∀ t i, A t i = true ↔ inW (rdW n R (D t)) i ∧ L j ≤ L i := fun t i => by show ((rdW n R (D t)).testBit i && decide (L j ≤ L i)) = true ↔ _; rw [Bool.and_eq_true, decide_eq_true_eq]
  have hA8 : ∀ t i, A t i = true → i < n := fun t i h => ((rdW_in hD _ _).1 ((hAin t i).1 h).1).1
  -- few of them: all are done, and no more come
  have hfew : ∀ t, t + 1 < T → cntB (A t) < h → cntB (A (t + 1)) ≤ cntB (A t) := fun t ht hc => by
    obtain ⟨x, hx, hcx, e, hpr⟩ := hg.step t (by omega)
    have hdone : ∀ i, A t i = true → inW x i := fun i hi => by
      apply Classical.byContradiction
      intro hn
      have hr := ((hAin t i).1 hi)
      have hxh : cnt8 x = h := by
        rcases Nat.lt_or_ge (cnt8 (rdW n R (D t))) h with h1 | h1
        · have : x = rdW n R (D t) := sub_eq hx (rdW_lt _) (by omega)
          rw [this] at hn; exact absurd hr.1 hn
        · omega
      have : cnt8 x ≤ cntB (A t) := cntB_mono fun y _ hy => (hAin t y).2 ⟨hx y hy, by
        have h1 := hpri y i ((rdW_in hD _ _).1 (hx y hy)).1 (hA8 t i hi) (hpr i y hr.1 hn hy)
        omega⟩
      omega
    have hex2 : ∀ i, A (t + 1) i = true → ∃ q, R q i ∧ A t q = true := fun i hi => by
      have h1 := (hAin _ _).1 hi
      have h2 := (rdW_in hD _ _).1 h1.1
      have hid : ¬ inW (D (t + 1)) i := by unfold inW; rw [h2.2.1]; simp
      have hix : ¬ inW x i := fun h => hid (by rw [e]; exact (or_in _ _ _).2 (.inr h))
      have hit : ¬ inW (D t) i := fun h => hid (by rw [e]; exact (or_in _ _ _).2 (.inl h))
      have hnr : ¬ Ready n R (D t) i := fun h => hix (hdone i ((hAin _ _).2 ⟨(rdW_in hD _ _).2 h, h1.2⟩))
      have : ∃ q, R q i ∧ ¬ inW (D t) q := by
        apply Classical.byContradiction
        intro hx
        exact hnr ⟨h2.1, by unfold inW at hit; simpa using hit, fun q hq => Classical.byContradiction fun h => hx ⟨q, hq, h⟩⟩
      obtain ⟨q, hq, hqn⟩ := this
      have hqd := h2.2.2 q hq
      rw [e, or_in] at hqd
      have hqx := hqd.resolve_left hqn
      have := IsLev.up hD hL hq
      exact ⟨q, hq, (hAin _ _).2 ⟨hx q hqx, by omega⟩⟩
    classical
    refine cntB_inj (fun i => if hi : A (t + 1) i = true then Classical.choose (hex2 i hi) else 0) (fun i _ hi => ?_) (fun i i' _ _ hi hi' he => ?_)
    · try dsimp only
      rw [dif_pos hi]
      have := Classical.choose_spec (hex2 i hi)
      exact ⟨Nat.lt_of_lt_of_le (hA8 t _ this.2) hD.n8, this.2⟩
    · try dsimp only at he
      rw [dif_pos hi, dif_pos hi'] at he
      have h1 := Classical.choose_spec (hex2 i hi)
      have h2 := Classical.choose_spec (hex2 i' hi')
      rw [← he] at h2
      exact hone _ _ _ h1.1 h2.1
  have hfew2 : ∀ m t, t + m < T → cntB (A t) < h → cntB (A (t + m)) < h := fun m => by
    induction m with
    | zero => intro t _ h; exact h
    | succ m ih =>
      intro t ht hc
      have h1 := ih t (by omega) hc
      have h2 := hfew (t + m) (by omega) h1
      rw [show t + (m + 1) = t + m + 1 by omega]; omega
  -- at the turn ahead of s there are many
  have hjr : Ready n R (D (s - 1)) j := ⟨hj, by unfold inW at hjn'; simpa using hjn', fun q hq => Classical.byContradiction fun hn => by
    have h1 := hall q (hD.lt _ _ hq).1 hn
    have h2 := IsLev.up hD hL hq
    omega⟩
  obtain ⟨x, hx, hcx, e, hpr⟩ := hg.step (s - 1) (by omega)
  rw [show s - 1 + 1 = s by omega] at e
  have hjx : ¬ inW x j := fun h => hjn (by rw [e]; exact (or_in _ _ _).2 (.inr h))
  have hjr' := (rdW_in hD _ _).2 hjr
  have hxh : cnt8 x = h := by
    rcases Nat.lt_or_ge (cnt8 (rdW n R (D (s - 1)))) h with h1 | h1
    · have : x = rdW n R (D (s - 1)) := sub_eq hx (rdW_lt _) (by omega)
      rw [this] at hjx; exact absurd hjr' hjx
    · omega
  have hmany : h ≤ cntB (A (s - 1)) := by
    rw [← hxh]
    exact cntB_mono fun y _ hy => (hAin _ y).2 ⟨hx y hy, hpri y j ((rdW_in hD _ _).1 (hx y hy)).1 hj (hpr j y hjr' hjx hy)⟩
  have hallmany : ∀ t, t < s → h ≤ cntB (A t) := fun t ht => by
    rcases Nat.lt_or_ge (cntB (A t)) h with h1 | h1
    · have := hfew2 (s - 1 - t) t (by omega) h1
      rw [show t + (s - 1 - t) = s - 1 by omega] at this
      omega
    · exact h1
  -- so each of the first s turns does h of them
  have hdone : ∀ t, t ≤ s → h * t ≤ cntB (fun i => (D t).testBit i && decide (L j ≤ L i)) := fun t => by
    induction t with
    | zero => intro _; exact Nat.zero_le _
    | succ t ih =>
      intro ht
      have h1 := ih (by omega)
      obtain ⟨y, hy, hcy, e, hpr⟩ := hg.step t (by omega)
      have hm := hallmany t (by omega)
      have hge : ∀ i, inW y i → L j ≤ L i := fun i hi => by
        apply Classical.byContradiction
        intro hn
        -- all of A t are done, and i beside them
        have hsub2 : ∀ z, A t z = true → inW y z := fun z hz => by
          apply Classical.byContradiction
          intro hzn
          have h2 := hpri i z ((rdW_in hD _ _).1 (hy i hi)).1 (hA8 t z hz) (hpr z i ((hAin t z).1 hz).1 hzn hi)
          have h3 := ((hAin t z).1 hz).2
          omega
        have : cntB (A t) < cnt8 y := cntB_lt (fun z _ hz => hsub2 z hz) (bit_lt (n := 8) (sub_lt hy (rdW_lt _)) hi) hi (by
          cases hA : A t i
          · rfl
          · exact absurd ((hAin t i).1 hA).2 hn)
        omega
      have hyh : cnt8 y = h := by
        have : cntB (A t) ≤ cnt8 (rdW n R (D t)) := cntB_mono fun z _ hz => ((hAin t z).1 hz).1
        omega
      have h2 := cntB_or (p := fun i => (D t).testBit i && decide (L j ≤ L i)) (q := fun i => y.testBit i) (fun i h1 h2 => by
        rw [Bool.and_eq_true] at h1
        exact rdW_dis hD hy i h1.1 h2)
      have h3 : cntB (fun i => ((D t).testBit i && decide (L j ≤ L i)) || y.testBit i) ≤ cntB (fun i => (D (t + 1)).testBit i && decide (L j ≤ L i)) := cntB_mono fun i _ hi => by
        rw [Bool.or_eq_true, Bool.and_eq_true, decide_eq_true_eq] at hi
        rw [Bool.and_eq_true, decide_eq_true_eq, e, Nat.testBit_or, Bool.or_eq_true]
        rcases hi with hi | hi
        · exact ⟨.inl hi.1, hi.2⟩
        · exact ⟨.inr hi, hge i hi⟩
      have h4 : cntB (fun i => y.testBit i) = h := hyh
      rw [Nat.mul_succ]
      omega
  -- any way to do it has one of them left behind s turns
  have hs1 := hdone s (Nat.le_refl _)
  have hlt : cntB (fun i => (D s).testBit i && decide (L j ≤ L i)) < cntB (fun i => decide (i < n) && decide (L j ≤ L i)) := cntB_lt (fun i _ hi => by
    rw [Bool.and_eq_true] at hi ⊢
    exact ⟨decide_eq_true ((full_in n i).1 (hsub s (by omega) i hi.1)), hi.2⟩) (Nat.lt_of_lt_of_le hj hD.n8) (by rw [Bool.and_eq_true, decide_eq_true_eq, decide_eq_true_eq]; exact ⟨hj, Nat.le_refl _⟩) (by
    have : (D s).testBit j = false := by unfold inW at hjn; simpa using hjn
    rw [this]; rfl)
  rcases Nat.lt_or_ge k s with hks | hks
  · have h1 := hS.cnt k (Nat.le_refl _)
    have h2 : cntB (fun i => decide (i < n) && decide (L j ≤ L i)) ≤ cnt8 (E k) := cntB_mono fun i _ hi => by
      rw [Bool.and_eq_true, decide_eq_true_eq] at hi
      exact hS.full i hi.1
    have h3 : h * k ≤ h * s := Nat.mul_le_mul_left _ (by omega)
    omega
  · have h1 := hS.cnt s hks
    have : ∃ i, i < n ∧ L j ≤ L i ∧ ¬ inW (E s) i := by
      apply Classical.byContradiction
      intro hn
      have h2 : cntB (fun i => decide (i < n) && decide (L j ≤ L i)) ≤ cnt8 (E s) := cntB_mono fun i _ hi => by
        rw [Bool.and_eq_true, decide_eq_true_eq, decide_eq_true_eq] at hi
        apply Classical.byContradiction
        intro hni
        exact hn ⟨i, hi.1, hi.2, hni⟩
      omega
    obtain ⟨i, hi, hil, hin⟩ := this
    have := hS.low hD (hL i hi).1 s hks hin
    omega
end
end Go.Proofs.Ytdkkmmljaijomaa
