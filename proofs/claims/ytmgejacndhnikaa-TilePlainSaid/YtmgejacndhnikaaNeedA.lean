/- Trees of terms, how many registers they need, how many leaves they have: plain. -/
import Derived.Test.YtmgejacndhnikaaTermB
namespace Go.Proofs.Ytmgejacndhnikaa
open Go.RowKit

/-- What each term has, out of what those ahead of it have. -/
def acc (f : List Int → Term → Int) : List Int → List Term → List Int
  | vs, [] => vs
  | vs, t :: r => acc f (vs ++ [f vs t]) r
def accTo (f : List Int → Term → Int) (l : List Term) (k : Nat) : List Int := acc f [] (l.take k)
theorem acc_append (f : List Int → Term → Int) : ∀ (l r : List Term) (vs : List Int), acc f vs (l ++ r) = acc f (acc f vs l) r
  | [], _, _ => rfl
  | t :: l, r, vs => acc_append f l r (vs ++ [f vs t])
theorem acc_len (f : List Int → Term → Int) : ∀ (l : List Term) (vs : List Int), (acc f vs l).length = vs.length + l.length
  | [], vs => rfl
  | t :: l, vs => by rw [show acc f vs (t :: l) = acc f (vs ++ [f vs t]) l from rfl, acc_len f l]; simp; omega
theorem accTo_succ (f : List Int → Term → Int) {l : List Term} {k : Nat} (hk : k < l.length) : accTo f l (k + 1) = accTo f l k ++ [f (accTo f l k) l[k]] := by
  unfold accTo
  rw [List.take_succ_eq_append_getElem hk, acc_append]
  rfl
theorem accTo_len (f : List Int → Term → Int) {l : List Term} {k : Nat} (hk : k ≤ l.length) : (accTo f l k).length = k := by
  unfold accTo; rw [acc_len]; simp; omega
theorem accTo_stays (f : List Int → Term → Int) {l : List Term} : ∀ {m k : Nat}, k ≤ m → m ≤ l.length → ∀ i, i < k → (accTo f l m).getD i 0 = (accTo f l k).getD i 0
  | 0, k, hkm, _, i, hi => by omega
  | m + 1, k, hkm, hm, i, hi => by
    by_cases he : k = m + 1
    · subst he; rfl
    · rw [accTo_succ f (by omega), List.getD_eq_getElem?_getD, List.getElem?_append_left (by rw [accTo_len f (by omega)]; omega), ← List.getD_eq_getElem?_getD]
      exact accTo_stays f (by omega) (by omega) i hi
/-- The i-th of them, at the end. -/
def accAt (f : List Int → Term → Int) (l : List Term) (i : Nat) : Int := (accTo f l l.length).getD i 0
theorem accAt_eq (f : List Int → Term → Int) {l : List Term} {i : Nat} (hi : i < l.length) : accAt f l i = f (accTo f l i) l[i] := by
  unfold accAt
  rw [accTo_stays f (k := i + 1) (by omega) (Nat.le_refl _) i (by omega), accTo_succ f hi, List.getD_eq_getElem?_getD, List.getElem?_append_right (by rw [accTo_len f (by omega)]; omega), accTo_len f (by omega)]
  simp
theorem accTo_at (f : List Int → Term → Int) {l : List Term} {k i : Nat} (hk : k ≤ l.length) (hi : i < k) : (accTo f l k).getD i 0 = accAt f l i := (accTo_stays f hk (Nat.le_refl _) i hi).symm

def need1 (ns : List Int) (t : Term) : Int :=
  if 3 ≤ t.op then (if ns.getD t.a.toNat 0 = ns.getD t.b.toNat 0 then ns.getD t.a.toNat 0 + 1 else if ns.getD t.a.toNat 0 < ns.getD t.b.toNat 0 then ns.getD t.b.toNat 0 else ns.getD t.a.toNat 0) else 1
def lvs1 (ns : List Int) (t : Term) : Int := if 3 ≤ t.op then ns.getD t.a.toNat 0 + ns.getD t.b.toNat 0 else 1
theorem need1_3 {ns : List Int} {t : Term} (h : 3 ≤ t.op) : need1 ns t = if ns.getD t.a.toNat 0 = ns.getD t.b.toNat 0 then ns.getD t.a.toNat 0 + 1 else if ns.getD t.a.toNat 0 < ns.getD t.b.toNat 0 then ns.getD t.b.toNat 0 else ns.getD t.a.toNat 0 := by unfold need1; rw [if_pos h]
theorem need1_0 {ns : List Int} {t : Term} (h : ¬ 3 ≤ t.op) : need1 ns t = 1 := by unfold need1; rw [if_neg h]
theorem lvs1_3 {ns : List Int} {t : Term} (h : 3 ≤ t.op) : lvs1 ns t = ns.getD t.a.toNat 0 + ns.getD t.b.toNat 0 := by unfold lvs1; rw [if_pos h]
theorem lvs1_0 {ns : List Int} {t : Term} (h : ¬ 3 ≤ t.op) : lvs1 ns t = 1 := by unfold lvs1; rw [if_neg h]
/-- What the last term needs. -/
def tNeed (l : List Term) : Int := accAt need1 l (l.length - 1)

def uses1 (t : Term) (i : Nat) : Int := (if 3 ≤ t.op ∧ t.a = i then 1 else 0) + (if 3 ≤ t.op ∧ t.b = i then 1 else 0)
def usesN (l : List Term) (i : Nat) : Int := (l.map fun t => uses1 t i).sum
/-- Each term but the last one is used once, and that not. -/
def IsTree (l : List Term) : Prop := ∀ i, i < l.length → (i < l.length - 1 → usesN l i = 1) ∧ (i = l.length - 1 → usesN l i = 0)
instance (l : List Term) : Decidable (IsTree l) := by unfold IsTree; infer_instance
def leavesN (l : List Term) : Int := (l.map fun t => if t.op < 3 then (1 : Int) else 0).sum

theorem usesN_nonneg (l : List Term) (i : Nat) : 0 ≤ usesN l i := by
  unfold usesN
  induction l with
  | nil => simp
  | cons t r ih =>
    rw [List.map_cons, List.sum_cons]
    have : 0 ≤ uses1 t i := by unfold uses1; split <;> split <;> omega
    omega
theorem usesN_snoc (l : List Term) (t : Term) (i : Nat) : usesN (l ++ [t]) i = usesN l i + uses1 t i := by unfold usesN; simp
/-- The last term of a valid list is not used. -/
theorem usesN_last {vars : Int} {l : List Term} (hok : ∀ k (h : k < l.length), TOk vars k l[k]) : usesN l (l.length - 1) = 0 := by
  have key : ∀ t ∈ l, uses1 t (l.length - 1) = 0 := fun t ht => by
    obtain ⟨k, hk, rfl⟩ := List.getElem_of_mem ht
    have := (hok k hk).2.2.2.2
    unfold uses1
    rw [if_neg (by omega), if_neg (by omega)]; rfl
  unfold usesN
  have : ∀ m : List Term, (∀ t ∈ m, uses1 t (l.length - 1) = 0) → (m.map fun t => uses1 t (l.length - 1)).sum = 0 := fun m => by
    induction m with
    | nil => intro _; rfl
    | cons t r ih => intro h; rw [List.map_cons, List.sum_cons, h t (by simp), ih fun t ht => h t (by simp [ht])]; rfl
  exact this l key

/-- Sums over the numbers below n. -/
def sumTo (n : Nat) (g : Nat → Int) : Int := ((List.range n).map g).sum
theorem sumTo_succ (n : Nat) (g : Nat → Int) : sumTo (n + 1) g = sumTo n g + g n := by unfold sumTo; rw [List.range_succ, List.map_append, List.sum_append]; simp
theorem sumTo_add (n : Nat) (g h : Nat → Int) : sumTo n (fun i => g i + h i) = sumTo n g + sumTo n h := by
  induction n with
  | zero => rfl
  | succ n ih => rw [sumTo_succ, sumTo_succ, sumTo_succ, ih]; omega
theorem sumTo_congr {n : Nat} {g h : Nat → Int} (e : ∀ i, i < n → g i = h i) : sumTo n g = sumTo n h := by
  induction n with
  | zero => rfl
  | succ n ih => rw [sumTo_succ, sumTo_succ, ih fun i hi => e i (by omega), e n (by omega)]
theorem sumTo_one (n : Nat) (g : Nat → Int) (k : Nat) (hk : k < n) : sumTo n (fun i => g i * (if i = k then 1 else 0)) = g k := by
  induction n with
  | zero => omega
  | succ n ih =>
    rw [sumTo_succ]
    by_cases h : k < n
    · rw [ih h, if_neg (by omega)]; simp
    · have : k = n := by omega
      subst this
      rw [if_pos rfl, show sumTo k (fun i => g i * (if i = k then 1 else 0)) = sumTo k (fun _ => 0) from sumTo_congr fun i hi => by rw [if_neg (by omega)]; simp]
      have : ∀ m, sumTo m (fun _ => 0) = 0 := fun m => by
        induction m with
        | zero => rfl
        | succ m ih => rw [sumTo_succ, ih]; rfl
      rw [this]; simp
/-- The values of what is used, counted over the users and over the used. -/
theorem used_sum {vars : Int} {l : List Term} (g : Nat → Int) (hok : ∀ k (h : k < l.length), TOk vars k l[k]) : ∀ m, m ≤ l.length →
    sumTo l.length (fun i => g i * usesN (l.take m) i) = ((l.take m).map fun t => if 3 ≤ t.op then g t.a.toNat + g t.b.toNat else 0).sum := by
  intro m
  induction m with
  | zero =>
    intro _
    have : ∀ k, sumTo k (fun i => g i * usesN (l.take 0) i) = 0 := fun k => by
      induction k with
      | zero => rfl
      | succ k ih => rw [sumTo_succ, ih]; simp [usesN]
    rw [this]; rfl
  | succ m ih =>
    intro hm
    have ht := hok m (by omega)
    rw [List.take_succ_eq_append_getElem (by omega), List.map_append, List.sum_append, ← ih (by omega)]
    rw [sumTo_congr (h := fun i => g i * usesN (l.take m) i + g i * uses1 l[m] i) fun i _ => by rw [usesN_snoc, Int.mul_add], sumTo_add]
    congr 1
    generalize l[m] = t at *
    obtain ⟨_, _, _, _, h5⟩ := ht
    by_cases h3 : 3 ≤ t.op
    · obtain ⟨a0, a1, b0, b1⟩ := h5 h3
      obtain ⟨a, ha⟩ := Int.eq_ofNat_of_zero_le a0
      obtain ⟨b, hb⟩ := Int.eq_ofNat_of_zero_le b0
      rw [sumTo_congr (h := fun i => g i * (if i = a then 1 else 0) + g i * (if i = b then 1 else 0)) fun i _ => by
        unfold uses1
        rw [← Int.mul_add]
        congr 1
        congr 1
        · by_cases e : i = a
          · rw [if_pos e, if_pos ⟨h3, by omega⟩]
          · rw [if_neg e, if_neg (by omega)]
        · by_cases e : i = b
          · rw [if_pos e, if_pos ⟨h3, by omega⟩]
          · rw [if_neg e, if_neg (by omega)], sumTo_add, sumTo_one _ _ a (by omega), sumTo_one _ _ b (by omega)]
      simp [h3, ha, hb]
    · have e0 : ∀ i, uses1 t i = 0 := fun i => by unfold uses1; rw [if_neg (by omega), if_neg (by omega)]; rfl
      rw [sumTo_congr (h := fun i => 0) fun i _ => by rw [e0]; simp]
      have : ∀ m, sumTo m (fun _ => 0) = 0 := fun m => by
        induction m with
        | zero => rfl
        | succ m ih => rw [sumTo_succ, ih]; rfl
      rw [this]; simp [h3]
theorem sum_map_range {l : List Term} (g : Term → Int) : ∀ m, m ≤ l.length → ((l.take m).map g).sum = sumTo m (fun i => if h : i < l.length then g l[i] else 0) := by
  intro m
  induction m with
  | zero => intro _; simp [sumTo]
  | succ m ih => intro hm; rw [List.take_succ_eq_append_getElem (by omega), List.map_append, List.sum_append, ih (by omega), sumTo_succ, dif_pos (by omega)]; simp

/-- In a tree the leaves below the last term are all leaves. -/
theorem leaves_eq {vars : Int} {l : List Term} (h1 : 1 ≤ l.length) (hok : ∀ k (h : k < l.length), TOk vars k l[k]) (ht : IsTree l) : accAt lvs1 l (l.length - 1) = leavesN l := by
  have hs := used_sum (accAt lvs1 l) hok l.length (Nat.le_refl _)
  rw [List.take_length] at hs
  have hl : leavesN l = sumTo l.length (fun i => accAt lvs1 l i) - (l.map fun t => if 3 ≤ t.op then accAt lvs1 l t.a.toNat + accAt lvs1 l t.b.toNat else 0).sum := by
    have e1 := sum_map_range (l := l) (fun t => if t.op < 3 then (1 : Int) else 0) l.length (Nat.le_refl _)
    have e2 := sum_map_range (l := l) (fun t => if 3 ≤ t.op then accAt lvs1 l t.a.toNat + accAt lvs1 l t.b.toNat else 0) l.length (Nat.le_refl _)
    rw [List.take_length] at e1 e2
    unfold leavesN
    rw [e1, e2]
    have : sumTo l.length (fun i => accAt lvs1 l i) = sumTo l.length (fun i => (if h : i < l.length then (if l[i].op < 3 then (1 : Int) else 0) else 0) + (if h : i < l.length then (if 3 ≤ l[i].op then accAt lvs1 l l[i].a.toNat + accAt lvs1 l l[i].b.toNat else 0) else 0)) := by
      refine sumTo_congr fun i hi => ?_
      rw [dif_pos hi, dif_pos hi, accAt_eq lvs1 hi]
      have := hok i hi
      by_cases h3 : 3 ≤ l[i].op
      · rw [lvs1_3 h3, if_neg (by omega), if_pos h3, Int.zero_add]
        obtain ⟨a0, a1, b0, b1⟩ := this.2.2.2.2 h3
        rw [accTo_at lvs1 (show i ≤ l.length by omega) (show l[i].a.toNat < i by omega), accTo_at lvs1 (show i ≤ l.length by omega) (show l[i].b.toNat < i by omega)]
      · rw [lvs1_0 h3, if_pos (by omega), if_neg h3]; rfl
    rw [this, sumTo_add]
    omega
  rw [hl, ← hs]
  obtain ⟨n, hn⟩ : ∃ n, l.length = n + 1 := ⟨l.length - 1, by omega⟩
  rw [hn, sumTo_succ, sumTo_succ]
  have h0 := (ht n (by omega)).2 (by omega)
  have e : sumTo n (fun i => accAt lvs1 l i * usesN l i) = sumTo n (fun i => accAt lvs1 l i) := sumTo_congr fun i hi => by
    rw [(ht i (by omega)).1 (by omega), Int.mul_one]
  rw [e, h0]
  simp
  omega
/-- ERSHOV, at each term. -/
theorem need_leaves {vars : Int} {l : List Term} (hok : ∀ k (h : k < l.length), TOk vars k l[k]) : ∀ i, i < l.length → ∃ n : Nat, accAt need1 l i = n + 1 ∧ (2 : Int) ^ n ≤ accAt lvs1 l i := by
  intro i
  induction i using Nat.strongRecOn with
  | _ i ih =>
    intro hi
    rw [accAt_eq need1 hi, accAt_eq lvs1 hi]
    have ht := (hok i hi).2.2.2.2
    by_cases h3 : 3 ≤ l[i].op
    · rw [need1_3 h3, lvs1_3 h3]
      obtain ⟨a0, a1, b0, b1⟩ := ht h3
      obtain ⟨na, ea, la⟩ := ih l[i].a.toNat (by omega) (by omega)
      obtain ⟨nb, eb, lb⟩ := ih l[i].b.toNat (by omega) (by omega)
      rw [accTo_at need1 (show i ≤ l.length by omega) (show l[i].a.toNat < i by omega), accTo_at need1 (show i ≤ l.length by omega) (show l[i].b.toNat < i by omega)]
      rw [accTo_at lvs1 (show i ≤ l.length by omega) (show l[i].a.toNat < i by omega), accTo_at lvs1 (show i ≤ l.length by omega) (show l[i].b.toNat < i by omega), ea, eb]
      have pos : ∀ n : Nat, (1 : Int) ≤ 2 ^ n := fun n => by
        induction n with
        | zero => decide
        | succ n ih => rw [Int.pow_succ]; omega
      by_cases he : (na : Int) + 1 = nb + 1
      · rw [if_pos he]
        refine ⟨na + 1, by omega, ?_⟩
        have : nb = na := by omega
        subst this
        rw [Int.pow_succ]; omega
      · rw [if_neg he]
        by_cases hlt : (na : Int) + 1 < nb + 1
        · rw [if_pos hlt]
          refine ⟨nb, rfl, ?_⟩
          have := pos na
          omega
        · rw [if_neg hlt]
          refine ⟨na, rfl, ?_⟩
          have := pos nb
          omega
    · rw [need1_0 h3, lvs1_0 h3]
      exact ⟨0, rfl, by decide⟩
end Go.Proofs.Ytmgejacndhnikaa
