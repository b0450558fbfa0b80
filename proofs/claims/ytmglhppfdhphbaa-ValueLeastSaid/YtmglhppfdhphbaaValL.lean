/- value.Least: plain law. -/
import Derived.Test.YtmglhppfdhphbaaValQ
namespace Go.Proofs.Ytmglhppfdhphbaa
open Go.RowKit

def nulT : Term := ⟨0, 0, 0, 0⟩
def fN (l : List Term) (i : Nat) : Nat := ((fsTo l l.length).getD i 0).toNat
def kN (l : List Term) (i : Nat) : Term := kT (fsTo l i) (l.getD i nulT)
section
variable {l : List Term} {vars : Int}
theorem fN_int {i : Nat} (hi : i < l.length) : (fsTo l l.length).getD i 0 = ((fN l i : Nat) : Int) := by
  have := (fsTo_bd (l := l) (Nat.le_refl _) hi).1
  unfold fN; omega
theorem fN_le {i : Nat} (hi : i < l.length) : fN l i ≤ i := by
  have := (fsTo_bd (l := l) (Nat.le_refl _) hi).2
  unfold fN; omega
theorem fN_idx {i : Nat} (hi : i < l.length) : fN l i = (ksTo l i).idxOf (kN l i) := by
  unfold fN kN nulT
  rw [fsTo_get (Nat.le_refl _) hi, Int.toNat_natCast]
theorem ksTo_at {n k : Nat} (hn : n ≤ l.length) (hk : k < n) : (ksTo l n)[k]? = some (kN l k) := ksTo_get hn hk
theorem kN_fN {i : Nat} (hi : i < l.length) : kN l (fN l i) = kN l i := by
  by_cases h : fN l i < i
  · have hx := ksTo_at (l := l) (Nat.le_of_lt hi) h
    have hlt : (ksTo l i).idxOf (kN l i) < (ksTo l i).length := by rw [← fN_idx hi, ksTo_len (Nat.le_of_lt hi)]; exact h
    have h2 : (ksTo l i)[(ksTo l i).idxOf (kN l i)]? = some (kN l i) := by rw [List.getElem?_eq_getElem hlt, List.getElem_idxOf]
    rw [← fN_idx hi, hx] at h2
    injection h2
  · have := fN_le hi
    rw [show fN l i = i by omega]
theorem kN_least {i k : Nat} (hi : i < l.length) (hk : k < fN l i) : kN l k ≠ kN l i := fun e => by
  have hle := fN_le hi
  have hx := ksTo_at (l := l) (Nat.le_of_lt hi) (show k < i by omega)
  have hm : kN l i ∈ (ksTo l i).take (k + 1) := by
    rw [← e]
    have := List.mem_of_getElem? (l := (ksTo l i).take (k + 1)) (i := k) (a := kN l k) (by rw [List.getElem?_take_of_lt (by omega)]; exact hx)
    exact this
  have h2 : (ksTo l i).idxOf (kN l i) = ((ksTo l i).take (k + 1)).idxOf (kN l i) := by
    conv => lhs; rw [← List.take_append_drop (k + 1) (ksTo l i)]
    rw [List.idxOf_append, if_pos hm]
  have h3 : ((ksTo l i).take (k + 1)).idxOf (kN l i) < ((ksTo l i).take (k + 1)).length := List.idxOf_lt_length_iff.2 hm
  rw [List.length_take] at h3
  rw [fN_idx hi] at hk
  omega
theorem fN_of_kN {i j : Nat} (hi : i < l.length) (hj : j < l.length) (h : kN l i = kN l j) : fN l i = fN l j := by
  rcases Nat.lt_trichotomy (fN l i) (fN l j) with h1 | h1 | h1
  · exact absurd ((kN_fN hi).trans h) (kN_least hj h1)
  · exact h1
  · exact absurd ((kN_fN hj).trans h.symm) (kN_least hi h1)
theorem fN_fN {i : Nat} (hi : i < l.length) : fN l (fN l i) = fN l i := by
  have := fN_le hi
  exact fN_of_kN (by omega) hi (kN_fN hi)
theorem fsTo_pre {n k : Nat} (hn : n ≤ l.length) (hk : k < n) : (fsTo l n).getD k 0 = ((fN l k : Nat) : Int) := by
  rw [← fN_int (by omega), fsTo_get hn hk, fsTo_get (Nat.le_refl _) (by omega)]
/-- What the own form of a term is. -/
structure OwnK (l : List Term) (i : Nat) : Prop where
  op : (kN l i).op = (l.getD i nulT).op
  leaf : ¬ 2 < (kN l i).op → (kN l i).a = 0 ∧ (kN l i).b = 0 ∧ (kN l i).val = (l.getD i nulT).val
  node : 2 < (kN l i).op → ∃ a b : Nat, (kN l i).a = a ∧ (kN l i).b = b ∧ a < i ∧ b < i ∧ fN l a = a ∧ fN l b = b ∧ (kN l i).val = 0 ∧ (((kN l i).op = 3 ∨ (kN l i).op = 5) → a ≤ b)
theorem ownK (hok : ∀ k (h : k < l.length), TOk vars k l[k]) {i : Nat} (hi : i < l.length) : OwnK l i := by
  have hg : l.getD i nulT = l[i] := getD_at hi
  obtain ⟨_, _, _, _, hob⟩ := hok i hi
  rw [← hg] at hob
  have ek : kN l i = kT (fsTo l i) (l.getD i nulT) := rfl
  have hop : (kT (fsTo l i) (l.getD i nulT)).op = (l.getD i nulT).op := by
    unfold kT
    split
    · split <;> rfl
    · rfl
  refine ⟨hop, fun h => ?_, fun h => ?_⟩
  · rw [ek] at h ⊢
    rw [hop] at h
    unfold kT
    rw [if_neg h]
    exact ⟨rfl, rfl, rfl⟩
  · rw [ek] at h ⊢
    rw [hop] at h ⊢
    obtain ⟨a0, a1, b0, b1⟩ := hob (by omega)
    obtain ⟨a, ha⟩ := Int.eq_ofNat_of_zero_le a0
    obtain ⟨b, hb⟩ := Int.eq_ofNat_of_zero_le b0
    have ea : (fsTo l i).getD a 0 = ((fN l a : Nat) : Int) := fsTo_pre (Nat.le_of_lt hi) (by omega)
    have eb : (fsTo l i).getD b 0 = ((fN l b : Nat) : Int) := fsTo_pre (Nat.le_of_lt hi) (by omega)
    have la := fN_le (l := l) (show a < l.length by omega)
    have lb := fN_le (l := l) (show b < l.length by omega)
    have fa := fN_fN (l := l) (show a < l.length by omega)
    have fb := fN_fN (l := l) (show b < l.length by omega)
    unfold kT
    rw [if_pos h, ha, hb, Int.toNat_natCast, Int.toNat_natCast, ea, eb]
    by_cases h35 : (l.getD i nulT).op = 3 ∨ (l.getD i nulT).op = 5
    · rw [if_pos h35]
      rcases Nat.le_total (fN l a) (fN l b) with hab | hab
      · exact ⟨fN l a, fN l b, Int.min_eq_left (by omega), Int.max_eq_right (by omega), by omega, by omega, fa, fb, rfl, fun _ => hab⟩
      · exact ⟨fN l b, fN l a, Int.min_eq_right (by omega), Int.max_eq_left (by omega), by omega, by omega, fb, fa, rfl, fun _ => hab⟩
    · rw [if_neg h35]
      exact ⟨fN l a, fN l b, rfl, rfl, by omega, by omega, fa, fb, rfl, fun h => absurd h h35⟩
/-- Which terms the last one needs. -/
inductive Nd (l : List Term) : Nat → Prop
  | root : Nd l (fN l (l.length - 1))
  | ca {i a : Nat} (h : Nd l i) (h2 : 2 < (kN l i).op) (e : (kN l i).a = a) : Nd l a
  | cb {i b : Nat} (h : Nd l i) (h2 : 2 < (kN l i).op) (e : (kN l i).b = b) : Nd l b
theorem Nd.facts (hok : ∀ k (h : k < l.length), TOk vars k l[k]) (h1 : 1 ≤ l.length) {i : Nat} (h : Nd l i) : i < l.length ∧ fN l i = i ∧ i ≤ fN l (l.length - 1) := by
  induction h with
  | root =>
    have := fN_le (l := l) (show l.length - 1 < l.length by omega)
    exact ⟨by omega, fN_fN (by omega), Nat.le_refl _⟩
  | @ca i a _ h2 e ih =>
    obtain ⟨a', b', e1, _, h3, _, h4, _⟩ := (ownK hok ih.1).node h2
    have : a = a' := by omega
    subst this
    exact ⟨by omega, h4, by omega⟩
  | @cb i b _ h2 e ih =>
    obtain ⟨a', b', _, e1, _, h3, _, h4, _⟩ := (ownK hok ih.1).node h2
    have : b = b' := by omega
    subst this
    exact ⟨by omega, h4, by omega⟩
open Classical in
noncomputable def ndL (l : List Term) (n : Nat) : List Nat := (List.range n).filter fun i => decide (Nd l i)
noncomputable def nuN (l : List Term) (i : Nat) : Nat := (ndL l i).length
noncomputable def renT (l : List Term) (i : Nat) : Term := if 2 < (kN l i).op then ⟨(kN l i).op, nuN l (kN l i).a.toNat, nuN l (kN l i).b.toNat, (kN l i).val⟩ else kN l i
noncomputable def leastL (l : List Term) : List Term := (ndL l l.length).map (renT l)
theorem ndL_succ (i : Nat) : ndL l (i + 1) = ndL l i ++ (open Classical in if Nd l i then [i] else []) := by
  unfold ndL
  rw [List.range_succ, List.filter_append]
  congr 1
  by_cases h : Nd l i
  · simp [h]
  · simp [h]
theorem nuN_yes {i : Nat} (h : Nd l i) : nuN l (i + 1) = nuN l i + 1 := by unfold nuN; rw [ndL_succ, if_pos h]; simp
theorem nuN_no {i : Nat} (h : ¬ Nd l i) : nuN l (i + 1) = nuN l i := by unfold nuN; rw [ndL_succ, if_neg h]; simp
theorem nuN_mono {i j : Nat} (h : i ≤ j) : nuN l i ≤ nuN l j := by
  induction h with
  | refl => exact Nat.le_refl _
  | @step j _ ih =>
    show nuN l i ≤ nuN l (j + 1)
    by_cases hn : Nd l j
    · have := nuN_yes hn; omega
    · have := nuN_no hn; omega
theorem nuN_lt {i j : Nat} (h : i < j) (hn : Nd l i) : nuN l i < nuN l j := by
  have := nuN_yes hn
  have := nuN_mono (l := l) (show i + 1 ≤ j from h)
  omega
theorem nuN_inj {i j : Nat} (hi : Nd l i) (hj : Nd l j) (h : nuN l i = nuN l j) : i = j := by
  rcases Nat.lt_trichotomy i j with h1 | h1 | h1
  · have := nuN_lt h1 hi; omega
  · exact h1
  · have := nuN_lt h1 hj; omega
theorem nuN_le (i : Nat) : nuN l i ≤ i := by
  unfold nuN ndL
  have := List.length_filter_le (fun i => open Classical in decide (Nd l i)) (List.range i)
  simpa using this
theorem ndL_at {n i : Nat} (hi : i < n) (h : Nd l i) : (ndL l n)[nuN l i]? = some i := by
  induction n with
  | zero => omega
  | succ n ih =>
    rw [ndL_succ]
    by_cases e : i < n
    · rw [List.getElem?_append_left (nuN_lt e h)]
      exact ih e
    · have : i = n := by omega
      subst this
      rw [if_pos h]
      show (ndL l i ++ [i])[(ndL l i).length]? = some i
      simp
theorem ndL_of {n j i : Nat} (h : (ndL l n)[j]? = some i) : Nd l i ∧ i < n ∧ nuN l i = j := by
  induction n with
  | zero => simp [ndL] at h
  | succ n ih =>
    rw [ndL_succ] at h
    by_cases hj : j < (ndL l n).length
    · rw [List.getElem?_append_left hj] at h
      obtain ⟨h1, h2, h3⟩ := ih h
      exact ⟨h1, by omega, h3⟩
    · rw [List.getElem?_append_right (by omega)] at h
      by_cases hn : Nd l n
      · rw [if_pos hn] at h
        have hj0 : j - (ndL l n).length = 0 := by
          rcases Nat.eq_zero_or_pos (j - (ndL l n).length) with h0 | h0
          · exact h0
          · rw [List.getElem?_eq_none (by simp; omega)] at h; cases h
        rw [hj0] at h
        simp at h
        subst h
        exact ⟨hn, by omega, by unfold nuN; omega⟩
      · rw [if_neg hn] at h
        simp at h
theorem leastL_len : (leastL l).length = nuN l l.length := by unfold leastL nuN; rw [List.length_map]
theorem leastL_at {i : Nat} (hi : i < l.length) (h : Nd l i) : (leastL l)[nuN l i]? = some (renT l i) := by
  unfold leastL
  rw [List.getElem?_map, ndL_at hi h]; rfl
theorem leastL_of {j : Nat} (hj : j < (leastL l).length) : ∃ i, Nd l i ∧ i < l.length ∧ nuN l i = j ∧ (leastL l).getD j nulT = renT l i := by
  have hj' : j < (ndL l l.length).length := by rw [leastL_len] at hj; exact hj
  have h := List.getElem?_eq_getElem hj'
  obtain ⟨h1, h2, h3⟩ := ndL_of h
  refine ⟨_, h1, h2, h3, ?_⟩
  rw [List.getD_eq_getElem?_getD]
  unfold leastL
  rw [List.getElem?_map, h]; rfl
theorem renT_op (i : Nat) : (renT l i).op = (kN l i).op := by unfold renT; split <;> rfl
theorem renT_node {i a b : Nat} (h : 2 < (kN l i).op) (ha : (kN l i).a = a) (hb : (kN l i).b = b) : renT l i = ⟨(kN l i).op, nuN l a, nuN l b, (kN l i).val⟩ := by
  unfold renT; rw [if_pos h, ha, hb, Int.toNat_natCast, Int.toNat_natCast]
theorem renT_leaf {i : Nat} (h : ¬ 2 < (kN l i).op) : renT l i = kN l i := by unfold renT; rw [if_neg h]
theorem renT_inj (hok : ∀ k (h : k < l.length), TOk vars k l[k]) (h1 : 1 ≤ l.length) {i j : Nat} (hi : Nd l i) (hj : Nd l j) (h : renT l i = renT l j) : i = j := by
  obtain ⟨li, fi, _⟩ := hi.facts hok h1
  obtain ⟨lj, fj, _⟩ := hj.facts hok h1
  have hop : (kN l i).op = (kN l j).op := by rw [← renT_op, ← renT_op, h]
  have hk : kN l i = kN l j := by
    by_cases h2 : 2 < (kN l i).op
    · obtain ⟨a, b, ea, eb, _, _, _, _, va, _⟩ := (ownK hok li).node h2
      obtain ⟨a', b', ea', eb', _, _, _, _, va', _⟩ := (ownK hok lj).node (by omega)
      rw [renT_node h2 ea eb, renT_node (by omega) ea' eb'] at h
      injection h with _ e1 e2 _
      have e1 : a = a' := nuN_inj (hi.ca h2 ea) (hj.ca (by omega) ea') (by omega)
      have e2 : b = b' := nuN_inj (hi.cb h2 eb) (hj.cb (by omega) eb') (by omega)
      subst e1 e2
      generalize kN l i = x at *
      generalize kN l j = y at *
      obtain ⟨o1, a1, b1, v1⟩ := x
      obtain ⟨o2, a2, b2, v2⟩ := y
      dsimp only at *
      subst hop ea eb va ea' eb' va'
      rfl
    · rw [renT_leaf h2, renT_leaf (by omega)] at h
      exact h
  rw [← fi, ← fj]
  exact fN_of_kN li lj hk
/-- The least terms may be. -/
theorem least_ok (hok : ∀ k (h : k < l.length), TOk vars k l[k]) (_h1 : 1 ≤ l.length) : ∀ k (h : k < (leastL l).length), TOk vars k (leastL l)[k] := fun k hk => by
  obtain ⟨i, hn, hi, hk', e⟩ := leastL_of hk
  have e' : (leastL l)[k] = renT l i := by rw [← e, List.getD_eq_getElem?_getD, List.getElem?_eq_getElem hk]; rfl
  rw [e']
  have hg : l.getD i nulT = l[i] := getD_at hi
  obtain ⟨o1, o6, hnum, hvar, _⟩ := hok i hi
  rw [← hg] at o1 o6 hnum hvar
  have hK := ownK hok hi
  rw [← hK.op] at o1 o6 hnum hvar
  by_cases h2 : 2 < (kN l i).op
  · obtain ⟨a, b, ea, eb, la, lb, _⟩ := hK.node h2
    have na := nuN_lt la (hn.ca h2 ea)
    have nb := nuN_lt lb (hn.cb h2 eb)
    rw [renT_node h2 ea eb]
    refine ⟨o1, o6, fun h => ?_, fun h => ?_, fun _ => ?_⟩
    · dsimp only at h; omega
    · dsimp only at h; omega
    · dsimp only; omega
  · obtain ⟨e1, e2, e3⟩ := hK.leaf h2
    rw [renT_leaf h2]
    exact ⟨o1, o6, by rw [e3]; exact hnum, by rw [e3]; exact hvar, fun h => by omega⟩
/-- Of the least terms each is its own first one. -/
theorem least_own (hok : ∀ k (h : k < l.length), TOk vars k l[k]) (h1 : 1 ≤ l.length) : ∀ k, k ≤ (leastL l).length → (∀ j, j < k → (fsTo (leastL l) k).getD j 0 = ((j : Nat) : Int)) ∧ ksTo (leastL l) k = (leastL l).take k
  | 0, _ => ⟨fun j h => by omega, rfl⟩
  | k + 1, hk => by
    obtain ⟨ihF, ihK⟩ := least_own hok h1 k (by omega)
    obtain ⟨i, hn, hi, hk', e⟩ := leastL_of (show k < (leastL l).length by omega)
    have e' : (leastL l)[k] = renT l i := by rw [← e, List.getD_eq_getElem?_getD, List.getElem?_eq_getElem (by omega)]; rfl
    have hst : kT (fsTo (leastL l) k) (leastL l)[k] = (leastL l)[k] := by
      rw [e']
      have hK := ownK hok hi
      by_cases h2 : 2 < (kN l i).op
      · obtain ⟨a, b, ea, eb, la, lb, _, _, va, hab⟩ := hK.node h2
        have na := nuN_lt la (hn.ca h2 ea)
        have nb := nuN_lt lb (hn.cb h2 eb)
        rw [renT_node h2 ea eb, va]
        unfold kT
        dsimp only
        rw [if_pos h2, Int.toNat_natCast, Int.toNat_natCast, ihF _ (by omega), ihF _ (by omega)]
        by_cases h35 : (kN l i).op = 3 ∨ (kN l i).op = 5
        · have := nuN_mono (l := l) (hab h35)
          rw [if_pos h35, Int.min_eq_left (by omega), Int.max_eq_right (by omega)]
        · rw [if_neg h35]
      · obtain ⟨e1, e2, _⟩ := hK.leaf h2
        rw [renT_leaf h2]
        unfold kT
        rw [if_neg h2]
        generalize kN l i = x at *
        obtain ⟨o, a, b, v⟩ := x
        dsimp only at *
        rw [e1, e2]
    have hnot : (leastL l)[k] ∉ (leastL l).take k := fun hm => by
      obtain ⟨j, hj, ej⟩ := List.getElem_of_mem hm
      rw [List.length_take] at hj
      rw [List.getElem_take] at ej
      obtain ⟨i', hn', hi', hk'', e2⟩ := leastL_of (show j < (leastL l).length by omega)
      have e2' : (leastL l)[j]'(by omega) = renT l i' := by rw [← e2, List.getD_eq_getElem?_getD, List.getElem?_eq_getElem (by omega)]; rfl
      rw [e', e2'] at ej
      have := renT_inj hok h1 hn' hn ej
      subst this
      omega
    have hfl := fsTo_len (l := leastL l) (n := k) (by omega)
    constructor
    · intro j hj
      rw [fsTo_succ (by omega)]
      by_cases e : j < k
      · rw [List.getD_eq_getElem?_getD, List.getElem?_append_left (by rw [hfl]; exact e), ← List.getD_eq_getElem?_getD]
        exact ihF j e
      · have : j = k := by omega
        subst this
        rw [List.getD_eq_getElem?_getD, List.getElem?_append_right (by rw [hfl]; exact Nat.le_refl _), hfl, Nat.sub_self, hst, ihK, List.idxOf_eq_length hnot, List.length_take]
        simp; omega
    · rw [ksTo_succ (by omega), hst, ihK, List.take_succ_eq_append_getElem (by omega)]
theorem least_fN (hok : ∀ k (h : k < l.length), TOk vars k l[k]) (h1 : 1 ≤ l.length) {j : Nat} (hj : j < (leastL l).length) : fN (leastL l) j = j := by
  unfold fN
  rw [(least_own hok h1 _ (Nat.le_refl _)).1 j hj, Int.toNat_natCast]
theorem least_kN (hok : ∀ k (h : k < l.length), TOk vars k l[k]) (h1 : 1 ≤ l.length) {j : Nat} (hj : j < (leastL l).length) : kN (leastL l) j = (leastL l).getD j nulT := by
  have h := ksTo_at (l := leastL l) (Nat.le_refl _) hj
  rw [(least_own hok h1 _ (Nat.le_refl _)).2, List.take_length, List.getElem?_eq_getElem hj] at h
  injection h with h
  rw [← h, List.getD_eq_getElem?_getD, List.getElem?_eq_getElem hj]; rfl
theorem nuN_all (hok : ∀ k (h : k < l.length), TOk vars k l[k]) (h1 : 1 ≤ l.length) : nuN l l.length = nuN l (fN l (l.length - 1)) + 1 := by
  have hr := fN_le (l := l) (show l.length - 1 < l.length by omega)
  have key : ∀ d, nuN l (fN l (l.length - 1) + 1 + d) = nuN l (fN l (l.length - 1)) + 1 := fun d => by
    induction d with
    | zero => exact nuN_yes Nd.root
    | succ d ih =>
      have hn : ¬ Nd l (fN l (l.length - 1) + 1 + d) := fun h => by have := (h.facts hok h1).2.2; omega
      have := nuN_no hn
      rw [← ih]; exact this
  have := key (l.length - (fN l (l.length - 1) + 1))
  rwa [show fN l (l.length - 1) + 1 + (l.length - (fN l (l.length - 1) + 1)) = l.length by omega] at this
theorem least_at_node (hok : ∀ k (h : k < l.length), TOk vars k l[k]) (h1 : 1 ≤ l.length) {i : Nat} (h : Nd l i) : nuN l i < (leastL l).length ∧ kN (leastL l) (nuN l i) = renT l i := by
  obtain ⟨hi, _, _⟩ := h.facts hok h1
  have h2 := leastL_at hi h
  have hlt := (List.getElem?_eq_some_iff.1 h2).1
  refine ⟨hlt, ?_⟩
  rw [least_kN hok h1 hlt, List.getD_eq_getElem?_getD, h2]; rfl
theorem least_nd (hok : ∀ k (h : k < l.length), TOk vars k l[k]) (h1 : 1 ≤ l.length) {i : Nat} (h : Nd l i) : Nd (leastL l) (nuN l i) := by
  induction h with
  | root =>
    have e : (leastL l).length - 1 = nuN l (fN l (l.length - 1)) := by rw [leastL_len, nuN_all hok h1]; omega
    have hlt := (least_at_node hok h1 (Nd.root (l := l))).1
    have := Nd.root (l := leastL l)
    rw [e, least_fN hok h1 hlt] at this
    exact this
  | @ca i a hn h2 ea ih =>
    obtain ⟨_, hk⟩ := least_at_node hok h1 hn
    obtain ⟨a', b', ea', eb', _⟩ := (ownK hok (hn.facts hok h1).1).node h2
    have : a = a' := by omega
    subst this
    exact ih.ca (by rw [hk, renT_op]; exact h2) (by rw [hk, renT_node h2 ea' eb'])
  | @cb i b hn h2 eb ih =>
    obtain ⟨_, hk⟩ := least_at_node hok h1 hn
    obtain ⟨a', b', ea', eb', _⟩ := (ownK hok (hn.facts hok h1).1).node h2
    have : b = b' := by omega
    subst this
    exact ih.cb (by rw [hk, renT_op]; exact h2) (by rw [hk, renT_node h2 ea' eb'])
theorem least_nd_all (hok : ∀ k (h : k < l.length), TOk vars k l[k]) (h1 : 1 ≤ l.length) {j : Nat} (hj : j < (leastL l).length) : Nd (leastL l) j := by
  obtain ⟨i, hn, _, e, _⟩ := leastL_of hj
  rw [← e]
  exact least_nd hok h1 hn
theorem least_nu (hok : ∀ k (h : k < l.length), TOk vars k l[k]) (h1 : 1 ≤ l.length) : ∀ j, j ≤ (leastL l).length → nuN (leastL l) j = j
  | 0, _ => by simp [nuN, ndL]
  | j + 1, h => by rw [nuN_yes (least_nd_all hok h1 (by omega)), least_nu hok h1 j (by omega)]
theorem least_len1 (hok : ∀ k (h : k < l.length), TOk vars k l[k]) (h1 : 1 ≤ l.length) : 1 ≤ (leastL l).length ∧ (leastL l).length ≤ l.length := by
  rw [leastL_len]
  have := nuN_all hok h1
  have := nuN_le (l := l) l.length
  omega
/-- Least again they are as they were. -/
theorem least_idem (hok : ∀ k (h : k < l.length), TOk vars k l[k]) (h1 : 1 ≤ l.length) : leastL (leastL l) = leastL l := by
  have hok' := least_ok hok h1
  have h1' := (least_len1 hok h1).1
  have hlen : (leastL (leastL l)).length = (leastL l).length := by rw [leastL_len, least_nu hok h1 _ (Nat.le_refl _)]
  refine List.ext_getElem? fun j => ?_
  by_cases hj : j < (leastL l).length
  · have hn := least_nd_all hok h1 hj
    have h2 := leastL_at hj hn
    rw [least_nu hok h1 j (by omega)] at h2
    rw [h2, List.getElem?_eq_getElem hj]
    have hk := least_kN hok h1 hj
    have hk' : kN (leastL l) j = (leastL l)[j] := by rw [hk, List.getD_eq_getElem?_getD, List.getElem?_eq_getElem hj]; rfl
    rw [← hk']
    congr 1
    by_cases h3 : 2 < (kN (leastL l) j).op
    · obtain ⟨a, b, ea, eb, la, lb, _⟩ := (ownK hok' hj).node h3
      rw [renT_node h3 ea eb, least_nu hok h1 a (by omega), least_nu hok h1 b (by omega)]
      generalize kN (leastL l) j = x at *
      obtain ⟨o, a', b', v⟩ := x
      dsimp only at *
      rw [ea, eb]
    · rw [renT_leaf h3]
  · rw [List.getElem?_eq_none (by omega), List.getElem?_eq_none (by omega)]
/-- They stand for the same. -/
theorem least_val1 (hok : ∀ k (h : k < l.length), TOk vars k l[k]) (h1 : 1 ≤ l.length) (hv : List Int) : ∀ n i, i < n → Nd l i → (valsTo hv (leastL l) (leastL l).length).getD (nuN l i) 0 = (valsTo hv l l.length).getD i 0 := fun n => by
  have hok' := least_ok hok h1
  induction n with
  | zero => intro i h; omega
  | succ n ih =>
    intro i hin hn
    obtain ⟨hi, _, _⟩ := hn.facts hok h1
    have hlt := (least_at_node hok h1 hn).1
    have h2 := leastL_at hi hn
    have e2 : (leastL l)[nuN l i] = renT l i := by rw [List.getElem?_eq_getElem hlt] at h2; injection h2
    rw [val_here hok' hlt, e2, ← (same_both (hv := hv) hok l.length i hi hi).1]
    show _ = val1 hv (valsTo hv l l.length) (kN l i)
    by_cases h3 : 2 < (kN l i).op
    · obtain ⟨a, b, ea, eb, la, lb, _⟩ := (ownK hok hi).node h3
      have va := ih a (by omega) (hn.ca h3 ea)
      have vb := ih b (by omega) (hn.cb h3 eb)
      rw [renT_node h3 ea eb]
      unfold val1
      dsimp only
      rw [if_neg (by omega), if_neg (by omega), if_neg (by omega), if_neg (by omega), ea, eb, Int.toNat_natCast, Int.toNat_natCast, Int.toNat_natCast, Int.toNat_natCast, va, vb]
    · have hop := (ownK hok hi).op
      obtain ⟨o1, o6, _⟩ := hok i hi
      rw [show l[i] = l.getD i nulT from (getD_at hi).symm, ← hop] at o1 o6
      rw [renT_leaf h3]
      unfold val1
      rcases (show (kN l i).op = 1 ∨ (kN l i).op = 2 by omega) with h | h
      · rw [if_pos h, if_pos h]
      · rw [if_neg (by omega), if_pos h, if_neg (by omega), if_pos h]
theorem least_tVal (hok : ∀ k (h : k < l.length), TOk vars k l[k]) (h1 : 1 ≤ l.length) (hv : List Int) : tVal hv (leastL l) = tVal hv l := by
  unfold tVal
  have e : (leastL l).length - 1 = nuN l (fN l (l.length - 1)) := by rw [leastL_len, nuN_all hok h1]; omega
  rw [e, least_val1 hok h1 hv _ _ (Nat.lt_succ_self _) Nd.root]
  exact (same_both (hv := hv) hok l.length (l.length - 1) (by omega) (by omega)).2
end
end Go.Proofs.Ytmglhppfdhphbaa
