/- TermFold: plain law. -/
import Derived.Test.YtmglhppfdhphbaaFoldP
import Derived.Test.YtmglhppfdhphbaaUsesA
namespace Go.Proofs.Ytmglhppfdhphbaa
open Go.RowKit

abbrev nulF : Term := ⟨0, 0, 0, 0⟩
def foldL (l : List Term) : List Term := foldTo l l.length
section
variable {l : List Term} {vars : Int}
theorem fL_len : (foldL l).length = l.length := foldTo_len (Nat.le_refl _)
theorem fTo_pre {j k : Nat} (hj : j < k) (hk : k ≤ l.length) : (foldTo l k).getD j nulF = (foldL l).getD j nulF := by
  unfold foldL
  rw [List.getD_eq_getElem?_getD, List.getD_eq_getElem?_getD, foldTo_pre hj hk, foldTo_pre (by omega : j < l.length) (Nat.le_refl _)]
theorem fL_at {k : Nat} (hk : k < l.length) : (foldL l).getD k nulF = fold1 (foldTo l k) l[k] := by
  rw [← fTo_pre (Nat.lt_succ_self k) hk, foldTo_succ hk, List.getD_eq_getElem?_getD, List.getElem?_append_right (by rw [foldTo_len (by omega)]; omega), foldTo_len (by omega), Nat.sub_self]; rfl
theorem fold1_leaf {p : List Term} {t : Term} (h : ¬ 2 < t.op) : fold1 p t = t := by unfold fold1; rw [if_neg (fun h' => h h'.1)]
theorem fold1_keep {p : List Term} {t : Term} (h : 2 < (fold1 p t).op) : fold1 p t = t := by
  unfold fold1 at h ⊢
  split
  · rename_i h'; rw [if_pos h'] at h; dsimp only at h; omega
  · rfl
theorem fL_keep {k : Nat} (hk : k < l.length) (h : 2 < ((foldL l).getD k nulF).op) : (foldL l).getD k nulF = l.getD k nulF := by
  rw [fL_at hk] at h ⊢
  rw [fold1_keep h, getD_at hk]
theorem fL_leaf {k : Nat} (hk : k < l.length) (h : ¬ 2 < (l.getD k nulF).op) : (foldL l).getD k nulF = l.getD k nulF := by
  rw [getD_at hk] at h ⊢
  rw [fL_at hk, fold1_leaf h]
theorem fL_var {k : Nat} (hk : k < l.length) (h : ((foldL l).getD k nulF).op = 2) : (foldL l).getD k nulF = l.getD k nulF := by
  rw [fL_at hk] at h ⊢
  rw [getD_at hk]
  unfold fold1 at h ⊢
  split
  · rename_i h'; rw [if_pos h'] at h; dsimp only at h; omega
  · rfl
theorem fL_ok (hok : ∀ k (h : k < l.length), TOk vars k l[k]) : ∀ k (h : k < (foldL l).length), TOk vars k (foldL l)[k] := fun k hk => by
  have hk' : k < l.length := by rw [fL_len] at hk; exact hk
  rw [← getD_at hk, fL_at hk']
  exact fold1_ok (hok k hk')
theorem us_fL (hok : ∀ k (h : k < l.length), TOk vars k l[k]) (h1 : 1 ≤ l.length) {i : Nat} (h : Us (foldL l) i) : Us l i := by
  have h1' : 1 ≤ (foldL l).length := by rw [fL_len]; exact h1
  induction h with
  | root => rw [fL_len]; exact .root
  | @ca i a hu h2 e ih =>
    have hi := hu.lt (fL_ok hok) h1'
    rw [fL_len] at hi
    have hk := fL_keep hi h2
    rw [hk] at h2 e
    exact ih.ca h2 e
  | @cb i b hu h2 e ih =>
    have hi := hu.lt (fL_ok hok) h1'
    rw [fL_len] at hi
    have hk := fL_keep hi h2
    rw [hk] at h2 e
    exact ih.cb h2 e
/-- Nothing is left to be folded. -/
def NoNum (L : List Term) : Prop := ∀ k, k < L.length → 2 < (L.getD k nulF).op → ¬ ((L.getD (L.getD k nulF).a.toNat nulF).op = 1 ∧ (L.getD (L.getD k nulF).b.toNat nulF).op = 1)
theorem fL_noNum (hok : ∀ k (h : k < l.length), TOk vars k l[k]) : NoNum (foldL l) := fun k hk h2 ⟨ha, hb⟩ => by
  rw [fL_len] at hk
  have hkeep := fL_keep hk h2
  have h2' := h2
  rw [hkeep] at h2' ha hb
  obtain ⟨_, _, _, _, hob⟩ := hok k hk
  rw [getD_at hk] at h2' ha hb
  obtain ⟨a0, a1, b0, b1⟩ := hob (by omega)
  rw [← fTo_pre (show l[k].a.toNat < k by omega) (by omega)] at ha
  rw [← fTo_pre (show l[k].b.toNat < k by omega) (by omega)] at hb
  rw [fL_at hk] at h2
  unfold fold1 at h2
  rw [if_pos ⟨h2', ha, hb⟩] at h2
  dsimp only at h2
  omega

/-- What is used, renumbered. -/
noncomputable def renU (L : List Term) (i : Nat) : Term := if 2 < (L.getD i nulF).op then ⟨(L.getD i nulF).op, nuP (Us L) (L.getD i nulF).a.toNat, nuP (Us L) (L.getD i nulF).b.toNat, (L.getD i nulF).val⟩ else L.getD i nulF
noncomputable def trimU (L : List Term) : List Term := (ndP (Us L) L.length).map (renU L)
theorem renU_node {i a b : Nat} (h : 2 < (l.getD i nulF).op) (ha : (l.getD i nulF).a = a) (hb : (l.getD i nulF).b = b) : renU l i = ⟨(l.getD i nulF).op, nuP (Us l) a, nuP (Us l) b, (l.getD i nulF).val⟩ := by
  unfold renU; rw [if_pos h, ha, hb, Int.toNat_natCast, Int.toNat_natCast]
theorem renU_leaf {i : Nat} (h : ¬ 2 < (l.getD i nulF).op) : renU l i = l.getD i nulF := by unfold renU; rw [if_neg h]
theorem renU_op (i : Nat) : (renU l i).op = (l.getD i nulF).op := by unfold renU; split <;> rfl
theorem renU_val (i : Nat) : (renU l i).val = (l.getD i nulF).val := by unfold renU; split <;> rfl
theorem trimU_len : (trimU l).length = nuP (Us l) l.length := by unfold trimU nuP; rw [List.length_map]
theorem trimU_at {i : Nat} (hi : i < l.length) (h : Us l i) : (trimU l)[nuP (Us l) i]? = some (renU l i) := by
  unfold trimU; rw [List.getElem?_map, ndP_at hi h]; rfl
theorem trimU_getD {i : Nat} (hi : i < l.length) (h : Us l i) : (trimU l).getD (nuP (Us l) i) nulF = renU l i := by rw [List.getD_eq_getElem?_getD, trimU_at hi h]; rfl
theorem trimU_of {j : Nat} (hj : j < (trimU l).length) : ∃ i, Us l i ∧ i < l.length ∧ nuP (Us l) i = j ∧ (trimU l).getD j nulF = renU l i := by
  have hj' : j < (ndP (Us l) l.length).length := by rw [trimU_len] at hj; exact hj
  obtain ⟨i, hi⟩ : ∃ i, (ndP (Us l) l.length)[j]? = some i := ⟨_, List.getElem?_eq_getElem hj'⟩
  obtain ⟨h1, h2, h3⟩ := ndP_of hi
  exact ⟨i, h1, h2, h3, by rw [← h3, trimU_getD h2 h1]⟩
theorem node_ab (hok : ∀ k (h : k < l.length), TOk vars k l[k]) {i : Nat} (hi : i < l.length) (h2 : 2 < (l.getD i nulF).op) : ∃ a b : Nat, (l.getD i nulF).a = a ∧ (l.getD i nulF).b = b ∧ a < i ∧ b < i := by
  obtain ⟨_, _, _, _, hob⟩ := hok i hi
  rw [getD_at hi] at h2 ⊢
  obtain ⟨a0, a1, b0, b1⟩ := hob (by omega)
  obtain ⟨a, ea⟩ := Int.eq_ofNat_of_zero_le a0
  obtain ⟨b, eb⟩ := Int.eq_ofNat_of_zero_le b0
  exact ⟨a, b, ea, eb, by omega, by omega⟩
theorem us_le (hok : ∀ k (h : k < l.length), TOk vars k l[k]) (h1 : 1 ≤ l.length) {i : Nat} (h : Us l i) : i ≤ l.length - 1 := by have := h.lt hok h1; omega
theorem trimU_len1 (hok : ∀ k (h : k < l.length), TOk vars k l[k]) (h1 : 1 ≤ l.length) : (trimU l).length = nuP (Us l) (l.length - 1) + 1 ∧ (trimU l).length ≤ l.length := by
  rw [trimU_len]
  exact ⟨nuP_last .root (by omega) (fun j h => us_le hok h1 h), nuP_le _⟩
theorem trimU_ok (hok : ∀ k (h : k < l.length), TOk vars k l[k]) (_h1 : 1 ≤ l.length) : ∀ k (h : k < (trimU l).length), TOk vars k (trimU l)[k] := fun k hk => by
  obtain ⟨i, hu, hi, hn, e⟩ := trimU_of hk
  rw [← getD_at hk, e]
  obtain ⟨o1, o6, on, ov, hob⟩ := hok i hi
  rw [← getD_at hi] at o1 o6 on ov
  by_cases h2 : 2 < (l.getD i nulF).op
  · obtain ⟨a, b, ea, eb, la, lb⟩ := node_ab hok hi h2
    rw [renU_node h2 ea eb]
    have ha := nuP_lt la (hu.ca h2 ea)
    have hb := nuP_lt lb (hu.cb h2 eb)
    refine ⟨o1, o6, fun h => ?_, fun h => ?_, fun _ => ⟨?_, ?_, ?_, ?_⟩⟩
    · dsimp only at h; omega
    · dsimp only at h; omega
    · dsimp only; omega
    · dsimp only; omega
    · dsimp only; omega
    · dsimp only; omega
  · rw [renU_leaf h2]
    exact ⟨o1, o6, on, ov, fun h => by omega⟩
theorem trimU_us (hok : ∀ k (h : k < l.length), TOk vars k l[k]) (h1 : 1 ≤ l.length) {i : Nat} (h : Us l i) : Us (trimU l) (nuP (Us l) i) := by
  have hr : nuP (Us l) (l.length - 1) = (trimU l).length - 1 := by have := (trimU_len1 hok h1).1; omega
  induction h with
  | root => rw [hr]; exact .root
  | @ca i a hu h2 e ih =>
    have hi := hu.lt hok h1
    refine ih.ca ?_ ?_
    · rw [trimU_getD hi hu, renU_op]; exact h2
    · obtain ⟨a', b, ea, eb, la, lb⟩ := node_ab hok hi h2
      have : a = a' := by have := e.symm.trans ea; omega
      subst this
      rw [trimU_getD hi hu, renU_node h2 ea eb]
  | @cb i b hu h2 e ih =>
    have hi := hu.lt hok h1
    refine ih.cb ?_ ?_
    · rw [trimU_getD hi hu, renU_op]; exact h2
    · obtain ⟨a, b', ea, eb, la, lb⟩ := node_ab hok hi h2
      have : b = b' := by have := e.symm.trans eb; omega
      subst this
      rw [trimU_getD hi hu, renU_node h2 ea eb]
theorem trimU_all (hok : ∀ k (h : k < l.length), TOk vars k l[k]) (h1 : 1 ≤ l.length) {j : Nat} (hj : j < (trimU l).length) : Us (trimU l) j := by
  obtain ⟨i, hu, hi, hn, _⟩ := trimU_of hj
  rw [← hn]
  exact trimU_us hok h1 hu
/-- Where all is used nothing turns. -/
theorem trimU_same (hok : ∀ k (h : k < l.length), TOk vars k l[k]) (hall : ∀ j, j < l.length → Us l j) : trimU l = l := by
  have hnu := nuP_all (p := Us l) hall
  refine List.ext_getElem (by rw [trimU_len, hnu _ (Nat.le_refl _)]) fun i h1 h2 => ?_
  have h := trimU_at h2 (hall i h2)
  rw [hnu i (Nat.le_of_lt h2), List.getElem?_eq_getElem h1] at h
  injection h with h
  rw [h]
  by_cases hn : 2 < (l.getD i nulF).op
  · obtain ⟨a, b, ea, eb, la, lb⟩ := node_ab hok h2 hn
    rw [renU_node hn ea eb, hnu a (by omega), hnu b (by omega), ← ea, ← eb, getD_at h2]
  · rw [renU_leaf hn, getD_at h2]
theorem foldTo_same (h : NoNum l) (hok : ∀ k (h : k < l.length), TOk vars k l[k]) : ∀ k, k ≤ l.length → foldTo l k = l.take k
  | 0, _ => rfl
  | k + 1, hk => by
    have hk' : k < l.length := hk
    rw [foldTo_succ hk', foldTo_same h hok k (by omega), List.take_succ_eq_append_getElem hk']
    congr 1
    have hn := h k hk'
    unfold fold1
    rw [if_neg]
    rintro ⟨h2, ha, hb⟩
    obtain ⟨a, b, ea, eb, la, lb⟩ := node_ab hok hk' (by rw [getD_at hk']; exact h2)
    rw [getD_at hk'] at hn ea eb
    rw [ea, Int.toNat_natCast, List.getD_eq_getElem?_getD, List.getElem?_take_of_lt la, ← List.getD_eq_getElem?_getD] at ha
    rw [eb, Int.toNat_natCast, List.getD_eq_getElem?_getD, List.getElem?_take_of_lt lb, ← List.getD_eq_getElem?_getD] at hb
    exact hn h2 ⟨by rw [ea, Int.toNat_natCast]; exact ha, by rw [eb, Int.toNat_natCast]; exact hb⟩
theorem foldL_same (h : NoNum l) (hok : ∀ k (h : k < l.length), TOk vars k l[k]) : foldL l = l := by
  unfold foldL; rw [foldTo_same h hok _ (Nat.le_refl _), List.take_length]
theorem trimU_noNum (hok : ∀ k (h : k < l.length), TOk vars k l[k]) (_h1 : 1 ≤ l.length) (hn : NoNum l) : NoNum (trimU l) := fun k hk h2 ⟨ha, hb⟩ => by
  obtain ⟨i, hu, hi, _, e⟩ := trimU_of hk
  rw [e, renU_op] at h2
  obtain ⟨a, b, ea, eb, la, lb⟩ := node_ab hok hi h2
  rw [e, renU_node h2 ea eb] at ha hb
  dsimp only at ha hb
  rw [Int.toNat_natCast] at ha hb
  have ua := hu.ca h2 ea
  have ub := hu.cb h2 eb
  rw [trimU_getD (by omega) ua, renU_op] at ha
  rw [trimU_getD (by omega) ub, renU_op] at hb
  exact hn i hi h2 ⟨by rw [ea, Int.toNat_natCast]; exact ha, by rw [eb, Int.toNat_natCast]; exact hb⟩
noncomputable def foldedL (l : List Term) : List Term := trimU (foldL l)
theorem folded_len (hok : ∀ k (h : k < l.length), TOk vars k l[k]) (h1 : 1 ≤ l.length) : 1 ≤ (foldedL l).length ∧ (foldedL l).length ≤ l.length := by
  have := trimU_len1 (fL_ok hok) (by rw [fL_len]; exact h1)
  rw [fL_len] at this
  unfold foldedL
  omega
theorem folded_ok (hok : ∀ k (h : k < l.length), TOk vars k l[k]) (h1 : 1 ≤ l.length) : ∀ k (h : k < (foldedL l).length), TOk vars k (foldedL l)[k] :=
  trimU_ok (fL_ok hok) (by rw [fL_len]; exact h1)
/-- Folded twice as once. -/
theorem folded_twice (hok : ∀ k (h : k < l.length), TOk vars k l[k]) (h1 : 1 ≤ l.length) : foldedL (foldedL l) = foldedL l := by
  have hk := folded_ok hok h1
  have h1' : 1 ≤ (foldL l).length := by rw [fL_len]; exact h1
  have e : foldL (foldedL l) = foldedL l := foldL_same (trimU_noNum (fL_ok hok) h1' (fL_noNum hok)) hk
  show trimU (foldL (foldedL l)) = foldedL l
  rw [e]
  exact trimU_same hk fun j hj => trimU_all (fL_ok hok) h1' hj
theorem folded_uses (hok : ∀ k (h : k < l.length), TOk vars k l[k]) (h1 : 1 ≤ l.length) (k : Nat) (h : (uW (foldedL l) (foldedL l).length).testBit k = true) : (uW l l.length).testBit k = true := by
  obtain ⟨h8, j, _, hj, _, h2, hv⟩ := (uW_bit _ _).1 h
  obtain ⟨i, hu, hi, _, e⟩ := trimU_of hj
  have e : (foldedL l).getD j nulF = renU (foldL l) i := e
  rw [e, renU_op] at h2
  rw [e, renU_val] at hv
  rw [fL_len] at hi
  have hk := fL_var hi h2
  rw [hk] at h2 hv
  exact (uW_bit _ _).2 ⟨h8, i, hi, hi, us_fL hok h1 hu, h2, hv⟩
theorem nuP_none {p : Nat → Prop} : ∀ {n : Nat}, (∀ j, j < n → ¬ p j) → nuP p n = 0
  | 0, _ => by simp [nuP, ndP]
  | n + 1, h => by rw [nuP_no (h n (by omega)), nuP_none (fun j hj => h j (by omega))]
/-- Without variables one number is left. -/
theorem folded_num (hok : ∀ k (h : k < l.length), TOk vars k l[k]) (h6 : vars ≤ 6) (h1 : 1 ≤ l.length) (h0 : uW l l.length = 0) : (foldedL l).length = 1 ∧ ((foldedL l).getD 0 nulF).op = 1 := by
  have hnv : ∀ i, Us l i → (l.getD i nulF).op ≠ 2 := fun i hu h2 => by
    have hi := hu.lt hok h1
    obtain ⟨_, _, _, hov, _⟩ := hok i hi
    have e := getD_at hi
    rw [← e] at hov
    obtain ⟨v0, v1⟩ := hov h2
    obtain ⟨v, ev⟩ := Int.eq_ofNat_of_zero_le v0
    have := (uW_bit l.length v).2 ⟨by omega, i, hi, hi, hu, h2, ev⟩
    rw [h0, Nat.zero_testBit] at this
    cases this
  have hnum : ∀ n i, i < n → Us l i → ((foldL l).getD i nulF).op = 1 := fun n => by
    induction n with
    | zero => intro i h; omega
    | succ n ih =>
      intro i hin hu
      have hi := hu.lt hok h1
      obtain ⟨o1, _, _, _, _⟩ := hok i hi
      have e := getD_at hi
      by_cases h2 : 2 < (l.getD i nulF).op
      · obtain ⟨a, b, ea, eb, la, lb⟩ := node_ab hok hi h2
        have ha := ih a (by omega) (hu.ca h2 ea)
        have hb := ih b (by omega) (hu.cb h2 eb)
        rw [fL_at hi]
        unfold fold1
        rw [← e, if_pos]
        rw [ea, eb, Int.toNat_natCast, Int.toNat_natCast, fTo_pre la (by omega), fTo_pre lb (by omega)]
        exact ⟨h2, ha, hb⟩
      · rw [fL_leaf hi h2]
        have hv := hnv i hu
        rw [← e] at o1
        show (l.getD i ⟨0, 0, 0, 0⟩).op = 1
        have hv : (l.getD i ⟨0, 0, 0, 0⟩).op ≠ 2 := hv
        have h2 : ¬ 2 < (l.getD i ⟨0, 0, 0, 0⟩).op := h2
        omega
  have hroot : ((foldL l).getD ((foldL l).length - 1) nulF).op = 1 := by rw [fL_len]; exact hnum _ _ (Nat.lt_succ_self _) .root
  have honly : ∀ j, Us (foldL l) j → j = (foldL l).length - 1 := fun j h => by
    induction h with
    | root => rfl
    | @ca i a hu h2 _ ih => rw [ih, hroot] at h2; exact absurd h2 (by decide)
    | @cb i b hu h2 _ ih => rw [ih, hroot] at h2; exact absurd h2 (by decide)
  have h1' : 1 ≤ (foldL l).length := by rw [fL_len]; exact h1
  have hz : nuP (Us (foldL l)) ((foldL l).length - 1) = 0 := nuP_none fun j hj h => by have := honly j h; omega
  refine ⟨?_, ?_⟩
  · have := (trimU_len1 (fL_ok hok) h1').1
    show (trimU (foldL l)).length = 1
    omega
  · have := trimU_getD (l := foldL l) (i := (foldL l).length - 1) (by omega) .root
    rw [hz] at this
    show ((trimU (foldL l)).getD 0 nulF).op = 1
    rw [this, renU_op, hroot]
end
end Go.Proofs.Ytmglhppfdhphbaa
