/- What value.numbers finds the same has the same value. -/
import Derived.Test.YtmglhppfdhphbaaValP
namespace Go.Proofs.Ytmglhppfdhphbaa
open Go.RowKit

section
variable {hv : List Int} {l : List Term}
theorem valsTo_pre : ∀ {n k : Nat}, k < n → n ≤ l.length → (valsTo hv l n).getD k 0 = (valsTo hv l (k + 1)).getD k 0
  | n + 1, k, hk, hn => by
    by_cases e : k = n
    · subst e; rfl
    · rw [valsTo_succ hv (by omega), List.getD_eq_getElem?_getD, List.getElem?_append_left (by rw [valsTo_len hv (by omega)]; omega), ← List.getD_eq_getElem?_getD]
      exact valsTo_pre (by omega) (by omega)
theorem valsTo_here {k : Nat} (hk : k < l.length) : (valsTo hv l (k + 1)).getD k 0 = val1 hv (valsTo hv l k) l[k] := by
  rw [valsTo_succ hv hk, List.getD_eq_getElem?_getD, List.getElem?_append_right (by rw [valsTo_len hv (by omega)]; omega), valsTo_len hv (by omega), Nat.sub_self]; rfl
theorem valsTo_low {j i n : Nat} (hj : j < i) (hi : i ≤ n) (hn : n ≤ l.length) : (valsTo hv l i).getD j 0 = (valsTo hv l n).getD j 0 := by
  rw [valsTo_pre hj (by omega), valsTo_pre (show j < n by omega) hn]
theorem val_here {vars : Int} (hok : ∀ k (h : k < l.length), TOk vars k l[k]) {k : Nat} (hk : k < l.length) : (valsTo hv l l.length).getD k 0 = val1 hv (valsTo hv l l.length) l[k] := by
  rw [valsTo_pre hk (Nat.le_refl _), valsTo_here hk]
  obtain ⟨ho1, ho6, _, _, hob⟩ := hok k hk
  unfold val1
  by_cases h1 : l[k].op = 1
  · rw [if_pos h1, if_pos h1]
  by_cases h2 : l[k].op = 2
  · rw [if_neg h1, if_neg h1, if_pos h2, if_pos h2]
  rw [if_neg h1, if_neg h1, if_neg h2, if_neg h2]
  obtain ⟨a0, a1, b0, b1⟩ := hob (by omega)
  rw [valsTo_low (show l[k].a.toNat < k by omega) (Nat.le_of_lt hk) (Nat.le_refl _), valsTo_low (show l[k].b.toNat < k by omega) (Nat.le_of_lt hk) (Nat.le_refl _)]
theorem doF_comm {op a b : Int} (h : op = 3 ∨ op = 5) : doF op a b = doF op b a := by
  unfold doF
  rcases h with rfl | rfl
  · simp only [if_true]; rw [Int.add_comm]
  · rw [if_neg (by decide), if_neg (by decide), if_pos rfl, if_neg (by decide), if_neg (by decide), if_pos rfl, Int.mul_comm]
theorem getD_at {l : List Term} {k : Nat} (h : k < l.length) : l.getD k ⟨0, 0, 0, 0⟩ = l[k] := by rw [List.getD_eq_getElem?_getD, List.getElem?_eq_getElem h]; rfl
theorem same_both {vars : Int} (hok : ∀ k (h : k < l.length), TOk vars k l[k]) : ∀ n i, i < n → i < l.length →
    val1 hv (valsTo hv l l.length) (kT (fsTo l i) (l.getD i ⟨0, 0, 0, 0⟩)) = (valsTo hv l l.length).getD i 0 ∧ (valsTo hv l l.length).getD ((fsTo l l.length).getD i 0).toNat 0 = (valsTo hv l l.length).getD i 0 := fun n => by
  induction n with
  | zero => intro i h; omega
  | succ n ih =>
    intro i hin hi
    have hQ : ∀ i, i < n + 1 → i < l.length → (∀ j, j < i → (valsTo hv l l.length).getD ((fsTo l l.length).getD j 0).toNat 0 = (valsTo hv l l.length).getD j 0) → val1 hv (valsTo hv l l.length) (kT (fsTo l i) (l.getD i ⟨0, 0, 0, 0⟩)) = (valsTo hv l l.length).getD i 0 := fun i hin hi hP => by
      rw [val_here hok hi, getD_at hi]
      obtain ⟨ho1, ho6, _, _, hob⟩ := hok i hi
      generalize l[i] = t at *
      obtain ⟨op, a, b, v⟩ := t
      dsimp only at ho1 ho6 hob
      by_cases h2 : 2 < op
      · obtain ⟨a0, a1, b0, b1⟩ := hob (by omega)
        obtain ⟨a, rfl⟩ := Int.eq_ofNat_of_zero_le a0
        obtain ⟨b, rfl⟩ := Int.eq_ofNat_of_zero_le b0
        have ea : (fsTo l i).getD a 0 = (fsTo l l.length).getD a 0 := by rw [fsTo_get (by omega) (by omega), fsTo_get (Nat.le_refl _) (by omega)]
        have eb : (fsTo l i).getD b 0 = (fsTo l l.length).getD b 0 := by rw [fsTo_get (by omega) (by omega), fsTo_get (Nat.le_refl _) (by omega)]
        have pa := hP a (by omega)
        have pb := hP b (by omega)
        have e1 : ∀ x y : Int, val1 hv (valsTo hv l l.length) ⟨op, x, y, 0⟩ = doF op ((valsTo hv l l.length).getD x.toNat 0) ((valsTo hv l l.length).getD y.toNat 0) := fun x y => by
          unfold val1; dsimp only; rw [if_neg (by omega), if_neg (by omega)]
        have e2 : val1 hv (valsTo hv l l.length) ⟨op, a, b, v⟩ = doF op ((valsTo hv l l.length).getD a 0) ((valsTo hv l l.length).getD b 0) := by
          unfold val1; dsimp only; rw [if_neg (by omega), if_neg (by omega), Int.toNat_natCast, Int.toNat_natCast]
        rw [e2]
        unfold kT
        dsimp only
        rw [if_pos h2, Int.toNat_natCast, Int.toNat_natCast, ea, eb]
        by_cases h35 : op = 3 ∨ op = 5
        · rw [if_pos h35, e1]
          rcases Int.le_total ((fsTo l l.length).getD a 0) ((fsTo l l.length).getD b 0) with h | h
          · rw [Int.min_eq_left h, Int.max_eq_right h, pa, pb]
          · rw [Int.min_eq_right h, Int.max_eq_left h, pa, pb, doF_comm h35]
        · rw [if_neg h35, e1, pa, pb]
      · unfold kT
        dsimp only
        rw [if_neg h2]
        unfold val1
        dsimp only
        rcases (show op = 1 ∨ op = 2 by omega) with rfl | rfl
        · rfl
        · rfl
    by_cases e : i < n
    · exact ih i e hi
    have e : i = n := by omega
    subst e
    have hq := hQ i hin hi (fun j hj => (ih j hj (by omega)).2)
    refine ⟨hq, ?_⟩
    rw [fsTo_get (Nat.le_refl _) hi, Int.toNat_natCast]
    have hle : (ksTo l i).idxOf (kT (fsTo l i) (l.getD i ⟨0, 0, 0, 0⟩)) ≤ (ksTo l i).length := List.idxOf_le_length
    rw [ksTo_len (by omega)] at hle
    rcases Nat.lt_or_ge ((ksTo l i).idxOf (kT (fsTo l i) (l.getD i ⟨0, 0, 0, 0⟩))) i with hlt | hge
    · have hj := (ih _ hlt (by omega)).1
      have hg := ksTo_get (l := l) (show i ≤ l.length by omega) hlt
      have hg2 : (ksTo l i)[(ksTo l i).idxOf (kT (fsTo l i) (l.getD i ⟨0, 0, 0, 0⟩))]? = some (kT (fsTo l i) (l.getD i ⟨0, 0, 0, 0⟩)) := by
        rw [List.getElem?_eq_getElem (by rw [ksTo_len (by omega)]; exact hlt), List.getElem_idxOf]
      rw [hg2] at hg
      injection hg with hg
      rw [← hj, ← hg, hq]
    · have : (ksTo l i).idxOf (kT (fsTo l i) (l.getD i ⟨0, 0, 0, 0⟩)) = i := by omega
      rw [this]
theorem same_val {vars : Int} (hok : ∀ k (h : k < l.length), TOk vars k l[k]) {i j : Nat} (hi : i < l.length) (hj : j < l.length) (h : (fsTo l l.length).getD i 0 = (fsTo l l.length).getD j 0) :
    (valsTo hv l l.length).getD i 0 = (valsTo hv l l.length).getD j 0 := by
  rw [← (same_both hok l.length i hi hi).2, ← (same_both hok l.length j hj hj).2, h]
theorem tVal_take {i : Nat} (hi : i < l.length) : tVal hv (l.take (i + 1)) = (valsTo hv l l.length).getD i 0 := by
  have hlen : (l.take (i + 1)).length = i + 1 := by rw [List.length_take]; omega
  unfold tVal
  rw [hlen, valsTo_pre hi (Nat.le_refl _), Nat.add_sub_cancel]
  congr 1
  unfold valsTo
  rw [List.take_take, Nat.min_self]
end
end Go.Proofs.Ytmglhppfdhphbaa
