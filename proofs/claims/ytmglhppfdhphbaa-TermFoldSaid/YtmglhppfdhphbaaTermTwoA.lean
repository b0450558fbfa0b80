/- The plain law of TermTwo: two lists side by side, and one operation on top. -/
import Derived.Test.YtmglhppfdhphbaaTermB
namespace Go.Proofs.Ytmglhppfdhphbaa
open Go.RowKit

def shiftT (n : Nat) (t : Term) : Term := if 3 ≤ t.op ∧ t.op ≤ 6 then ⟨t.op, t.a + n, t.b + n, t.val⟩ else t
def topT (op : Int) (n m : Nat) : Term := ⟨op, (n : Int) - 1, (n : Int) + m - 1, 0⟩
def joined (op : Int) (a b : List Term) : List Term := a ++ b.map (shiftT a.length) ++ [topT op a.length b.length]

theorem tErr1_of {vars : Int} {i : Nat} {t : Term} (h : TOk vars i t) : tErr1 vars i t = 0 := by
  obtain ⟨op, a, b, v⟩ := t
  obtain ⟨h1, h2, h3, h4, h5⟩ := h
  exact tErr1_0 h1 h2 h3 h4 h5
theorem tErrs_of {vars : Int} : ∀ {l : List Term} {i : Nat}, (∀ k (h : k < l.length), TOk vars (i + k) l[k]) → tErrs vars i l = 0
  | [], _, _ => rfl
  | t :: r, i, h => by
    rw [show tErrs vars i (t :: r) = if tErr1 vars i t = 0 then tErrs vars (i + 1) r else tErr1 vars i t from rfl, if_pos (tErr1_of (show TOk vars i t from h 0 (by simp)))]
    refine tErrs_of fun k hk => ?_
    have := h (k + 1) (by simpa using hk)
    rw [List.getElem_cons_succ, show i + (k + 1) = i + 1 + k by omega] at this
    exact this
theorem tErr_of {vars : Int} {l : List Term} (h0 : 0 ≤ vars) (h6 : vars ≤ 6) (h1 : 1 ≤ l.length) (h16 : l.length ≤ 16) (h : ∀ k (h : k < l.length), TOk vars k l[k]) : tErr vars l = 0 := by
  unfold tErr
  rw [if_neg (by omega)]
  exact tErrs_of fun k hk => by rw [Nat.zero_add]; exact h k hk

theorem joined_ok {vars op : Int} {a b : List Term} (ha : tErr vars a = 0) (hb : tErr vars b = 0) (ho : 3 ≤ op ∧ op ≤ 6) (hl : a.length + b.length < 16) : tErr vars (joined op a b) = 0 := by
  obtain ⟨a0, a6, a1, _, ak⟩ := tErr_ok ha
  obtain ⟨_, _, b1, _, bk⟩ := tErr_ok hb
  refine tErr_of a0 a6 (by simp [joined]; omega) (by simp [joined]; omega) fun k hk => ?_
  unfold joined at hk ⊢
  rw [List.getElem_append]
  split
  · rename_i hk1
    rw [List.getElem_append]
    split
    · rename_i hk2
      exact ak k hk2
    · rename_i hk2
      have hkb : k - a.length < b.length := by simp at hk1; omega
      rw [List.getElem_map]
      have := bk (k - a.length) hkb
      generalize b[k - a.length] = t at *
      obtain ⟨t1, t2, t3, t4, t5⟩ := this
      unfold shiftT
      split
      · refine ⟨t1, t2, t3, t4, fun h => ?_⟩
        have := t5 h
        dsimp only
        omega
      · refine ⟨t1, t2, t3, t4, fun h => ?_⟩
        omega
  · rename_i hk1
    simp at hk hk1
    have : k = a.length + b.length := by omega
    subst this
    rw [List.getElem_singleton]
    unfold TOk topT
    dsimp only
    omega

theorem vals_shift {vars : Int} {hv va : List Int} {b : List Term} (hb : ∀ k (h : k < b.length), TOk vars k b[k]) : ∀ k, k ≤ b.length → vals hv va ((b.take k).map (shiftT va.length)) = va ++ valsTo hv b k := by
  intro k
  induction k with
  | zero => intro _; simp [valsTo, vals]
  | succ k ih =>
    intro hk
    rw [List.take_succ_eq_append_getElem (by omega), List.map_append, vals_append, ih (by omega), valsTo_succ hv (by omega), ← List.append_assoc]
    show (va ++ valsTo hv b k) ++ [val1 hv (va ++ valsTo hv b k) (shiftT va.length b[k])] = _
    congr 2
    have ht := hb k (by omega)
    have hlen := valsTo_len hv (l := b) (show k ≤ b.length by omega)
    generalize b[k] = t at *
    obtain ⟨t1, t2, t3, t4, t5⟩ := ht
    unfold shiftT
    by_cases h3 : 3 ≤ t.op
    · rw [if_pos ⟨h3, t2⟩]
      obtain ⟨p1, p2, p3, p4⟩ := t5 h3
      unfold val1
      dsimp only
      rw [if_neg (by omega), if_neg (by omega), if_neg (by omega), if_neg (by omega)]
      obtain ⟨n, hn⟩ := Int.eq_ofNat_of_zero_le p1
      obtain ⟨m, hm⟩ := Int.eq_ofNat_of_zero_le p3
      rw [hn, hm, show ((n : Int) + (va.length : Int)).toNat = va.length + n by omega, show ((m : Int) + (va.length : Int)).toNat = va.length + m by omega, Int.toNat_natCast, Int.toNat_natCast]
      congr 1
      · rw [List.getD_eq_getElem?_getD, List.getElem?_append_right (by omega), Nat.add_sub_cancel_left, ← List.getD_eq_getElem?_getD]
      · rw [List.getD_eq_getElem?_getD, List.getElem?_append_right (by omega), Nat.add_sub_cancel_left, ← List.getD_eq_getElem?_getD]
    · rw [if_neg (by omega)]
      unfold val1
      by_cases h1 : t.op = 1
      · rw [if_pos h1, if_pos h1]
      · rw [if_neg h1, if_neg h1, if_pos (by omega), if_pos (by omega)]

theorem joined_val {vars op : Int} {hv : List Int} {a b : List Term} (ha : tErr vars a = 0) (hb : tErr vars b = 0) (ho : 3 ≤ op ∧ op ≤ 6) : tVal hv (joined op a b) = doF op (tVal hv a) (tVal hv b) := by
  obtain ⟨a0, a6, a1, _, ak⟩ := tErr_ok ha
  obtain ⟨_, _, b1, _, bk⟩ := tErr_ok hb
  have e1 : valsTo hv (joined op a b) (joined op a b).length = valsTo hv a a.length ++ valsTo hv b b.length ++ [val1 hv (valsTo hv a a.length ++ valsTo hv b b.length) (topT op a.length b.length)] := by
    unfold valsTo
    rw [List.take_length, List.take_length, List.take_length]
    unfold joined
    rw [vals_append, vals_append]
    have := vals_shift (hv := hv) (va := vals hv [] a) bk b.length (Nat.le_refl _)
    rw [List.take_length, vals_len, show ([] : List Int).length + a.length = a.length by simp] at this
    rw [this]
    unfold valsTo
    rw [List.take_length]
    rfl
  have la := valsTo_len hv (l := a) (Nat.le_refl _)
  have lb := valsTo_len hv (l := b) (Nat.le_refl _)
  unfold tVal
  rw [e1, show (joined op a b).length - 1 = a.length + b.length by simp [joined]]
  generalize valsTo hv a a.length = va at *
  generalize valsTo hv b b.length = vb at *
  rw [List.getD_eq_getElem?_getD, List.getElem?_append_right (by simp; omega)]
  simp only [List.length_append, la, lb, Nat.sub_self, List.getElem?_cons_zero, Option.getD_some]
  unfold val1 topT
  dsimp only
  rw [if_neg (by omega), if_neg (by omega)]
  congr 1
  · rw [show ((a.length : Int) - 1).toNat = a.length - 1 by omega, List.getD_eq_getElem?_getD, List.getElem?_append_left (by omega), ← List.getD_eq_getElem?_getD]
  · rw [show ((a.length : Int) + (b.length : Int) - 1).toNat = va.length + (b.length - 1) by omega, List.getD_eq_getElem?_getD, List.getElem?_append_right (by omega), Nat.add_sub_cancel_left, ← List.getD_eq_getElem?_getD]
end Go.Proofs.Ytmglhppfdhphbaa
