/- value.numbers as a function; what is the same has the same value. -/
import Derived.Test.YtmgejacndhnikaaTermB
import Derived.Test.YtmgejacndhnikaaTermOwn
import Derived.Test.YtmgejacndhnikaaMapF
namespace Go.Proofs.Ytmgejacndhnikaa
open Go.RowKit

instance instTermEq : DecidableEq Term := fun x y =>
  if h : x.op = y.op ∧ x.a = y.a ∧ x.b = y.b ∧ x.val = y.val then isTrue (by cases x; cases y; obtain ⟨rfl, rfl, rfl, rfl⟩ := h; rfl)
  else isFalse (fun e => h (by subst e; exact ⟨rfl, rfl, rfl, rfl⟩))
/-- The key of a term. -/
def kT (fs : List Int) (t : Term) : Term :=
  if 2 < t.op then (if t.op = 3 ∨ t.op = 5 then ⟨t.op, min (fs.getD t.a.toNat 0) (fs.getD t.b.toNat 0), max (fs.getD t.a.toNat 0) (fs.getD t.b.toNat 0), 0⟩ else ⟨t.op, fs.getD t.a.toNat 0, fs.getD t.b.toNat 0, 0⟩) else ⟨t.op, 0, 0, t.val⟩
def numStep (p : List Int × List Term) (t : Term) : List Int × List Term := (p.1 ++ [((p.2.idxOf (kT p.1 t) : Nat) : Int)], p.2 ++ [kT p.1 t])
def numTo (l : List Term) (n : Nat) : List Int × List Term := (l.take n).foldl numStep ([], [])
def fsTo (l : List Term) (n : Nat) : List Int := (numTo l n).1
def ksTo (l : List Term) (n : Nat) : List Term := (numTo l n).2
theorem numTo_succ {l : List Term} {n : Nat} (h : n < l.length) : numTo l (n + 1) = numStep (numTo l n) l[n] := by
  unfold numTo
  rw [List.take_succ_eq_append_getElem h, List.foldl_append]; rfl
theorem fsTo_succ {l : List Term} {n : Nat} (h : n < l.length) : fsTo l (n + 1) = fsTo l n ++ [(((ksTo l n).idxOf (kT (fsTo l n) l[n]) : Nat) : Int)] := by
  unfold fsTo; rw [numTo_succ h]; rfl
theorem ksTo_succ {l : List Term} {n : Nat} (h : n < l.length) : ksTo l (n + 1) = ksTo l n ++ [kT (fsTo l n) l[n]] := by
  unfold ksTo; rw [numTo_succ h]; rfl
theorem fsTo_len {l : List Term} : ∀ {n : Nat}, n ≤ l.length → (fsTo l n).length = n
  | 0, _ => rfl
  | n + 1, h => by rw [fsTo_succ (by omega), List.length_append, fsTo_len (by omega)]; rfl
theorem ksTo_len {l : List Term} : ∀ {n : Nat}, n ≤ l.length → (ksTo l n).length = n
  | 0, _ => rfl
  | n + 1, h => by rw [ksTo_succ (by omega), List.length_append, ksTo_len (by omega)]; rfl
theorem fsTo_get {l : List Term} : ∀ {n k : Nat}, n ≤ l.length → k < n → (fsTo l n).getD k 0 = (((ksTo l k).idxOf (kT (fsTo l k) (l.getD k ⟨0, 0, 0, 0⟩)) : Nat) : Int)
  | n + 1, k, hn, hk => by
    rw [fsTo_succ (by omega)]
    by_cases e : k = n
    · subst e
      rw [List.getD_eq_getElem?_getD, List.getElem?_append_right (by rw [fsTo_len (by omega)]; omega), fsTo_len (by omega), Nat.sub_self]
      rw [show l.getD k ⟨0, 0, 0, 0⟩ = l[k] by rw [List.getD_eq_getElem?_getD, List.getElem?_eq_getElem (by omega)]; rfl]
      rfl
    · rw [List.getD_eq_getElem?_getD, List.getElem?_append_left (by rw [fsTo_len (by omega)]; omega), ← List.getD_eq_getElem?_getD]
      exact fsTo_get (by omega) (by omega)
theorem ksTo_get {l : List Term} : ∀ {n k : Nat}, n ≤ l.length → k < n → (ksTo l n)[k]? = some (kT (fsTo l k) (l.getD k ⟨0, 0, 0, 0⟩))
  | n + 1, k, hn, hk => by
    rw [ksTo_succ (by omega)]
    by_cases e : k = n
    · subst e
      rw [List.getElem?_append_right (by rw [ksTo_len (by omega)]; omega), ksTo_len (by omega), Nat.sub_self]
      rw [show l.getD k ⟨0, 0, 0, 0⟩ = l[k] by rw [List.getD_eq_getElem?_getD, List.getElem?_eq_getElem (by omega)]; rfl]
      rfl
    · rw [List.getElem?_append_left (by rw [ksTo_len (by omega)]; omega)]
      exact ksTo_get (by omega) (by omega)
theorem fsTo_bd {l : List Term} {n k : Nat} (hn : n ≤ l.length) (hk : k < n) : 0 ≤ (fsTo l n).getD k 0 ∧ (fsTo l n).getD k 0 ≤ k := by
  rw [fsTo_get hn hk]
  have h : (ksTo l k).idxOf (kT (fsTo l k) (l.getD k ⟨0, 0, 0, 0⟩)) ≤ (ksTo l k).length := List.idxOf_le_length
  rw [ksTo_len (by omega)] at h
  omega
def knownF (ks : List Term) (k : Term) : Option Value := if k ∈ ks then some (.int .i64 ((ks.idxOf k : Nat) : Int)) else none
theorem knownF_yes {ks : List Term} {k : Term} (h : k ∈ ks) : knownF ks k = some (.int .i64 ((ks.idxOf k : Nat) : Int)) := if_pos h
theorem knownF_no {ks : List Term} {k : Term} (h : k ∉ ks) : knownF ks k = none := if_neg h
theorem knownF_old {ks : List Term} {k : Term} (h : k ∈ ks) : knownF (ks ++ [k]) = knownF ks := by
  funext x
  unfold knownF
  by_cases hx : x ∈ ks
  · rw [if_pos hx, if_pos (by simp [hx]), List.idxOf_append, if_pos hx]
  · have : x ≠ k := fun e => hx (e ▸ h)
    rw [if_neg hx, if_neg (by simp [hx, this])]
theorem knownF_new {ks : List Term} {k : Term} (h : k ∉ ks) : knownF (ks ++ [k]) = putM (knownF ks) k (.int .i64 (ks.length : Nat)) := by
  funext x
  by_cases e : x = k
  · subst e
    rw [putM_same, knownF_yes (by simp), List.idxOf_append, if_neg h]
    simp
  · rw [putM_other _ _ e]
    by_cases hx : x ∈ ks
    · rw [knownF_yes hx, knownF_yes (by simp [hx]), List.idxOf_append, if_pos hx]
    · rw [knownF_no hx, knownF_no (by simp [hx, e])]
end Go.Proofs.Ytmgejacndhnikaa
