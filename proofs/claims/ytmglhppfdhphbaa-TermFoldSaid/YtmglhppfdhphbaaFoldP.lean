/- term.Fold: the folded terms, plain (begun). -/
import Derived.Test.YtmglhppfdhphbaaValQ
import Derived.Test.YtmglhppfdhphbaaRenum
namespace Go.Proofs.Ytmglhppfdhphbaa
open Go.RowKit

/-- One term folded, the ones ahead of it being folded. -/
def fold1 (p : List Term) (t : Term) : Term :=
  if 2 < t.op ∧ (p.getD t.a.toNat ⟨0, 0, 0, 0⟩).op = 1 ∧ (p.getD t.b.toNat ⟨0, 0, 0, 0⟩).op = 1 then ⟨1, 0, 0, doF t.op (p.getD t.a.toNat ⟨0, 0, 0, 0⟩).val (p.getD t.b.toNat ⟨0, 0, 0, 0⟩).val⟩ else t
def foldTo (l : List Term) (n : Nat) : List Term := (l.take n).foldl (fun p t => p ++ [fold1 p t]) []
section
variable {l : List Term} {vars : Int}
theorem foldTo_succ {n : Nat} (h : n < l.length) : foldTo l (n + 1) = foldTo l n ++ [fold1 (foldTo l n) l[n]] := by
  unfold foldTo
  rw [List.take_succ_eq_append_getElem h, List.foldl_append]; rfl
theorem foldTo_len : ∀ {n : Nat}, n ≤ l.length → (foldTo l n).length = n
  | 0, _ => rfl
  | n + 1, h => by rw [foldTo_succ (by omega), List.length_append, foldTo_len (by omega)]; rfl
theorem foldTo_pre {n k : Nat} (hk : k < n) (hn : n ≤ l.length) : (foldTo l n)[k]? = (foldTo l (k + 1))[k]? := by
  induction n with
  | zero => omega
  | succ n ih =>
    by_cases e : k = n
    · subst e; rfl
    · rw [foldTo_succ (by omega), List.getElem?_append_left (by rw [foldTo_len (by omega)]; omega)]
      exact ih (by omega) (by omega)
/-- The folded terms may be. -/
theorem fold1_ok {k : Nat} {p : List Term} {t : Term} (ht : TOk vars k t) : TOk vars k (fold1 p t) := by
  unfold fold1
  split
  · have hd := doF_bd t.op (p.getD t.a.toNat ⟨0, 0, 0, 0⟩).val (p.getD t.b.toNat ⟨0, 0, 0, 0⟩).val
    refine ⟨by show (1 : Int) ≤ 1; decide, by show (1 : Int) ≤ 6; decide, fun _ => hd, fun h => ?_, fun h => ?_⟩
    · exact absurd (show (1 : Int) = 2 from h) (by decide)
    · exact absurd (show (3 : Int) ≤ 1 from h) (by decide)
  · exact ht
end
end Go.Proofs.Ytmglhppfdhphbaa
