/- block.Check answers pkErr. -/
import Derived.Test.YtmgejacndhnikaaBlkA
namespace Go.Proofs.Ytmgejacndhnikaa
open Go.RowKit

def cErrs (vars : Int) : List Step → Int
  | [] => 0
  | s :: r => if stErr vars s = 0 then cErrs vars r else stErr vars s
/-- What is behind a block's steps. -/
def eErr (vars n : Int) (b : Blk) : Int :=
  if b.test < -1 ∨ vars ≤ b.test then 2
  else if ((b.thn < 0 ∨ n ≤ b.thn) ∧ (b.thn ≠ -1 ∨ 0 ≤ b.test)) ∨ (0 ≤ b.test ∧ (b.els < 0 ∨ n ≤ b.els)) then 3 else 0
def bErr (vars n : Int) (b : Blk) : Int := if cErrs vars b.code = 0 then eErr vars n b else cErrs vars b.code
def bErrs (vars n : Int) : List Blk → Int
  | [] => 0
  | b :: r => if bErr vars n b = 0 then bErrs vars n r else bErr vars n b
/-- No block has more steps than there is memory for. -/
def smallB (p : List Blk) : Prop := ∀ b ∈ p, b.code.length ≤ 140737488355328
def manyB (p : List Blk) : Nat := (p.map fun b => b.code.length).sum
def pkErr (vars : Int) (p : List Blk) : Int := if vars < 1 ∨ 6 < vars ∨ p.length < 1 ∨ 8 < p.length ∨ 20 < manyB p then 1 else bErrs vars p.length p

theorem manyB_succ {p : List Blk} {k : Nat} (hk : k < p.length) : manyB (p.take (k + 1)) = manyB (p.take k) + p[k].code.length := by
  unfold manyB; rw [List.take_succ_eq_append_getElem hk, List.map_append, List.sum_append]; simp only [List.map_cons, List.map_nil, List.sum_cons, List.sum_nil, Nat.add_zero]
theorem cErrs_drop {vars : Int} {l : List Step} {k : Nat} {E : Int} (hk : k < l.length) (h0 : cErrs vars (l.drop k) = E) :
    (∀ e, stErr vars l[k] = e → e ≠ 0 → E = e) ∧ (stErr vars l[k] = 0 → cErrs vars (l.drop (k + 1)) = E) := by
  rw [List.drop_eq_getElem_cons hk, show ∀ t r, cErrs vars (t :: r) = if stErr vars t = 0 then cErrs vars r else stErr vars t from fun _ _ => rfl] at h0
  constructor
  · intro e he hne; rw [if_neg (by rw [he]; exact hne)] at h0; rw [← h0, he]
  · intro h; rw [if_pos h] at h0; exact h0
theorem bErrs_drop {vars n : Int} {l : List Blk} {k : Nat} {E : Int} (hk : k < l.length) (h0 : bErrs vars n (l.drop k) = E) :
    (∀ e, cErrs vars l[k].code = e → e ≠ 0 → E = e) ∧ (cErrs vars l[k].code = 0 → (∀ e, eErr vars n l[k] = e → e ≠ 0 → E = e) ∧ (eErr vars n l[k] = 0 → bErrs vars n (l.drop (k + 1)) = E)) := by
  rw [List.drop_eq_getElem_cons hk, show ∀ t r, bErrs vars n (t :: r) = if bErr vars n t = 0 then bErrs vars n r else bErr vars n t from fun _ _ => rfl] at h0
  unfold bErr at h0
  constructor
  · intro e he hne; rw [if_neg (by rw [he, if_neg hne]; exact hne), if_neg (by rw [he]; exact hne)] at h0; rw [← h0, he]
  · intro hc
    rw [hc, if_pos rfl] at h0
    constructor
    · intro e he hne; rw [if_neg (by rw [he]; exact hne)] at h0; rw [← h0, he]
    · intro h; rw [if_pos h] at h0; exact h0
section
variable {vars n : Int} {c : List Step} {test thn els : Int}
theorem eErr_2 (h : test < -1 ∨ vars ≤ test) : eErr vars n ⟨c, test, thn, els⟩ = 2 := by unfold eErr; rw [if_pos h]
theorem eErr_3 (h : ¬ (test < -1 ∨ vars ≤ test)) (h' : ((thn < 0 ∨ n ≤ thn) ∧ (thn ≠ -1 ∨ 0 ≤ test)) ∨ (0 ≤ test ∧ (els < 0 ∨ n ≤ els))) : eErr vars n ⟨c, test, thn, els⟩ = 3 := by
  unfold eErr; rw [if_neg h, if_pos h']
theorem eErr_0 (h : ¬ (test < -1 ∨ vars ≤ test)) (h' : ¬ (((thn < 0 ∨ n ≤ thn) ∧ (thn ≠ -1 ∨ 0 ≤ test)) ∨ (0 ≤ test ∧ (els < 0 ∨ n ≤ els)))) : eErr vars n ⟨c, test, thn, els⟩ = 0 := by
  unfold eErr; rw [if_neg h, if_neg h']
end
theorem there_yes (R : Nat) (A : Option Addr) (n cap : Nat) (x : Int) (w : World) (hR : w.cell? ⟨R, 0, none⟩ = some (.slice A n cap)) (h0 : 0 ≤ x) (h1 : x < n) :
    Calls Try.prog 99 #[.int .i64 x, .pointer (some ⟨R, 0, none⟩)] w fun e w' => e = .returned (.bool true) ∧ w' = w := by
  have d0 : decide (0 ≤ x) = true := decide_eq_true h0
  have d1 : decide (x < (n : Int)) = true := decide_eq_true h1
  go_enter Try.func99, Try.ntmps99
  go_wp2
  go_ret
  exact ⟨rfl, rfl⟩
theorem there_no (R : Nat) (A : Option Addr) (n cap : Nat) (x : Int) (w : World) (hR : w.cell? ⟨R, 0, none⟩ = some (.slice A n cap)) (h : x < 0 ∨ (n : Int) ≤ x) :
    Calls Try.prog 99 #[.int .i64 x, .pointer (some ⟨R, 0, none⟩)] w fun e w' => e = .returned (.bool false) ∧ w' = w := by
  by_cases h0 : 0 ≤ x
  · have d0 : decide (0 ≤ x) = true := decide_eq_true h0
    have d1 : decide (x < (n : Int)) = false := decide_eq_false (by omega)
    go_enter Try.func99, Try.ntmps99
    go_wp2
    go_ret
    exact ⟨rfl, rfl⟩
  · have d0 : decide (0 ≤ x) = false := decide_eq_false h0
    go_enter Try.func99, Try.ntmps99
    go_wp2
    go_ret
    exact ⟨rfl, rfl⟩
end Go.Proofs.Ytmgejacndhnikaa
