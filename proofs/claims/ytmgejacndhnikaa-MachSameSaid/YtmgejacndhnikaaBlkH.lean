/- block.Check answers pkErr. -/
import Derived.Test.YtmgejacndhnikaaBlkA
import Derived.Test.YtmgejacndhnikaaRows
import Derived.Test.YtmgejacndhnikaaLib
import Derived.BigGuardPart
import Derived.Outline
namespace Go.Proofs.Ytmgejacndhnikaa
open Go.RowKit

def cErrs (vars : Int) : List Step → Int
  | [] => 0
  | s :: r => if stErr vars s = 0 then cErrs vars r else stErr vars s
/-- What is behind a block's steps. -/
def eErr (vars n : Int) (b : Blk) : Int :=
  if b.test < -1 ∨ vars ≤ b.test then 2
  else if ((b.thn < 0 ∨ n ≤ b.thn) ∧ (b.thn ≠ -1 ∨ 0 ≤ b.test)) ∨ (0 ≤ b.test ∧ (b.els < 0 ∨ n ≤ b.els)) then 3 else 0
def bErr (vars n : Int) (b : Blk) : Int := if cErrs vars b.code = 0 then eErr vars n b else cErrs vars b.code
def bErrs (vars n : Int) : List Blk → Int
  | [] => 0
  | b :: r => if bErr vars n b = 0 then bErrs vars n r else bErr vars n b
/-- No block has more steps than there is memory for. -/
def smallB (p : List Blk) : Prop := ∀ b ∈ p, b.code.length ≤ 140737488355328
def manyB (p : List Blk) : Nat := (p.map fun b => b.code.length).sum
def pkErr (vars : Int) (p : List Blk) : Int := if vars < 1 ∨ 6 < vars ∨ p.length < 1 ∨ 8 < p.length ∨ 20 < manyB p then 1 else bErrs vars p.length p

theorem manyB_succ {p : List Blk} {k : Nat} (hk : k < p.length) : manyB (p.take (k + 1)) = manyB (p.take k) + p[k].code.length := by
  unfold manyB; rw [List.take_succ_eq_append_getElem hk, List.map_append, List.sum_append]; simp only [List.map_cons, List.map_nil, List.sum_cons, List.sum_nil, Nat.add_zero]
theorem cErrs_drop {vars : Int} {l : List Step} {k : Nat} {E : Int} (hk : k < l.length) (h0 : cErrs vars (l.drop k) = E) :
    (∀ e, stErr vars l[k] = e → e ≠ 0 → E = e) ∧ (stErr vars l[k] = 0 → cErrs vars (l.drop (k + 1)) = E) := by
  rw [List.drop_eq_getElem_cons hk, show ∀ t r, cErrs vars (t :: r) = if stErr vars t = 0 then cErrs vars r else stErr vars t from fun _ _ => rfl] at h0
  constructor
  · intro e he hne; rw [if_neg (by rw [he]; exact hne)] at h0; rw [← h0, he]
  · intro h; rw [if_pos h] at h0; exact h0
theorem bErrs_drop {vars n : Int} {l : List Blk} {k : Nat} {E : Int} (hk : k < l.length) (h0 : bErrs vars n (l.drop k) = E) :
    (∀ e, cErrs vars l[k].code = e → e ≠ 0 → E = e) ∧ (cErrs vars l[k].code = 0 → (∀ e, eErr vars n l[k] = e → e ≠ 0 → E = e) ∧ (eErr vars n l[k] = 0 → bErrs vars n (l.drop (k + 1)) = E)) := by
  rw [List.drop_eq_getElem_cons hk, show ∀ t r, bErrs vars n (t :: r) = if bErr vars n t = 0 then bErrs vars n r else bErr vars n t from fun _ _ => rfl] at h0
  unfold bErr at h0
  constructor
  · intro e he hne; rw [if_neg (by rw [he, if_neg hne]; exact hne), if_neg (by rw [he]; exact hne)] at h0; rw [← h0, he]
  · intro hc
    rw [hc, if_pos rfl] at h0
    constructor
    · intro e he hne; rw [if_neg (by rw [he]; exact hne)] at h0; rw [← h0, he]
    · intro h; rw [if_pos h] at h0; exact h0
section
variable {vars n : Int} {c : List Step} {test thn els : Int}
theorem eErr_2 (h : test < -1 ∨ vars ≤ test) : eErr vars n ⟨c, test, thn, els⟩ = 2 := by unfold eErr; rw [if_pos h]
theorem eErr_3 (h : ¬ (test < -1 ∨ vars ≤ test)) (h' : ((thn < 0 ∨ n ≤ thn) ∧ (thn ≠ -1 ∨ 0 ≤ test)) ∨ (0 ≤ test ∧ (els < 0 ∨ n ≤ els))) : eErr vars n ⟨c, test, thn, els⟩ = 3 := by
  unfold eErr; rw [if_neg h, if_pos h']
theorem eErr_0 (h : ¬ (test < -1 ∨ vars ≤ test)) (h' : ¬ (((thn < 0 ∨ n ≤ thn) ∧ (thn ≠ -1 ∨ 0 ≤ test)) ∨ (0 ≤ test ∧ (els < 0 ∨ n ≤ els)))) : eErr vars n ⟨c, test, thn, els⟩ = 0 := by
  unfold eErr; rw [if_neg h, if_neg h']
end
theorem there_yes (R : Nat) (A : Option Addr) (n cap : Nat) (x : Int) (w : World) (hR : w.cell? ⟨R, 0, none⟩ = some (.slice A n cap)) (h0 : 0 ≤ x) (h1 : x < n) :
    Calls Try.prog 99 #[.int .i64 x, .pointer (some ⟨R, 0, none⟩)] w fun e w' => e = .returned (.bool true) ∧ w' = w := by
  have d0 : decide (0 ≤ x) = true := decide_eq_true h0
  have d1 : decide (x < (n : Int)) = true := decide_eq_true h1
  go_enter Try.func99, Try.ntmps99
  go_wp2
  go_ret
  exact ⟨rfl, rfl⟩
theorem there_no (R : Nat) (A : Option Addr) (n cap : Nat) (x : Int) (w : World) (hR : w.cell? ⟨R, 0, none⟩ = some (.slice A n cap)) (h : x < 0 ∨ (n : Int) ≤ x) :
    Calls Try.prog 99 #[.int .i64 x, .pointer (some ⟨R, 0, none⟩)] w fun e w' => e = .returned (.bool false) ∧ w' = w := by
  by_cases h0 : 0 ≤ x
  · have d0 : decide (0 ≤ x) = true := decide_eq_true h0
    have d1 : decide (x < (n : Int)) = false := decide_eq_false (by omega)
    go_enter Try.func99, Try.ntmps99
    go_wp2
    go_ret
    exact ⟨rfl, rfl⟩
  · have d0 : decide (0 ≤ x) = false := decide_eq_false h0
    go_enter Try.func99, Try.ntmps99
    go_wp2
    go_ret
    exact ⟨rfl, rfl⟩
end Go.Proofs.Ytmgejacndhnikaa
namespace Go.Proofs.Ytmgejacndhnikaa
open Go.RowKit

theorem i64_and255 (n : Int) : bits .and .i64 n 255 = n % 256 := by
  show IntKind.i64.wrap ((BitVec.ofInt 64 n &&& BitVec.ofInt 64 255).toNat : Int) = _
  rw [BitVec.toNat_and, show (BitVec.ofInt 64 255).toNat = 2 ^ 8 - 1 from by decide, Nat.and_two_pow_sub_one_eq_mod, BitVec.toNat_ofInt, IntKind.wrap_i64]
  omega

def doF (op a b : Int) : Int :=
  if op = 3 then (a + b) % 256 else if op = 4 then (a - b) % 256 else if op = 5 then (a * b) % 256 else if a < b then 1 else 0
theorem doF_bd (op a b : Int) : 0 ≤ doF op a b ∧ doF op a b ≤ 255 := by
  unfold doF; repeat' split
  all_goals omega

theorem mul_bd {a b : Int} {m n : Nat} (ha : 0 ≤ a) (ha' : a ≤ m) (hb : 0 ≤ b) (hb' : b ≤ n) : 0 ≤ a * b ∧ a * b ≤ m * n :=
  ⟨Int.mul_nonneg ha hb, Int.mul_le_mul ha' hb' hb (by omega)⟩

set_option maxHeartbeats 400000 in
theorem do_calls (op a b : Int) (w : World) (ha : 0 ≤ a ∧ a ≤ 255) (hb : 0 ≤ b ∧ b ≤ 255) :
    Calls Try.prog 50 #[.int .i64 op, .int .i64 a, .int .i64 b] w fun e w' => e = .returned (.int .i64 (doF op a b)) ∧ w' = w := by
  have hm := mul_bd (m := 255) (n := 255) ha.1 (by omega) hb.1 (by omega)
  have q := i64_and255
  go_enter Try.func50, Try.ntmps50
  go_wp2
  all_goals
    go_ret
    refine ⟨ret_int ?_, rfl⟩
    unfold doF
    try simp only [beq_iff_eq, beq_eq_false_iff_ne] at *
    repeat' split
    all_goals first | omega | simp_all
end Go.Proofs.Ytmgejacndhnikaa
namespace Go.Proofs.Ytmgejacndhnikaa
open Go.RowKit

theorem getI_bd {l : List Int} (h : ∀ x ∈ l, 0 ≤ x ∧ x ≤ 255) (i : Nat) : 0 ≤ l.getD i 0 ∧ l.getD i 0 ≤ 255 := by
  by_cases hi : i < l.length
  · rw [List.getD_eq_getElem?_getD, List.getElem?_eq_getElem hi]; exact h _ (List.getElem_mem hi)
  · rw [List.getD_eq_getElem?_getD, List.getElem?_eq_none (by omega)]; simp
theorem getI_get {l : List Int} {i : Nat} (h : i < l.length) : l.getD i 0 = l[i] := by rw [List.getD_eq_getElem?_getD, List.getElem?_eq_getElem h]; rfl
/-- A step may be. -/
def SOk (vars : Int) (s : Step) : Prop :=
  1 ≤ s.op ∧ s.op ≤ 6 ∧ (s.op = 1 → 0 ≤ s.val ∧ s.val ≤ 255) ∧ (s.op = 2 → 0 ≤ s.val ∧ s.val < vars) ∧ (0 ≤ s.to ∧ s.to < vars) ∧ (2 < s.op → (0 ≤ s.a ∧ s.a < vars) ∧ 0 ≤ s.b ∧ s.b < vars)
theorem sok_of {vars : Int} {s : Step} (h : stErr vars s = 0) : SOk vars s := by
  unfold stErr at h
  unfold SOk
  split at h
  · cases h
  · split at h
    · cases h
    · split at h
      · cases h
      · omega
theorem soks_of {vars : Int} : ∀ {c : List Step}, cErrs vars c = 0 → ∀ s ∈ c, SOk vars s
  | t :: r, h, s, hs => by
    rw [show cErrs vars (t :: r) = if stErr vars t = 0 then cErrs vars r else stErr vars t from rfl] at h
    split at h
    · rename_i h0
      rcases List.mem_cons.1 hs with rfl | hs
      · exact sok_of h0
      · exact soks_of h s hs
    · rename_i h0; exact absurd h h0
/-- A step, done. -/
def dg1 (r : List Int) (s : Step) : List Int :=
  r.set s.to.toNat (if s.op = 1 then s.val else if s.op = 2 then r.getD s.val.toNat 0 else doF s.op (r.getD s.a.toNat 0) (r.getD s.b.toNat 0))
def dgR (r : List Int) (c : List Step) : List Int := c.foldl dg1 r
theorem dgR_append (r : List Int) (a b : List Step) : dgR r (a ++ b) = dgR (dgR r a) b := List.foldl_append ..
theorem dg1_len (r : List Int) (s : Step) : (dg1 r s).length = r.length := by unfold dg1; rw [List.length_set]
theorem dgR_len (c : List Step) : ∀ r : List Int, (dgR r c).length = r.length := by
  induction c with
  | nil => intro r; rfl
  | cons s c ih => intro r; exact (ih (dg1 r s)).trans (dg1_len r s)
theorem dg1_bd {vars : Int} {r : List Int} {s : Step} (hr : ∀ x ∈ r, 0 ≤ x ∧ x ≤ 255) (hs : SOk vars s) : ∀ x ∈ dg1 r s, 0 ≤ x ∧ x ≤ 255 := by
  obtain ⟨o1, o6, on, ov, _, _⟩ := hs
  intro x hx
  unfold dg1 at hx
  rcases List.mem_or_eq_of_mem_set hx with h | h
  · exact hr x h
  · subst h
    split
    · rename_i h1; exact on h1
    · split
      · exact getI_bd hr _
      · exact doF_bd _ _ _
theorem dgR_bd {vars : Int} {c : List Step} (hs : ∀ s ∈ c, SOk vars s) : ∀ {r : List Int}, (∀ x ∈ r, 0 ≤ x ∧ x ≤ 255) → ∀ x ∈ dgR r c, 0 ≤ x ∧ x ≤ 255 := by
  induction c with
  | nil => intro r hr; exact hr
  | cons s c ih => intro r hr; exact ih (fun s' h => hs s' (by simp [h])) (dg1_bd hr (hs s (by simp)))

theorem cellB_grown {w w' : World} {row : Option Nat} (hg : w.grownBy w' row) (b j : Nat) (hb : b < w.heap.size) (hne : some b ≠ row) : w'.cell? ⟨b, j, none⟩ = w.cell? ⟨b, j, none⟩ := World.cell?_of_block (hg.block b hb hne)
/-- Of the blocks that were there all but block g lie as they lay. -/
structure Bel1 (g : Nat) (w w' : World) : Prop where
  os : w'.os = w.os
  tape : w'.tape = w.tape
  output : w'.output = w.output
  size : w.heap.size ≤ w'.heap.size
  block : ∀ k, k < w.heap.size → k ≠ g → w'.heap[k]? = w.heap[k]?
section
variable {g : Nat} {a w w' : World}
theorem Bel1.refl (g : Nat) (w : World) : Bel1 g w w := ⟨rfl, rfl, rfl, Nat.le_refl _, fun _ _ _ => rfl⟩
theorem Bel1.trans (h : Bel1 g a w) (k : Bel1 g w w') : Bel1 g a w' :=
  ⟨k.os.trans h.os, k.tape.trans h.tape, k.output.trans h.output, Nat.le_trans h.size k.size, fun i hi hne => (k.block i (Nat.lt_of_lt_of_le hi h.size) hne).trans (h.block i hi hne)⟩
theorem Bel1.alloc (h : Bel1 g a w) (o : Obj) : Bel1 g a (w.alloc o) := h.trans ⟨rfl, rfl, rfl, by simp, fun _ hk _ => Below.heap_alloc _ _ _ hk⟩
theorem Bel1.set_ (h : Bel1 g a w) {p : Addr} (hp : p.block = g) (u : Value) : Bel1 g a (w.setCell p u) := h.trans ⟨rfl, rfl, rfl, by simp [World.setCell], fun _ _ hne => Below.heap_setCell _ _ _ _ (by omega)⟩
theorem Bel1.drew (h : Bel1 g a w) : Bel1 g a w.drew := ⟨h.os, h.tape, h.output, h.size, h.block⟩
theorem Bel1.below (h : Bel1 g w w') {B : Nat} (hB : B ≤ g) (hs : B ≤ w.heap.size) : Below B w w' := ⟨h.os, h.tape, h.output, h.size, fun k hk => h.block k (by omega) (by omega)⟩
theorem Own.bel1 {α : Type} {f : α → List Value} {size base E : Nat} {v : Value} {l : List α} (h : Own f size w base E v l) (hb : Bel1 g w w') (hg : v.ownBlock ≠ some g) : Own f size w' base E v l := by
  refine ⟨h.1, ?_⟩
  rcases h.2 with h0 | ⟨b, cap, cur, h1, h2, h3, h4⟩
  · exact .inl h0
  · refine .inr ⟨b, cap, cur, h1, h2, (hb.block b (lt_h h3) (fun e => hg ?_)).trans h3, h4⟩
    rw [h1, e]; rfl
end
end Go.Proofs.Ytmgejacndhnikaa
namespace Go.Proofs.Ytmgejacndhnikaa
open Go.RowKit

def bnul : Blk := ⟨[], -1, -1, 0⟩
structure BOk (vars n : Int) (b : Blk) : Prop where
  code : ∀ s ∈ b.code, SOk vars s
  lo : -1 ≤ b.test
  hi : b.test < vars
  two : 0 ≤ b.test → (0 ≤ b.thn ∧ b.thn < n) ∧ 0 ≤ b.els ∧ b.els < n
  one : b.test = -1 → b.thn = -1 ∨ (0 ≤ b.thn ∧ b.thn < n)
theorem bok_of {vars n : Int} {b : Blk} (h : bErr vars n b = 0) : BOk vars n b := by
  unfold bErr at h
  split at h
  · rename_i hc
    unfold eErr at h
    split at h
    · cases h
    · split at h
      · cases h
      · exact ⟨soks_of hc, by omega, by omega, by omega, by omega⟩
  · rename_i hc; exact absurd h hc
theorem boks_of {vars n : Int} : ∀ {p : List Blk}, bErrs vars n p = 0 → ∀ b ∈ p, BOk vars n b
  | t :: r, h, b, hb => by
    rw [show bErrs vars n (t :: r) = if bErr vars n t = 0 then bErrs vars n r else bErr vars n t from rfl] at h
    split at h
    · rename_i h0
      rcases List.mem_cons.1 hb with rfl | hb
      · exact bok_of h0
      · exact boks_of h b hb
    · rename_i h0; exact absurd h h0
theorem manyB_mem : ∀ {p : List Blk} {b : Blk}, b ∈ p → b.code.length ≤ manyB p
  | t :: r, b, hb => by
    have e : manyB (t :: r) = t.code.length + manyB r := by unfold manyB; simp
    rcases List.mem_cons.1 hb with rfl | hb
    · omega
    · have := manyB_mem hb; omega
structure POk (vars : Int) (p : List Blk) : Prop where
  v1 : 1 ≤ vars
  v6 : vars ≤ 6
  n1 : 1 ≤ p.length
  n8 : p.length ≤ 8
  many : manyB p ≤ 20
  bs : ∀ b ∈ p, BOk vars p.length b
theorem pok_of {vars : Int} {p : List Blk} (h : pkErr vars p = 0) : POk vars p := by
  unfold pkErr at h
  split at h
  · cases h
  · exact ⟨by omega, by omega, by omega, by omega, by omega, boks_of h⟩
/-- One block: where one goes, what the variables have. -/
def goB (p : List Blk) (i : Int) (v : List Int) : Int × List Int :=
  (if 0 ≤ (p.getD i.toNat bnul).test ∧ (dgR v (p.getD i.toNat bnul).code).getD (p.getD i.toNat bnul).test.toNat 0 = 0 then (p.getD i.toNat bnul).els else (p.getD i.toNat bnul).thn, dgR v (p.getD i.toNat bnul).code)
def stB (p : List Blk) (v : List Int) : Nat → Int × List Int
  | 0 => (0, v)
  | k + 1 => goB p (stB p v k).1 (stB p v k).2
/-- All the blocks ahead of the k-th turn. -/
def wasB (p : List Blk) (v : List Int) (k : Nat) : List Int := (List.range k).map fun j => (stB p v j).1
theorem wasB_len (p : List Blk) (v : List Int) (k : Nat) : (wasB p v k).length = k := by simp [wasB]
theorem wasB_succ (p : List Blk) (v : List Int) (k : Nat) : wasB p v (k + 1) = wasB p v k ++ [(stB p v k).1] := by
  unfold wasB; rw [List.range_succ, List.map_append]; rfl
theorem wasB_get {p : List Blk} {v : List Int} {k j : Nat} (h : j < k) : (wasB p v k)[j]'(by rw [wasB_len]; exact h) = (stB p v j).1 := by simp [wasB]
def runsB (p : List Blk) (v : List Int) (k : Nat) : Prop := ∀ j, j < k → 0 ≤ (stB p v j).1
theorem bget {p : List Blk} {i : Nat} (h : i < p.length) : p.getD i bnul = p[i] := by rw [List.getD_eq_getElem?_getD, List.getElem?_eq_getElem h]; rfl
theorem st_ok {vars : Int} {p : List Blk} {v : List Int} (hp : POk vars p) (hl : (v.length : Int) = vars) (hv : ∀ x ∈ v, 0 ≤ x ∧ x ≤ 255) : ∀ k, runsB p v k →
    ((stB p v k).2.length : Int) = vars ∧ (∀ x ∈ (stB p v k).2, 0 ≤ x ∧ x ≤ 255) ∧ -1 ≤ (stB p v k).1 ∧ (stB p v k).1 < p.length
  | 0, _ => ⟨hl, hv, (by decide : (-1 : Int) ≤ 0), by have := hp.n1; show (0 : Int) < _; omega⟩
  | k + 1, hr => by
    obtain ⟨a1, a2, a3, a4⟩ := st_ok hp hl hv k (fun j hj => hr j (by omega))
    have h0 := hr k (by omega)
    show ((goB p (stB p v k).1 (stB p v k).2).2.length : Int) = vars ∧ (∀ x ∈ (goB p (stB p v k).1 (stB p v k).2).2, 0 ≤ x ∧ x ≤ 255) ∧ -1 ≤ (goB p (stB p v k).1 (stB p v k).2).1 ∧ (goB p (stB p v k).1 (stB p v k).2).1 < p.length
    generalize stB p v k = st at *
    obtain ⟨i, v'⟩ := st
    dsimp only at a1 a2 a3 a4 h0 ⊢
    obtain ⟨n, rfl⟩ := Int.eq_ofNat_of_zero_le h0
    have hn : n < p.length := by omega
    have hb := hp.bs _ (List.getElem_mem hn)
    unfold goB
    rw [Int.toNat_natCast, bget hn]
    refine ⟨by rw [dgR_len]; exact a1, dgR_bd hb.code a2, ?_⟩
    dsimp only
    have h1 := hb.one
    have h2 := hb.two
    have h3 := hb.lo
    by_cases ht : 0 ≤ p[n].test
    · have := h2 ht
      split <;> omega
    · rw [if_neg (by omega)]
      have := h1 (by omega)
      omega
end Go.Proofs.Ytmgejacndhnikaa
