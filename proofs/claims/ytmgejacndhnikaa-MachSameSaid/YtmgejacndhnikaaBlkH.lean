/- A program's run, plain. -/
import Derived.Test.YtmgejacndhnikaaBlkF
namespace Go.Proofs.Ytmgejacndhnikaa
open Go.RowKit

def bnul : Blk := ⟨[], -1, -1, 0⟩
structure BOk (vars n : Int) (b : Blk) : Prop where
  code : ∀ s ∈ b.code, SOk vars s
  lo : -1 ≤ b.test
  hi : b.test < vars
  two : 0 ≤ b.test → (0 ≤ b.thn ∧ b.thn < n) ∧ 0 ≤ b.els ∧ b.els < n
  one : b.test = -1 → b.thn = -1 ∨ (0 ≤ b.thn ∧ b.thn < n)
theorem bok_of {vars n : Int} {b : Blk} (h : bErr vars n b = 0) : BOk vars n b := by
  unfold bErr at h
  split at h
  · rename_i hc
    unfold eErr at h
    split at h
    · cases h
    · split at h
      · cases h
      · exact ⟨soks_of hc, by omega, by omega, by omega, by omega⟩
  · rename_i hc; exact absurd h hc
theorem boks_of {vars n : Int} : ∀ {p : List Blk}, bErrs vars n p = 0 → ∀ b ∈ p, BOk vars n b
  | t :: r, h, b, hb => by
    rw [show bErrs vars n (t :: r) = if bErr vars n t = 0 then bErrs vars n r else bErr vars n t from rfl] at h
    split at h
    · rename_i h0
      rcases List.mem_cons.1 hb with rfl | hb
      · exact bok_of h0
      · exact boks_of h b hb
    · rename_i h0; exact absurd h h0
theorem manyB_mem : ∀ {p : List Blk} {b : Blk}, b ∈ p → b.code.length ≤ manyB p
  | t :: r, b, hb => by
    have e : manyB (t :: r) = t.code.length + manyB r := by unfold manyB; simp
    rcases List.mem_cons.1 hb with rfl | hb
    · omega
    · have := manyB_mem hb; omega
structure POk (vars : Int) (p : List Blk) : Prop where
  v1 : 1 ≤ vars
  v6 : vars ≤ 6
  n1 : 1 ≤ p.length
  n8 : p.length ≤ 8
  many : manyB p ≤ 20
  bs : ∀ b ∈ p, BOk vars p.length b
theorem pok_of {vars : Int} {p : List Blk} (h : pkErr vars p = 0) : POk vars p := by
  unfold pkErr at h
  split at h
  · cases h
  · exact ⟨by omega, by omega, by omega, by omega, by omega, boks_of h⟩
/-- One block: where one goes, what the variables have. -/
def goB (p : List Blk) (i : Int) (v : List Int) : Int × List Int :=
  (if 0 ≤ (p.getD i.toNat bnul).test ∧ (dgR v (p.getD i.toNat bnul).code).getD (p.getD i.toNat bnul).test.toNat 0 = 0 then (p.getD i.toNat bnul).els else (p.getD i.toNat bnul).thn, dgR v (p.getD i.toNat bnul).code)
def stB (p : List Blk) (v : List Int) : Nat → Int × List Int
  | 0 => (0, v)
  | k + 1 => goB p (stB p v k).1 (stB p v k).2
/-- All the blocks ahead of the k-th turn. -/
def wasB (p : List Blk) (v : List Int) (k : Nat) : List Int := (List.range k).map fun j => (stB p v j).1
theorem wasB_len (p : List Blk) (v : List Int) (k : Nat) : (wasB p v k).length = k := by simp [wasB]
theorem wasB_succ (p : List Blk) (v : List Int) (k : Nat) : wasB p v (k + 1) = wasB p v k ++ [(stB p v k).1] := by
  unfold wasB; rw [List.range_succ, List.map_append]; rfl
theorem wasB_get {p : List Blk} {v : List Int} {k j : Nat} (h : j < k) : (wasB p v k)[j]'(by rw [wasB_len]; exact h) = (stB p v j).1 := by simp [wasB]
def runsB (p : List Blk) (v : List Int) (k : Nat) : Prop := ∀ j, j < k → 0 ≤ (stB p v j).1
theorem bget {p : List Blk} {i : Nat} (h : i < p.length) : p.getD i bnul = p[i] := by rw [List.getD_eq_getElem?_getD, List.getElem?_eq_getElem h]; rfl
theorem st_ok {vars : Int} {p : List Blk} {v : List Int} (hp : POk vars p) (hl : (v.length : Int) = vars) (hv : ∀ x ∈ v, 0 ≤ x ∧ x ≤ 255) : ∀ k, runsB p v k →
    ((stB p v k).2.length : Int) = vars ∧ (∀ x ∈ (stB p v k).2, 0 ≤ x ∧ x ≤ 255) ∧ -1 ≤ (stB p v k).1 ∧ (stB p v k).1 < p.length
  | 0, _ => ⟨hl, hv, (by decide : (-1 : Int) ≤ 0), by have := hp.n1; show (0 : Int) < _; omega⟩
  | k + 1, hr => by
    obtain ⟨a1, a2, a3, a4⟩ := st_ok hp hl hv k (fun j hj => hr j (by omega))
    have h0 := hr k (by omega)
    show ((goB p (stB p v k).1 (stB p v k).2).2.length : Int) = vars ∧ (∀ x ∈ (goB p (stB p v k).1 (stB p v k).2).2, 0 ≤ x ∧ x ≤ 255) ∧ -1 ≤ (goB p (stB p v k).1 (stB p v k).2).1 ∧ (goB p (stB p v k).1 (stB p v k).2).1 < p.length
    generalize stB p v k = st at *
    obtain ⟨i, v'⟩ := st
    dsimp only at a1 a2 a3 a4 h0 ⊢
    obtain ⟨n, rfl⟩ := Int.eq_ofNat_of_zero_le h0
    have hn : n < p.length := by omega
    have hb := hp.bs _ (List.getElem_mem hn)
    unfold goB
    rw [Int.toNat_natCast, bget hn]
    refine ⟨by rw [dgR_len]; exact a1, dgR_bd hb.code a2, ?_⟩
    dsimp only
    have h1 := hb.one
    have h2 := hb.two
    have h3 := hb.lo
    by_cases ht : 0 ≤ p[n].test
    · have := h2 ht
      split <;> omega
    · rw [if_neg (by omega)]
      have := h1 (by omega)
      omega
end Go.Proofs.Ytmgejacndhnikaa
