/- BlockPath, plain: one goes where one may. -/
import Derived.Test.YtmgejacndhnikaaBlkN
import Derived.Test.YtmgejacndhnikaaHave
namespace Go.Proofs.Ytmgejacndhnikaa
open Go.RowKit

theorem bget' {p : List Blk} {i : Nat} (h : i < p.length) : p.getD i bnul = p[i] := bget h
theorem st_succ (p : List Blk) (v : List Int) (k : Nat) : stB p v (k + 1) = goB p (stB p v k).1 (stB p v k).2 := rfl
theorem go_in {vars : Int} {p : List Blk} {v : List Int} (hp : POk vars p) {i : Nat} (hi : i < p.length) (h : 0 ≤ (goB p (i : Int) v).1) : (goB p (i : Int) v).1 ∈ nxB p[i] := by
  have hb := hp.bs _ (List.getElem_mem hi)
  have h1 := hb.one
  have h2 := hb.two
  have h3 := hb.lo
  unfold goB at h ⊢
  rw [Int.toNat_natCast, bget hi] at h ⊢
  dsimp only at h ⊢
  unfold nxB
  by_cases hc : 0 ≤ p[i].test ∧ (dgR v p[i].code).getD p[i].test.toNat 0 = 0
  · rw [if_pos hc]
    have h4 := h2 hc.1
    by_cases e : p[i].els = p[i].thn
    · rw [if_pos h4.1.1, e]; simp
    · rw [if_pos h4.1.1, if_pos ⟨hc.1, e⟩]; simp
  · rw [if_neg hc] at h ⊢
    rw [if_pos h]; simp
theorem go_end {vars : Int} {p : List Blk} {v : List Int} (hp : POk vars p) {i : Nat} (hi : i < p.length) (h : (goB p (i : Int) v).1 < 0) : nxB p[i] = [] := by
  have hb := hp.bs _ (List.getElem_mem hi)
  have h1 := hb.one
  have h2 := hb.two
  have h3 := hb.lo
  unfold goB at h
  rw [Int.toNat_natCast, bget hi] at h
  dsimp only at h
  by_cases ht : 0 ≤ p[i].test
  · have h4 := h2 ht
    split at h <;> omega
  · rw [if_neg (fun hc => ht hc.1)] at h
    unfold nxB
    rw [if_neg (by omega), if_neg (fun hc => ht hc.1)]; rfl
/-- The turns of a run that ends behind k. -/
structure Path (p : List Blk) (v : List Int) (k : Nat) (at_ : Nat → Nat) : Prop where
  was : ∀ j, j < k → (stB p v j).1 = at_ j
  lt : ∀ j, j < k → at_ j < p.length
  zero : 0 < k → at_ 0 = 0
  next : ∀ j (_ : j + 1 < k), ((at_ (j + 1) : Nat) : Int) ∈ nxB (p.getD (at_ j) bnul)
  last : 0 < k → nxB (p.getD (at_ (k - 1)) bnul) = []
theorem path_of {vars : Int} {p : List Blk} {v : List Int} {k : Nat} (hp : POk vars p) (hl : (v.length : Int) = vars) (hv : ∀ x ∈ v, 0 ≤ x ∧ x ≤ 255) (hr : runsB p v k) (he : (stB p v k).1 < 0) : Path p v k (fun j => (stB p v j).1.toNat) := by
  have hst := fun j (hj : j ≤ k) => st_ok hp hl hv j (fun i hi => hr i (by omega))
  have hw : ∀ j, j < k → (stB p v j).1 = (((stB p v j).1.toNat : Nat) : Int) := fun j hj => by have := hr j hj; omega
  have hlt : ∀ j, j < k → (stB p v j).1.toNat < p.length := fun j hj => by have := hr j hj; have := (hst j (by omega)).2.2.2; omega
  refine ⟨hw, hlt, fun _ => rfl, fun j h => ?_, fun h => ?_⟩
  · have h0 := hlt j (by omega)
    rw [bget h0]
    have hn := hr (j + 1) h
    have e : (stB p v (j + 1)).1 = (goB p (((stB p v j).1.toNat : Nat) : Int) (stB p v j).2).1 := by rw [st_succ, ← hw j (by omega)]
    rw [← hw (j + 1) h, e]
    exact go_in hp h0 (by rw [← e]; exact hn)
  · have h0 := hlt (k - 1) (by omega)
    rw [bget h0]
    have e : (stB p v k).1 = (goB p (((stB p v (k - 1)).1.toNat : Nat) : Int) (stB p v (k - 1)).2).1 := by
      rw [← hw (k - 1) (by omega), ← st_succ, show k - 1 + 1 = k by omega]
    exact go_end hp h0 (by rw [← e]; exact he)
theorem haveErr_0 {vars : Int} {l : List Int} (h1 : (l.length : Int) = vars) (h2 : ∀ x ∈ l, 0 ≤ x ∧ x ≤ 255) : haveErr vars l = 0 := by
  unfold haveErr
  rw [if_neg (by omega), if_neg]
  rw [List.any_eq_true]
  rintro ⟨x, hx, hb⟩
  have := h2 x hx
  unfold badVal at hb
  simp at hb
  omega
theorem nexts_at {p : List Blk} {i : Nat} (h : i < p.length) : (nexts p)[i]'(by simp [nexts]; exact h) = nxB (p.getD i bnul) := by rw [bget h]; simp [nexts]
end Go.Proofs.Ytmgejacndhnikaa
