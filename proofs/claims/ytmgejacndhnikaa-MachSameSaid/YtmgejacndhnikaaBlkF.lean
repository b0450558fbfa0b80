/- What steps do to a row of variables, plain; what a call that writes one block leaves as it was. -/
import Derived.Test.YtmgejacndhnikaaBlkB
import Derived.Test.YtmgejacndhnikaaTermDo
namespace Go.Proofs.Ytmgejacndhnikaa
open Go.RowKit

theorem getI_bd {l : List Int} (h : ∀ x ∈ l, 0 ≤ x ∧ x ≤ 255) (i : Nat) : 0 ≤ l.getD i 0 ∧ l.getD i 0 ≤ 255 := by
  by_cases hi : i < l.length
  · rw [List.getD_eq_getElem?_getD, List.getElem?_eq_getElem hi]; exact h _ (List.getElem_mem hi)
  · rw [List.getD_eq_getElem?_getD, List.getElem?_eq_none (by omega)]; simp
theorem getI_get {l : List Int} {i : Nat} (h : i < l.length) : l.getD i 0 = l[i] := by rw [List.getD_eq_getElem?_getD, List.getElem?_eq_getElem h]; rfl
/-- A step may be. -/
def SOk (vars : Int) (s : Step) : Prop :=
  1 ≤ s.op ∧ s.op ≤ 6 ∧ (s.op = 1 → 0 ≤ s.val ∧ s.val ≤ 255) ∧ (s.op = 2 → 0 ≤ s.val ∧ s.val < vars) ∧ (0 ≤ s.to ∧ s.to < vars) ∧ (2 < s.op → (0 ≤ s.a ∧ s.a < vars) ∧ 0 ≤ s.b ∧ s.b < vars)
theorem sok_of {vars : Int} {s : Step} (h : stErr vars s = 0) : SOk vars s := by
  unfold stErr at h
  unfold SOk
  split at h
  · cases h
  · split at h
    · cases h
    · split at h
      · cases h
      · omega
theorem soks_of {vars : Int} : ∀ {c : List Step}, cErrs vars c = 0 → ∀ s ∈ c, SOk vars s
  | t :: r, h, s, hs => by
    rw [show cErrs vars (t :: r) = if stErr vars t = 0 then cErrs vars r else stErr vars t from rfl] at h
    split at h
    · rename_i h0
      rcases List.mem_cons.1 hs with rfl | hs
      · exact sok_of h0
      · exact soks_of h s hs
    · rename_i h0; exact absurd h h0
/-- A step, done. -/
def dg1 (r : List Int) (s : Step) : List Int :=
  r.set s.to.toNat (if s.op = 1 then s.val else if s.op = 2 then r.getD s.val.toNat 0 else doF s.op (r.getD s.a.toNat 0) (r.getD s.b.toNat 0))
def dgR (r : List Int) (c : List Step) : List Int := c.foldl dg1 r
theorem dgR_append (r : List Int) (a b : List Step) : dgR r (a ++ b) = dgR (dgR r a) b := List.foldl_append ..
theorem dg1_len (r : List Int) (s : Step) : (dg1 r s).length = r.length := by unfold dg1; rw [List.length_set]
theorem dgR_len (c : List Step) : ∀ r : List Int, (dgR r c).length = r.length := by
  induction c with
  | nil => intro r; rfl
  | cons s c ih => intro r; exact (ih (dg1 r s)).trans (dg1_len r s)
theorem dg1_bd {vars : Int} {r : List Int} {s : Step} (hr : ∀ x ∈ r, 0 ≤ x ∧ x ≤ 255) (hs : SOk vars s) : ∀ x ∈ dg1 r s, 0 ≤ x ∧ x ≤ 255 := by
  obtain ⟨o1, o6, on, ov, _, _⟩ := hs
  intro x hx
  unfold dg1 at hx
  rcases List.mem_or_eq_of_mem_set hx with h | h
  · exact hr x h
  · subst h
    split
    · rename_i h1; exact on h1
    · split
      · exact getI_bd hr _
      · exact doF_bd _ _ _
theorem dgR_bd {vars : Int} {c : List Step} (hs : ∀ s ∈ c, SOk vars s) : ∀ {r : List Int}, (∀ x ∈ r, 0 ≤ x ∧ x ≤ 255) → ∀ x ∈ dgR r c, 0 ≤ x ∧ x ≤ 255 := by
  induction c with
  | nil => intro r hr; exact hr
  | cons s c ih => intro r hr; exact ih (fun s' h => hs s' (by simp [h])) (dg1_bd hr (hs s (by simp)))

theorem cellB_grown {w w' : World} {row : Option Nat} (hg : w.grownBy w' row) (b j : Nat) (hb : b < w.heap.size) (hne : some b ≠ row) : w'.cell? ⟨b, j, none⟩ = w.cell? ⟨b, j, none⟩ := World.cell?_of_block (hg.block b hb hne)
/-- Of the blocks that were there all but block g lie as they lay. -/
structure Bel1 (g : Nat) (w w' : World) : Prop where
  os : w'.os = w.os
  tape : w'.tape = w.tape
  output : w'.output = w.output
  size : w.heap.size ≤ w'.heap.size
  block : ∀ k, k < w.heap.size → k ≠ g → w'.heap[k]? = w.heap[k]?
section
variable {g : Nat} {a w w' : World}
theorem Bel1.refl (g : Nat) (w : World) : Bel1 g w w := ⟨rfl, rfl, rfl, Nat.le_refl _, fun _ _ _ => rfl⟩
theorem Bel1.trans (h : Bel1 g a w) (k : Bel1 g w w') : Bel1 g a w' :=
  ⟨k.os.trans h.os, k.tape.trans h.tape, k.output.trans h.output, Nat.le_trans h.size k.size, fun i hi hne => (k.block i (Nat.lt_of_lt_of_le hi h.size) hne).trans (h.block i hi hne)⟩
theorem Bel1.alloc (h : Bel1 g a w) (o : Obj) : Bel1 g a (w.alloc o) := h.trans ⟨rfl, rfl, rfl, by simp, fun _ hk _ => Below.heap_alloc _ _ _ hk⟩
theorem Bel1.set_ (h : Bel1 g a w) {p : Addr} (hp : p.block = g) (u : Value) : Bel1 g a (w.setCell p u) := h.trans ⟨rfl, rfl, rfl, by simp [World.setCell], fun _ _ hne => Below.heap_setCell _ _ _ _ (by omega)⟩
theorem Bel1.drew (h : Bel1 g a w) : Bel1 g a w.drew := ⟨h.os, h.tape, h.output, h.size, h.block⟩
theorem Bel1.below (h : Bel1 g w w') {B : Nat} (hB : B ≤ g) (hs : B ≤ w.heap.size) : Below B w w' := ⟨h.os, h.tape, h.output, h.size, fun k hk => h.block k (by omega) (by omega)⟩
theorem Own.bel1 {α : Type} {f : α → List Value} {size base E : Nat} {v : Value} {l : List α} (h : Own f size w base E v l) (hb : Bel1 g w w') (hg : v.ownBlock ≠ some g) : Own f size w' base E v l := by
  refine ⟨h.1, ?_⟩
  rcases h.2 with h0 | ⟨b, cap, cur, h1, h2, h3, h4⟩
  · exact .inl h0
  · refine .inr ⟨b, cap, cur, h1, h2, (hb.block b (lt_h h3) (fun e => hg ?_)).trans h3, h4⟩
    rw [h1, e]; rfl
end
end Go.Proofs.Ytmgejacndhnikaa
