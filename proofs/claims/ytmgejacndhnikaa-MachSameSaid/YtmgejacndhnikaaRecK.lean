/- What a call that collects into a row kept in a box leaves as it was: all but the box and the row's own block. Program-independent. -/
import Derived.Test.YtmgejacndhnikaaLib
namespace Go.Proofs.Ytmgejacndhnikaa
open Go.RowKit

/-- Of the blocks that were there all but block C and the row's own lie as they lay. -/
structure Kp2 (C : Nat) (v : Value) (w w' : World) : Prop where
  size : w.heap.size ≤ w'.heap.size
  block : ∀ k, k < w.heap.size → k ≠ C → v.ownBlock ≠ some k → w'.heap[k]? = w.heap[k]?
section
variable {C : Nat} {v v' : Value} {a w w' : World}
theorem Kp2.refl (C : Nat) (v : Value) (w : World) : Kp2 C v w w := ⟨Nat.le_refl _, fun _ _ _ _ => rfl⟩
theorem Kp2.alloc (h : Kp2 C v a w) (o : Obj) : Kp2 C v a (w.alloc o) := ⟨by rw [World.size_alloc]; have := h.size; omega, fun k hk h1 h2 => (Below.heap_alloc w o k (Nat.lt_of_lt_of_le hk h.size)).trans (h.block k hk h1 h2)⟩
theorem Kp2.set_ (h : Kp2 C v a w) {p : Addr} (hp : p.block = C ∨ a.heap.size ≤ p.block) (u : Value) : Kp2 C v a (w.setCell p u) :=
  ⟨by have := h.size; simpa [World.setCell] using this, fun k hk h1 h2 => (Below.heap_setCell w p u k (by rcases hp with h | h <;> omega)).trans (h.block k hk h1 h2)⟩
theorem Kp2.drew (h : Kp2 C v a w) : Kp2 C v a w.drew := ⟨h.size, h.block⟩
theorem Kp2.trans (h : Kp2 C v a w) (k : Kp2 C v' w w') (hv : v'.ownBlock = v.ownBlock ∨ ∃ m, v'.ownBlock = some m ∧ a.heap.size ≤ m) : Kp2 C v a w' :=
  ⟨Nat.le_trans h.size k.size, fun j hj h1 h2 => (k.block j (Nat.lt_of_lt_of_le hj h.size) h1 (fun e => by
    rcases hv with hv | ⟨m, hm, hl⟩
    · exact h2 (hv.symm.trans e)
    · rw [hm] at e; injection e with e; omega)).trans (h.block j hj h1 h2)⟩
theorem Kp2.grown (h : Kp2 C v a w) (hg : w.grownBy w' v'.ownBlock) (hv : v'.ownBlock = v.ownBlock ∨ ∃ m, v'.ownBlock = some m ∧ a.heap.size ≤ m) : Kp2 C v a w' :=
  h.trans ⟨hg.size, fun j hj _ h2 => hg.block j hj (fun e => h2 e.symm)⟩ hv
theorem Kp2.heap (h : Kp2 C v w w') {k : Nat} {o : Obj} (hk : w.heap[k]? = some o) (h1 : k ≠ C) (h2 : v.ownBlock ≠ some k) : w'.heap[k]? = some o :=
  (h.block k (by
    rcases Nat.lt_or_ge k w.heap.size with h | h
    · exact h
    · rw [Array.getElem?_eq_none h] at hk; cases hk) h1 h2).trans hk
theorem own_lt' {α : Type} {f : α → List Value} {size base E : Nat} {w : World} {v : Value} {l : List α} (h : Own f size w base E v l) : ∀ g, v.ownBlock = some g → base ≤ g ∧ g < w.heap.size := fun g hg => World.ownsRow.lt h g hg
/-- A cell in a block by its heap's fact. -/
theorem cell_h {w : World} {k : Nat} {cs : Array Value} {E : Nat} (h : w.heap[k]? = some (.cells cs E (0, 0))) (j : Nat) : w.cell? ⟨k, j, none⟩ = cs[j]? := by
  rw [cell_of_row w k j _ _ _ h]
theorem fz_h {w : World} {k : Nat} {cs : Array Value} {E : Nat} (h : w.heap[k]? = some (.cells cs E (0, 0))) (j : Nat) : w.frozen? ⟨k, j, none⟩ = false := by simp [World.frozen?, h]
theorem lt_h {w : World} {k : Nat} {o : Obj} (h : w.heap[k]? = some o) : k < w.heap.size := by
  rcases Nat.lt_or_ge k w.heap.size with h' | h'
  · exact h'
  · rw [Array.getElem?_eq_none h'] at h; cases h
end
end Go.Proofs.Ytmgejacndhnikaa
