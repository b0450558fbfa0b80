/- Two programs that run alike. -/
import Derived.Test.YtmgejacndhnikaaBlkI
import Derived.Test.YtmgejacndhnikaaBlkP
import Derived.Test.YtmgejacndhnikaaIntsR
namespace Go.Proofs.Ytmgejacndhnikaa
open Go.RowKit

section
variable {p q : List Blk} {v u : List Int}
theorem runs_pair (h : ∀ k, runsB p v k → (stB q u k).1 = (stB p v k).1) : ∀ k, runsB p v k ↔ runsB q u k
  | 0 => ⟨fun _ j hj => by omega, fun _ j hj => by omega⟩
  | k + 1 => by
    constructor
    · intro hr j hj
      rw [h j (fun i hi => hr i (by omega))]; exact hr j hj
    · intro hr
      have ih := (runs_pair h k).2 (fun j hj => hr j (by omega))
      intro j hj
      rcases Nat.lt_or_ge j k with h1 | h1
      · exact ih j h1
      · have : j = k := by omega
        subst this
        have := hr j (by omega)
        rw [h j ih] at this
        exact this
theorem was_pair (h : ∀ k, runsB p v k → (stB q u k).1 = (stB p v k).1) {k : Nat} (hr : runsB p v k) : wasB q u k = wasB p v k := by
  unfold wasB
  apply List.map_congr_left
  intro j hj
  rw [List.mem_range] at hj
  exact h j fun i hi => hr i (by omega)
theorem end_pair (h : ∀ k, runsB p v k → (stB q u k).1 = (stB p v k).1) {k k' : Nat} (h1 : runsB p v k) (h2 : (stB p v k).1 < 0) (h3 : runsB q u k') (h4 : (stB q u k').1 < 0) : k' = k := by
  rcases Nat.lt_trichotomy k' k with hlt | he | hlt
  · have := h1 k' hlt
    rw [h k' fun j hj => h1 j (by omega)] at h4
    omega
  · exact he
  · have := h3 k hlt
    rw [h k h1] at this
    omega
theorem loop_pair (h : ∀ k, runsB p v k → (stB q u k).1 = (stB p v k).1) {k : Nat} (h0 : k ≤ 200) (h1 : runsB p v k) (h2 : (stB p v k).1 < 0) (h3 : runsB q u 201) : False := by
  have := h3 k (by omega)
  rw [h k h1] at this
  omega
theorem pool_pair (h : ∀ k, runsB p v k → (stB q u k).1 = (stB p v k).1) {k : Nat} (h0 : k ≤ 200) (_h1 : runsB q u k) (h2 : (stB q u k).1 < 0) (h3 : runsB p v 201) : False := by
  have h4 := h3 k (by omega)
  rw [h k fun j hj => h3 j (by omega)] at h2
  omega
end
theorem ints_eq (A B : Option Addr) (a b : List Int) (ca cb : Nat) (w : World) (hA : RdI w A a) (hB : RdI w B b) (hm : a.length ≤ maxLen) (h : a = b) :
    Calls Try.prog 24 #[.slice A a.length ca, .slice B b.length cb] w fun e w' => e = .returned (.bool true) ∧ Below w.heap.size w w' := by
  have h' := ints_calls A B a b ca cb w hA hB hm
  rw [decide_eq_true h] at h'; exact h'
end Go.Proofs.Ytmgejacndhnikaa
