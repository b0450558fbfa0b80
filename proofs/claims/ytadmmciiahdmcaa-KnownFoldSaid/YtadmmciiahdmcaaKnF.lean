/- package known, plain: a pass of solve, turn by turn. -/
import Derived.Test.YtadmmciiahdmcaaKnD
namespace Go.Proofs.Ytadmmciiahdmcaa
open Go.RowKit

/-- Ahead of block i of a pass that began with F0. -/
structure Ps (vars : Int) (p : List Blk) (h0 : List Int) (F0 F : List (List Int)) (a : Bool) (i : Nat) : Prop where
  inv : InvK vars p h0 F
  le : potF F ≤ potF F0
  less : a = true → potF F < potF F0
  same : a = false → F = F0
  done : a = false → ∀ k, k < i → closedK p F k
/-- Ahead of the t-th to which one goes from block i. -/
structure Pt (vars : Int) (p : List Blk) (h0 : List Int) (F0 F : List (List Int)) (a : Bool) (i : Nat) (v ts : List Int) (t : Nat) : Prop where
  ps : Ps vars p h0 F0 F a i
  here : a = false → ∀ (k : Nat) (j : Int), k < t → ts[k]? = some j → rowF F j.toNat ≠ [] ∧ leK v (rowF F j.toNat)
section
variable {vars : Int} {p : List Blk} {h0 v ts : List Int} {F0 F F1 : List (List Int)} {a a1 : Bool} {i t : Nat}
theorem Ps.start (h : InvK vars p h0 F) : Ps vars p h0 F F false 0 := ⟨h, Nat.le_refl _, (fun e => by cases e), fun _ => rfl, fun _ k hk => by omega⟩
theorem Ps.skip (h : Ps vars p h0 F0 F a i) (hr : rowF F i = []) : Ps vars p h0 F0 F a (i + 1) :=
  ⟨h.inv, h.le, h.less, h.same, fun e k hk => by
    rcases Nat.lt_or_ge k i with h1 | h1
    · exact h.done e k h1
    · obtain rfl : k = i := by omega
      exact fun hn => absurd hr hn⟩
theorem Pt.start (h : Ps vars p h0 F0 F a i) : Pt vars p h0 F0 F a i v ts 0 := ⟨h, fun _ k _ hk => by omega⟩
theorem Pt.next (h : Pt vars p h0 F0 F a i (knR (rowF F1 i) (p.getD i bnul).code) (goK (p.getD i bnul) (knR (rowF F1 i) (p.getD i bnul).code)) (goK (p.getD i bnul) (knR (rowF F1 i) (p.getD i bnul).code)).length) (h1 : a = false → F = F1) : Ps vars p h0 F0 F a (i + 1) :=
  ⟨h.ps.inv, h.ps.le, h.ps.less, h.ps.same, fun e k hk => by
    rcases Nat.lt_or_ge k i with hk' | hk'
    · exact h.ps.done e k hk'
    · obtain rfl : k = i := by omega
      intro hn j hj
      have e1 := h1 e
      subst e1
      obtain ⟨n, hn', e2⟩ := List.getElem_of_mem hj
      exact h.here e n j hn' (by rw [List.getElem?_eq_getElem hn', e2])⟩
theorem Pt.step (h : Pt vars p h0 F0 F a i v ts t) {j : Nat} (hj : ts[t]? = some (j : Int)) (hjl : j < F.length) (hv1 : v ≠ []) (hv8 : v.length ≤ 8) (hl : rowF F j ≠ [] → v.length = (rowF F j).length) (hu : InvK vars p h0 (updF F j v))
    (h1 : a1 = true → a = true ∨ updF F j v ≠ F) (h2 : a1 = false → a = false ∧ updF F j v = F) : Pt vars p h0 F0 (updF F j v) a1 i v ts (t + 1) := by
  obtain ⟨q1, q2⟩ := updF_pot hjl hv1 hv8 hl
  refine ⟨⟨hu, Nat.le_trans q1 h.ps.le, fun e => ?_, fun e => ?_, fun e k hk => ?_⟩, fun e k j' hk hj' => ?_⟩
  · rcases h1 e with e1 | e1
    · exact Nat.lt_of_le_of_lt q1 (h.ps.less e1)
    · have : potF (updF F j v) ≠ potF F := fun e2 => e1 (q2 e2)
      have := h.ps.le
      omega
  · obtain ⟨e1, e2⟩ := h2 e
    rw [e2]; exact h.ps.same e1
  · obtain ⟨e1, e2⟩ := h2 e
    rw [e2]; exact h.ps.done e1 k hk
  · obtain ⟨e1, e2⟩ := h2 e
    rw [e2]
    rcases Nat.lt_or_ge k t with hk' | hk'
    · exact h.here e1 k j' hk' hj'
    · obtain rfl : k = t := by omega
      rw [hj] at hj'
      injection hj' with hj'
      subst hj'
      rw [Int.toNat_natCast]
      exact updF_same hjl hv1 hl e2
end
/-- The flag behind block j: the row was not there (n), or one of its cells turned. -/
def FlagK (F : List (List Int)) (j : Nat) (v r0 : List Int) (a a1 : Bool) : Prop :=
  updF F j v = F.set j (joinK v r0) ∧ (a1 = true → a = true ∨ updF F j v ≠ F) ∧ (a1 = false → a = false) ∧ (joinK v r0 ≠ r0 → updF F j v ≠ F) ∧ (a1 = false → joinK v r0 = r0 → updF F j v = F)
theorem FlagK.new {F : List (List Int)} {j : Nat} {v : List Int} (a : Bool) (hj : j < F.length) (hv : v ≠ []) (h0 : rowF F j = []) : FlagK F j v v a true := by
  have hne : updF F j v ≠ F := fun e => by
    have := congrArg (fun G => rowF G j) e
    unfold updF at this
    rw [rowF_set _ _ hj, if_pos rfl, h0, if_pos rfl, joinK_self] at this
    exact hv this
  refine ⟨by unfold updF; rw [h0, if_pos rfl], fun _ => .inr hne, (fun e => by cases e), fun _ => hne, fun e => by cases e⟩
theorem FlagK.old {F : List (List Int)} {j : Nat} {v : List Int} (a : Bool) (hj : j < F.length) (h0 : rowF F j ≠ []) : FlagK F j v (rowF F j) a a := by
  have e0 : updF F j v = F.set j (joinK v (rowF F j)) := by unfold updF; rw [if_neg h0]
  refine ⟨e0, fun h => .inl h, fun h => h, fun hn e => hn ?_, fun _ e => ?_⟩
  · have := congrArg (fun G => rowF G j) e
    rw [e0, rowF_set _ _ hj, if_pos rfl] at this
    exact this
  · rw [e0, e, rowF_get hj]; exact List.set_getElem_self _
end Go.Proofs.Ytadmmciiahdmcaa
