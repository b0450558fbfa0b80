/- SingleSame: where each block comes from, as exact lists. -/
import Derived.Test.YtmgejacndhnikaaSsaV
import Derived.Test.YtmgejacndhnikaaWSsa
namespace Go.Proofs.Ytmgejacndhnikaa

/-- Two increasing lists of the same elements are one. -/
theorem incr_uniq : ∀ {a b : List Int}, a.Pairwise (· < ·) → b.Pairwise (· < ·) → (∀ x, x ∈ a ↔ x ∈ b) → a = b
  | [], [], _, _, _ => rfl
  | [], y :: b, _, _, h => absurd ((h y).2 (by simp)) List.not_mem_nil
  | x :: a, [], _, _, h => absurd ((h x).1 (by simp)) List.not_mem_nil
  | x :: a, y :: b, ha, hb, h => by
    obtain ⟨a1, a2⟩ := List.pairwise_cons.1 ha
    obtain ⟨b1, b2⟩ := List.pairwise_cons.1 hb
    have e : x = y := by
      rcases List.mem_cons.1 ((h x).1 (by simp)) with e | e
      · exact e
      · rcases List.mem_cons.1 ((h y).2 (by simp)) with e2 | e2
        · exact e2.symm
        · have := b1 x e
          have := a1 y e2
          omega
    subst e
    congr 1
    refine incr_uniq a2 b2 fun z => ⟨fun hz => ?_, fun hz => ?_⟩
    · rcases List.mem_cons.1 ((h z).1 (by simp [hz])) with e | e
      · have := a1 z hz; omega
      · exact e
    · rcases List.mem_cons.1 ((h z).2 (by simp [hz])) with e | e
      · have := b1 z hz; omega
      · exact e
/-- The blocks that lead to j, increasing. -/
def turnRow (ls : List (List Int)) (j : Nat) : List Int := ((List.range ls.length).filter fun a => decide ((j : Int) ∈ ls.getD a [])).map fun a : Nat => (a : Int)
def turnX (ls : List (List Int)) : List (List Int) := (List.range ls.length).map (turnRow ls)
/-- From: below 0 is the beginning. -/
def fromX (ls : List (List Int)) : List (List Int) := (turnX ls).set 0 (-1 :: turnRow ls 0)
theorem turnRow_mem {ls : List (List Int)} {j : Nat} {x : Int} : x ∈ turnRow ls j ↔ ∃ a : Nat, x = a ∧ W.EdgeG ls a j := by
  unfold turnRow W.EdgeG
  rw [List.mem_map]
  constructor
  · rintro ⟨a, ha, rfl⟩
    obtain ⟨h1, h2⟩ := List.mem_filter.1 ha
    have h1 := List.mem_range.1 h1
    have h2 := of_decide_eq_true h2
    rw [List.getD_eq_getElem?_getD, List.getElem?_eq_getElem h1] at h2
    exact ⟨a, rfl, _, List.getElem?_eq_getElem h1, h2⟩
  · rintro ⟨a, rfl, r, hr, hm⟩
    refine ⟨a, List.mem_filter.2 ⟨List.mem_range.2 (List.getElem?_eq_some_iff.1 hr).1, decide_eq_true ?_⟩, rfl⟩
    rw [List.getD_eq_getElem?_getD, hr]
    exact hm
theorem turnRow_incr (ls : List (List Int)) (j : Nat) : (turnRow ls j).Pairwise (· < ·) := by
  unfold turnRow
  refine List.Pairwise.map _ (fun a b h => ?_) (List.Pairwise.filter _ List.pairwise_lt_range)
  omega
theorem turned_exact {ls g : List (List Int)} (h : W.TurnedF ls g) (hn : ∀ r ∈ ls, r.Nodup) : g = turnX ls := by
  refine List.ext_getElem (by rw [h.len]; simp [turnX]) fun j h1 h2 => ?_
  have hg : g[j]? = some g[j] := List.getElem?_eq_getElem h1
  have e : (turnX ls)[j] = turnRow ls j := by simp [turnX]
  rw [e]
  refine incr_uniq (h.srt hn j _ hg) (turnRow_incr ls j) fun x => ?_
  rw [h.mem j _ hg x, turnRow_mem]
theorem nexts_nodup (p : List Blk) : ∀ r ∈ nexts p, r.Nodup := by
  intro r hr
  unfold nexts at hr
  obtain ⟨b, _, rfl⟩ := List.mem_map.1 hr
  unfold nxB
  split <;> split
  · rename_i h1 h2
    simp
    exact fun e => h2.2 e.symm
  all_goals simp
end Go.Proofs.Ytmgejacndhnikaa
