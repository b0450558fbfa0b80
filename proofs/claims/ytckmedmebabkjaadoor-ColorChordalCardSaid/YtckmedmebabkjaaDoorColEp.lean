/- Colors, plain: what the words of clashes say; the fewest numbers. -/
import Derived.Test.YtckmedmebabkjaaDoorColD
namespace Go.Proofs.YtckmedmebabkjaaDoor
open Go.RowKit

theorem clL_bit {m : Nat} {ps : List (Int × Int)} (h : ClOk m ps) {i j : Nat} (hi : i < m) : ((clL m ps).getD i 0).testBit j = true ↔ Cl ps i j := by
  rw [getD_of (by rw [clL_len]; exact hi), clL_get]
  unfold clS
  rw [setN_bit]
  exact ⟨fun h => h.2, fun hc => ⟨by have := hc.lt h; have := h.n8; omega, hc⟩⟩
theorem LeastL.toC {m : Nat} {ps : List (Int × Int)} {l : List Nat} {K : Nat} (h : ClOk m ps) (hl : LeastL (clL m ps) l K) : LeastC m (Cl ps) (fun i => l.getD i 0) K := by
  have hlen : l.length = m := by rw [hl.len, clL_len]
  refine ⟨fun i j hi hj hc => ?_, fun i hi => ?_, fun k h1 hk => ?_⟩
  · have hne := (hc.lt h).2.2
    rcases Nat.lt_or_ge j i with h1 | h1
    · exact fun e => hl.good.2 i j h1 (by omega) ((clL_bit h hi).2 hc) e.symm
    · exact hl.good.2 j i (by omega) (by omega) ((clL_bit h hj).2 hc.symm)
  · rw [getD_of (by omega)]; exact hl.good.1 _ (List.getElem_mem _)
  · apply Classical.byContradiction
    intro hn
    obtain ⟨c, h2, h3⟩ := hk
    refine hl.least k h1 (by omega) ⟨(List.range m).map c, ⟨_, rfl⟩, by simp [clL_len], fun x hx => ?_, fun i j hj hi hb => ?_⟩
    · obtain ⟨i, hi, rfl⟩ := List.mem_map.1 hx
      exact h3 i (List.mem_range.1 hi)
    · simp only [List.length_map, List.length_range] at hi
      rw [getD_of (by simp; omega), getD_of (by simp; omega)]
      simp only [List.getElem_map, List.getElem_range]
      exact h2 j i (by omega) hi ((clL_bit h hi).1 hb).symm
theorem LeastC.most {m K : Nat} {ps : List (Int × Int)} {l : List Nat} (h : LeastC m (Cl ps) (fun i => l.getD i 0) K) (hl : l.length = m) (h1 : 1 ≤ m) (hK : 1 ≤ K) : mostN l 0 = K := by
  have hb : ∀ x ∈ l, x < K := fun x hx => by
    obtain ⟨i, hi, rfl⟩ := List.getElem_of_mem hx
    have := h.lt i (by omega)
    rwa [getD_of hi] at this
  have h2 := mostN_le (k := 0) (b := K) (by omega) hb
  have h3 := (@mostN_ge l 0).2
  have := h.least (mostN l 0) (by have := h3 l[0] (List.getElem_mem (by omega)); omega) ⟨_, h.proper, fun i hi => by
    have := h3 (l[i]'(by omega)) (List.getElem_mem _)
    show l.getD i 0 < _
    rwa [getD_of (by omega)]⟩
  omega
end Go.Proofs.YtckmedmebabkjaaDoor
