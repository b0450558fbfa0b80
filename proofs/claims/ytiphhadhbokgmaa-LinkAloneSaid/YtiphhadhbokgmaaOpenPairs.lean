/- An argument of type [][2]int as a list of pairs. -/
import Derived.Test.YtiphhadhbokgmaaRow
import Derived.Test.YtiphhadhbokgmaaPairs
import Derived.OpenShut
namespace Go.Proofs.Ytiphhadhbokgmaa
open Go.ChangeShapes Go.WideShapes Go.ChangeAt Go.RowKit Go.Deep

theorem cellsPair : Try.prog.cellsOf 65 = 2 := by kernel_rfl
theorem open_pairs {H : Type} {enc : TypeId × Value → H} {w : World} {base b0 : Nat} {spare : Nat → Bool} {held : Bool} {r : Reach} {v : Value} {d : DataW H} {ps : List MemPlace}
    (hval : Value.okWide Try.prog w r b0 62 v) (hd : DataW.Trod enc Try.prog w base spare held 62 v d ps) :
    ∃ (A : Option Addr) (cap : Nat) (l : List (Int × Int)), v = .slice A l.length cap ∧ RdP w A l ∧ l.length ≤ maxLen ∧ ∀ p ∈ l, i64In p.1 ∧ i64In p.2 := by
  obtain ⟨a0, len0, cap0, rfl⟩ := okWide_slice Try.underlying62 hval
  obtain ⟨fuel, hd⟩ := hd
  rcases open_slice Try.underlying62 hd with ⟨h0, _⟩ | ⟨a, len, cap, m, n, D, Pl, hcs, hb, hl, hm, hmm, _, hi⟩
  · simp [Value.cells] at h0
    obtain ⟨rfl, rfl, rfl⟩ := h0
    exact ⟨none, 0, [], rfl, Rd.nil_, by simp, by simp⟩
  · simp [Value.cells] at hcs
    obtain ⟨rfl, rfl, rfl⟩ := hcs
    have hml : len0 ≤ m := by rw [hmm]; split <;> omega
    have key : ∀ i, i < len0 → ∃ x : Int × Int, (i64In x.1 ∧ i64In x.2) ∧ ∀ j, j < 2 → w.cell? (a.add (i * 2 + j)) = (pairCells x)[j]? := by
      intro i hilt
      obtain ⟨cs', hc, ht'⟩ := hi i (by omega)
      rw [cellsPair] at hc
      obtain ⟨ys, n', hn', hy, hlen, hyl, hf⟩ := DataW.trod_array Try.underlying65 ht'
      rw [cellsPair] at hlen
      obtain ⟨_, hcl, hat⟩ := World.cells?_some hc
      have one : ∀ j, j < 2 → ∃ x : Int, w.cell? (a.add (i * 2 + j)) = some (.int .i64 x) ∧ i64In x := fun j hj => by
        have hcell := hat j hj
        have hv : cs'[j]? = some (cs'[j]'(by omega)) := List.getElem?_eq_getElem (by omega)
        have h1 := hf j hj
        rw [cellsInt] at h1
        have hone' : (cs'.drop (j * 1)).take 1 = [cs'[j]'(by omega)] := by
          rw [Nat.mul_one, List.drop_eq_getElem_cons (by omega)]
          rfl
        rw [hone'] at h1
        have hys : ys[j]? = some (ys[j]'(by omega)) := List.getElem?_eq_getElem (by omega)
        obtain ⟨x, q, _, wx⟩ := DataW.trod_int Try.underlying3 (h1.trans hys)
        simp at q
        refine ⟨x, ?_, wf_i64 wx⟩
        rw [← Go.Deep.add_add, hcell, hv, q]
      obtain ⟨x0, c0, w0⟩ := one 0 (by omega)
      obtain ⟨x1, c1, w1⟩ := one 1 (by omega)
      refine ⟨(x0, x1), ⟨w0, w1⟩, fun j hj => ?_⟩
      match j, hj with
      | 0, _ => simpa [pairCells] using c0
      | 1, _ => simpa [pairCells] using c1
    obtain ⟨l, hlen, hp⟩ := list_of len0 key
    refine ⟨some a, cap0, l, by rw [hlen], fun hn => ?_, by omega, fun x hx => ?_⟩
    · obtain ⟨b, off, sp⟩ := a
      have hsp : sp = none ∧ b < w.heap.size := by
        have h0 := (hp 0 hn).2 0 (by omega)
        simp [Addr.add, pairCells] at h0
        unfold World.cell? at h0
        split at h0
        · rename_i hh
          refine ⟨?_, ?_⟩
          · cases sp with
            | none => rfl
            | some q => simp at h0
          · rcases Nat.lt_or_ge b w.heap.size with h | h
            · exact h
            · rw [Array.getElem?_eq_none h] at hh; cases hh
        · cases h0
      obtain ⟨rfl, hb'⟩ := hsp
      refine ⟨b, off, rfl, hb', fun k x hkx j hj => ?_⟩
      obtain ⟨hk, rfl⟩ := List.getElem?_eq_some_iff.1 hkx
      rw [← (hp k hk).2 j hj]
      congr 1
      unfold Addr.add
      split
      · rename_i h0; simp at h0 ⊢; try omega
      · simp [Nat.add_assoc]
    · obtain ⟨k, hk, rfl⟩ := List.getElem_of_mem hx
      exact (hp k hk).1
end Go.Proofs.Ytiphhadhbokgmaa
