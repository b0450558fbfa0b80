/- An argument of type [][]int, as a list of lists. -/
import Derived.Test.YtljmignfbagomaaRow
import Derived.Test.YtljmignfbagomaaWayA
namespace Go.Proofs.Ytljmignfbagomaa
open Go.ChangeShapes Go.WideShapes Go.ChangeAt Go.RowKit Go.Deep

theorem plain_of {w : World} {a : Addr} {v : Value} (h0 : w.cell? a = some v) : a.spot = none ∧ a.block < w.heap.size := by
  obtain ⟨b, off, sp⟩ := a
  unfold World.cell? at h0
  split at h0
  · rename_i hh
    refine ⟨?_, ?_⟩
    · cases sp with
      | none => rfl
      | some q => simp at h0
    · rcases Nat.lt_or_ge b w.heap.size with h | h
      · exact h
      · rw [Array.getElem?_eq_none h] at hh; cases hh
  · cases h0
/-- The cells of a slice of ints, read. -/
theorem ints_at {H : Type} {enc : TypeId × Value → H} {w : World} {base : Nat} {spare : Nat → Bool} {held : Bool} {fuel : Nat} {cs : List Value} {x : DataW H × List MemPlace}
    (h : DataW.trod enc Try.prog w base spare held fuel 32 cs = some x) : ∃ (A : Option Addr) (cap : Nat) (l : List Int), cs = [.slice A l.length cap] ∧ RdI w A l := by
  rcases open_ints Try.underlying32 Try.underlying3 cellsInt h with ⟨h0, _⟩ | ⟨a, len, cap, zs, hcs, hb, hl, hm, hz, _, hcell, hwf⟩
  · exact ⟨none, 0, [], h0, Rd.nil_⟩
  · have hlz : len ≤ zs.length := by rw [hz]; split <;> omega
    have hlen : (zs.take len).length = len := by simp; omega
    refine ⟨some a, cap, zs.take len, by rw [hlen]; exact hcs, fun hn => ?_⟩
    rw [hlen] at hn
    obtain ⟨b, off, sp⟩ := a
    have h0 := hcell 0 (by omega)
    simp [Addr.add] at h0
    obtain ⟨hs, hb'⟩ := plain_of h0
    simp at hs hb'
    subst hs
    refine ⟨b, off, rfl, hb', fun k x hkx j hj => ?_⟩
    have hj0 : j = 0 := by omega
    subst hj0
    obtain ⟨hk, hx⟩ := List.getElem?_eq_some_iff.1 hkx
    rw [hlen] at hk
    have h1 := hcell k (by omega)
    rw [show ((⟨b, off, none⟩ : Addr).add k) = ⟨b, off + k * 1 + 0, none⟩ from by unfold Addr.add; split <;> simp [*]] at h1
    rw [h1]
    have : zs.getD k 0 = x := by rw [← hx, List.getElem_take, List.getD_eq_getElem?_getD, List.getElem?_eq_getElem (by omega)]; rfl
    rw [this]; rfl
theorem cellsInts : Try.prog.cellsOf 32 = 1 := by kernel_rfl
theorem open_ways {H : Type} {enc : TypeId × Value → H} {w : World} {base b0 : Nat} {spare : Nat → Bool} {held : Bool} {r : Reach} {v : Value} {d : DataW H} {ps : List MemPlace}
    (hval : Value.okWide Try.prog w r b0 22 v) (hd : DataW.Trod enc Try.prog w base spare held 22 v d ps) :
    ∃ (A : Option Addr) (cap : Nat) (l : List (List Int)), v = .slice A l.length cap ∧ RdN w A l ∧ l.length ≤ maxLen ∧ True := by
  obtain ⟨a0, len0, cap0, rfl⟩ := okWide_slice Try.underlying22 hval
  obtain ⟨fuel, hd⟩ := hd
  rcases open_slice Try.underlying22 hd with ⟨h0, _⟩ | ⟨a, len, cap, m, n, D, Pl, hcs, hb, hl, hm, hmm, _, hi⟩
  · simp [Value.cells] at h0
    obtain ⟨rfl, rfl, rfl⟩ := h0
    exact ⟨none, 0, [], rfl, fun hn => absurd hn (by simp), by simp, trivial⟩
  · simp [Value.cells] at hcs
    obtain ⟨rfl, rfl, rfl⟩ := hcs
    have hml : len0 ≤ m := by rw [hmm]; split <;> omega
    have key : ∀ i, i < len0 → ∃ l : List Int, ∃ A' cap', w.cell? (a.add i) = some (.slice A' l.length cap') ∧ RdI w A' l := by
      intro i hilt
      obtain ⟨cs', hc, ht'⟩ := hi i (by omega)
      rw [cellsInts, Nat.mul_one] at hc
      obtain ⟨A', cap', l, h1, h2⟩ := ints_at ht'
      obtain ⟨_, hcl, hat⟩ := World.cells?_some hc
      have := hat 0 (by decide)
      rw [h1] at this
      refine ⟨l, A', cap', ?_, h2⟩
      rw [show a.add i = (a.add i).add 0 from by obtain ⟨b, off, sp⟩ := a; cases sp <;> simp [Addr.add], this]; rfl
    obtain ⟨l, hlen, hp⟩ := list_of len0 key
    refine ⟨some a, cap0, l, by rw [hlen], fun hn => ?_, by omega, trivial⟩
    obtain ⟨b, off, sp⟩ := a
    obtain ⟨A', cap', h0, _⟩ := hp 0 hn
    obtain ⟨hs, hb'⟩ := plain_of h0
    have hs : sp = none := by cases sp with
      | none => rfl
      | some q => simp [Addr.add] at hs
    subst hs
    have hb' : b < w.heap.size := by simpa [Addr.add] using hb'
    refine ⟨b, off, rfl, hb', fun k x hkx => ?_⟩
    obtain ⟨hk, rfl⟩ := List.getElem?_eq_some_iff.1 hkx
    obtain ⟨A', cap', h1, h2⟩ := hp k hk
    refine ⟨A', cap', ?_, h2⟩
    rw [← h1]
    congr 1
    unfold Addr.add
    split <;> simp [*]
end Go.Proofs.Ytljmignfbagomaa
