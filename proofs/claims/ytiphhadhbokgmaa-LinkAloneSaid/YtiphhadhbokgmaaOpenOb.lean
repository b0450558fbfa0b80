/- An argument of type []api.Object, as a list. -/
import Derived.Test.YtiphhadhbokgmaaOpenPairs
import Derived.Test.YtiphhadhbokgmaaLnkA
namespace Go.Proofs.Ytiphhadhbokgmaa
set_option maxRecDepth 100000
open Go.ChangeShapes Go.WideShapes Go.ChangeAt Go.RowKit Go.Deep

theorem plainO_of {w : World} {a : Addr} {v : Value} (h0 : w.cell? a = some v) : a.spot = none ∧ a.block < w.heap.size := by
  obtain ⟨b, off, sp⟩ := a
  unfold World.cell? at h0
  split at h0
  · rename_i hh
    refine ⟨?_, ?_⟩
    · cases sp with
      | none => rfl
      | some q => simp at h0
    · rcases Nat.lt_or_ge b w.heap.size with h | h
      · exact h
      · rw [Array.getElem?_eq_none h] at hh; cases hh
  · cases h0
theorem pairs_at {H : Type} {enc : TypeId × Value → H} {w : World} {base : Nat} {spare : Nat → Bool} {held : Bool} {fuel : Nat} {cs : List Value} {x0 : DataW H × List MemPlace} (hd : DataW.trod enc Try.prog w base spare held fuel 62 cs = some x0) :
    ∃ (A : Option Addr) (cap : Nat) (l : List (Int × Int)), cs = [.slice A l.length cap] ∧ RdP w A l ∧ l.length ≤ maxLen ∧ ∀ p ∈ l, i64In p.1 ∧ i64In p.2 := by
  rcases open_slice Try.underlying62 hd with ⟨h0, _⟩ | ⟨a, len0, cap0, m, n, D, Pl, hcs, hb, hl, hm, hmm, _, hi⟩
  · exact ⟨none, 0, [], h0, Rd.nil_, by simp, by simp⟩
  · have hml : len0 ≤ m := by rw [hmm]; split <;> omega
    have key : ∀ i, i < len0 → ∃ x : Int × Int, (i64In x.1 ∧ i64In x.2) ∧ ∀ j, j < 2 → w.cell? (a.add (i * 2 + j)) = (pairCells x)[j]? := by
      intro i hilt
      obtain ⟨cs', hc, ht'⟩ := hi i (by omega)
      rw [cellsPair] at hc
      obtain ⟨ys, n', hn', hy, hlen, hyl, hf⟩ := DataW.trod_array Try.underlying65 ht'
      rw [cellsPair] at hlen
      obtain ⟨_, hcl, hat⟩ := World.cells?_some hc
      have one : ∀ j, j < 2 → ∃ x : Int, w.cell? (a.add (i * 2 + j)) = some (.int .i64 x) ∧ i64In x := fun j hj => by
        have hcell := hat j hj
        have hv : cs'[j]? = some (cs'[j]'(by omega)) := List.getElem?_eq_getElem (by omega)
        have h1 := hf j hj
        rw [cellsInt] at h1
        have hone' : (cs'.drop (j * 1)).take 1 = [cs'[j]'(by omega)] := by
          rw [Nat.mul_one, List.drop_eq_getElem_cons (by omega)]
          rfl
        rw [hone'] at h1
        have hys : ys[j]? = some (ys[j]'(by omega)) := List.getElem?_eq_getElem (by omega)
        obtain ⟨x, q, _, wx⟩ := DataW.trod_int Try.underlying3 (h1.trans hys)
        simp at q
        refine ⟨x, ?_, wf_i64 wx⟩
        rw [← Go.Deep.add_add, hcell, hv, q]
      obtain ⟨x0, c0, w0⟩ := one 0 (by omega)
      obtain ⟨x1, c1, w1⟩ := one 1 (by omega)
      refine ⟨(x0, x1), ⟨w0, w1⟩, fun j hj => ?_⟩
      match j, hj with
      | 0, _ => simpa [pairCells] using c0
      | 1, _ => simpa [pairCells] using c1
    obtain ⟨l, hlen, hp⟩ := list_of len0 key
    refine ⟨some a, cap0, l, by rw [hlen]; exact hcs, fun hn => ?_, by omega, fun x hx => ?_⟩
    · obtain ⟨b, off, sp⟩ := a
      have hsp : sp = none ∧ b < w.heap.size := by
        have h0 := (hp 0 hn).2 0 (by omega)
        simp [Addr.add, pairCells] at h0
        unfold World.cell? at h0
        split at h0
        · rename_i hh
          refine ⟨?_, ?_⟩
          · cases sp with
            | none => rfl
            | some q => simp at h0
          · rcases Nat.lt_or_ge b w.heap.size with h | h
            · exact h
            · rw [Array.getElem?_eq_none h] at hh; cases hh
        · cases h0
      obtain ⟨rfl, hb'⟩ := hsp
      refine ⟨b, off, rfl, hb', fun k x hkx j hj => ?_⟩
      obtain ⟨hk, rfl⟩ := List.getElem?_eq_some_iff.1 hkx
      rw [← (hp k hk).2 j hj]
      congr 1
      unfold Addr.add
      split
      · rename_i h0; simp at h0 ⊢; try omega
      · simp [Nat.add_assoc]
    · obtain ⟨k, hk, rfl⟩ := List.getElem_of_mem hx
      exact (hp k hk).1
theorem bytes_at {H : Type} {enc : TypeId × Value → H} {w : World} {base : Nat} {spare : Nat → Bool} {held : Bool} {fuel : Nat} {cs : List Value} {x : DataW H × List MemPlace}
    (h : DataW.trod enc Try.prog w base spare held fuel 31 cs = some x) : ∃ (A : Option Addr) (cap : Nat) (l : List Int), cs = [.slice A l.length cap] ∧ RdB w A l ∧ l.length ≤ maxLen ∧ bytesOk l := by
  rcases open_ints Try.underlying31 Try.underlying5 cellsU8 h with ⟨h0, _⟩ | ⟨a, len, cap, zs, hcs, hb, hl, hm, hz, _, hcell, hwf⟩
  · exact ⟨none, 0, [], h0, Rd.nil_, by simp, fun x hx => by cases hx⟩
  · have hlz : len ≤ zs.length := by rw [hz]; split <;> omega
    have hlen : (zs.take len).length = len := by simp; omega
    refine ⟨some a, cap, zs.take len, by rw [hlen]; exact hcs, fun hn => ?_, by omega, fun x hx => wf_u8 (hwf x (List.mem_of_mem_take hx))⟩
    rw [hlen] at hn
    obtain ⟨b, off, sp⟩ := a
    have h0 := hcell 0 (by omega)
    simp [Addr.add] at h0
    obtain ⟨hs, hb'⟩ := plainO_of h0
    simp at hs hb'
    subst hs
    refine ⟨b, off, rfl, hb', fun k x hkx j hj => ?_⟩
    have hj0 : j = 0 := by omega
    subst hj0
    obtain ⟨hk, hx⟩ := List.getElem?_eq_some_iff.1 hkx
    rw [hlen] at hk
    have h1 := hcell k (by omega)
    rw [show ((⟨b, off, none⟩ : Addr).add k) = ⟨b, off + k * 1 + 0, none⟩ from by unfold Addr.add; split <;> simp [*]] at h1
    rw [h1]
    have : zs.getD k 0 = x := by rw [← hx, List.getElem_take, List.getD_eq_getElem?_getD, List.getElem?_eq_getElem (by omega)]; rfl
    rw [this]; rfl
theorem onesOb : ∃ fs : Array Field, Try.prog.underlying 64 = some (.struct fs) ∧ fs.size = 3 ∧ oneCellFields Try.prog fs = true ∧ fs[0]?.map (·.type) = some 31 ∧ fs[1]?.map (·.type) = some 62 ∧ fs[2]?.map (·.type) = some 62 :=
  ⟨_, Try.underlying64, rfl, by kernel_rfl, rfl, rfl, rfl⟩
theorem cellsOb : Try.prog.cellsOf 64 = 3 := by kernel_rfl
def obOk (o : Ob) : Prop := ((∀ h ∈ o.has, i64In h.1) ∧ (∀ h ∈ o.wants, i64In h.1) ∧ bytesOk o.bytes) ∧ o.bytes.length ≤ maxLen ∧ o.has.length ≤ maxLen ∧ o.wants.length ≤ maxLen
theorem ob_at {H : Type} {enc : TypeId × Value → H} {w : World} {base : Nat} {spare : Nat → Bool} {held : Bool} {fuel : Nat} {cs : List Value} {x0 : DataW H × List MemPlace} (hd : DataW.trod enc Try.prog w base spare held fuel 64 cs = some x0) :
    ∃ (A1 A2 A3 : Option Addr) (c1 c2 c3 : Nat) (o : Ob), cs = [.slice A1 o.bytes.length c1, .slice A2 o.has.length c2, .slice A3 o.wants.length c3] ∧ (RdB w A1 o.bytes ∧ RdP w A2 o.has ∧ RdP w A3 o.wants) ∧ obOk o := by
  obtain ⟨fs, hs, hsz, hone, t0, t1, t2⟩ := onesOb
  obtain ⟨xs, n, _, hx0, hl, hlen, hfs⟩ := DataW.trod_struct hs hd
  rw [cellsOb] at hl
  match cs, hl with
  | [c0, c1, c2], _ =>
    have key : ∀ (i : Nat) (t : TypeId) (c : Value), i < 3 → fs[i]?.map (·.type) = some t → [c0, c1, c2][i]? = some c → ∃ y, xs[i]? = some y ∧ DataW.trod enc Try.prog w base spare held n t [c] = some y := by
      intro i t c hi ht hc
      obtain ⟨f, hfi, rfl⟩ := Option.map_eq_some_iff.1 ht
      obtain ⟨o, k⟩ := hone_of hone i f hfi
      have h := hfs i f hfi
      rw [o, k] at h
      have hx : (([c0, c1, c2] : List Value).drop i).take 1 = [c] := by
        match i, hi, hc with
        | 0, _, hc => simp at hc; subst hc; rfl
        | 1, _, hc => simp at hc; subst hc; rfl
        | 2, _, hc => simp at hc; subst hc; rfl
      obtain ⟨y, hy⟩ : ∃ y, xs[i]? = some y := ⟨_, List.getElem?_eq_getElem (by rw [hlen, hsz]; exact hi)⟩
      rw [hy] at h
      exact ⟨y, hy, by rw [← hx]; exact h⟩
    obtain ⟨y0, _, h0⟩ := key 0 _ c0 (by decide) t0 rfl
    obtain ⟨y1, _, h1⟩ := key 1 _ c1 (by decide) t1 rfl
    obtain ⟨y2, _, h2⟩ := key 2 _ c2 (by decide) t2 rfl
    obtain ⟨A1, cap1, l1, e0, hR1, hm1, hw1⟩ := bytes_at h0
    obtain ⟨A2, cap2, l2, e1, hR2, hm2, hw2⟩ := pairs_at h1
    obtain ⟨A3, cap3, l3, e2, hR3, hm3, hw3⟩ := pairs_at h2
    simp at e0 e1 e2
    subst e0 e1 e2
    exact ⟨A1, A2, A3, cap1, cap2, cap3, ⟨l1, l2, l3⟩, rfl, ⟨hR1, hR2, hR3⟩, ⟨fun h hh => (hw2 h hh).1, fun h hh => (hw3 h hh).1, hw1⟩, hm1, hm2, hm3⟩
theorem open_objects {H : Type} {enc : TypeId × Value → H} {w : World} {base b0 : Nat} {spare : Nat → Bool} {held : Bool} {r : Reach} {v : Value} {d : DataW H} {ps : List MemPlace}
    (hval : Value.okWide Try.prog w r b0 56 v) (hd : DataW.Trod enc Try.prog w base spare held 56 v d ps) :
    ∃ (A : Option Addr) (cap : Nat) (l : List Ob), v = .slice A l.length cap ∧ RdOb w A l ∧ l.length ≤ maxLen ∧ ∀ o ∈ l, obOk o := by
  obtain ⟨a0, len0, cap0, rfl⟩ := okWide_slice Try.underlying56 hval
  obtain ⟨fuel, hd⟩ := hd
  rcases open_slice Try.underlying56 hd with ⟨h0, _⟩ | ⟨a, len, cap, m, n, D, Pl, hcs, hb, hl, hm, hmm, hxe, hi⟩
  · simp [Value.cells] at h0
    obtain ⟨rfl, rfl, rfl⟩ := h0
    exact ⟨none, 0, [], rfl, fun hn => absurd hn (by simp), by simp, by simp⟩
  · simp [Value.cells] at hcs
    obtain ⟨rfl, rfl, rfl⟩ := hcs
    have hml : len0 ≤ m := by rw [hmm]; split <;> omega
    have key : ∀ i, i < len0 → ∃ o : Ob, obOk o ∧ ∃ A1 A2 A3 c1 c2 c3, (w.cell? (a.add (i * 3)) = some (.slice A1 o.bytes.length c1) ∧ w.cell? ((a.add (i * 3)).add 1) = some (.slice A2 o.has.length c2) ∧ w.cell? ((a.add (i * 3)).add 2) = some (.slice A3 o.wants.length c3)) ∧ RdB w A1 o.bytes ∧ RdP w A2 o.has ∧ RdP w A3 o.wants := by
      intro i hilt
      obtain ⟨cs', hc, ht'⟩ := hi i (by omega)
      rw [cellsOb] at hc
      obtain ⟨A1, A2, A3, c1, c2, c3, o, h1, h2, h3⟩ := ob_at ht'
      obtain ⟨_, hcl, hat⟩ := World.cells?_some hc
      subst h1
      have e0 := hat 0 (by decide)
      have e1 := hat 1 (by decide)
      have e2 := hat 2 (by decide)
      refine ⟨o, h3, A1, A2, A3, c1, c2, c3, ⟨?_, e1, e2⟩, h2⟩
      rw [show a.add (i * 3) = (a.add (i * 3)).add 0 from by obtain ⟨b, off, sp⟩ := a; cases sp <;> simp [Addr.add]]; exact e0
    obtain ⟨l, hlen, hp⟩ := list_of len0 key
    refine ⟨some a, cap0, l, by rw [hlen], fun hn => ?_, by omega, fun x hx => ?_⟩
    · obtain ⟨b, off, sp⟩ := a
      obtain ⟨-, _, _, _, _, _, _, ⟨h0, _⟩, _⟩ := hp 0 hn
      obtain ⟨hs, hb'⟩ := plainO_of h0
      have hs : sp = none := by cases sp with
        | none => rfl
        | some q => simp [Addr.add] at hs
      subst hs
      have hb' : b < w.heap.size := by simpa [Addr.add] using hb'
      refine ⟨b, off, rfl, hb', fun k x hkx => ?_⟩
      obtain ⟨hk, rfl⟩ := List.getElem?_eq_some_iff.1 hkx
      obtain ⟨-, A1, A2, A3, c1, c2, c3, ⟨h0, h1, h2⟩, h3⟩ := hp k hk
      have ea : ∀ j, (Addr.add ⟨b, off, none⟩ (k * 3)).add j = (⟨b, off + k * 3 + j, none⟩ : Addr) := fun j => by unfold Addr.add; split <;> split <;> simp_all
      have e0 : Addr.add ⟨b, off, none⟩ (k * 3) = (⟨b, off + k * 3, none⟩ : Addr) := by unfold Addr.add; split <;> simp_all
      rw [ea] at h1 h2
      rw [e0] at h0
      exact ⟨A1, c1, A2, c2, A3, c3, h0, h1, h2, h3⟩
    · obtain ⟨k, hk, rfl⟩ := List.getElem_of_mem hx
      exact (hp k hk).1
end Go.Proofs.Ytiphhadhbokgmaa
