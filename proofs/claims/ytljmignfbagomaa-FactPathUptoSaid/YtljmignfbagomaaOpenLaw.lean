/- An argument of type api.Law, by value. -/
import Derived.Test.YtljmignfbagomaaOpenWay
import Derived.Test.YtljmignfbagomaaFacA
import Derived.Lib.SmallJoins
namespace Go.Proofs.Ytljmignfbagomaa
open Go.ChangeShapes Go.WideShapes Go.ChangeAt Go.RowKit Go.Deep

theorem cellsU32 : Try.prog.cellsOf 29 = 1 := by kernel_rfl
/-- The cells of a slice of words, read. -/
theorem words_at {H : Type} {enc : TypeId × Value → H} {w : World} {base : Nat} {spare : Nat → Bool} {held : Bool} {fuel : Nat} {cs : List Value} {x : DataW H × List MemPlace}
    (h : DataW.trod enc Try.prog w base spare held fuel 23 cs = some x) : ∃ (A : Option Addr) (cap : Nat) (l : List Nat), cs = [.slice A l.length cap] ∧ RdU w A l ∧ l.length ≤ maxLen ∧ ∀ x ∈ l, x < 4294967296 := by
  rcases open_ints Try.underlying23 Try.underlying29 cellsU32 h with ⟨h0, _⟩ | ⟨a, len, cap, zs, hcs, hb, hl, hm, hz, _, hcell, hwf⟩
  · exact ⟨none, 0, [], h0, Rd.nil_, by simp, fun x hx => by cases hx⟩
  · have hlz : len ≤ zs.length := by rw [hz]; split <;> omega
    have hlen : ((zs.take len).map Int.toNat).length = len := by simp; omega
    have hbd : ∀ z ∈ zs, 0 ≤ z ∧ z < 4294967296 := fun z hz => by
      exact wf_u32 (hwf z hz)
    refine ⟨some a, cap, (zs.take len).map Int.toNat, by rw [hlen]; exact hcs, fun hn => ?_, by omega, fun x hx => ?_⟩
    · rw [hlen] at hn
      obtain ⟨b, off, sp⟩ := a
      have h0 := hcell 0 (by omega)
      simp [Addr.add] at h0
      obtain ⟨hs, hb'⟩ := plain_of h0
      simp at hs hb'
      subst hs
      refine ⟨b, off, rfl, hb', fun k x hkx j hj => ?_⟩
      have hj0 : j = 0 := by omega
      subst hj0
      obtain ⟨hk, hx⟩ := List.getElem?_eq_some_iff.1 hkx
      rw [hlen] at hk
      have h1 := hcell k (by omega)
      rw [show ((⟨b, off, none⟩ : Addr).add k) = ⟨b, off + k * 1 + 0, none⟩ from by unfold Addr.add; split <;> simp [*]] at h1
      rw [h1]
      have hzk : zs.getD k 0 = zs[k]'(by omega) := by rw [List.getD_eq_getElem?_getD, List.getElem?_eq_getElem (by omega)]; rfl
      have : zs.getD k 0 = (x : Int) := by
        rw [← hx, hzk]
        have := (hbd _ (List.getElem_mem (show k < zs.length by omega))).1
        simp only [List.getElem_map, List.getElem_take]
        omega
      rw [this]; rfl
    · obtain ⟨z, hz', rfl⟩ := List.mem_map.1 hx
      have := hbd z (List.mem_of_mem_take hz')
      omega
theorem onesLaw : ∃ fs : Array Field, Try.prog.underlying 58 = some (.struct fs) ∧ fs.size = 5 ∧ oneCellFields Try.prog fs = true ∧ fs[0]?.map (·.type) = some 4 ∧ fs[1]?.map (·.type) = some 4 ∧ fs[2]?.map (·.type) = some 23 ∧ fs[3]?.map (·.type) = some 23 ∧ fs[4]?.map (·.type) = some 29 :=
  ⟨_, Try.underlying58, rfl, by kernel_rfl, rfl, rfl, rfl, rfl, rfl⟩
theorem cellsLaw : Try.prog.cellsOf 58 = 5 := by kernel_rfl
theorem array5 {α : Type} {cs : Array α} (h : cs.size = 5) : ∃ c0 c1 c2 c3 c4, cs = #[c0, c1, c2, c3, c4] := by
  obtain ⟨l⟩ := cs
  match l, h with
  | [c0, c1, c2, c3, c4], _ => exact ⟨c0, c1, c2, c3, c4, rfl⟩
theorem open_Law {H : Type} {enc : TypeId × Value → H} {w : World} {base b0 : Nat} {spare : Nat → Bool} {held : Bool} {r : Reach} {v : Value} {d : DataW H} {ps : List MemPlace}
    (hval : Value.okWide Try.prog w r b0 58 v) (hd : DataW.Trod enc Try.prog w base spare held 58 v d ps) :
    ∃ s : Option Addr × Nat × Option Addr × Nat × LawD, v = .agg #[.bool s.2.2.2.2.back, .bool s.2.2.2.2.all, .slice s.1 s.2.2.2.2.makes.length s.2.1, .slice s.2.2.1 s.2.2.2.2.ends.length s.2.2.2.1, .int .u32 (s.2.2.2.2.start : Nat)] ∧ RdL w s.1 s.2.2.1 s.2.2.2.2 ∧ s.2.2.2.2.makes.length ≤ maxLen ∧ s.2.2.2.2.ends.length ≤ maxLen := by
  obtain ⟨fs, hs, hsz, hone, t0, t1, t2, t3, t4⟩ := onesLaw
  obtain ⟨cs, rfl, hcz⟩ := okWide_struct hs hval
  obtain ⟨c0, c1, c2, c3, c4, rfl⟩ := array5 (hcz.trans cellsLaw)
  obtain ⟨fuel, hf⟩ := hd
  obtain ⟨xs, n, _, _, hl, hlen, hfs⟩ := DataW.trod_struct hs hf
  have key : ∀ (i : Nat) (t : TypeId) (c : Value), i < 5 → fs[i]?.map (·.type) = some t → [c0, c1, c2, c3, c4][i]? = some c → ∃ y, DataW.trod enc Try.prog w base spare held n t [c] = some y := by
    intro i t c hi ht hc
    obtain ⟨f, hfi, rfl⟩ := Option.map_eq_some_iff.1 ht
    obtain ⟨o, k⟩ := hone_of hone i f hfi
    have h := hfs i f hfi
    rw [o, k] at h
    have hx : (([c0, c1, c2, c3, c4] : List Value).drop i).take 1 = [c] := by
      match i, hi, hc with
      | 0, _, hc => simp at hc; subst hc; rfl
      | 1, _, hc => simp at hc; subst hc; rfl
      | 2, _, hc => simp at hc; subst hc; rfl
      | 3, _, hc => simp at hc; subst hc; rfl
      | 4, _, hc => simp at hc; subst hc; rfl
    obtain ⟨y, hy⟩ : ∃ y, xs[i]? = some y := ⟨_, List.getElem?_eq_getElem (by rw [hlen, hsz]; exact hi)⟩
    rw [hy] at h
    exact ⟨y, by rw [← hx]; simpa [Value.cells] using h⟩
  obtain ⟨y0, h0⟩ := key 0 _ c0 (by decide) t0 rfl
  obtain ⟨y1, h1⟩ := key 1 _ c1 (by decide) t1 rfl
  obtain ⟨y2, h2⟩ := key 2 _ c2 (by decide) t2 rfl
  obtain ⟨y3, h3⟩ := key 3 _ c3 (by decide) t3 rfl
  obtain ⟨y4, h4⟩ := key 4 _ c4 (by decide) t4 rfl
  obtain ⟨b0', e0, _⟩ := DataW.trod_bool Try.underlying4 h0
  obtain ⟨b1', e1, _⟩ := DataW.trod_bool Try.underlying4 h1
  obtain ⟨A, ca, m, e2, hm, hm1, hm2⟩ := words_at h2
  obtain ⟨B, cb, e, e3, he, he1, he2⟩ := words_at h3
  obtain ⟨z, e4, _, hz⟩ := DataW.trod_int Try.underlying29 h4
  simp at e0 e1 e2 e3 e4
  subst e0 e1 e2 e3 e4
  have hzb : 0 ≤ z ∧ z < 4294967296 := wf_u32 hz
  refine ⟨(A, ca, B, cb, ⟨b0', b1', m, e, z.toNat⟩), ?_, ⟨hm, he, by show z.toNat < _; omega, hm2, he2⟩, hm1, he1⟩
  show Value.agg #[_, _, _, _, Value.int .u32 z] = Value.agg #[_, _, _, _, Value.int .u32 ((z.toNat : Nat) : Int)]
  rw [show ((z.toNat : Nat) : Int) = z by omega]
end Go.Proofs.Ytljmignfbagomaa
