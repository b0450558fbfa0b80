/- LinkAlone, plain: what the first object needs, by itself. -/
import Derived.Test.YtiphhadhbokgmaaLnkF
namespace Go.Proofs.Ytiphhadhbokgmaa

theorem lk_of {l : List Ob} (h : OnceL l) {i : Nat} (hi : i < l.length) {p : Int × Int} (hp : p ∈ l[i].has) : ∃ a, lk (entsL l) p.1 = some (i, a) := by
  have hm := mem_entsL hi hp
  cases hv : lk (entsL l) p.1 with
  | none => exact absurd (List.mem_map.2 ⟨_, hm, rfl⟩) (lk_none.1 hv)
  | some v =>
    obtain ⟨j, a⟩ := v
    obtain ⟨hj, q, hq, hqp, -⟩ := lk_at hv
    obtain ⟨k, hk, rfl⟩ := List.getElem_of_mem hp
    obtain ⟨m, hm', rfl⟩ := List.getElem_of_mem hq
    have := (once_iff.1 h i k _ (nm_at hi hk) j m (by rw [nm_at hj hm', hqp])).1
    rw [this]
    exact ⟨a, rfl⟩
/-- A set that has the first object, and with an object those that it wants. -/
def ClL (l : List Ob) (T : Nat → Prop) : Prop := T 0 ∧ ∀ i, i < l.length → T i → ∀ w ∈ (obAt l i).wants, ∀ j a, lk (entsL l) w.1 = some (j, a) → T j
structure NeedS (l : List Ob) (s : Nat) : Prop where
  lt : s < 2 ^ l.length
  cl : 0 < l.length → ClL l fun i => s.testBit i = true
  least : 0 < l.length → ∀ T, ClL l T → ∀ i, s.testBit i = true → T i
def idxS (n s : Nat) : List Nat := (List.range n).filter s.testBit
def ownS (l : List Ob) (s : Nat) : List Ob := (idxS l.length s).map (obAt l)
theorem idxS_mem {n s i : Nat} : i ∈ idxS n s ↔ i < n ∧ s.testBit i = true := by unfold idxS; rw [List.mem_filter, List.mem_range]
theorem idxS_inj {n s q q' : Nat} (hq : q < (idxS n s).length) (hq' : q' < (idxS n s).length) (h : (idxS n s)[q] = (idxS n s)[q']) : q = q' := by
  have hn : (idxS n s).Pairwise (· ≠ ·) := List.Pairwise.filter _ List.nodup_range
  rw [List.pairwise_iff_getElem] at hn
  rcases Nat.lt_trichotomy q q' with h1 | h1 | h1
  · exact absurd h (hn q q' hq hq' h1)
  · exact h1
  · exact absurd h.symm (hn q' q hq' hq h1)
theorem idxS_at {n s i : Nat} (hi : i < n) (hs : s.testBit i = true) : ∃ q, ∃ hq : q < (idxS n s).length, (idxS n s)[q] = i := by
  obtain ⟨q, hq, h⟩ := List.getElem_of_mem (idxS_mem.2 ⟨hi, hs⟩)
  exact ⟨q, hq, h⟩
theorem idxS_zero {n s : Nat} (hn : 0 < n) (hs : s.testBit 0 = true) : ∃ h : 0 < (idxS n s).length, (idxS n s)[0] = 0 := by
  obtain ⟨m, rfl⟩ : ∃ m, n = m + 1 := ⟨n - 1, by omega⟩
  have : idxS (m + 1) s = 0 :: ((List.range m).map Nat.succ).filter s.testBit := by
    unfold idxS
    rw [List.range_succ_eq_map, List.filter_cons_of_pos hs]
  refine ⟨by rw [this]; simp, ?_⟩
  simp [this]
theorem ownS_len (l : List Ob) (s : Nat) : (ownS l s).length = (idxS l.length s).length := by unfold ownS; rw [List.length_map]
theorem ownS_get {l : List Ob} {s q : Nat} (hq : q < (ownS l s).length) (hq' : q < (idxS l.length s).length) : (ownS l s)[q] = obAt l (idxS l.length s)[q] := List.getElem_map (obAt l)
theorem ownS_at {l : List Ob} {s q : Nat} (hq : q < (ownS l s).length) : ∃ (i : Nat) (hi : i < l.length), s.testBit i = true ∧ (∃ hq' : q < (idxS l.length s).length, (idxS l.length s)[q] = i) ∧ (ownS l s)[q] = l[i] := by
  have hq' : q < (idxS l.length s).length := by rw [← ownS_len]; exact hq
  have hm := List.getElem_mem hq'
  obtain ⟨h1, h2⟩ := idxS_mem.1 hm
  refine ⟨_, h1, h2, ⟨hq', rfl⟩, ?_⟩
  rw [ownS_get hq hq', obAt_get h1]
theorem ownS_of {l : List Ob} {s i : Nat} (hi : i < l.length) (hs : s.testBit i = true) : ∃ q, ∃ hq : q < (ownS l s).length, (ownS l s)[q] = l[i] ∧ ∃ hq' : q < (idxS l.length s).length, (idxS l.length s)[q] = i := by
  obtain ⟨q, hq, h⟩ := idxS_at hi hs
  refine ⟨q, by rw [ownS_len]; exact hq, ?_, hq, h⟩
  rw [ownS_get (by rw [ownS_len]; exact hq) hq, h, obAt_get hi]
theorem ownS_mem {l : List Ob} {s : Nat} {o : Ob} (h : o ∈ ownS l s) : o ∈ l := by
  obtain ⟨q, hq, rfl⟩ := List.getElem_of_mem h
  obtain ⟨i, hi, -, -, e⟩ := ownS_at hq
  rw [e]
  exact List.getElem_mem hi
theorem ownS_ok {l : List Ob} (s : Nat) (h : OkL l) : OkL (ownS l s) := by
  refine ⟨?_, fun o ho => h.small o (ownS_mem ho), fun o ho => h.has o (ownS_mem ho), fun o ho => h.wants o (ownS_mem ho), once_iff.2 fun q k x hx q' k' hx' => ?_⟩
  · rw [ownS_len]
    have := List.length_filter_le s.testBit (List.range l.length)
    rw [List.length_range] at this
    have := h.n5
    unfold idxS
    omega
  · obtain ⟨hq, hk, e⟩ := nm_some hx
    obtain ⟨hq', hk', e'⟩ := nm_some hx'
    obtain ⟨i, hi, -, ⟨g, gi⟩, eo⟩ := ownS_at hq
    obtain ⟨i', hi', -, ⟨g', gi'⟩, eo'⟩ := ownS_at hq'
    have n1 : nm l i k = some x := by rw [nm_at hi (by rw [← eo]; exact hk), e]; simp only [eo]
    have n2 : nm l i' k' = some x := by rw [nm_at hi' (by rw [← eo']; exact hk'), e']; simp only [eo']
    obtain ⟨r1, r2⟩ := once_iff.1 h.once i k x n1 i' k' n2
    refine ⟨idxS_inj g' g (by rw [gi', gi, r1]), r2⟩
/-- Where a name that one of those has is, among those. -/
theorem own_lk {l : List Ob} {s : Nat} (h : OkL l) {x : Int} {j : Nat} {a : Int} (hl : lk (entsL l) x = some (j, a)) (hs : s.testBit j = true) : ∃ q a', lk (entsL (ownS l s)) x = some (q, a') ∧ ∃ hq' : q < (idxS l.length s).length, (idxS l.length s)[q] = j := by
  obtain ⟨hj, p, hp, rfl, -⟩ := lk_at hl
  obtain ⟨q, hq, e, hi⟩ := ownS_of hj hs
  obtain ⟨a', h'⟩ := lk_of (ownS_ok s h).once hq (p := p) (by rw [e]; exact hp)
  exact ⟨q, a', h', hi⟩
theorem alone_full {l : List Ob} {s t : Nat} (h : OkL l) (hs : NeedS l s) (ht : NeedS (ownS l s) t) : t = 2 ^ (ownS l s).length - 1 := by
  by_cases h0 : 0 < l.length
  · have hc := hs.cl h0
    obtain ⟨hz, hz0⟩ := idxS_zero h0 hc.1
    have hown : 0 < (ownS l s).length := by rw [ownS_len]; exact hz
    have htc := ht.cl hown
    have key := hs.least h0 (fun i => ∃ q, ∃ hq : q < (idxS l.length s).length, (idxS l.length s)[q] = i ∧ t.testBit q = true) ⟨⟨0, hz, hz0, htc.1⟩, by
      rintro i hi ⟨q, hq, rfl, htq⟩ w hw j a hl
      have hsi := (idxS_mem.1 (List.getElem_mem hq)).2
      have hsj := hc.2 _ hi hsi w hw j a hl
      obtain ⟨q', a', hl', hq', e'⟩ := own_lk h hl hsj
      refine ⟨q', hq', e', htc.2 q (by rw [ownS_len]; exact hq) htq w ?_ q' a' hl'⟩
      rw [obAt_get (by rw [ownS_len]; exact hq), ownS_get (by rw [ownS_len]; exact hq) hq]
      exact hw⟩
    apply Nat.eq_of_testBit_eq
    intro q
    rw [Nat.testBit_two_pow_sub_one]
    by_cases hq : q < (ownS l s).length
    · have hq' : q < (idxS l.length s).length := by rw [← ownS_len]; exact hq
      obtain ⟨q2, hq2, e, htq⟩ := key _ (idxS_mem.1 (List.getElem_mem hq')).2
      have := idxS_inj hq2 hq' e
      rw [← this, htq]
      simp [this, hq]
    · rw [Nat.testBit_lt_two_pow (Nat.lt_of_lt_of_le ht.lt (Nat.pow_le_pow_right (by decide) (by omega)))]
      simp [hq]
  · have : (ownS l s).length = 0 := by
      rw [ownS_len]
      have : l.length = 0 := by omega
      unfold idxS
      rw [this]; rfl
    have h1 := ht.lt
    rw [this] at h1 ⊢
    simp at h1 ⊢
    exact h1
theorem alone_all {l : List Ob} {s : Nat} (h : OkL l) (hs : NeedS l s) (ha : AllL l) : AllL (ownS l s) := by
  intro o ho w hw e
  obtain ⟨q, hq, rfl⟩ := List.getElem_of_mem ho
  obtain ⟨i, hi, hsi, -, eo⟩ := ownS_at hq
  rw [eo] at hw
  have h1 := ha _ (List.getElem_mem hi) w hw
  cases hv : lk (entsL l) w.1 with
  | none => exact h1 hv
  | some v =>
    obtain ⟨j, a⟩ := v
    have hsj := (hs.cl (by omega)).2 i hi hsi w (by rw [obAt_get hi]; exact hw) j a hv
    obtain ⟨q', a', hl', -⟩ := own_lk h hv hsj
    rw [hl'] at e; cases e
end Go.Proofs.Ytiphhadhbokgmaa
