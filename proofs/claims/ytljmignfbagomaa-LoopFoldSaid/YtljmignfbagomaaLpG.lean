/- The plain law of LoopRound. -/
import Derived.Test.YtljmignfbagomaaLpF
import Derived.Test.YtljmignfbagomaaWalkE
namespace Go.Proofs.Ytljmignfbagomaa
open Go.RowKit Go.Shelf

/-- A way from i to h, i not h: its last pair into h, reached without h. -/
theorem last_step {ls : List (List Int)} {i h : Nat} (hne : i ≠ h) (hc : Comes_ ls (-1) i h) : ∃ t, Comes_ ls (h : Int) i t ∧ EdW ls t h := by
  have key : ∀ x, Comes_ ls (-1) i x → (Comes_ ls (h : Int) i x ∨ ∃ t, Comes_ ls (h : Int) i t ∧ EdW ls t h) := Comes_.closed (.inl (Comes_.refl _ _ _)) fun b c hb he => by
    rcases hb with hb | hb
    · by_cases e : c = h
      · subst e; exact .inr ⟨b, hb, edge_edw.1 he⟩
      · exact .inl (hb.step (edge_wo he e))
    · exact .inr hb
  rcases key h hc with h1 | h1
  · refine absurd h1 fun hc2 => ?_
    have key2 : ∀ x, Comes_ ls (h : Int) i x → x ≠ h := Comes_.closed hne fun b c _ he => edge_ne he
    exact key2 h hc2 rfl
  · exact h1
/-- Of a part the one that is left last. -/
theorem part_top (l : List Nat) (p : Nat → Prop) : ∀ n, (∃ a, a < n ∧ p a) → ∃ h, h < n ∧ p h ∧ ∀ a, a < n → p a → posD l a ≤ posD l h
  | 0, ⟨a, ha, _⟩ => by omega
  | n + 1, ⟨a, ha, hp⟩ => by
    by_cases hex : ∃ a, a < n ∧ p a
    · obtain ⟨h, h1, h2, h3⟩ := part_top l p n hex
      by_cases hn : p n ∧ posD l h < posD l n
      · refine ⟨n, by omega, hn.1, fun a ha hp => ?_⟩
        by_cases e : a = n
        · subst e; exact Nat.le_refl _
        · have := h3 a (by omega) hp; omega
      · refine ⟨h, by omega, h2, fun a ha hp => ?_⟩
        by_cases e : a = n
        · subst e; exact Nat.not_lt.1 fun hlt => hn ⟨hp, hlt⟩
        · exact h3 a (by omega) hp
    · have e : a = n := Classical.byContradiction fun hne => hex ⟨a, by omega, hp⟩
      subst e
      refine ⟨a, by omega, hp, fun b hb hpb => ?_⟩
      by_cases e : b = a
      · subst e; exact Nat.le_refl _
      · exact absurd ⟨b, by omega, hpb⟩ hex
theorem round_loop {ls : List (List Int)} (h1 : 1 ≤ ls.length) (h8 : ls.length ≤ 8) (hv : Valid ls) (hL : Left (EdW ls) ls.length (walkL ls)) {bk : List (Int × Int)} (hbk : BkAll ls bk)
    {i : Nat} (hi : i < ls.length) (ht : ∀ t h : Nat, ((t : Int), (h : Int)) ∈ bk → Dom ls h t) (hr : Rnd ls i) : ∃ h, h < ls.length ∧ lpP ls bk h i := by
  obtain ⟨hr0, hc⟩ := hr
  have hri : Rch ls i := ((fromS_bit h8 hv (by omega) i).1 hr0).2
  have hin : ∀ x, Rch ls x → x ∈ walkL ls := Comes_.closed hL.mem0 fun b c hb he => hL.closed hb (edge_edw.1 he)
  have hmk : ∀ t h : Nat, Rch ls t → EdW ls t h → posD (walkL ls) t ≤ posD (walkL ls) h → ((t : Int), (h : Int)) ∈ bk := fun t h hrt he hp => by
    have hrh : Rch ls h := hrt.step (edge_edw.2 he)
    refine (hbk _).2 ⟨t, h, rfl, hL.lt t (hin t hrt), hL.lt h (hin h hrh), ?_, ?_, he.2⟩
    · rw [posI_in (hin t hrt)]; omega
    · rw [posI_in (hin t hrt), posI_in (hin h hrh)]; omega
  rcases hc with hc | hc
  · obtain ⟨j, hj, hne, hb⟩ := (size_more (partS_self h8 hi) (by omega)).1 hc
    obtain ⟨hjn, c1, c2⟩ := (partS_bit h8 i j).1 hb
    obtain ⟨h, hh, ⟨p1, p2⟩, hmax⟩ := part_top (walkL ls) (fun a => Comes_ ls (-1) i a ∧ Comes_ ls (-1) a i) ls.length ⟨i, hi, Comes_.refl _ _ _, Comes_.refl _ _ _⟩
    by_cases e : i = h
    · subst e
      obtain ⟨t, q1, q2⟩ := last_step hne c2
      have q1' := comes_mono q1
      have hti : Comes_ ls (-1) t i := (Comes_.refl _ _ _).step (edge_edw.2 q2)
      have hrt : Rch ls t := hri.trans (c1.trans q1')
      have hm := hmk t i hrt q2 (hmax t q2.1 ⟨c1.trans q1', hti⟩)
      exact ⟨i, hi, t, hm, ht t i hm, .head⟩
    · obtain ⟨t, q1, q2⟩ := last_step e p1
      have q1' := comes_mono q1
      have hti : Comes_ ls (-1) t i := ((Comes_.refl _ _ _).step (edge_edw.2 q2)).trans p2
      have hrt : Rch ls t := hri.trans q1'
      have hm := hmk t h hrt q2 (hmax t q2.1 ⟨q1', hti⟩)
      exact ⟨h, hh, t, hm, ht t h hm, NatL.pull hri q1 .tail⟩
  · have hm := hmk i i hri ⟨hi, hc⟩ (Nat.le_refl _)
    exact ⟨i, hi, i, hm, ht i i hm, .head⟩
theorem NatL.comes {ls : List (List Int)} {h t a : Nat} (he : EdW ls t h) (hn : NatL ls h t a) : Comes_ ls (-1) a h := by
  induction hn with
  | head => exact Comes_.refl _ _ _
  | tail => exact (Comes_.refl _ _ _).step (edge_edw.2 he)
  | back hb hbj hr hm ih => exact Comes_.edge_first (edge_edw.2 ⟨getD_lt hm, hm⟩) ih
theorem dom_comes {ls : List (List Int)} {h x : Nat} (hx : Dom ls h x) : Comes_ ls (-1) h x := by
  by_cases e : x = h
  · subst e; exact Comes_.refl _ _ _
  · have key : ∀ y, Comes_ ls (-1) 0 y → (Comes_ ls (h : Int) 0 y ∨ Comes_ ls (-1) h y) := Comes_.closed (.inl (Comes_.refl _ _ _)) fun b c hb he => by
      rcases hb with hb | hb
      · by_cases e : c = h
        · subst e; exact .inr (Comes_.refl _ _ _)
        · exact .inl (hb.step (edge_wo he e))
      · exact .inr (hb.step he)
    rcases key x hx.1 with h1 | h1
    · rcases hx.2 with h0 | h0
      · subst h0; exact hx.1
      · exact absurd h1 h0
    · exact h1
theorem loop_round {ls : List (List Int)} (h1 : 1 ≤ ls.length) (h8 : ls.length ≤ 8) (hv : Valid ls) {bk : List (Int × Int)} (hbk : BkAll ls bk)
    {i h : Nat} (hp : lpP ls bk h i) : Rnd ls i := by
  obtain ⟨t, hm, hd, hn⟩ := hp
  obtain ⟨t', h', e, ht, hh, hbp⟩ := (hbk _).1 hm
  injection e with e1 e2
  have e1 : t = t' := by omega
  have e2 : h = h' := by omega
  subst e1 e2
  have he : EdW ls t h := ⟨ht, hbp.2.2⟩
  have hdi := NatL.dom hd hn
  have hil := Rch.lt h1 hv hdi.1
  have hhi := dom_comes hdi
  have hih := NatL.comes he hn
  refine ⟨(fromS_bit h8 hv (by omega) i).2 ⟨by omega, hdi.1⟩, ?_⟩
  have big : ∀ j, j ≠ i → j < ls.length → Comes_ ls (-1) i j → Comes_ ls (-1) j i → 1 < sizeN (partS ls i) := fun j hne hj a b =>
    (size_more (partS_self h8 hil) (by omega)).2 ⟨j, by omega, hne, (partS_bit h8 i j).2 ⟨hj, a, b⟩⟩
  by_cases e : h = i
  · subst e
    by_cases e2 : t = h
    · subst e2; exact .inr he.2
    · exact .inl (big t e2 ht (dom_comes hd) ((Comes_.refl _ _ _).step (edge_edw.2 he)))
  · exact .inl (big h e hh hih hhi)
theorem lp_depth {ls : List (List Int)} (bk : List (Int × Int)) {i : Nat} (hi : i < ls.length) (h8 : ls.length ≤ 8) : dsum (lpR ls bk) i ≠ 0 ↔ ∃ h, h < ls.length ∧ lpP ls bk h i := by
  rw [dsum_pos]
  constructor
  · rintro ⟨s, hs, hb⟩
    obtain ⟨h, hh, rfl⟩ := List.getElem_of_mem hs
    rw [lpR_get, setN_bit] at hb
    exact ⟨h, by rw [lpR_len] at hh; exact hh, hb.2⟩
  · rintro ⟨h, hh, hp⟩
    refine ⟨_, List.getElem_mem (by rw [lpR_len]; exact hh : h < (lpR ls bk).length), ?_⟩
    rw [lpR_get, setN_bit]
    exact ⟨by omega, hp⟩
theorem bk_same {ls : List (List Int)} {b1 b2 : List (Int × Int)} (h1 : BkAll ls b1) (h2 : BkAll ls b2) (p : Int × Int) : p ∈ b1 ↔ p ∈ b2 := (h1 p).trans (h2 p).symm
end Go.Proofs.Ytljmignfbagomaa
