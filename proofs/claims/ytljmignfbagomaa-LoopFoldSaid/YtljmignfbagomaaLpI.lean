/- The plain law of loop.Fold: a way folded node by node. -/
import Derived.Test.YtljmignfbagomaaLpG
namespace Go.Proofs.Ytljmignfbagomaa
open Go.RowKit Go.Shelf

structure FoI (ls : List (List Int)) (l : List Nat) (L : Nat) (F : Nat → Nat) (pi : Nat → Nat) : Prop where
  fix : ∀ j, L.testBit j = true → Rch ls j ∧ pi j = j
  into : ∀ v, Rch ls v → L.testBit (pi v) = true ∧ Dom ls (pi v) v
  ent : ∀ u v, Rch ls u → EdW ls u v → pi u ≠ pi v → v = pi v
  con : ∀ v, Rch ls v → ∀ j, L.testBit j = true → j ≠ pi v → Comes_ ls (j : Int) (pi v) v
  frm : ∀ j, L.testBit j = true → ∀ a, a ≠ j → ((F j).testBit a = true ↔ (L.testBit a = true ∧ ∃ u, Rch ls u ∧ pi u = a ∧ EdW ls u j))
  zero : L.testBit 0 = true
  ret : ∀ t h, Rch ls t → EdW ls t h → pi t = pi h → posD l t ≤ posD l h → Dom ls h t
theorem FoI.start {ls : List (List Int)} {l : List Nat} {L : Nat} {F : Nat → Nat} (hL : ∀ j, L.testBit j = true ↔ Rch ls j) (hF : ∀ j, Rch ls j → ∀ a, (F j).testBit a = true ↔ (Rch ls a ∧ EdW ls a j)) : FoI ls l L F id := by
  refine ⟨fun j h => ⟨(hL j).1 h, rfl⟩, fun v h => ⟨(hL v).2 h, Dom.refl h⟩, fun u v _ _ _ => rfl, fun v _ j _ _ => Comes_.refl _ _ _, fun j hj a _ => ?_, (hL 0).2 (Comes_.refl _ _ _), fun t h hr _ e _ => ?_⟩
  · rw [hF j ((hL j).1 hj), hL]
    exact ⟨fun ⟨h1, h2⟩ => ⟨h1, a, h1, rfl, h2⟩, fun ⟨h1, u, _, e, h2⟩ => ⟨h1, by have e : u = a := e; subst e; exact h2⟩⟩
  · have e : t = h := e
    subst e; exact Dom.refl hr
theorem FoI.self {ls : List (List Int)} {l : List Nat} {L : Nat} {F F' : Nat → Nat} {pi : Nat → Nat} (h : FoI ls l L F pi) (hF : ∀ j a, a ≠ j → (F' j).testBit a = (F j).testBit a) : FoI ls l L F' pi :=
  { h with frm := fun j hj a ha => by rw [hF j a ha]; exact h.frm j hj a ha }
theorem dom_pos {ls : List (List Int)} {l : List Nat} (hL : Left (EdW ls) ls.length l) {b u : Nat} (hu : u ∈ l) (hd : Dom ls b u) : b ∈ l ∧ posD l u ≤ posD l b := by
  have key : ∀ (S : Nat → Prop) a x, PIn (EdW ls) S a x → a ≠ b → ¬ S b → Comes_ ls (b : Int) a x := fun S a x hp => by
    induction hp with
    | refl _ => exact fun _ _ => Comes_.refl _ _ _
    | step hs he _ ih =>
      rename_i a c d h1
      intro hne hS
      have hc : c ≠ b := fun e => hS (e ▸ h1.head)
      exact Comes_.edge_first (edge_wo (edge_edw.2 he) hc) (ih hc hS)
  have h0 := hL.from0 hu
  refine Classical.byContradiction fun hn => ?_
  rcases hd.2 with h | h
  · subst h
    exact hn h0.head
  · by_cases e : (0 : Nat) = b
    · subst e; exact hn h0.head
    · exact h (key _ 0 u h0 e hn)
theorem dom_pos_lt {ls : List (List Int)} {l : List Nat} (hL : Left (EdW ls) ls.length l) {b u : Nat} (hu : u ∈ l) (hd : Dom ls b u) (hne : b ≠ u) : posD l u < posD l b := by
  obtain ⟨hb, h⟩ := dom_pos hL hu hd
  rcases Nat.lt_or_ge (posD l u) (posD l b) with h1 | h1
  · exact h1
  · exact absurd (posD_inj hb hu (by omega)) hne
/-- A way into a region goes by its head. -/
theorem FoI.pass {ls : List (List Int)} {l : List Nat} {L : Nat} {F : Nat → Nat} {pi : Nat → Nat} (h : FoI ls l L F pi) {S : Nat → Prop} {p a b : Nat} (hp : PIn (EdW ls) S a b) : Rch ls a → pi a ≠ p → pi b = p → S p := by
  induction hp with
  | refl hs => intro _ h1 h2; exact absurd h2 h1
  | step hs he h1 ih =>
    rename_i a c d
    intro ha hne hb
    have hc := ha.step (edge_edw.2 he)
    by_cases e : pi c = p
    · have := h.ent _ _ ha he (by rw [e]; exact hne)
      rw [e] at this
      rw [← this]; exact h1.head
    · exact ih hc e hb
/-- All that comes into i comes from p. -/
theorem FoI.pass2 {ls : List (List Int)} {l : List Nat} {L : Nat} {F : Nat → Nat} {pi : Nat → Nat} (h : FoI ls l L F pi) {S : Nat → Prop} {p i a b : Nat} (hone : ∀ u, Rch ls u → EdW ls u i → pi u ≠ i → pi u = p) (hp : PIn (EdW ls) S a b) : Rch ls a → pi a ≠ p → pi a ≠ i → pi b = i → S p := by
  induction hp with
  | refl hs => intro _ _ h1 h2; exact absurd h2 h1
  | step hs he h1 ih =>
    rename_i a c d
    intro ha hne hni hb
    have hc := ha.step (edge_edw.2 he)
    by_cases e : pi c = p
    · have := h.ent _ _ ha he (by rw [e]; exact hne)
      rw [e] at this
      rw [← this]; exact h1.head
    · by_cases e2 : pi c = i
      · have := h.ent _ _ ha he (by rw [e2]; exact hni)
        rw [e2] at this
        subst this
        exact absurd (hone _ ha he hni) hne
      · exact ih hc e e2 hb
theorem FoI.merge {ls : List (List Int)} {l : List Nat} (hL : Left (EdW ls) ls.length l) {L L' : Nat} {F F' : Nat → Nat} {pi : Nat → Nat} (h : FoI ls l L F pi) {i p : Nat} (hi0 : i ≠ 0) (hi : L.testBit i = true) (hp : ∀ a, (F i).testBit a = true ↔ a = p) (hpi : p ≠ i)
    (hL' : ∀ a, L'.testBit a = true ↔ (L.testBit a = true ∧ a ≠ i)) (hF' : ∀ j, j ≠ i → ∀ a, (F' j).testBit a = true ↔ (if (F j).testBit i = true then ((F j).testBit a = true ∧ a ≠ i) ∨ a = p else (F j).testBit a = true)) :
    FoI ls l L' F' fun v => if pi v = i then p else pi v := by
  have hin : ∀ x, Rch ls x → x ∈ l := Comes_.closed hL.mem0 fun b c hb he => hL.closed hb (edge_edw.1 he)
  obtain ⟨hri, hii⟩ := h.fix i hi
  obtain ⟨hpL, u0, hu0, hpu0, he0⟩ := (h.frm i hi p hpi).1 ((hp p).2 rfl)
  have hone : ∀ u, Rch ls u → EdW ls u i → pi u ≠ i → pi u = p := fun u hu he hne => (hp _).1 ((h.frm i hi (pi u) hne).2 ⟨(h.into u hu).1, u, hu, rfl, he⟩)
  obtain ⟨hrp, hpp⟩ := h.fix p hpL
  obtain ⟨_, h00⟩ := h.fix 0 h.zero
  have hpi2 : L'.testBit p = true := (hL' p).2 ⟨hpL, hpi⟩
  have hdp : Dom ls p i := by
    refine ⟨hri, ?_⟩
    by_cases e : p = 0
    · exact .inl e
    · refine .inr fun hc => ?_
      have key : ∀ y, Comes_ ls (p : Int) 0 y → Rch ls y ∧ pi y ≠ p ∧ pi y ≠ i := Comes_.closed ⟨Comes_.refl _ _ _, by rw [h00]; exact Ne.symm e, by rw [h00]; exact Ne.symm hi0⟩ fun b c hb he => by
        obtain ⟨hb0, hb1, hb2⟩ := hb
        have he2 := edge_edw.1 (edge_mono he)
        refine ⟨hb0.step (edge_mono he), fun e1 => ?_, fun e1 => ?_⟩
        · have := h.ent _ _ hb0 he2 (by rw [e1]; exact hb1)
          rw [e1] at this
          exact edge_ne he this
        · have := h.ent _ _ hb0 he2 (by rw [e1]; exact hb2)
          rw [e1] at this
          subst this
          exact hb1 (hone _ hb0 he2 hb2)
      exact (key i hc).2.2 hii
  have hdv : ∀ v, Rch ls v → pi v = i → Dom ls p v := fun v hv e => hdp.trans (e ▸ (h.into v hv).2)
  refine ⟨fun j hj => ?_, fun v hv => ?_, fun u v hu he hne => ?_, fun v hv j hj hne => ?_, fun j hj a ha => ?_, (hL' 0).2 ⟨h.zero, Ne.symm hi0⟩, fun t x ht he e hps => ?_⟩
  · obtain ⟨h1, h2⟩ := (hL' j).1 hj
    obtain ⟨h3, h4⟩ := h.fix j h1
    exact ⟨h3, by rw [h4, if_neg h2]⟩
  · by_cases e : pi v = i
    · simp only [e, if_true]; exact ⟨hpi2, hdv v hv e⟩
    · simp only [e, if_false]; exact ⟨(hL' _).2 ⟨(h.into v hv).1, e⟩, (h.into v hv).2⟩
  · have hne2 : pi u ≠ pi v := fun e => hne (by simp only [e])
    have hv := h.ent u v hu he hne2
    by_cases e : pi v = i
    · rw [e] at hv
      subst hv
      have hui : pi u ≠ v := fun e2 => hne2 (e2.trans e.symm)
      have := hone u hu he hui
      exact absurd (by simp only [e, this, if_true, if_neg hpi]) hne
    · simp only [e, if_false]; exact hv
  · obtain ⟨hj1, hj2⟩ := (hL' j).1 hj
    by_cases e : pi v = i
    · simp only [e, if_true] at hne ⊢
      have c1 := h.con u0 hu0 j hj1 (by rw [hpu0]; exact hne)
      rw [hpu0] at c1
      have c2 := h.con v hv j hj1 (by rw [e]; exact hj2)
      rw [e] at c2
      exact (c1.step (edge_wo (edge_edw.2 he0) (Ne.symm hj2))).trans c2
    · simp only [e, if_false] at hne ⊢
      exact h.con v hv j hj1 hne
  · obtain ⟨hj1, hj2⟩ := (hL' j).1 hj
    rw [hF' j hj2, hL']
    by_cases hb : (F j).testBit i = true
    · rw [if_pos hb]
      obtain ⟨_, u1, hu1, hpu1, he1⟩ := (h.frm j hj1 i (Ne.symm hj2)).1 hb
      constructor
      · rintro (⟨h1, h2⟩ | rfl)
        · obtain ⟨h3, u, hu, hpu, he⟩ := (h.frm j hj1 a ha).1 h1
          exact ⟨⟨h3, h2⟩, u, hu, by simp only [hpu, if_neg h2], he⟩
        · exact ⟨⟨hpL, hpi⟩, u1, hu1, by simp only [hpu1, if_true], he1⟩
      · rintro ⟨⟨h3, h2⟩, u, hu, hpu, he⟩
        by_cases e : pi u = i
        · simp only [e, if_true] at hpu; exact .inr hpu.symm
        · simp only [e, if_false] at hpu; exact .inl ⟨(h.frm j hj1 a ha).2 ⟨h3, u, hu, hpu, he⟩, h2⟩
    · rw [if_neg hb, h.frm j hj1 a ha]
      constructor
      · rintro ⟨h3, u, hu, hpu, he⟩
        have h2 : a ≠ i := fun e => hb ((h.frm j hj1 i (Ne.symm hj2)).2 ⟨hi, u, hu, hpu.trans e, he⟩)
        exact ⟨⟨h3, h2⟩, u, hu, by simp only [hpu, if_neg h2], he⟩
      · rintro ⟨⟨h3, h2⟩, u, hu, hpu, he⟩
        by_cases e : pi u = i
        · exact absurd ((h.frm j hj1 i (Ne.symm hj2)).2 ⟨hi, u, hu, e, he⟩) hb
        · simp only [e, if_false] at hpu; exact ⟨h3, u, hu, hpu, he⟩
  · by_cases e1 : pi t = i
    · by_cases e2 : pi x = i
      · exact h.ret t x ht he (e1.trans e2.symm) hps
      · simp only [e1, e2, if_true, if_false] at e
        have := h.ent t x ht he (by rw [e1]; exact Ne.symm e2)
        rw [this, ← e]
        exact hdv t ht e1
    · by_cases e2 : pi x = i
      · exfalso
        simp only [e1, e2, if_true, if_false] at e
        have hx := h.ent t x ht he (by rw [e2]; exact e1)
        rw [e2] at hx
        subst hx
        have b1 := h.pass (hL.back (hin t ht) he hps) hri (by rw [hii]; exact Ne.symm hpi) e
        have b2 : posD l x ≤ posD l p := by
          by_cases e0 : p = 0
          · rw [e0]; exact (hL.from0 (hin x hri)).head.2
          · exact (h.pass2 hone (hL.from0 (hin x hri)) (Comes_.refl _ _ _) (by rw [h00]; exact Ne.symm e0) (by rw [h00]; exact Ne.symm hi0) hii).2
        exact hpi (posD_inj b1.1 (hin x hri) (by omega))
      · simp only [e1, e2, if_false] at e
        exact h.ret t x ht he e hps
end Go.Proofs.Ytljmignfbagomaa
