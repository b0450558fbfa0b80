/- Moves at once, one by one: plain law. -/
namespace Go.Proofs.Ytiphhadhbokgmaa

theorem nodup_sub_lenS {α : Type} : ∀ {l m : List α}, l.Nodup → (∀ x ∈ l, x ∈ m) → l.length ≤ m.length
  | [], _, _, _ => by simp
  | a :: l, m, hn, hs => by
    rw [List.nodup_cons] at hn
    obtain ⟨p, q, rfl⟩ := List.append_of_mem (hs a (by simp))
    have : l.length ≤ (p ++ q).length := nodup_sub_lenS hn.2 fun x hx => by
      have h1 := hs x (by simp [hx])
      have h2 : x ≠ a := fun e => hn.1 (e ▸ hx)
      simp only [List.mem_append, List.mem_cons] at h1 ⊢
      rcases h1 with h | h | h
      · exact .inl h
      · exact absurd h h2
      · exact .inr h
    simp at this ⊢; omega

/-- From which one register i gets what it gets. -/
def gN (G : List Nat) (i : Nat) : Nat := G.getD i i
theorem gN_out {G : List Nat} {i : Nat} (h : G.length ≤ i) : gN G i = i := by unfold gN; rw [List.getD_eq_getElem?_getD, List.getElem?_eq_none h]; rfl
theorem gN_get {G : List Nat} {i : Nat} (h : i < G.length) : gN G i = G[i] := by unfold gN; rw [List.getD_eq_getElem?_getD, List.getElem?_eq_getElem h]; rfl
theorem gN_set {G : List Nat} {a x i : Nat} (h : a < G.length) : gN (G.set a x) i = if i = a then x else gN G i := by
  unfold gN
  rw [List.getD_eq_getElem?_getD, List.getD_eq_getElem?_getD, List.getElem?_set]
  by_cases e : a = i
  · subst e; rw [if_pos rfl, if_pos h, if_pos rfl]; rfl
  · rw [if_neg e, if_neg (fun h => e h.symm)]
def NF (G : List Nat) (i : Nat) : Prop := gN G i ≠ i
instance (G : List Nat) (i : Nat) : Decidable (NF G i) := by unfold NF; infer_instance
theorem NF.lt {G : List Nat} {i : Nat} (h : NF G i) : i < G.length := by
  rcases Nat.lt_or_ge i G.length with h1 | h1
  · exact h1
  · exact absurd (gN_out h1) h
/-- How many are not in their place. -/
def nfs (G : List Nat) : List Nat := (List.range G.length).filter fun i => decide (NF G i)
def nf (G : List Nat) : Nat := (nfs G).length
theorem mem_nfs {G : List Nat} {i : Nat} : i ∈ nfs G ↔ NF G i := by
  unfold nfs
  rw [List.mem_filter, List.mem_range, decide_eq_true_eq]
  exact ⟨fun h => h.2, fun h => ⟨h.lt, h⟩⟩
theorem nfs_nodup (G : List Nat) : (nfs G).Nodup := List.Pairwise.filter _ List.nodup_range
theorem nf_set {G : List Nat} {a : Nat} (h : NF G a) : nf (G.set a a) + 1 = nf G := by
  have hl := h.lt
  have hm : ∀ i, i ∈ nfs (G.set a a) ↔ i ∈ nfs G ∧ i ≠ a := fun i => by
    rw [mem_nfs, mem_nfs]
    unfold NF
    rw [gN_set hl]
    by_cases e : i = a
    · rw [if_pos e]; simp [e]
    · rw [if_neg e]; simp [e]
  have h1 : (nfs (G.set a a)).length + 1 ≤ (nfs G).length := by
    have hn : (a :: nfs (G.set a a)).Nodup := List.nodup_cons.2 ⟨fun hx => ((hm a).1 hx).2 rfl, nfs_nodup _⟩
    have := nodup_sub_lenS (m := nfs G) hn fun x hx => by
      rcases List.mem_cons.1 hx with rfl | hx
      · exact mem_nfs.2 h
      · exact ((hm x).1 hx).1
    simpa using this
  have h2 : (nfs G).length ≤ (nfs (G.set a a)).length + 1 := by
    have := nodup_sub_lenS (m := a :: nfs (G.set a a)) (nfs_nodup G) fun x hx => by
      by_cases e : x = a
      · simp [e]
      · exact List.mem_cons_of_mem _ ((hm x).2 ⟨hx, e⟩)
    simpa using this
  unfold nf
  omega
theorem nf_congr {G H : List Nat} (h : ∀ i, NF G i ↔ NF H i) : nf G = nf H := by
  have h1 := nodup_sub_lenS (m := nfs H) (nfs_nodup G) fun x hx => mem_nfs.2 ((h x).1 (mem_nfs.1 hx))
  have h2 := nodup_sub_lenS (m := nfs G) (nfs_nodup H) fun x hx => mem_nfs.2 ((h x).2 (mem_nfs.1 hx))
  unfold nf; omega
/-- All in range. -/
def Ran (G : List Nat) (n : Nat) : Prop := G.length = n ∧ ∀ i, i < n → gN G i < n
theorem Ran.set {G : List Nat} {n a x : Nat} (h : Ran G n) (hx : x < n) : Ran (G.set a x) n := by
  refine ⟨by rw [List.length_set]; exact h.1, fun i hi => ?_⟩
  rcases Nat.lt_or_ge a G.length with ha | ha
  · rw [gN_set ha]
    split
    · exact hx
    · exact h.2 i hi
  · rw [List.set_eq_of_length_le ha]; exact h.2 i hi
def InjG (G : List Nat) : Prop := ∀ a b, NF G a → NF G b → gN G a = gN G b → a = b
structure GoodG (G : List Nat) (n : Nat) : Prop where
  ran : Ran G n
  inj : InjG G
  stay : ∀ a, NF G a → NF G (gN G a)
/-- Each that is not in its place is asked for by another one: then all goes round. -/
theorem good_of {G : List Nat} {n : Nat} (hr : Ran G n) (h : ∀ i, NF G i → ∃ j, NF G j ∧ gN G j = i) : GoodG G n := by
  have key : ∀ a, NF G a → ∀ m : List Nat, m = (nfs G).erase a → (∀ i, NF G i → i ∈ m.map (gN G)) → False := fun a ha m hm hc => by
    have h1 := nodup_sub_lenS (m := m.map (gN G)) (nfs_nodup G) fun x hx => hc x (mem_nfs.1 hx)
    rw [List.length_map, hm, List.length_erase_of_mem (mem_nfs.2 ha)] at h1
    have h2 : 0 < (nfs G).length := List.length_pos_of_mem (mem_nfs.2 ha)
    omega
  have hin : ∀ a, NF G a → ∀ j, NF G j → j ≠ a → j ∈ (nfs G).erase a := fun a _ j hj hne => (List.mem_erase_of_ne hne).2 (mem_nfs.2 hj)
  refine ⟨hr, fun a b ha hb e => Classical.byContradiction fun hab => ?_, fun a ha => Classical.byContradiction fun hna => ?_⟩
  · refine key a ha _ rfl fun i hi => ?_
    obtain ⟨j, hj, ej⟩ := h i hi
    by_cases hja : j = a
    · subst hja
      exact List.mem_map.2 ⟨b, hin j ha b hb (fun h => hab h.symm), by rw [← e]; exact ej⟩
    · exact List.mem_map.2 ⟨j, hin a ha j hj hja, ej⟩
  · refine key a ha _ rfl fun i hi => ?_
    obtain ⟨j, hj, ej⟩ := h i hi
    by_cases hja : j = a
    · subst hja; rw [ej] at hna; exact absurd hi hna
    · exact List.mem_map.2 ⟨j, hin a ha j hj hja, ej⟩

/-- One way round from 'at', until what i had comes: moves, and what is left. -/
inductive Cy (n i : Nat) : List Nat → Nat → List (Nat × Nat) → List Nat → Prop
  | last {G : List Nat} {a : Nat} (h : gN G a = i) : Cy n i G a [(a, n)] (G.set a a)
  | step {G G' : List Nat} {a : Nat} {mv : List (Nat × Nat)} (h : gN G a ≠ i) (k : Cy n i (G.set a a) (gN G a) mv G') : Cy n i G a ((a, gN G a) :: mv) G'
/-- How it stands on the way. -/
structure MidG (n i : Nat) (G : List Nat) (a : Nat) : Prop where
  ran : Ran G n
  inj : InjG G
  here : NF G a
  stay : ∀ b, NF G b → NF G (gN G b) ∨ gN G b = i
  none : a ≠ i → ∀ b, NF G b → gN G b ≠ a
theorem GoodG.mid {n : Nat} {G : List Nat} (h : GoodG G n) {i : Nat} (hi : NF G i) : MidG n i G i := ⟨h.ran, h.inj, hi, fun b hb => .inl (h.stay b hb), fun hne => absurd rfl hne⟩
theorem nf_set_iff {G : List Nat} {a b : Nat} (ha : a < G.length) : NF (G.set a a) b ↔ NF G b ∧ b ≠ a := by
  unfold NF
  rw [gN_set ha]
  by_cases e : b = a
  · rw [if_pos e]; simp [e]
  · rw [if_neg e]; simp [e]
theorem InjG.set {G : List Nat} (h : InjG G) {a : Nat} (ha : a < G.length) : InjG (G.set a a) := fun b c hb hc e => by
  rw [nf_set_iff ha] at hb hc
  rw [gN_set ha, gN_set ha, if_neg hb.2, if_neg hc.2] at e
  exact h b c hb.1 hc.1 e
theorem MidG.next {n i : Nat} {G : List Nat} {a : Nat} (h : MidG n i G a) (hne : gN G a ≠ i) : MidG n i (G.set a a) (gN G a) := by
  have ha := h.here.lt
  have hf : NF G (gN G a) := (h.stay a h.here).resolve_right hne
  refine ⟨h.ran.set (by rw [← h.ran.1]; exact ha), h.inj.set ha, (nf_set_iff ha).2 ⟨hf, h.here⟩, fun b hb => ?_, fun _ b hb => ?_⟩
  · rw [nf_set_iff ha] at hb
    rw [gN_set ha, if_neg hb.2]
    by_cases e : gN G b = i
    · exact .inr e
    · refine .inl ((nf_set_iff ha).2 ⟨(h.stay b hb.1).resolve_right e, fun e2 => ?_⟩)
      by_cases hai : a = i
      · exact e (e2.trans hai)
      · exact h.none hai b hb.1 e2
  · rw [nf_set_iff ha] at hb
    rw [gN_set ha, if_neg hb.2]
    exact fun e => hb.2 (h.inj b a hb.1 h.here e)
theorem MidG.done {n i : Nat} {G : List Nat} {a : Nat} (h : MidG n i G a) (he : gN G a = i) : GoodG (G.set a a) n := by
  have ha := h.here.lt
  refine ⟨h.ran.set (by rw [← h.ran.1]; exact ha), h.inj.set ha, fun b hb => ?_⟩
  rw [nf_set_iff ha] at hb
  rw [gN_set ha, if_neg hb.2]
  have hne : gN G b ≠ i := fun e => hb.2 (h.inj b a hb.1 h.here (e.trans he.symm))
  refine (nf_set_iff ha).2 ⟨(h.stay b hb.1).resolve_right hne, fun e2 => ?_⟩
  by_cases hai : a = i
  · exact hne (e2.trans hai)
  · exact h.none hai b hb.1 e2
theorem Cy.ex {n i : Nat} : ∀ (k : Nat) {G : List Nat} {a : Nat}, nf G ≤ k → MidG n i G a → ∃ mv G', Cy n i G a mv G'
  | 0, G, a, hk, h => by have := nf_set h.here; omega
  | k + 1, G, a, hk, h => by
    by_cases he : gN G a = i
    · exact ⟨_, _, .last he⟩
    · have := nf_set h.here
      obtain ⟨mv, G', hc⟩ := Cy.ex k (by omega) (h.next he)
      exact ⟨_, _, .step he hc⟩
theorem Cy.good {n i : Nat} {G G' : List Nat} {a : Nat} {mv : List (Nat × Nat)} (h : Cy n i G a mv G') (hm : MidG n i G a) : GoodG G' n := by
  induction h with
  | last he => exact hm.done he
  | step he _ ih => exact ih (hm.next he)
theorem Cy.count {n i : Nat} {G G' : List Nat} {a : Nat} {mv : List (Nat × Nat)} (h : Cy n i G a mv G') (hm : MidG n i G a) : nf G = nf G' + mv.length := by
  induction h with
  | last he => have := nf_set hm.here; simp; omega
  | step he _ ih => have := nf_set hm.here; have := ih (hm.next he); simp; omega
theorem Cy.ins {n i : Nat} {G G' : List Nat} {a : Nat} {mv : List (Nat × Nat)} (h : Cy n i G a mv G') (hm : MidG n i G a) : ∀ m ∈ mv, m.1 < n ∧ m.2 ≤ n := by
  induction h with
  | last he => intro m hx; simp at hx; subst hx; exact ⟨by rw [← hm.ran.1]; exact hm.here.lt, Nat.le_refl _⟩
  | @step G G' a mv he _ ih =>
    intro m hx
    rcases List.mem_cons.1 hx with rfl | hx
    · have := hm.here.lt
      rw [hm.ran.1] at this
      exact ⟨this, Nat.le_of_lt (hm.ran.2 _ this)⟩
    · exact ih (hm.next he) m hx
/-- What of G comes into its place. -/
def DG (G G' : List Nat) (r : Nat) : Prop := NF G r ∧ gN G' r = r
theorem Cy.same {n i : Nat} {G G' : List Nat} {a : Nat} {mv : List (Nat × Nat)} (h : Cy n i G a mv G') (hm : MidG n i G a) : ∀ r, gN G' r = r ∨ gN G' r = gN G r := by
  induction h with
  | @last G a he =>
    intro r
    rw [gN_set hm.here.lt]
    by_cases e : r = a
    · rw [if_pos e]; exact .inl e.symm
    · rw [if_neg e]; exact .inr rfl
  | @step G G' a mv he _ ih =>
    intro r
    rcases ih (hm.next he) r with h1 | h1
    · exact .inl h1
    · rw [gN_set hm.here.lt] at h1
      by_cases e : r = a
      · rw [if_pos e] at h1; exact .inl (h1.trans e.symm)
      · rw [if_neg e] at h1; exact .inr h1
theorem Cy.fixed {n i : Nat} {G G' : List Nat} {a : Nat} {mv : List (Nat × Nat)} (h : Cy n i G a mv G') (hm : MidG n i G a) : ∀ r, gN G r = r → gN G' r = r := fun r hr => by
  rcases h.same hm r with h1 | h1
  · exact h1
  · rw [h1, hr]
theorem Cy.here {n i : Nat} {G G' : List Nat} {a : Nat} {mv : List (Nat × Nat)} (h : Cy n i G a mv G') (hm : MidG n i G a) : DG G G' a := by
  refine ⟨hm.here, ?_⟩
  cases h with
  | last he => rw [gN_set hm.here.lt, if_pos rfl]
  | step he k => exact k.fixed (hm.next he) a (by rw [gN_set hm.here.lt, if_pos rfl])
theorem DG.prev {G G' : List Nat} {a r : Nat} (ha : a < G.length) (h : DG (G.set a a) G' r) : DG G G' r ∧ r ≠ a := by
  obtain ⟨h1, h2⟩ := h
  rw [nf_set_iff ha] at h1
  exact ⟨⟨h1.1, h2⟩, h1.2⟩
theorem DG.or {G G' : List Nat} {a r : Nat} (ha : a < G.length) (h : DG G G' r) : r = a ∨ DG (G.set a a) G' r := by
  by_cases e : r = a
  · exact .inl e
  · exact .inr ⟨(nf_set_iff ha).2 ⟨h.1, e⟩, h.2⟩
theorem Cy.fwd {n i : Nat} {G G' : List Nat} {a : Nat} {mv : List (Nat × Nat)} (h : Cy n i G a mv G') (hm : MidG n i G a) : ∀ r, DG G G' r → DG G G' (gN G r) ∨ gN G r = i := by
  induction h with
  | @last G a he =>
    intro r hr
    rcases hr.or hm.here.lt with e | h1
    · subst e; exact .inr he
    · have := h1.1
      have h2 := h1.2
      exact absurd h2 this
  | @step G G' a mv he k ih =>
    intro r hr
    have hn := hm.next he
    rcases hr.or hm.here.lt with e | h1
    · subst e
      exact .inl ((k.here hn).prev hm.here.lt).1
    · have hra := (h1.prev hm.here.lt).2
      rcases ih hn r h1 with h2 | h2
      · rw [gN_set hm.here.lt, if_neg hra] at h2
        exact .inl (h2.prev hm.here.lt).1
      · rw [gN_set hm.here.lt, if_neg hra] at h2
        exact .inr h2
theorem Cy.bwd {n i : Nat} {G G' : List Nat} {a : Nat} {mv : List (Nat × Nat)} (h : Cy n i G a mv G') (hm : MidG n i G a) : (∀ x, NF G x → DG G G' (gN G x) → gN G x ≠ a → DG G G' x) ∧ (∀ x, NF G x → gN G x = i → DG G G' x) := by
  induction h with
  | @last G a he =>
    constructor
    · intro x hx hd hne
      rcases hd.or hm.here.lt with e | h1
      · exact absurd e hne
      · exact absurd h1.2 h1.1
    · intro x hx e
      have : x = a := hm.inj x a hx hm.here (e.trans he.symm)
      subst this
      exact ⟨hx, by rw [gN_set hm.here.lt, if_pos rfl]⟩
  | @step G G' a mv he k ih =>
    have hn := hm.next he
    obtain ⟨i1, i2⟩ := ih hn
    have hl := hm.here.lt
    constructor
    · intro x hx hd hne
      by_cases e : x = a
      · subst e; exact (Cy.step he k).here hm
      · rcases hd.or hl with e2 | h1
        · exact absurd e2 hne
        · by_cases e3 : gN G x = gN G a
          · exact absurd (hm.inj x a hx hm.here e3) e
          · have := i1 x ((nf_set_iff hl).2 ⟨hx, e⟩) (by rw [gN_set hl, if_neg e]; exact h1) (by rw [gN_set hl, if_neg e]; exact e3)
            exact (this.prev hl).1
    · intro x hx e2
      by_cases e : x = a
      · subst e; exact (Cy.step he k).here hm
      · exact ((i2 x ((nf_set_iff hl).2 ⟨hx, e⟩) (by rw [gN_set hl, if_neg e]; exact e2)).prev hl).1
theorem Cy.least {n i : Nat} {G G' : List Nat} {a : Nat} {mv : List (Nat × Nat)} (h : Cy n i G a mv G') (hm : MidG n i G a) (T : Nat → Prop) (ha : T a) (hT : ∀ x, T x → T (gN G x)) : ∀ r, DG G G' r → T r := by
  induction h with
  | @last G a he =>
    intro r hr
    rcases hr.or hm.here.lt with e | h1
    · subst e; exact ha
    · exact absurd h1.2 h1.1
  | @step G G' a mv he k ih =>
    intro r hr
    rcases hr.or hm.here.lt with e | h1
    · subst e; exact ha
    · refine ih (hm.next he) (hT a ha) (fun x hx => ?_) r h1
      rw [gN_set hm.here.lt]
      split
      · rename_i e; subst e; exact hx
      · exact hT x hx
/-- Two that undo each other: the same ways round. -/
structure Inv2 (n : Nat) (G H : List Nat) : Prop where
  g : Ran G n
  h : Ran H n
  hg : ∀ r, r < n → gN H (gN G r) = r
  gh : ∀ r, r < n → gN G (gN H r) = r
theorem Inv2.symm {n : Nat} {G H : List Nat} (h : Inv2 n G H) : Inv2 n H G := ⟨h.h, h.g, h.gh, h.hg⟩
theorem Inv2.nf {n : Nat} {G H : List Nat} (h : Inv2 n G H) (r : Nat) : NF G r → NF H r := fun hr e => by
  have := hr.lt
  rw [h.g.1] at this
  have h1 := h.gh r this
  rw [e] at h1
  exact hr h1
theorem Inv2.inj {n : Nat} {G H : List Nat} (h : Inv2 n G H) : InjG G := fun a b ha hb e => by
  have la := ha.lt
  have lb := hb.lt
  rw [h.g.1] at la lb
  rw [← h.hg a la, ← h.hg b lb, e]
theorem Inv2.good {n : Nat} {G H : List Nat} (h : Inv2 n G H) : GoodG G n := ⟨h.g, h.inj, fun a ha e => by
  have la := ha.lt
  rw [h.g.1] at la
  have h1 := h.hg a la
  have h2 := h.hg (gN G a) (h.g.2 a la)
  rw [e, h1] at h2
  exact ha h2.symm⟩
theorem Inv2.sub {n i : Nat} {G H G' H' : List Nat} {m1 m2 : List (Nat × Nat)} (h : Inv2 n G H) (hi : NF G i) (c1 : Cy n i G i m1 G') (c2 : Cy n i H i m2 H') : ∀ r, DG H H' r → DG G G' r := by
  have M1 := h.good.mid hi
  have M2 := h.symm.good.mid (h.nf i hi)
  refine c2.least M2 (fun r => DG G G' r) (c1.here M1) fun x hx => ?_
  -- the one before x
  have lx := hx.1.lt
  rw [h.g.1] at lx
  have hnx : NF G (gN H x) := h.symm.nf _ (h.symm.good.stay x (h.nf x hx.1))
  have e : gN G (gN H x) = x := h.gh x lx
  by_cases hxi : x = i
  · exact (c1.bwd M1).2 _ hnx (e.trans hxi)
  · exact (c1.bwd M1).1 _ hnx (by rw [e]; exact hx) (by rw [e]; exact hxi)
theorem Inv2.next {n i : Nat} {G H G' H' : List Nat} {m1 m2 : List (Nat × Nat)} (h : Inv2 n G H) (hi : NF G i) (c1 : Cy n i G i m1 G') (c2 : Cy n i H i m2 H') : Inv2 n G' H' ∧ m1.length = m2.length := by
  have M1 := h.good.mid hi
  have M2 := h.symm.good.mid (h.nf i hi)
  have hd : ∀ r, DG G G' r ↔ DG H H' r := fun r => ⟨h.symm.sub (h.nf i hi) c2 c1 r, h.sub hi c1 c2 r⟩
  have hnf : ∀ r, NF G r ↔ NF H r := fun r => ⟨h.nf r, h.symm.nf r⟩
  have hf : ∀ r, NF G' r ↔ NF H' r := fun r => by
    have key : ∀ {A B A' B' : List Nat} {ma mb : List (Nat × Nat)} (ca : Cy n i A i ma A') (cb : Cy n i B i mb B') (MA : MidG n i A i) (MB : MidG n i B i), (∀ r, DG A A' r ↔ DG B B' r) → (∀ r, NF A r ↔ NF B r) → NF A' r → NF B' r := fun {A B A' B' ma mb} ca cb MA MB hd hn h1 h2 => by
      by_cases ha : NF A r
      · exact h1 ((hd r).2 ⟨(hn r).1 ha, h2⟩).2
      · exact h1 (ca.fixed MA r (Classical.byContradiction fun hx => ha hx))
    exact ⟨key c1 c2 M1 M2 hd hnf, key c2 c1 M2 M1 (fun r => (hd r).symm) (fun r => (hnf r).symm)⟩
  have half : ∀ {A B A' B' : List Nat} {ma mb : List (Nat × Nat)} (hI : Inv2 n A B) (ca : Cy n i A i ma A') (cb : Cy n i B i mb B') (MA : MidG n i A i) (MB : MidG n i B i), (∀ r, DG A A' r ↔ DG B B' r) → ∀ r, r < n → gN B' (gN A' r) = r := fun {A B A' B' ma mb} hI ca cb MA MB hd r hr => by
    rcases ca.same MA r with h1 | h1
    · rw [h1]
      rcases cb.same MB r with h2 | h2
      · exact h2
      · by_cases ha : NF A r
        · exact ((hd r).1 ⟨ha, h1⟩).2
        · have ha : gN A r = r := Classical.byContradiction fun hx => ha hx
          have := hI.hg r hr
          rw [ha] at this
          rw [h2, this]
    · rw [h1]
      rcases cb.same MB (gN A r) with h2 | h2
      · -- gN A r in place behind: then r was too
        by_cases hb : NF B (gN A r)
        · have hdA := (hd _).2 ⟨hb, h2⟩
          have hra : NF A r := fun e => hb (by rw [e]; have := hI.hg r hr; rwa [e] at this)
          have hdr : DG A A' r := by
            by_cases hxi : gN A r = i
            · exact (ca.bwd MA).2 r hra hxi
            · exact (ca.bwd MA).1 r hra hdA hxi
          rw [h2, ← h1]; exact hdr.2
        · have hb : gN B (gN A r) = gN A r := Classical.byContradiction fun hx => hb hx
          have := hI.hg r hr
          rw [h2]; rw [hb] at this; exact this
      · rw [h2]; exact hI.hg r hr
  refine ⟨⟨(c1.good M1).ran, (c2.good M2).ran, half h c1 c2 M1 M2 hd, half h.symm c2 c1 M2 M1 (fun r => (hd r).symm)⟩, ?_⟩
  have e1 := c1.count M1
  have e2 := c2.count M2
  have e3 := nf_congr hnf
  have e4 := nf_congr hf
  omega

/-- All ways round, by their first ones. -/
inductive Or (n : Nat) : Nat → List Nat → List (Nat × Nat) → Prop
  | done {G : List Nat} : Or n n G []
  | skip {i : Nat} {G : List Nat} {mv : List (Nat × Nat)} (hi : i < n) (h : gN G i = i) (k : Or n (i + 1) G mv) : Or n i G mv
  | take {i : Nat} {G G' : List Nat} {m1 m2 : List (Nat × Nat)} (hi : i < n) (h : gN G i ≠ i) (c : Cy n i G i m1 G') (k : Or n (i + 1) G' m2) : Or n i G ((n, i) :: m1 ++ m2)
theorem Or.ex {n : Nat} : ∀ (k i : Nat) {G : List Nat}, i + k = n → GoodG G n → ∃ mv, Or n i G mv
  | 0, i, G, hk, _ => by
    have : i = n := by omega
    subst this; exact ⟨_, .done⟩
  | k + 1, i, G, hk, h => by
    by_cases e : gN G i = i
    · obtain ⟨mv, hm⟩ := Or.ex k (i + 1) (by omega) h
      exact ⟨_, .skip (by omega) e hm⟩
    · obtain ⟨m1, G', hc⟩ := Cy.ex (nf G) (Nat.le_refl _) (h.mid e)
      obtain ⟨m2, hm⟩ := Or.ex k (i + 1) (by omega) (hc.good (h.mid e))
      exact ⟨_, .take (by omega) e hc hm⟩
theorem Or.ins {n i : Nat} {G : List Nat} {mv : List (Nat × Nat)} (h : Or n i G mv) (hg : GoodG G n) : ∀ m ∈ mv, m.1 ≤ n ∧ m.2 ≤ n := by
  induction h with
  | done => intro m hm; cases hm
  | skip _ _ _ ih => exact ih hg
  | @take i G G' m1 m2 hi he c k ih =>
    intro m hm
    rcases List.mem_append.1 hm with hm | hm
    · rcases List.mem_cons.1 hm with rfl | hm
      · exact ⟨Nat.le_refl _, Nat.le_of_lt hi⟩
      · have := c.ins (hg.mid he) m hm; omega
    · exact ih (c.good (hg.mid he)) m hm
theorem Or.len {n i : Nat} {G : List Nat} {mv : List (Nat × Nat)} (h : Or n i G mv) (hg : GoodG G n) : mv.length ≤ 2 * nf G := by
  induction h with
  | done => simp
  | skip _ _ _ ih => exact ih hg
  | @take i G G' m1 m2 hi he c k ih =>
    have h1 := c.count (hg.mid he)
    have h2 := ih (c.good (hg.mid he))
    have h3 : 1 ≤ m1.length := by cases c <;> simp
    simp
    omega
theorem nf_le {G : List Nat} {n : Nat} (h : Ran G n) : nf G ≤ n := by
  have := nodup_sub_lenS (m := List.range n) (nfs_nodup G) fun x hx => by
    rw [List.mem_range, ← h.1]; exact (mem_nfs.1 hx).lt
  simpa [nf] using this
/-- As many moves back as there. -/
theorem Or.back {n i : Nat} {G : List Nat} {m1 : List (Nat × Nat)} (h1 : Or n i G m1) : ∀ {H : List Nat} {m2 : List (Nat × Nat)}, Inv2 n G H → Or n i H m2 → m1.length = m2.length := by
  induction h1 with
  | done =>
    intro H m2 _ h2
    cases h2 with
    | done => rfl
    | skip hi _ _ => omega
    | take hi _ _ _ => omega
  | @skip i G mv hi he k ih =>
    intro H m2 hI h2
    cases h2 with
    | done => omega
    | skip _ _ k2 => exact ih hI k2
    | take _ he2 _ _ => exact absurd he (hI.symm.nf i he2)
  | @take i G G' ma mb hi he c k ih =>
    intro H m2 hI h2
    cases h2 with
    | done => omega
    | skip _ he2 _ => exact absurd he2 (hI.nf i he)
    | take _ he2 c2 k2 =>
      obtain ⟨hI2, hl⟩ := hI.next he c c2
      have := ih hI2 k2
      simp
      omega

/-- What registers have behind moves. -/
def mv1 (v : List Int) (m : Nat × Nat) : List Int := v.set m.1 (v.getD m.2 0)
def mvR (v : List Int) (mv : List (Nat × Nat)) : List Int := mv.foldl mv1 v
theorem mvR_append (v : List Int) (a b : List (Nat × Nat)) : mvR v (a ++ b) = mvR (mvR v a) b := List.foldl_append ..
theorem mvR_len (mv : List (Nat × Nat)) : ∀ v, (mvR v mv).length = v.length := by
  induction mv with
  | nil => intro v; rfl
  | cons m r ih => intro v; show (mvR (mv1 v m) r).length = _; rw [ih]; unfold mv1; rw [List.length_set]
theorem setD {v : List Int} {a i : Nat} {x : Int} (h : a < v.length) : (v.set a x).getD i 0 = if i = a then x else v.getD i 0 := by
  rw [List.getD_eq_getElem?_getD, List.getD_eq_getElem?_getD, List.getElem?_set]
  by_cases e : a = i
  · subst e; rw [if_pos rfl, if_pos h, if_pos rfl]; rfl
  · rw [if_neg e, if_neg (fun h => e h.symm)]
/-- On the way round: the spare one has what the first one had. -/
theorem Cy.val {n i : Nat} {G G' : List Nat} {a : Nat} {mv : List (Nat × Nat)} (h : Cy n i G a mv G') (T : Nat → Int) : MidG n i G a → ∀ v : List Int, v.length = n + 1 → (∀ r, r < n → (NF G r ∧ gN G r = i → v.getD n 0 = T r) ∧ (¬ (NF G r ∧ gN G r = i) → v.getD (gN G r) 0 = T r)) → ∀ r, r < n → (mvR v mv).getD (gN G' r) 0 = T r := by
  induction h with
  | @last G a he =>
    intro hm v hv hI r hr
    have ha := hm.here.lt
    have hl := hm.ran.1
    show (mv1 v (a, n)).getD (gN (G.set a a) r) 0 = T r
    unfold mv1
    dsimp only
    rw [setD (by omega), gN_set ha]
    by_cases e : r = a
    · subst e
      rw [if_pos rfl, if_pos rfl]
      exact (hI r hr).1 ⟨hm.here, he⟩
    · rw [if_neg e]
      have hni : ¬ (NF G r ∧ gN G r = i) := fun h => e (hm.inj r a h.1 hm.here (h.2.trans he.symm))
      have hra : gN G r ≠ a := fun e2 => by
        by_cases hnr : NF G r
        · by_cases hai : a = i
          · exact hni ⟨hnr, e2.trans hai⟩
          · exact hm.none hai r hnr e2
        · have : gN G r = r := Classical.byContradiction fun hx => hnr hx
          exact e (this.symm.trans e2)
      rw [if_neg hra]
      exact (hI r hr).2 hni
  | @step G G' a mv he k ih =>
    intro hm v hv hI r hr
    have ha := hm.here.lt
    have hl := hm.ran.1
    show (mvR (mv1 v (a, gN G a)) mv).getD _ 0 = T r
    refine ih (hm.next he) _ (by unfold mv1; rw [List.length_set]; exact hv) (fun q hq => ?_) r hr
    unfold mv1
    dsimp only
    rw [setD (by omega), setD (by omega), if_neg (by omega : ¬ n = a), nf_set_iff ha, gN_set ha]
    constructor
    · rintro ⟨⟨h1, h2⟩, h3⟩
      rw [if_neg h2] at h3
      exact (hI q hq).1 ⟨h1, h3⟩
    · intro hn
      by_cases e : q = a
      · subst e
        rw [if_pos rfl, if_pos rfl]
        exact (hI q hq).2 (fun h => he h.2)
      · rw [if_neg e] at hn ⊢
        have hni : ¬ (NF G q ∧ gN G q = i) := fun h => hn ⟨⟨h.1, e⟩, h.2⟩
        have hra : gN G q ≠ a := fun e2 => by
          by_cases hnr : NF G q
          · by_cases hai : a = i
            · exact hni ⟨hnr, e2.trans hai⟩
            · exact hm.none hai q hnr e2
          · have : gN G q = q := Classical.byContradiction fun hx => hnr hx
            exact e (this.symm.trans e2)
        rw [if_neg hra]
        exact (hI q hq).2 hni
theorem Or.val {n i : Nat} {G : List Nat} {mv : List (Nat × Nat)} (h : Or n i G mv) (T : Nat → Int) : GoodG G n → ∀ v : List Int, v.length = n + 1 → (∀ r, r < i → gN G r = r) → (∀ r, r < n → v.getD (gN G r) 0 = T r) → ∀ r, r < n → (mvR v mv).getD r 0 = T r := by
  induction h with
  | done =>
    intro _ v _ hf hI r hr
    have := hI r hr
    rw [hf r hr] at this
    exact this
  | @skip i G mv hi he k ih =>
    intro hg v hv hf hI
    refine ih hg v hv (fun r hr => ?_) hI
    by_cases e : r = i
    · subst e; exact he
    · exact hf r (by omega)
  | @take i G G' m1 m2 hi he c k ih =>
    intro hg v hv hf hI r hr
    have hm := hg.mid he
    show (mvR (mv1 v (n, i)) (m1 ++ m2)).getD r 0 = T r
    rw [mvR_append]
    refine ih (c.good hm) _ (by rw [mvR_len]; unfold mv1; rw [List.length_set]; exact hv) (fun q hq => ?_) (fun q hq => ?_) r hr
    · by_cases e : q = i
      · subst e; exact (c.here hm).2
      · exact c.fixed hm q (hf q (by omega))
    · refine c.val T hm _ (by unfold mv1; rw [List.length_set]; exact hv) (fun p hp => ?_) q hq
      have hp2 := hg.ran.2 p hp
      unfold mv1
      dsimp only
      rw [setD (by omega), setD (by omega), if_pos rfl, if_neg (by omega)]
      exact ⟨fun h => by rw [← hI p hp, h.2], fun _ => hI p hp⟩
end Go.Proofs.Ytiphhadhbokgmaa
