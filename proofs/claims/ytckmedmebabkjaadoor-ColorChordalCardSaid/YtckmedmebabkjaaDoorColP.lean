/- Things that clash: the plain laws of colors. No condition: plain lists and relations. -/
namespace Go.Proofs.YtckmedmebabkjaaDoor

theorem nodup_sub_len_ {α : Type} : ∀ {l m : List α}, l.Nodup → (∀ x ∈ l, x ∈ m) → l.length ≤ m.length
  | [], _, _, _ => by simp
  | a :: l, m, hn, hs => by
    rw [List.nodup_cons] at hn
    obtain ⟨p, q, rfl⟩ := List.append_of_mem (hs a (by simp))
    have : l.length ≤ (p ++ q).length := nodup_sub_len_ hn.2 fun x hx => by
      have h1 := hs x (by simp [hx])
      have h2 : x ≠ a := fun e => hn.1 (e ▸ hx)
      simp only [List.mem_append, List.mem_cons] at h1 ⊢
      rcases h1 with h | h | h
      · exact .inl h
      · exact absurd h h2
      · exact .inr h
    simp at this ⊢; omega
/-- One of k numbers is not in a shorter list. -/
theorem free_of {l : List Nat} {k : Nat} (h : l.length < k) : ∃ c, c < k ∧ c ∉ l := by
  apply Classical.byContradiction
  intro hn
  have : (List.range k).length ≤ l.length := nodup_sub_len_ List.nodup_range fun x hx => by
    apply Classical.byContradiction
    intro hx'
    exact hn ⟨x, List.mem_range.1 hx, hx'⟩
  simp at this
  omega

/-- No two that clash have one number. -/
def Proper (n : Nat) (adj : Nat → Nat → Prop) (c : Nat → Nat) : Prop := ∀ i j, i < n → j < n → adj i j → c i ≠ c j
def Can (n : Nat) (adj : Nat → Nat → Prop) (k : Nat) : Prop := ∃ c, Proper n adj c ∧ ∀ i, i < n → c i < k
theorem Can.mono {n : Nat} {adj : Nat → Nat → Prop} {k k' : Nat} (h : Can n adj k) (hk : k ≤ k') : Can n adj k' := let ⟨c, h1, h2⟩ := h; ⟨c, h1, fun i hi => Nat.lt_of_lt_of_le (h2 i hi) hk⟩
/-- The fewest. -/
structure LeastC (n : Nat) (adj : Nat → Nat → Prop) (c : Nat → Nat) (K : Nat) : Prop where
  proper : Proper n adj c
  lt : ∀ i, i < n → c i < K
  least : ∀ k, 1 ≤ k → Can n adj k → K ≤ k

/-- Each number is forced by a thing that clashes with one of each lesser number. -/
theorem LeastC.forced {n : Nat} {adj : Nat → Nat → Prop} {c : Nat → Nat} {K : Nat} (h : LeastC n adj c K) (hs : ∀ i j, adj i j → adj j i) {k : Nat} (h1 : 1 ≤ k) (hk : k < K) :
    ∃ i, i < n ∧ c i = k ∧ ∀ low, low < k → ∃ j, j < n ∧ c j = low ∧ adj i j := by
  apply Classical.byContradiction
  intro hn
  have hlow : ∀ i, ∃ low, i < n → c i = k → low < k ∧ ∀ j, j < n → c j = low → ¬ adj i j := fun i => by
    by_cases hi : i < n ∧ c i = k
    · apply Classical.byContradiction
      intro hx
      refine hn ⟨i, hi.1, hi.2, fun low hl => ?_⟩
      apply Classical.byContradiction
      intro hy
      exact hx ⟨low, fun _ _ => ⟨hl, fun j hj hc ha => hy ⟨j, hj, hc, ha⟩⟩⟩
    · exact ⟨0, fun a b => absurd ⟨a, b⟩ hi⟩
  obtain ⟨low, hlow⟩ := Classical.axiomOfChoice hlow
  let c' : Nat → Nat := fun i => if c i = k then low i else if c i = K - 1 then k else c i
  have hc' : Can n adj (K - 1) := by
    refine ⟨c', fun i j hi hj ha he => ?_, fun i hi => ?_⟩
    · have hp := h.proper i j hi hj ha
      simp only [c'] at he
      by_cases ei : c i = k
      · have li := hlow i hi ei
        rw [if_pos ei] at he
        by_cases ej : c j = k
        · exact hp (ei.trans ej.symm)
        · rw [if_neg ej] at he
          by_cases ek : c j = K - 1
          · rw [if_pos ek] at he; omega
          · rw [if_neg ek] at he; exact li.2 j hj he.symm ha
      · rw [if_neg ei] at he
        by_cases ej : c j = k
        · have lj := hlow j hj ej
          rw [if_pos ej] at he
          by_cases ek : c i = K - 1
          · rw [if_pos ek] at he; omega
          · rw [if_neg ek] at he; exact lj.2 i hi he (hs _ _ ha)
        · rw [if_neg ej] at he
          by_cases ek : c i = K - 1 <;> by_cases el : c j = K - 1
          · exact hp (ek.trans el.symm)
          · rw [if_pos ek, if_neg el] at he; exact ej he.symm
          · rw [if_neg ek, if_pos el] at he; exact ei he
          · rw [if_neg ek, if_neg el] at he; exact hp he
    · have := h.lt i hi
      show (if c i = k then low i else if c i = K - 1 then k else c i) < K - 1
      by_cases ei : c i = k
      · rw [if_pos ei]; have := (hlow i hi ei).1; omega
      · rw [if_neg ei]
        by_cases ek : c i = K - 1
        · rw [if_pos ek]; have : c i ≠ k := ei; omega
        · rw [if_neg ek]; omega
  have := h.least (K - 1) (by omega) hc'
  omega

/-- KEMPE: what can be taken away, one with fewer than k others left each time, can be colored with k. -/
inductive Peels (n : Nat) (adj : Nat → Nat → Prop) (k : Nat) : (Nat → Prop) → Prop
  | none {s : Nat → Prop} (h : ∀ i, i < n → ¬ s i) : Peels n adj k s
  | one {s : Nat → Prop} (i : Nat) (l : List Nat) (hl : l.length < k) (hall : ∀ j, j < n → s j → adj i j → j ∈ l) (h : Peels n adj k (fun j => s j ∧ j ≠ i)) : Peels n adj k s
theorem Peels.can {n : Nat} {adj : Nat → Nat → Prop} {k : Nat} (hs : ∀ i j, adj i j → adj j i) {s : Nat → Prop} (h : Peels n adj k s) :
    ∃ c : Nat → Nat, (∀ i j, i < n → j < n → s i → s j → i ≠ j → adj i j → c i ≠ c j) ∧ ∀ i, i < n → s i → c i < k := by
  induction h with
  | none h => exact ⟨fun _ => 0, fun i _ hi _ hs _ _ => absurd hs (h i hi), fun i hi hs => absurd hs (h i hi)⟩
  | one i l hl hall h ih =>
    rename_i s
    obtain ⟨c, h1, h2⟩ := ih
    obtain ⟨d, hd, hdl⟩ := free_of (l := l.map c) (k := k) (by simpa using hl)
    have hno : ∀ j, j < n → s j → adj i j → c j ≠ d := fun j hj hsj ha e => hdl (List.mem_map.2 ⟨j, hall j hj hsj ha, e⟩)
    refine ⟨fun j => if j = i then d else c j, fun a b ha hb hsa hsb hne hab => ?_, fun a ha hsa => ?_⟩
    · by_cases ea : a = i <;> by_cases eb : b = i
      · exact absurd (ea.trans eb.symm) hne
      · simp only [ea, eb, if_true, if_false]; subst ea; exact fun e => hno b hb hsb hab e.symm
      · simp only [ea, eb, if_true, if_false]; subst eb; exact fun e => hno a ha hsa (hs _ _ hab) e
      · simp only [ea, eb, if_false]; exact h1 a b ha hb ⟨hsa, ea⟩ ⟨hsb, eb⟩ hne hab
    · by_cases ea : a = i
      · simp only [ea, if_true]; exact hd
      · simp only [ea, if_false]; exact h2 a ha ⟨hsa, ea⟩

/-- A clique needs as many numbers as it has things. -/
theorem clique_le {n : Nat} {adj : Nat → Nat → Prop} {K : Nat} {l : List Nat} (hn : l.Nodup) (hl : ∀ i ∈ l, i < n) (ha : ∀ i ∈ l, ∀ j ∈ l, i ≠ j → adj i j) (h : Can n adj K) : l.length ≤ K := by
  obtain ⟨c, h1, h2⟩ := h
  have hm : (l.map c).Nodup := by
    rw [List.nodup_iff_pairwise_ne, List.pairwise_map]
    refine List.Pairwise.imp_of_mem ?_ (List.nodup_iff_pairwise_ne.1 hn)
    intro a b hma hmb hne
    exact h1 a b (hl a hma) (hl b hmb) (ha a hma b hmb hne)
  have := nodup_sub_len_ (m := List.range K) hm fun x hx => by
    obtain ⟨i, hi, rfl⟩ := List.mem_map.1 hx
    exact List.mem_range.2 (h2 i (hl i hi))
  simpa using this
end Go.Proofs.YtckmedmebabkjaaDoor
