/- Nodes as they are left: what a walk from node to node makes, plain. -/
namespace Go.Proofs.Ytljmignfbagomaa

/-- A path of which each node is in S. -/
inductive PIn (E : Nat → Nat → Prop) (S : Nat → Prop) : Nat → Nat → Prop
  | refl {a : Nat} (h : S a) : PIn E S a a
  | step {a b c : Nat} (h : S a) (e : E a b) (p : PIn E S b c) : PIn E S a c
theorem PIn.mono {E : Nat → Nat → Prop} {S T : Nat → Prop} (h : ∀ x, S x → T x) {a b : Nat} (p : PIn E S a b) : PIn E T a b := by
  induction p with
  | refl ha => exact .refl (h _ ha)
  | step ha e _ ih => exact .step (h _ ha) e ih
theorem PIn.trans {E : Nat → Nat → Prop} {S : Nat → Prop} {a b c : Nat} (p : PIn E S a b) (q : PIn E S b c) : PIn E S a c := by
  induction p with
  | refl _ => exact q
  | step ha e _ ih => exact .step ha e (ih q)
theorem PIn.head {E : Nat → Nat → Prop} {S : Nat → Prop} {a b : Nat} (p : PIn E S a b) : S a := by cases p <;> assumption
theorem PIn.last {E : Nat → Nat → Prop} {S : Nat → Prop} {a b : Nat} (p : PIn E S a b) : S b := by
  induction p with
  | refl h => exact h
  | step _ _ _ ih => exact ih
theorem PIn.snoc {E : Nat → Nat → Prop} {S : Nat → Prop} {a b c : Nat} (p : PIn E S a b) (e : E b c) (h : S c) : PIn E S a c := p.trans (.step p.last e (.refl h))

theorem last_in {u v r : List Nat} {x z : Nat} (h : u ++ x :: v = r ++ [z]) : z ∈ x :: v := by
  rcases List.eq_nil_or_concat v with rfl | ⟨v', b, rfl⟩
  · have := List.append_inj' h rfl
    simp at this
    simp [this.2]
  · rw [List.concat_eq_append, ← List.cons_append, ← List.append_assoc] at h
    have := (List.append_inj' h rfl).2
    simp at this
    simp [this]
/-- x is left ahead of y. -/
def Bef (l : List Nat) (x y : Nat) : Prop := ∃ u v, l = u ++ y :: v ∧ x ∈ u
/-- A path to x by nodes that are not left ahead of x (or are i). -/
def Hi (E : Nat → Nat → Prop) (l : List Nat) (i x : Nat) : Prop := ∃ u v, l = u ++ x :: v ∧ PIn E (fun z => z = i ∨ z ∈ x :: v) i x
/-- A path from y to x by nodes that are not left behind y. -/
def Lo (E : Nat → Nat → Prop) (l : List Nat) (y x : Nat) : Prop := ∃ u v, l = u ++ y :: v ∧ PIn E (fun z => z = y ∨ z ∈ u) y x
theorem Bef.lift {l : List Nat} {x y : Nat} (h : Bef l x y) (p s : List Nat) : Bef (p ++ l ++ s) x y := by
  obtain ⟨u, v, rfl, hx⟩ := h
  exact ⟨p ++ u, v ++ s, by simp, by simp [hx]⟩
theorem Hi.lift {E : Nat → Nat → Prop} {l : List Nat} {i x : Nat} (h : Hi E l i x) (p s : List Nat) : Hi E (p ++ l ++ s) i x := by
  obtain ⟨u, v, rfl, hp⟩ := h
  refine ⟨p ++ u, v ++ s, by simp, hp.mono fun z hz => ?_⟩
  rcases hz with hz | hz
  · exact .inl hz
  · refine .inr ?_
    simp only [List.mem_cons, List.mem_append] at hz ⊢
    exact hz.elim .inl (fun h => .inr (.inl h))
theorem Lo.lift {E : Nat → Nat → Prop} {l : List Nat} {y x : Nat} (h : Lo E l y x) (p s : List Nat) : Lo E (p ++ l ++ s) y x := by
  obtain ⟨u, v, rfl, hp⟩ := h
  exact ⟨p ++ u, v ++ s, by simp, hp.mono fun z hz => hz.elim .inl (fun h => .inr (by simp [h]))⟩

/-- What one visit of i leaves, X being seen ahead of it. -/
structure VisD (E : Nat → Nat → Prop) (n : Nat) (X : Nat → Prop) (i : Nat) (l : List Nat) : Prop where
  nodup : l.Nodup
  fresh : ∀ x ∈ l, ¬ X x ∧ x < n
  last : ∃ r, l = r ++ [i]
  path : ∀ x ∈ l, Hi E l i x
  edge : ∀ x ∈ l, ∀ y, E x y → X y ∨ Bef l y x ∨ Lo E l y x
/-- What the successors of i that have been looked at have left. -/
structure ForD (E : Nat → Nat → Prop) (n : Nat) (X : Nat → Prop) (i : Nat) (done : List Nat) (m : List Nat) : Prop where
  nodup : m.Nodup
  fresh : ∀ x ∈ m, (¬ X x ∧ x ≠ i) ∧ x < n
  path : ∀ x ∈ m, Hi E m i x
  edge : ∀ x ∈ m, ∀ y, E x y → X y ∨ y = i ∨ Bef m y x ∨ Lo E m y x
  succ : ∀ y ∈ done, X y ∨ y = i ∨ y ∈ m
section
variable {E : Nat → Nat → Prop} {n : Nat} {X : Nat → Prop} {i : Nat} {done m l : List Nat}
theorem ForD.start : ForD E n X i [] [] := ⟨List.nodup_nil, fun x h => absurd h (by simp), fun x h => absurd h (by simp), fun x h => absurd h (by simp), fun x h => absurd h (by simp)⟩
theorem ForD.skip (h : ForD E n X i done m) {c : Nat} (hc : X c ∨ c = i ∨ c ∈ m) : ForD E n X i (done ++ [c]) m :=
  ⟨h.nodup, h.fresh, h.path, h.edge, fun y hy => by
    rcases List.mem_append.1 hy with hy | hy
    · exact h.succ y hy
    · simp at hy; subst hy; exact hc⟩
theorem ForD.take (h : ForD E n X i done m) {c : Nat} (he : E i c) (hv : VisD E n (fun x => X x ∨ x = i ∨ x ∈ m) c l) : ForD E n X i (done ++ [c]) (m ++ l) := by
  obtain ⟨r, hr⟩ := hv.last
  have hcl : c ∈ l := by rw [hr]; simp
  refine ⟨?_, fun x hx => ?_, fun x hx => ?_, fun x hx y hy => ?_, fun y hy => ?_⟩
  · rw [List.nodup_append]
    refine ⟨h.nodup, hv.nodup, fun a ha b hb e => ?_⟩
    subst e
    exact (hv.fresh a hb).1 (.inr (.inr ha))
  · rcases List.mem_append.1 hx with hx | hx
    · exact h.fresh x hx
    · have := hv.fresh x hx
      exact ⟨⟨fun h => this.1 (.inl h), fun h => this.1 (.inr (.inl h))⟩, this.2⟩
  · rcases List.mem_append.1 hx with hx | hx
    · have := (h.path x hx).lift [] l
      simpa using this
    · obtain ⟨u, v, e, hp⟩ := hv.path x hx
      refine ⟨m ++ u, v, by rw [e]; simp, .step (.inl rfl) he (hp.mono fun z hz => ?_)⟩
      rcases hz with rfl | hz
      · -- c itself: it is the last of l
        refine .inr ?_
        exact last_in (e ▸ hr)
      · exact .inr hz
  · rcases List.mem_append.1 hx with hx | hx
    · rcases h.edge x hx y hy with h1 | h1 | h1 | h1
      · exact .inl h1
      · exact .inr (.inl h1)
      · exact .inr (.inr (.inl (by simpa using h1.lift [] l)))
      · exact .inr (.inr (.inr (by simpa using h1.lift [] l)))
    · rcases hv.edge x hx y hy with (h1 | h1 | h1) | h1 | h1
      · exact .inl h1
      · exact .inr (.inl h1)
      · obtain ⟨u, v, e⟩ := List.append_of_mem hx
        exact .inr (.inr (.inl ⟨m ++ u, v, by rw [e]; simp, by simp [h1]⟩))
      · exact .inr (.inr (.inl (by simpa using h1.lift m [])))
      · exact .inr (.inr (.inr (by simpa using h1.lift m [])))
  · rcases List.mem_append.1 hy with hy | hy
    · rcases h.succ y hy with h1 | h1 | h1
      · exact .inl h1
      · exact .inr (.inl h1)
      · exact .inr (.inr (by simp [h1]))
    · simp at hy; subst hy
      exact .inr (.inr (by simp [hcl]))
theorem ForD.fin (h : ForD E n X i done m) (hi : ¬ X i) (hin : i < n) (hall : ∀ y, E i y → y ∈ done) : VisD E n X i (m ++ [i]) := by
  refine ⟨?_, fun x hx => ?_, ⟨m, rfl⟩, fun x hx => ?_, fun x hx y hy => ?_⟩
  · rw [List.nodup_append]
    refine ⟨h.nodup, by simp, fun a ha b hb e => ?_⟩
    simp at hb
    exact (h.fresh a ha).1.2 (e.trans hb)
  · rcases List.mem_append.1 hx with hx | hx
    · exact ⟨(h.fresh x hx).1.1, (h.fresh x hx).2⟩
    · simp at hx; subst hx; exact ⟨hi, hin⟩
  · rcases List.mem_append.1 hx with hx | hx
    · obtain ⟨u, v, e, hp⟩ := h.path x hx
      exact ⟨u, v ++ [i], by rw [e]; simp, hp.mono fun z hz => by
        rcases hz with hz | hz
        · exact .inl hz
        · refine .inr ?_
          simp only [List.mem_cons, List.mem_append] at hz ⊢
          exact hz.elim .inl (fun h => .inr (.inl h))⟩
    · simp at hx; subst hx
      exact ⟨m, [], rfl, .refl (.inl rfl)⟩
  · rcases List.mem_append.1 hx with hm | hx
    · rcases h.edge x hm y hy with h1 | h1 | h1 | h1
      · exact .inl h1
      · subst h1
        obtain ⟨u, v, e, hp⟩ := h.path x hm
        refine .inr (.inr ⟨m, [], rfl, hp.mono fun z hz => ?_⟩)
        rcases hz with hz | hz
        · exact .inl hz
        · exact .inr (by rw [e]; exact List.mem_append_right _ hz)
      · exact .inr (.inl (by simpa using h1.lift [] [i]))
      · exact .inr (.inr (by simpa using h1.lift [] [i]))
    · simp at hx; subst hx
      rcases h.succ y (hall y hy) with h1 | h1 | h1
      · exact .inl h1
      · subst h1; exact .inr (.inr ⟨m, [], rfl, .refl (.inl rfl)⟩)
      · exact .inr (.inl ⟨m, [], rfl, h1⟩)
end
/-- All that is left behind a walk from 0. -/
structure Left (E : Nat → Nat → Prop) (n : Nat) (l : List Nat) : Prop where
  nodup : l.Nodup
  lt : ∀ x ∈ l, x < n
  last : ∃ r, l = r ++ [0]
  path : ∀ x ∈ l, ∃ u v, l = u ++ x :: v ∧ PIn E (fun z => z ∈ x :: v) 0 x
  edge : ∀ x ∈ l, ∀ y, E x y → Bef l y x ∨ Lo E l y x
theorem VisD.all {E : Nat → Nat → Prop} {n : Nat} {X : Nat → Prop} {l : List Nat} (h : VisD E n X 0 l) (hX : ∀ x, ¬ X x) : Left E n l := by
  refine ⟨h.nodup, fun x hx => (h.fresh x hx).2, h.last, fun x hx => ?_, fun x hx y hy => (h.edge x hx y hy).resolve_left (hX y)⟩
  obtain ⟨u, v, e, hp⟩ := h.path x hx
  refine ⟨u, v, e, hp.mono fun z hz => ?_⟩
  rcases hz with rfl | hz
  · obtain ⟨r, hr⟩ := h.last
    exact last_in (e ▸ hr)
  · exact hz
/-- At what place a node is left. -/
def posD (l : List Nat) (x : Nat) : Nat := l.idxOf x
theorem posD_split {l u v : List Nat} {x : Nat} (hn : l.Nodup) (e : l = u ++ x :: v) : posD l x = u.length := by
  unfold posD
  subst e
  rw [List.nodup_append] at hn
  have hx : x ∉ u := fun h => hn.2.2 x h x (by simp) rfl
  rw [List.idxOf_append, if_neg hx]
  simp
theorem posD_bef {l : List Nat} {x y : Nat} (hn : l.Nodup) (h : Bef l x y) : posD l x < posD l y := by
  obtain ⟨u, v, e, hx⟩ := h
  rw [posD_split hn e]
  unfold posD
  rw [e, List.idxOf_append, if_pos hx]
  exact List.idxOf_lt_length_of_mem hx
theorem posD_inj {l : List Nat} {x y : Nat} (hx : x ∈ l) (hy : y ∈ l) (h : posD l x = posD l y) : x = y := by
  unfold posD at h
  have h1 := List.getElem_idxOf (List.idxOf_lt_length_of_mem hx)
  have h2 := List.getElem_idxOf (List.idxOf_lt_length_of_mem hy)
  rw [← h1, ← h2]
  congr 1
theorem posD_lt {l : List Nat} {x : Nat} (hx : x ∈ l) : posD l x < l.length := List.idxOf_lt_length_of_mem hx
section
variable {E : Nat → Nat → Prop} {n : Nat} {l : List Nat}
theorem Left.mem0 (h : Left E n l) : 0 ∈ l := by obtain ⟨r, e⟩ := h.last; rw [e]; simp
theorem Left.closed (h : Left E n l) {x y : Nat} (hx : x ∈ l) (e : E x y) : y ∈ l := by
  rcases h.edge x hx y e with ⟨u, v, e, hy⟩ | ⟨u, v, e, _⟩
  · rw [e]; simp [hy]
  · rw [e]; simp
/-- An edge that does not go down goes to one from which one comes back, going no higher. -/
theorem Left.back (h : Left E n l) {x y : Nat} (hx : x ∈ l) (e : E x y) (hp : posD l x ≤ posD l y) : PIn E (fun z => z ∈ l ∧ posD l z ≤ posD l y) y x := by
  rcases h.edge x hx y e with hb | ⟨u, v, e, hp⟩
  · have := posD_bef h.nodup hb; omega
  · refine hp.mono fun z hz => ?_
    rw [posD_split h.nodup e]
    rcases hz with rfl | hz
    · exact ⟨by rw [e]; simp, by rw [posD_split h.nodup e]; exact Nat.le_refl _⟩
    · refine ⟨by rw [e]; simp [hz], ?_⟩
      have : Bef l z y := ⟨u, v, e, hz⟩
      have := posD_bef h.nodup this
      rw [posD_split h.nodup e] at this
      omega
/-- One comes to each by such as are left no sooner. -/
theorem Left.from0 (h : Left E n l) {x : Nat} (hx : x ∈ l) : PIn E (fun z => z ∈ l ∧ posD l x ≤ posD l z) 0 x := by
  obtain ⟨u, v, e, hp⟩ := h.path x hx
  refine hp.mono fun z hz => ?_
  have hzl : z ∈ l := by rw [e]; exact List.mem_append_right _ hz
  refine ⟨hzl, ?_⟩
  rcases List.mem_cons.1 hz with rfl | hz
  · exact Nat.le_refl _
  · obtain ⟨a, b, eb⟩ := List.append_of_mem hz
    have : Bef l x z := ⟨u ++ x :: a, b, by rw [e, eb]; simp, by simp⟩
    exact Nat.le_of_lt (posD_bef h.nodup this)
end
end Go.Proofs.Ytljmignfbagomaa
