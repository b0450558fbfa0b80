/- point.Joined, plain: classes that are made one; a pass that changes nothing leaves them closed. -/
import Derived.Test.YtdkkmmljaijomaaOwn
namespace Go.Proofs.Ytdkkmmljaijomaa
open Go.RowKit

def gI (l : List Int) (i : Int) : Int := l.getD i.toNat 0
theorem gI_get {l : List Int} {i : Nat} (h : i < l.length) : gI l (i : Int) = l[i] := by unfold gI; rw [Int.toNat_natCast, List.getD_eq_getElem?_getD, List.getElem?_eq_getElem h]; rfl
/-- Of each its class; of each class to which it points. -/
structure Cls (n : Nat) (o t : List Int) : Prop where
  lo : o.length = n
  lt : t.length = n
  of : ∀ i : Nat, i < n → (0 ≤ gI o i ∧ gI o i < n) ∧ gI o (gI o i) = gI o i
  to : ∀ i : Nat, i < n → gI t i = -1 ∨ ((0 ≤ gI t i ∧ gI t i < n) ∧ gI o (gI t i) = gI t i)
/-- A class, or none. -/
def RepN (n : Nat) (o : List Int) (a : Int) : Prop := a = -1 ∨ ((0 ≤ a ∧ a < n) ∧ gI o a = a)
def reps (o : List Int) (n : Nat) : Nat := (List.range n).countP fun i : Nat => decide (gI o (i : Int) = i)
def negs (t : List Int) (n : Nat) : Nat := (List.range n).countP fun i : Nat => decide (gI t (i : Int) < 0)
def muC (n : Nat) (o t : List Int) : Nat := (n + 1) * reps o n + negs t n
theorem countP_le' {α : Type} {p q : α → Bool} : ∀ {l : List α}, (∀ x ∈ l, p x = true → q x = true) → l.countP p ≤ l.countP q
  | [], _ => Nat.le_refl _
  | x :: r, h => by
    have ih := countP_le' (l := r) fun y hy => h y (by simp [hy])
    rw [List.countP_cons, List.countP_cons]
    have := h x (by simp)
    cases hp : p x
    · cases q x <;> simp <;> omega
    · rw [this hp]; simp; omega
theorem countP_lt' {α : Type} {p q : α → Bool} : ∀ {l : List α}, (∀ x ∈ l, p x = true → q x = true) → (∃ x ∈ l, q x = true ∧ p x = false) → l.countP p < l.countP q
  | [], _, ⟨_, h, _⟩ => by cases h
  | x :: r, h, ⟨y, hy, h1, h2⟩ => by
    have hr : ∀ z ∈ r, p z = true → q z = true := fun z hz => h z (by simp [hz])
    rw [List.countP_cons, List.countP_cons]
    rcases List.mem_cons.1 hy with rfl | hy
    · have := countP_le' hr
      rw [h1, h2]; simp; omega
    · have ih := countP_lt' hr ⟨y, hy, h1, h2⟩
      have := h x (by simp)
      cases hp : p x
      · cases q x <;> simp <;> omega
      · rw [this hp]; simp; omega
theorem negs_le (t : List Int) (n : Nat) : negs t n ≤ n := by
  unfold negs
  have := List.countP_le_length (p := fun i : Nat => decide (gI t (i : Int) < 0)) (l := List.range n)
  rwa [List.length_range] at this
theorem reps_le (t : List Int) (n : Nat) : reps t n ≤ n := by
  unfold reps
  have := List.countP_le_length (p := fun i : Nat => decide (gI t (i : Int) = i)) (l := List.range n)
  rwa [List.length_range] at this
theorem gI_set {l : List Int} {k : Nat} (hk : k < l.length) (v : Int) (i : Nat) : gI (l.set k v) (i : Int) = if k = i then v else gI l (i : Int) := by
  unfold gI
  rw [Int.toNat_natCast, List.getD_eq_getElem?_getD, List.getD_eq_getElem?_getD, List.getElem?_set]
  by_cases e : k = i
  · subst e; rw [if_pos rfl, if_pos hk, if_pos rfl]; rfl
  · rw [if_neg e, if_neg e]
theorem gI_map {l : List Int} (f : Int → Int) {i : Nat} (hi : i < l.length) : gI (l.map f) (i : Int) = f (gI l (i : Int)) := by
  rw [gI_get (by simpa using hi), gI_get hi]; simp
def chB (a b x : Int) : Int := if x = b then a else x
/-- b's members are a's; x, y: to which a, b point. -/
def mgO (o : List Int) (a b : Int) : List Int := o.map (chB a b)
def mgZ (x y a b : Int) : Int := chB a b (if x < 0 then y else x)
def mgT (t : List Int) (a b : Int) : List Int := (t.map (chB a b)).set a.toNat (mgZ (gI t a) (gI t b) a b)
section
variable {n : Nat} {o t : List Int} {a b : Int}
theorem chB_rep {x : Int} (hx : RepN n o x) (hl : o.length = n) (ha0 : 0 ≤ a) (ha1 : a < n) (haa : gI o a = a) (hab : a ≠ b) : RepN n (mgO o a b) (chB a b x) := by
  have key : ∀ r : Int, (0 ≤ r ∧ r < n) → gI o r = r → r ≠ b → gI (mgO o a b) r = r := fun r h0 hr hne => by
    obtain ⟨m, rfl⟩ := Int.eq_ofNat_of_zero_le h0.1
    unfold mgO
    rw [gI_map _ (by omega), hr]
    unfold chB; rw [if_neg hne]
  rcases hx with rfl | ⟨h0, h1⟩
  · unfold chB
    split
    · exact .inr ⟨⟨ha0, ha1⟩, key a ⟨ha0, ha1⟩ haa hab⟩
    · exact .inl rfl
  · unfold chB
    split
    · exact .inr ⟨⟨ha0, ha1⟩, key a ⟨ha0, ha1⟩ haa hab⟩
    · rename_i hne
      exact .inr ⟨h0, key x h0 h1 hne⟩
theorem Cls.rep (h : Cls n o t) {a : Int} (ha : 0 ≤ a ∧ a < n) : RepN n o (gI t a) := by
  obtain ⟨m, rfl⟩ := Int.eq_ofNat_of_zero_le ha.1
  exact h.to m (by omega)
theorem Cls.merge (h : Cls n o t) (ha0 : 0 ≤ a) (ha1 : a < n) (haa : gI o a = a) (hb0 : 0 ≤ b) (hb1 : b < n) (hbb : gI o b = b) (hab : a ≠ b) :
    Cls n (mgO o a b) (mgT t a b) ∧ muC n (mgO o a b) (mgT t a b) < muC n o t ∧ RepN n (mgO o a b) (chB a b (gI t a)) ∧ RepN n (mgO o a b) (chB a b (gI t b)) := by
  have hx := h.rep ⟨ha0, ha1⟩
  have hy := h.rep ⟨hb0, hb1⟩
  have hrep : ∀ {x : Int}, RepN n o x → RepN n (mgO o a b) (chB a b x) := fun hx => chB_rep hx h.lo ha0 ha1 haa hab
  have hz : RepN n (mgO o a b) (mgZ (gI t a) (gI t b) a b) := by
    unfold mgZ
    split
    · exact hrep hy
    · exact hrep hx
  obtain ⟨ka, rfl⟩ := Int.eq_ofNat_of_zero_le ha0
  obtain ⟨kb, rfl⟩ := Int.eq_ofNat_of_zero_le hb0
  have hgo : ∀ i : Nat, i < n → gI (mgO o ka kb) i = chB ka kb (gI o i) := fun i hi => gI_map _ (by rw [h.lo]; exact hi)
  have hgt : ∀ i : Nat, i < n → gI (mgT t ka kb) i = if ka = i then mgZ (gI t ka) (gI t kb) ka kb else chB ka kb (gI t i) := fun i hi => by
    unfold mgT
    rw [Int.toNat_natCast, gI_set (by rw [List.length_map, h.lt]; omega), gI_map _ (by rw [h.lt]; exact hi)]
  refine ⟨⟨by unfold mgO; rw [List.length_map]; exact h.lo, by unfold mgT; rw [List.length_set, List.length_map]; exact h.lt, fun i hi => ?_, fun i hi => ?_⟩, ?_, hrep hx, hrep hy⟩
  · have h1 := hrep (x := gI o i) (.inr (h.of i hi))
    rw [hgo i hi]
    rcases h1 with h1 | h1
    · exfalso
      have h2 := (h.of i hi).1
      unfold chB at h1
      split at h1 <;> omega
    · exact h1
  · rw [hgt i hi]
    split
    · exact hz
    · exact hrep (h.to i hi)
  · have hr : reps (mgO o ka kb) n < reps o n := by
      refine countP_lt' (fun i hi hp => ?_) ⟨kb, List.mem_range.2 (by omega), decide_eq_true hbb, decide_eq_false ?_⟩
      · rw [decide_eq_true_eq] at hp ⊢
        rw [List.mem_range] at hi
        rw [hgo i hi] at hp
        unfold chB at hp
        split at hp
        · rename_i e
          have : ka = i := by omega
          subst this
          rw [haa] at e; omega
        · exact hp
      · rw [hgo kb (by omega), hbb]
        unfold chB
        rw [if_pos rfl]; exact hab
    have hn : negs (mgT t ka kb) n ≤ negs t n := by
      refine countP_le' fun i hi hp => ?_
      rw [decide_eq_true_eq] at hp ⊢
      rw [List.mem_range] at hi
      rw [hgt i hi] at hp
      split at hp
      · rename_i e
        subst e
        unfold mgZ chB at hp
        by_cases hxn : gI t (ka : Int) < 0
        · exact hxn
        · rw [if_neg hxn] at hp
          split at hp <;> omega
      · unfold chB at hp
        split at hp
        · omega
        · exact hp
    unfold muC
    have : (n + 1) * reps (mgO o ka kb) n + (n + 1) ≤ (n + 1) * reps o n := by
      rw [← Nat.mul_succ]; exact Nat.mul_le_mul_left _ hr
    have := negs_le (mgT t ka kb) n
    omega
/-- A class that points nowhere points to another's. -/
theorem Cls.point (h : Cls n o t) (ha0 : 0 ≤ a) (ha1 : a < (n : Int)) (hx : gI t a < 0) {y : Int} (hy0 : 0 ≤ y) (hy : RepN n o y) : Cls n o (t.set a.toNat y) ∧ muC n o (t.set a.toNat y) < muC n o t := by
  obtain ⟨ka, rfl⟩ := Int.eq_ofNat_of_zero_le ha0
  rw [Int.toNat_natCast]
  have hg : ∀ i : Nat, gI (t.set ka y) i = if ka = i then y else gI t i := fun i => gI_set (by rw [h.lt]; omega) y i
  refine ⟨⟨h.lo, by rw [List.length_set]; exact h.lt, h.of, fun i hi => ?_⟩, ?_⟩
  · rw [hg i]
    split
    · exact hy
    · exact h.to i hi
  · unfold muC
    refine Nat.add_lt_add_left (countP_lt' (fun i hi hp => ?_) ⟨ka, List.mem_range.2 (by omega), decide_eq_true hx, decide_eq_false ?_⟩) _
    · rw [decide_eq_true_eq] at hp ⊢
      rw [hg i] at hp
      split at hp
      · omega
      · exact hp
    · rw [hg ka, if_pos rfl]; omega
/-- What a step says is so. -/
def ClosedJ (o t : List Int) (kind to_ from_ : Int) : Prop :=
  (kind = 1 → gI t (gI o to_) = gI o from_) ∧ (kind = 2 → 0 ≤ gI t (gI o from_) → gI t (gI o to_) = gI t (gI o from_)) ∧
  (kind = 3 → 0 ≤ gI t (gI o from_) → 0 ≤ gI t (gI t (gI o from_)) → gI t (gI o to_) = gI t (gI t (gI o from_))) ∧
  (kind = 4 → 0 ≤ gI t (gI o to_) → 0 ≤ gI t (gI o from_) → gI t (gI t (gI o to_)) = gI t (gI o from_))
/-- Behind something: as it was, or less. -/
def MuE (n : Nat) (o t : List Int) (C : Prop) (o' t' : List Int) : Prop := Cls n o' t' ∧ ((o' = o ∧ t' = t ∧ C) ∨ muC n o' t' < muC n o t)
end
end Go.Proofs.Ytdkkmmljaijomaa
