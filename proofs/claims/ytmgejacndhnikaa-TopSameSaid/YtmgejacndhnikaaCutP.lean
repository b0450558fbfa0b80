/- Package cut, plain: the least of what is closed; more is needed for more. -/
import Derived.Test.YtmgejacndhnikaaLivP
namespace Go.Proofs.Ytmgejacndhnikaa
open Go.RowKit

/-- Below, in the first 32 places. -/
def Sub32 (l m : Nat) : Prop := ∀ x, x < 32 → l.testBit x = true → m.testBit x = true
theorem Sub32.refl (l : Nat) : Sub32 l l := fun _ _ h => h
theorem Sub32.or {a b m : Nat} (h1 : Sub32 a m) (h2 : Sub32 b m) : Sub32 (a ||| b) m := fun x hx h => by
  rw [Nat.testBit_or, Bool.or_eq_true] at h
  exact h.elim (h1 x hx) (h2 x hx)
theorem andN_bit32 (a b k : Nat) : (andN a b).testBit k = true ↔ k < 32 ∧ a.testBit k = true ∧ b.testBit k = false := setTo_bit _ _ _
/-- A step that is needed, or not. -/
noncomputable def ctS (s : Step) (l : Nat) : Nat := if l.testBit s.to.toNat = true then ahL s l else l
noncomputable def ctC (c : List Step) (l : Nat) : Nat := c.foldr ctS l
theorem ctC_cons (s : Step) (c : List Step) (l : Nat) : ctC (s :: c) l = ctS s (ctC c l) := rfl
theorem ahL_sub {s : Step} {l m : Nat} (h : Sub32 l m) : Sub32 (ahL s l) (ahL s m) := by
  have h0 : Sub32 (andN l (2 ^ s.to.toNat)) (andN m (2 ^ s.to.toNat)) := fun x hx hb => by
    rw [andN_bit32] at hb ⊢
    exact ⟨hx, h x hx hb.2.1, hb.2.2⟩
  have hor : ∀ {a b : Nat} (k : Nat), Sub32 a b → Sub32 (a ||| k) (b ||| k) := fun k hab x hx hb => by
    rw [Nat.testBit_or, Bool.or_eq_true] at hb ⊢
    exact hb.imp (hab x hx) id
  unfold ahL
  split
  · exact h0
  · split
    · exact hor _ h0
    · exact hor _ (hor _ h0)
theorem keep_sub {s : Step} {l m : Nat} (h : Sub32 l m) (hn : l.testBit s.to.toNat = false) : Sub32 l (ahL s m) := fun x hx hb => by
  have hne : s.to.toNat ≠ x := fun e => by rw [e, hb] at hn; cases hn
  have h0 : (andN m (2 ^ s.to.toNat)).testBit x = true := (andN_bit32 _ _ _).2 ⟨hx, h x hx hb, by rw [testBit_pow, decide_eq_false_iff_not]; exact hne⟩
  unfold ahL
  split
  · exact h0
  · split
    · rw [Nat.testBit_or, h0]; rfl
    · rw [Nat.testBit_or, Nat.testBit_or, h0]; rfl
theorem ctS_sub {s : Step} (hs : s.to.toNat < 32) {l m : Nat} (h : Sub32 l m) : Sub32 (ctS s l) (ctS s m) := by
  unfold ctS
  by_cases h1 : l.testBit s.to.toNat = true
  · rw [if_pos h1, if_pos (h _ hs h1)]; exact ahL_sub h
  · rw [if_neg h1]
    have h2 : l.testBit s.to.toNat = false := by simpa using h1
    split
    · exact keep_sub h h2
    · exact h
theorem ctC_sub : ∀ {c : List Step}, (∀ s ∈ c, s.to.toNat < 32) → ∀ {l m : Nat}, Sub32 l m → Sub32 (ctC c l) (ctC c m)
  | [], _, _, _, h => h
  | s :: c, hc, l, m, h => by
    rw [ctC_cons, ctC_cons]
    exact ctS_sub (hc s (by simp)) (ctC_sub (fun t ht => hc t (by simp [ht])) h)
/-- Is step k needed, of what is needed behind all? -/
def ctM (c : List Step) (l k : Nat) : Prop := ∃ s, c[k]? = some s ∧ (ctC (c.drop (k + 1)) l).testBit s.to.toNat = true
theorem ctM_sub {c : List Step} (hc : ∀ s ∈ c, s.to.toNat < 32) {l m k : Nat} (h : Sub32 l m) (hm : ctM c l k) : ctM c m k := by
  obtain ⟨s, h1, h2⟩ := hm
  exact ⟨s, h1, ctC_sub (fun t ht => hc t (List.mem_of_mem_drop ht)) h _ (hc s (List.mem_of_getElem? h1)) h2⟩
/-- Behind a block. -/
def beC (want : Nat) (F : List Nat) (t i : Nat) (b : Blk) : Nat :=
  (nxB b).foldl (fun s j => s ||| getU F j.toNat) (if nxB b = [] then want else 0) ||| if t.testBit i = true then 2 ^ b.test.toNat else 0
theorem beC_bit (want : Nat) (F : List Nat) (t i : Nat) (b : Blk) (k : Nat) : (beC want F t i b).testBit k = true ↔
    ((nxB b = [] ∧ want.testBit k = true) ∨ ∃ j ∈ nxB b, (getU F j.toNat).testBit k = true) ∨ (t.testBit i = true ∧ b.test.toNat = k) := by
  unfold beC
  rw [Nat.testBit_or, Bool.or_eq_true, fold_bit]
  refine or_congr (or_congr_left ?_) ?_
  · by_cases h : nxB b = []
    · rw [if_pos h]; simp [h]
    · rw [if_neg h]; simp [h]
  · by_cases h : t.testBit i = true
    · rw [if_pos h, testBit_pow, decide_eq_true_eq]; simp [h]
    · rw [if_neg h]; simp [h]
/-- What is needed ahead of the blocks, which steps, which tests. -/
structure Tri where
  F : List Nat
  M : Nat → Nat → Prop
  t : Nat
structure Tri.Le (a b : Tri) : Prop where
  F : ∀ i, Sub32 (getU a.F i) (getU b.F i)
  M : ∀ i k, a.M i k → b.M i k
  t : ∀ i, a.t.testBit i = true → b.t.testBit i = true
theorem beC_sub {w w' : Nat} {a b : Tri} (hw : ∀ x, w.testBit x = true → w'.testBit x = true) (h : a.Le b) (i : Nat) (blk : Blk) : Sub32 (beC w a.F a.t i blk) (beC w' b.F b.t i blk) := fun x hx hb => by
  rw [beC_bit] at hb ⊢
  rcases hb with (⟨h1, h2⟩ | ⟨j, hj, h2⟩) | ⟨h1, h2⟩
  · exact .inl (.inl ⟨h1, hw x h2⟩)
  · exact .inl (.inr ⟨j, hj, h.F _ x hx h2⟩)
  · exact .inr ⟨h.t i h1, h2⟩
structure Clo (p : List Blk) (on : Nat → Nat) (w : Nat) (T : Tri) : Prop where
  F : ∀ i b, p[i]? = some b → Sub32 (ctC b.code (beC w T.F T.t i b)) (getU T.F i)
  M : ∀ i b k, p[i]? = some b → ctM b.code (beC w T.F T.t i b) k → T.M i k
  t : ∀ i b j, p[i]? = some b → 0 ≤ b.test → j < p.length → (on i).testBit j = true → (T.t.testBit j = true ∨ ∃ k, T.M j k) → T.t.testBit i = true
/-- Below all that is closed. -/
def Low (p : List Blk) (on : Nat → Nat) (w : Nat) (T : Tri) : Prop := ∀ C, Clo p on w C → T.Le C
def POk32 (p : List Blk) : Prop := ∀ b ∈ p, ∀ s ∈ b.code, s.to.toNat < 32
theorem Tri.Le.refl (a : Tri) : a.Le a := ⟨fun _ => Sub32.refl _, fun _ _ h => h, fun _ h => h⟩
theorem Clo.less {p : List Blk} {on : Nat → Nat} {w w' : Nat} {T : Tri} (hp : POk32 p) (hw : ∀ x, w.testBit x = true → w'.testBit x = true) (h : Clo p on w' T) : Clo p on w T := by
  refine ⟨fun i b hb x hx hh => ?_, fun i b k hb hm => ?_, h.t⟩
  · exact h.F i b hb x hx (ctC_sub (hp b (List.mem_of_getElem? hb)) (beC_sub hw (Tri.Le.refl T) i b) x hx hh)
  · exact h.M i b k hb (ctM_sub (hp b (List.mem_of_getElem? hb)) (beC_sub hw (Tri.Le.refl T) i b) hm)
/-- The law: what is needed for these is needed for more. -/
theorem cut_more {p : List Blk} {on : Nat → Nat} {w w' : Nat} {S T : Tri} (hp : POk32 p) (hw : ∀ x, w.testBit x = true → w'.testBit x = true) (hS : Low p on w S) (hT : Clo p on w' T) : S.Le T := hS T (hT.less hp hw)
theorem Low.start (p : List Blk) (on : Nat → Nat) (w n : Nat) : Low p on w ⟨List.replicate n 0, fun _ _ => False, 0⟩ := fun C _ => by
  refine ⟨fun i x _ h => ?_, fun _ _ h => h.elim, fun i h => ?_⟩
  · have : getU (List.replicate n 0) i = 0 := by
      unfold getU
      rw [List.getD_eq_getElem?_getD, List.getElem?_replicate]
      split <;> rfl
    rw [this, Nat.zero_testBit] at h; cases h
  · rw [Nat.zero_testBit] at h; cases h
theorem Low.ahead {p : List Blk} {on : Nat → Nat} {w : Nat} {T : Tri} (hp : POk32 p) (h : Low p on w T) {i : Nat} {b : Blk} (hb : p[i]? = some b) {C : Tri} (hC : Clo p on w C) :
    Sub32 (ctC b.code (beC w T.F T.t i b)) (getU C.F i) ∧ ∀ k, ctM b.code (beC w T.F T.t i b) k → C.M i k := by
  have hs := beC_sub (fun _ h => h) (h C hC) i b (w := w) (w' := w)
  have hc := hp b (List.mem_of_getElem? hb)
  exact ⟨fun x hx hh => hC.F i b hb x hx (ctC_sub hc hs x hx hh), fun k hm => hC.M i b k hb (ctM_sub hc hs hm)⟩
theorem Low.marks {p : List Blk} {on : Nat → Nat} {w : Nat} {T : Tri} (hp : POk32 p) (h : Low p on w T) {i : Nat} {b : Blk} (hb : p[i]? = some b) {M' : Nat → Nat → Prop} (hM : ∀ j k, M' j k → T.M j k ∨ (j = i ∧ ctM b.code (beC w T.F T.t i b) k)) : Low p on w ⟨T.F, M', T.t⟩ := fun C hC =>
  ⟨(h C hC).F, fun j k hm => by
    rcases hM j k hm with h1 | ⟨rfl, h1⟩
    · exact (h C hC).M j k h1
    · exact (h.ahead hp hb hC).2 k h1, (h C hC).t⟩
theorem Low.row {p : List Blk} {on : Nat → Nat} {w : Nat} {T : Tri} (h : Low p on w T) {i y : Nat} (hy : ∀ C, Clo p on w C → Sub32 y (getU C.F i)) : Low p on w ⟨T.F.set i (getU T.F i ||| y), T.M, T.t⟩ := fun C hC => by
  refine ⟨fun j => ?_, (h C hC).M, (h C hC).t⟩
  by_cases e : i = j
  · subst e
    by_cases hl : i < T.F.length
    · have : getU (T.F.set i (getU T.F i ||| y)) i = getU T.F i ||| y := by
        unfold getU
        rw [List.getD_eq_getElem?_getD, List.getElem?_set_self hl]; rfl
      rw [show getU (Tri.mk (T.F.set i (getU T.F i ||| y)) T.M T.t).F i = getU T.F i ||| y from this]
      exact Sub32.or ((h C hC).F i) (hy C hC)
    · rw [show (Tri.mk (T.F.set i (getU T.F i ||| y)) T.M T.t).F = T.F from List.set_eq_of_length_le (by omega)]
      exact (h C hC).F i
  · have : getU (T.F.set i (getU T.F i ||| y)) j = getU T.F j := by
      unfold getU
      rw [List.getD_eq_getElem?_getD, List.getElem?_set, if_neg e, List.getD_eq_getElem?_getD]
    rw [show getU (Tri.mk (T.F.set i (getU T.F i ||| y)) T.M T.t).F j = getU T.F j from this]
    exact (h C hC).F j
theorem Low.test {p : List Blk} {on : Nat → Nat} {w : Nat} {T : Tri} (h : Low p on w T) {i j : Nat} {b : Blk} (hb : p[i]? = some b) (h0 : 0 ≤ b.test) (hj : j < p.length) (ho : (on i).testBit j = true) (hd : T.t.testBit j = true ∨ ∃ k, T.M j k) : Low p on w ⟨T.F, T.M, T.t ||| 2 ^ i⟩ := fun C hC => by
  refine ⟨(h C hC).F, (h C hC).M, fun x hx => ?_⟩
  have hx : (T.t ||| 2 ^ i).testBit x = true := hx
  rw [set_bit, Bool.or_eq_true, decide_eq_true_eq] at hx
  rcases hx with hx | rfl
  · exact (h C hC).t x hx
  · exact hC.t i b j hb h0 hj ho (hd.imp ((h C hC).t j) fun ⟨k, hk⟩ => ⟨k, (h C hC).M j k hk⟩)
end Go.Proofs.Ytmgejacndhnikaa
