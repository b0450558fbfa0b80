/- Andersen's sets: the plain law of point.Within. -/
import Derived.Test.YtdkkmmljaijomaaPtA
import Derived.Test.YtdkkmmljaijomaaSets
import Derived.Test.YtdkkmmljaijomaaCntM
namespace Go.Proofs.Ytdkkmmljaijomaa
open Go.RowKit

/-- What may point to what. -/
inductive PT (l : List Pt) : Nat → Nat → Prop
  | addr {a b : Nat} (h : (⟨1, a, b⟩ : Pt) ∈ l) : PT l a b
  | copy {a b j : Nat} (h : (⟨2, a, b⟩ : Pt) ∈ l) (k : PT l b j) : PT l a j
  | load {a b i j : Nat} (h : (⟨3, a, b⟩ : Pt) ∈ l) (k : PT l b i) (m : PT l i j) : PT l a j
  | store {a b i j : Nat} (h : (⟨4, a, b⟩ : Pt) ∈ l) (k : PT l a i) (m : PT l b j) : PT l i j
theorem PT.mono {l l' : List Pt} (hl : ∀ p ∈ l, p ∈ l') {i j : Nat} (h : PT l i j) : PT l' i j := by
  induction h with
  | addr h => exact .addr (hl _ h)
  | copy h _ ih => exact .copy (hl _ h) ih
  | load h _ _ ih ih' => exact .load (hl _ h) ih ih'
  | store h _ _ ih ih' => exact .store (hl _ h) ih ih'
theorem PT.lt {n : Nat} {l : List Pt} (ok : PtOk n l) {i j : Nat} (h : PT l i j) : i < n ∧ j < n := by
  induction h with
  | addr h => have := ok.ins _ h; dsimp only at this; omega
  | copy h _ ih => have := ok.ins _ h; dsimp only at this; omega
  | load h _ _ ih ih' => have := ok.ins _ h; dsimp only at this; omega
  | store h _ _ ih ih' => omega
noncomputable def ptS (l : List Pt) (i : Nat) : Nat := setN (PT l i)
noncomputable def ptL (n : Nat) (l : List Pt) : List Nat := (List.range n).map (ptS l)
theorem ptL_len (n : Nat) (l : List Pt) : (ptL n l).length = n := by simp [ptL]
theorem ptL_get (n : Nat) (l : List Pt) (i : Nat) (h : i < (ptL n l).length) : (ptL n l)[i] = ptS l i := by simp [ptL]
theorem ptS_lt (l : List Pt) (i : Nat) : ptS l i < 256 := setN_lt _
theorem ptS_bit {n : Nat} {l : List Pt} (ok : PtOk n l) (i j : Nat) : (ptS l i).testBit j = true ↔ PT l i j := by
  unfold ptS
  rw [setN_bit]
  exact ⟨fun h => h.2, fun h => ⟨by have := (h.lt ok).2; have := ok.n8; omega, h⟩⟩

def bitR (r : List Nat) (i j : Nat) : Bool := (r.getD i 0).testBit j
theorem bitR_of {r : List Nat} {i : Nat} (h : i < r.length) (j : Nat) : bitR r i j = r[i].testBit j := by
  unfold bitR; rw [List.getD_eq_getElem?_getD, List.getElem?_eq_getElem h]; rfl
theorem bitR_set {r : List Nat} {a : Nat} (ha : a < r.length) (x i j : Nat) : bitR (r.set a (r[a] ||| x)) i j = (bitR r i j || (decide (a = i) && x.testBit j)) := by
  unfold bitR
  rw [List.getD_eq_getElem?_getD, List.getD_eq_getElem?_getD, List.getElem?_set]
  by_cases e : a = i
  · subst e
    rw [if_pos rfl, if_pos ha, List.getElem?_eq_getElem ha]
    simp [Nat.testBit_or]
  · rw [if_neg e]; simp [e]
/-- What one step says, of what was, is so. -/
def StepD (was r : List Nat) (p : Pt) : Prop :=
  (p.kind = 1 → bitR r p.to.toNat p.from_.toNat = true) ∧ (p.kind = 2 → ∀ j, bitR was p.from_.toNat j = true → bitR r p.to.toNat j = true) ∧
  (p.kind = 3 → ∀ i j, bitR was p.from_.toNat i = true → bitR was i j = true → bitR r p.to.toNat j = true) ∧
  (p.kind = 4 → ∀ i j, bitR was p.to.toNat i = true → bitR was p.from_.toNat j = true → bitR r i j = true)
theorem StepD.mono {was r r' : List Nat} {p : Pt} (h : StepD was r p) (hr : ∀ i j, bitR r i j = true → bitR r' i j = true) : StepD was r' p :=
  ⟨fun e => hr _ _ (h.1 e), fun e j hj => hr _ _ (h.2.1 e j hj), fun e i j h1 h2 => hr _ _ (h.2.2.1 e i j h1 h2), fun e i j h1 h2 => hr _ _ (h.2.2.2 e i j h1 h2)⟩
/-- Within a pass from the rows was: now r, k steps are done. -/
structure Wp (n : Nat) (l : List Pt) (was r : List Nat) (k : Nat) : Prop where
  len : r.length = n
  sound : ∀ i j, bitR r i j = true → PT l i j
  sup : ∀ i j, bitR was i j = true → bitR r i j = true
  done : ∀ p ∈ l.take k, StepD was r p
section
variable {n : Nat} {l : List Pt} {was r : List Nat} {k : Nat}
theorem Wp.up (h : Wp n l was r k) {a : Nat} (ha : a < r.length) {x : Nat} (hx : ∀ j, x.testBit j = true → PT l a j) : Wp n l was (r.set a (r[a] ||| x)) k := by
  have hm : ∀ i j, bitR r i j = true → bitR (r.set a (r[a] ||| x)) i j = true := fun i j hb => by rw [bitR_set ha, hb]; rfl
  refine ⟨by rw [List.length_set]; exact h.len, fun i j hb => ?_, fun i j hb => hm i j (h.sup i j hb), fun p hp => (h.done p hp).mono hm⟩
  rw [bitR_set ha, Bool.or_eq_true, Bool.and_eq_true, decide_eq_true_eq] at hb
  rcases hb with h1 | ⟨rfl, h1⟩
  · exact h.sound i j h1
  · exact hx j h1
theorem Wp.next (h : Wp n l was r k) (hk : k < l.length) (hd : StepD was r l[k]) : Wp n l was r (k + 1) :=
  ⟨h.len, h.sound, h.sup, fun p hp => by
    rw [List.take_succ_eq_append_getElem hk] at hp
    rcases List.mem_append.1 hp with h1 | h1
    · exact h.done p h1
    · simp at h1; subst h1; exact hd⟩
theorem Wp.lt (ok : PtOk n l) (h : Wp n l was r k) {i : Nat} (hi : i < r.length) : r[i] < 256 := lt_pow_of_bits (n := 8) fun j hj => by
  have := (h.sound i j (by rw [bitR_of hi]; exact hj)).lt ok
  have := ok.n8
  omega
/-- Nothing new in a pass: it is all. -/
theorem Wp.all (ok : PtOk n l) (h : Wp n l r r l.length) : r = ptL n l := by
  have hd : ∀ p ∈ l, StepD r r p := fun p hp => h.done p (by rw [List.take_length]; exact hp)
  have key : ∀ i j, PT l i j → bitR r i j = true := fun i j hp => by
    induction hp with
    | addr h => exact (hd _ h).1 rfl
    | copy h _ ih => exact (hd _ h).2.1 rfl _ ih
    | load h _ _ ih ih' => exact (hd _ h).2.2.1 rfl _ _ ih ih'
    | store h _ _ ih ih' => exact (hd _ h).2.2.2 rfl _ _ ih ih'
  refine List.ext_getElem (by rw [h.len, ptL_len]) fun i h1 h2 => ?_
  rw [ptL_get]
  refine set_ext fun j => ?_
  rw [Bool.eq_iff_iff, ptS_bit ok, ← bitR_of h1]
  exact ⟨h.sound i j, key i j⟩
theorem Wp.start (h : Wp n l was r l.length) : Wp n l r r 0 := ⟨h.len, h.sound, fun _ _ h => h, fun p hp => by simp at hp⟩
theorem Wp.first (n : Nat) (l : List Pt) : Wp n l (List.replicate n 0) (List.replicate n 0) 0 :=
  ⟨by simp, fun i j hb => by
    exfalso
    unfold bitR at hb
    rw [List.getD_eq_getElem?_getD] at hb
    by_cases h : i < n
    · rw [List.getElem?_eq_getElem (by simpa using h)] at hb; simp at hb
    · rw [List.getElem?_eq_none (by simp; omega)] at hb; simp at hb, fun _ _ h => h, fun p hp => by simp at hp⟩
end
def wtP (r : List Nat) : Nat := (r.map cnt8).sum
theorem cnt8_le_of {s t : Nat} (h : ∀ k, s.testBit k = true → t.testBit k = true) (ht : t < 256) : cnt8 s ≤ cnt8 t := by
  by_cases e : s = t
  · rw [e]; exact Nat.le_refl _
  · exact Nat.le_of_lt (cnt8_mono_lt h e ht)
theorem wtP_mono : ∀ {r s : List Nat}, r.length = s.length → (∀ (i : Nat) (hi : i < s.length), s[i] < 256) → (∀ i j, bitR r i j = true → bitR s i j = true) → wtP r ≤ wtP s ∧ (r ≠ s → wtP r < wtP s)
  | [], [], _, _, _ => ⟨Nat.le_refl _, fun h => absurd rfl h⟩
  | a :: r, b :: s, hl, hs, hb => by
    have ih := @wtP_mono r s (by simpa using hl) (fun i hi => hs (i + 1) (by simpa using hi)) (fun i j h => hb (i + 1) j h)
    have h0 : ∀ k, a.testBit k = true → b.testBit k = true := fun k h => hb 0 k h
    have hb0 : b < 256 := hs 0 (by simp)
    have h1 := cnt8_le_of h0 hb0
    have e1 : wtP (a :: r) = cnt8 a + wtP r := by simp [wtP]
    have e2 : wtP (b :: s) = cnt8 b + wtP s := by simp [wtP]
    rw [e1, e2]
    refine ⟨by omega, fun hne => ?_⟩
    by_cases e : a = b
    · subst e
      have := ih.2 (fun e => hne (by rw [e]))
      omega
    · have := cnt8_mono_lt h0 e hb0
      omega
theorem wtP_le : ∀ (r : List Nat), wtP r ≤ 8 * r.length
  | [] => Nat.le_refl _
  | a :: r => by
    have := wtP_le r
    have := cnt8_le a
    have e1 : wtP (a :: r) = cnt8 a + wtP r := by simp [wtP]
    rw [e1, List.length_cons]; omega
/-- A store elsewhere leaves a row. -/
theorem own_farB {α : Type} {f : α → List Value} {size base E : Nat} {w : World} {v : Value} {l : List α} (h : Own f size w base E v l) {g off : Nat} (hg : g < base) (u : Value) : Own f size (w.setCell ⟨g, off, none⟩ u) base E v l := by
  refine h.far ?_ u
  rcases Nat.eq_zero_or_pos l.length with h0 | h0
  · rcases h.2 with ⟨rfl, _⟩ | ⟨g', cap, cur, rfl, hb, _⟩
    · intro hx; simp [Value.ownBlock] at hx
    · intro hx; simp [Value.ownBlock] at hx; omega
  · obtain ⟨g', cap, rfl, hb, _⟩ := h.some_ h0
    intro hx; simp [Value.ownBlock] at hx; omega
end Go.Proofs.Ytdkkmmljaijomaa
