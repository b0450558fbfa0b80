/- package link, plain: where names are; what linked bytes are. -/
import Derived.Test.YtiphhadhbokgmaaLib
namespace Go.Proofs.Ytiphhadhbokgmaa

structure Ob where
  bytes : List Int
  has : List (Int × Int)
  wants : List (Int × Int)
def onul : Ob := ⟨[], [], []⟩
def lenO (l : List Ob) : Nat := (l.map fun o => o.bytes.length).sum
def offs (l : List Ob) (i : Nat) : Nat := lenO (l.take i)
def obAt (l : List Ob) (i : Nat) : Ob := l.getD i onul
theorem obAt_get {l : List Ob} {i : Nat} (h : i < l.length) : obAt l i = l[i] := by unfold obAt; rw [List.getD_eq_getElem?_getD, List.getElem?_eq_getElem h]; rfl
abbrev EntL := Int × (Nat × Int)
def entsO (i at_ : Nat) (o : Ob) : List EntL := o.has.map fun h => (h.1, (i, (at_ : Int) + h.2))
def entsA : Nat → Nat → List Ob → List EntL
  | _, _, [] => []
  | i, a, o :: r => entsO i a o ++ entsA (i + 1) (a + o.bytes.length) r
def entsL (l : List Ob) : List EntL := entsA 0 0 l
def lk (L : List EntL) (x : Int) : Option (Nat × Int) := (L.find? fun e => e.1 == x).map (·.2)
theorem lenO_append (l m : List Ob) : lenO (l ++ m) = lenO l + lenO m := by unfold lenO; rw [List.map_append, List.sum_append]
theorem offs_succ {l : List Ob} {i : Nat} (h : i < l.length) : offs l (i + 1) = offs l i + l[i].bytes.length := by
  unfold offs
  rw [List.take_succ_eq_append_getElem h, lenO_append]
  rfl
theorem offs_all (l : List Ob) : offs l l.length = lenO l := by unfold offs; rw [List.take_length]
theorem entsA_append (m : List Ob) : ∀ (l : List Ob) (i a : Nat), entsA i a (l ++ m) = entsA i a l ++ entsA (i + l.length) (a + lenO l) m
  | [], i, a => by simp [entsA, lenO]
  | o :: r, i, a => by
    rw [List.cons_append, entsA, entsA, entsA_append m r, List.append_assoc]
    rw [show i + 1 + r.length = i + (o :: r).length by rw [List.length_cons]; omega, show a + o.bytes.length + lenO r = a + lenO (o :: r) by show a + o.bytes.length + lenO r = a + (o.bytes.length + lenO r); omega]
theorem entsL_succ {l : List Ob} {i : Nat} (h : i < l.length) : entsL (l.take (i + 1)) = entsL (l.take i) ++ entsO i (offs l i) l[i] := by
  unfold entsL
  rw [List.take_succ_eq_append_getElem h, entsA_append, List.length_take, Nat.min_eq_left (Nat.le_of_lt h), Nat.zero_add, Nat.zero_add]
  simp [entsA, offs]
theorem entsL_split {l : List Ob} {i : Nat} (h : i < l.length) : ∃ M, entsL l = entsL (l.take i) ++ entsO i (offs l i) l[i] ++ M := by
  refine ⟨entsA (0 + (l.take (i + 1)).length) (0 + lenO (l.take (i + 1))) (l.drop (i + 1)), ?_⟩
  rw [← entsL_succ h]
  unfold entsL
  rw [← entsA_append, List.take_append_drop]
theorem lk_append (L M : List EntL) (x : Int) : lk (L ++ M) x = (lk L x).or (lk M x) := by
  unfold lk
  rw [List.find?_append]
  cases L.find? fun e => e.1 == x <;> rfl
theorem lk_one (e : EntL) (x : Int) : lk [e] x = if e.1 = x then some e.2 else none := by
  unfold lk
  rw [List.find?_cons]
  by_cases h : e.1 = x
  · rw [if_pos h]; simp [h]
  · rw [if_neg h, show (e.1 == x) = false by rw [beq_eq_false_iff_ne]; exact h]; rfl
theorem lk_none {L : List EntL} {x : Int} : lk L x = none ↔ x ∉ L.map (·.1) := by
  unfold lk
  rw [Option.map_eq_none_iff, List.find?_eq_none, List.mem_map]
  refine ⟨fun h ⟨e, he, h1⟩ => by simpa [h1] using h e he, fun h e he h1 => h ⟨e, he, by simpa using h1⟩⟩
theorem lk_mem {L : List EntL} {x : Int} {y : Nat × Int} (h : lk L x = some y) : (x, y) ∈ L := by
  unfold lk at h
  obtain ⟨e, he, rfl⟩ := Option.map_eq_some_iff.1 h
  have h1 := List.mem_of_find?_eq_some he
  have h2 := List.find?_some he
  have h2 : e.1 = x := by simpa using h2
  rw [← h2]
  exact h1
theorem mem_entsA {x : EntL} : ∀ {l : List Ob} {i a : Nat}, x ∈ entsA i a l → ∃ (k : Nat) (hk : k < l.length) (h : Int × Int), h ∈ l[k].has ∧ x = (h.1, (i + k, ((a + offs l k : Nat) : Int) + h.2))
  | [], i, a, h => by simp [entsA] at h
  | o :: r, i, a, h => by
    rw [entsA, List.mem_append] at h
    rcases h with h | h
    · obtain ⟨p, hp, rfl⟩ := List.mem_map.1 h
      exact ⟨0, by simp, p, hp, by simp [offs, lenO]⟩
    · obtain ⟨k, hk, p, hp, rfl⟩ := mem_entsA h
      refine ⟨k + 1, by simpa using hk, p, hp, ?_⟩
      have : a + o.bytes.length + offs r k = a + offs (o :: r) (k + 1) := by
        unfold offs; rw [List.take_succ_cons]; show _ = a + (o.bytes.length + lenO (r.take k)); omega
      rw [this, show i + 1 + k = i + (k + 1) by omega]
theorem lk_at {l : List Ob} {x : Int} {i : Nat} {a : Int} (h : lk (entsL l) x = some (i, a)) : ∃ (hi : i < l.length) (p : Int × Int), p ∈ l[i].has ∧ p.1 = x ∧ a = (offs l i : Nat) + p.2 := by
  obtain ⟨k, hk, p, hp, e⟩ := mem_entsA (lk_mem h)
  injection e with e1 e2
  injection e2 with e2 e3
  rw [Nat.zero_add] at e2 e3
  subst e2
  exact ⟨hk, p, hp, e1.symm, e3⟩
theorem mem_entsL {l : List Ob} {i : Nat} (hi : i < l.length) {p : Int × Int} (hp : p ∈ l[i].has) : (p.1, (i, ((offs l i : Nat) : Int) + p.2)) ∈ entsL l := by
  obtain ⟨M, e⟩ := entsL_split hi
  rw [e]
  exact List.mem_append_left _ (List.mem_append_right _ (List.mem_map.2 ⟨p, hp, rfl⟩))
/-- Each name once. -/
def OnceL (l : List Ob) : Prop := ((entsL l).map (·.1)).Nodup
def badH (o : Ob) (h : Int × Int) : Bool := decide (h.2 < 0 ∨ (o.bytes.length : Int) < h.2)
def badW (o : Ob) (h : Int × Int) : Bool := decide (h.2 < 0 ∨ (o.bytes.length : Int) - 2 < h.2)
def placeBad (o : Ob) : Bool := o.has.any (badH o) || o.wants.any (badW o)
def bigO (o : Ob) : Bool := decide (200 < o.bytes.length ∨ 12 < o.has.length ∨ 12 < o.wants.length)
open Classical in
noncomputable def obErr (l : List Ob) : Int := if 5 < l.length then 1 else if l.any bigO = true then 1 else if l.any placeBad = true then 4 else if OnceL l then 0 else 3
structure OkL (l : List Ob) : Prop where
  n5 : l.length ≤ 5
  small : ∀ o ∈ l, o.bytes.length ≤ 200 ∧ o.has.length ≤ 12 ∧ o.wants.length ≤ 12
  has : ∀ o ∈ l, ∀ h ∈ o.has, 0 ≤ h.2 ∧ h.2 ≤ o.bytes.length
  wants : ∀ o ∈ l, ∀ h ∈ o.wants, 0 ≤ h.2 ∧ h.2 ≤ (o.bytes.length : Int) - 2
  once : OnceL l
theorem obErr_iff {l : List Ob} : obErr l = 0 ↔ OkL l := by
  unfold obErr
  constructor
  · intro h
    split at h
    · cases h
    split at h
    · cases h
    split at h
    · cases h
    split at h
    · rename_i h1 h2 h3 h4
      rw [Bool.not_eq_true, List.any_eq_false] at h2 h3
      refine ⟨by omega, fun o ho => ?_, fun o ho p hp => ?_, fun o ho p hp => ?_, h4⟩
      · have := h2 o ho
        unfold bigO at this
        simp at this
        omega
      · have := h3 o ho
        unfold placeBad at this
        rw [Bool.not_eq_true, Bool.or_eq_false_iff, List.any_eq_false] at this
        have := this.1 p hp
        unfold badH at this
        simp at this
        omega
      · have := h3 o ho
        unfold placeBad at this
        rw [Bool.not_eq_true, Bool.or_eq_false_iff, List.any_eq_false, List.any_eq_false] at this
        have := this.2 p hp
        unfold badW at this
        simp at this
        omega
    · cases h
  · intro h
    have h2 : ¬ l.any bigO = true := by
      rw [Bool.not_eq_true, List.any_eq_false]
      intro o ho
      have := h.small o ho
      unfold bigO
      simp; omega
    have h3 : ¬ l.any placeBad = true := by
      rw [Bool.not_eq_true, List.any_eq_false]
      intro o ho
      unfold placeBad
      rw [Bool.not_eq_true, Bool.or_eq_false_iff, List.any_eq_false, List.any_eq_false]
      refine ⟨fun p hp => ?_, fun p hp => ?_⟩
      · have := h.has o ho p hp
        unfold badH
        simp; omega
      · have := h.wants o ho p hp
        unfold badW
        simp; omega
    rw [if_neg (by have := h.n5; omega), if_neg h2, if_neg h3, if_pos h.once]
theorem once_succ {L : List EntL} {e : EntL} (h : (L.map (·.1)).Nodup) (hn : lk L e.1 = none) : ((L ++ [e]).map (·.1)).Nodup := by
  rw [List.map_append, List.nodup_append]
  refine ⟨h, by simp, fun a ha b hb => ?_⟩
  have hb : b = e.1 := by simpa using hb
  rw [hb]
  exact fun e' => lk_none.1 hn (e' ▸ ha)
theorem once_pre {L M : List EntL} (h : ((L ++ M).map (·.1)).Nodup) : (L.map (·.1)).Nodup := by
  rw [List.map_append, List.nodup_append] at h
  exact h.1
/-- A name that is there twice. -/
theorem not_once {L M : List EntL} {e : EntL} (h : lk L e.1 ≠ none) : ¬ ((L ++ [e] ++ M).map (·.1)).Nodup := fun hn => by
  have h1 := once_pre hn
  rw [List.map_append, List.nodup_append] at h1
  apply h
  rw [lk_none]
  intro hm
  exact h1.2.2 _ hm _ (by simp) rfl
/-- Is it wanted at no place of these? -/
def freeW (ws : List (Int × Int)) (j : Int) : Prop := ∀ w ∈ ws, j ≠ w.2 ∧ j ≠ w.2 + 1
def gB (b : List Int) (i : Nat) : Int := b.getD i 0
theorem gB_get {b : List Int} {i : Nat} (h : i < b.length) : gB b i = b[i] := by unfold gB; rw [List.getD_eq_getElem?_getD, List.getElem?_eq_getElem h]; rfl
theorem gB_set {b : List Int} {j : Nat} (hj : j < b.length) (x : Int) (i : Nat) : gB (b.set j x) i = if j = i then x else gB b i := by
  unfold gB
  rw [List.getD_eq_getElem?_getD, List.getD_eq_getElem?_getD, List.getElem?_set]
  by_cases e : j = i
  · subst e; rw [if_pos rfl, if_pos hj, if_pos rfl]; rfl
  · rw [if_neg e, if_neg e]
/-- Object i's bytes behind its first k wants. -/
structure SegL (l : List Ob) (b : List Int) (i k : Nat) : Prop where
  free : ∀ j : Nat, j < (obAt l i).bytes.length → freeW ((obAt l i).wants.take k) (j : Int) → gB b (offs l i + j) = gB (obAt l i).bytes j
  last : ∀ j : Nat, k = j + 1 → ∀ w, (obAt l i).wants[j]? = some w → ∃ x a, lk (entsL l) w.1 = some (x, a) ∧ gB b (offs l i + w.2.toNat) = a % 256 ∧ gB b (offs l i + w.2.toNat + 1) = a / 256 % 256
structure PatL (l : List Ob) (b : List Int) (i k : Nat) : Prop where
  len : b.length = lenO l
  bd : ∀ x ∈ b, 0 ≤ x ∧ x ≤ 255
  old : ∀ i', i' < i → SegL l b i' (obAt l i').wants.length
  now : SegL l b i k
  new : ∀ i', i < i' → SegL l b i' 0
theorem offs_le {l : List Ob} {i j : Nat} (h : i ≤ j) (hj : j ≤ l.length) : offs l i ≤ offs l j := by
  induction j with
  | zero => have : i = 0 := by omega
            rw [this]; exact Nat.le_refl _
  | succ j ih =>
    rcases Nat.lt_or_ge i (j + 1) with h1 | h1
    · rw [offs_succ (by omega)]
      have := ih (by omega) (by omega)
      omega
    · have : i = j + 1 := by omega
      rw [this]; exact Nat.le_refl _
theorem offs_end {l : List Ob} {i : Nat} (h : i < l.length) : offs l i + (obAt l i).bytes.length ≤ lenO l := by
  rw [obAt_get h, ← offs_succ h, ← offs_all]
  exact offs_le (by omega) (Nat.le_refl _)
theorem SegL.keep {l : List Ob} {b b' : List Int} {i k : Nat} (h : SegL l b i k) (hw : ∀ w ∈ (obAt l i).wants, 0 ≤ w.2 ∧ w.2 ≤ ((obAt l i).bytes.length : Int) - 2) (hk : ∀ x, offs l i ≤ x → x < offs l i + (obAt l i).bytes.length → gB b' x = gB b x) : SegL l b' i k := by
  refine ⟨fun j hj hf => by rw [hk _ (by omega) (by omega)]; exact h.free j hj hf, fun j hj w hgw => ?_⟩
  obtain ⟨x, a, h1, h2, h3⟩ := h.last j hj w hgw
  have := hw w (List.mem_of_getElem? hgw)
  exact ⟨x, a, h1, by rw [hk _ (by omega) (by omega)]; exact h2, by rw [hk _ (by omega) (by omega)]; exact h3⟩
theorem PatL.next {l : List Ob} {b : List Int} {i k : Nat} (hl : OkL l) (h : PatL l b i k) (hi : i < l.length) {w : Int × Int} (hw : (obAt l i).wants[k]? = some w) {x : Nat} {a : Int} (ha : lk (entsL l) w.1 = some (x, a)) :
    PatL l ((b.set (offs l i + w.2.toNat) (a % 256)).set (offs l i + w.2.toNat + 1) (a / 256 % 256)) i (k + 1) := by
  have hb := hl.wants _ (List.getElem_mem hi) w (by rw [← obAt_get hi]; exact List.mem_of_getElem? hw)
  have he := offs_end hi
  rw [← obAt_get hi] at hb
  have hlen := h.len
  have g : ∀ y, gB ((b.set (offs l i + w.2.toNat) (a % 256)).set (offs l i + w.2.toNat + 1) (a / 256 % 256)) y = if offs l i + w.2.toNat + 1 = y then a / 256 % 256 else if offs l i + w.2.toNat = y then a % 256 else gB b y := fun y => by
    rw [gB_set (by rw [List.length_set]; omega), gB_set (by omega)]
  have hws : ∀ i' (hi' : i' < l.length), ∀ w ∈ (obAt l i').wants, 0 ≤ w.2 ∧ w.2 ≤ ((obAt l i').bytes.length : Int) - 2 := fun i' hi' w hw => by
    rw [obAt_get hi'] at hw ⊢; exact hl.wants _ (List.getElem_mem hi') w hw
  refine ⟨by rw [List.length_set, List.length_set]; exact hlen, fun y hy => ?_, fun i' hi' => ?_, ⟨fun j hj hf => ?_, fun j hj w' hgw => ?_⟩, fun i' hi' => ?_⟩
  · rcases List.mem_or_eq_of_mem_set hy with hy | rfl
    · rcases List.mem_or_eq_of_mem_set hy with hy | rfl
      · exact h.bd y hy
      · omega
    · omega
  · refine (h.old i' hi').keep (hws i' (by omega)) fun y h1 h2 => ?_
    have h3 : offs l i' + (obAt l i').bytes.length ≤ offs l i := by rw [obAt_get (by omega), ← offs_succ (by omega)]; exact offs_le (by omega) (by omega)
    rw [g, if_neg (by omega), if_neg (by omega)]
  · have h1 : freeW ((obAt l i).wants.take k) (j : Int) ∧ ((j : Int) ≠ w.2 ∧ (j : Int) ≠ w.2 + 1) := by
      rw [List.take_add_one, hw] at hf
      exact ⟨fun w' h' => hf w' (List.mem_append_left _ h'), hf w (List.mem_append_right _ (by simp))⟩
    rw [g, if_neg (by omega), if_neg (by omega)]
    exact h.now.free j hj h1.1
  · have : j = k := by omega
    subst this
    rw [hw] at hgw
    injection hgw with hgw
    subst hgw
    exact ⟨x, a, ha, by rw [g, if_neg (by omega), if_pos rfl], by rw [g, if_pos rfl]⟩
  · by_cases hi2 : i' < l.length
    · refine (h.new i' hi').keep (hws i' hi2) fun y h1 h2 => ?_
      have h3 : offs l i + (obAt l i).bytes.length ≤ offs l i' := by rw [obAt_get hi, ← offs_succ hi]; exact offs_le (by omega) (by omega)
      rw [g, if_neg (by omega), if_neg (by omega)]
    · refine ⟨fun j hj _ => ?_, fun j hj => by omega⟩
      have : obAt l i' = onul := by unfold obAt; rw [List.getD_eq_getElem?_getD, List.getElem?_eq_none (by omega)]; rfl
      rw [this] at hj
      simp [onul] at hj
theorem PatL.start {l : List Ob} {b : List Int} (hb : b = (l.map Ob.bytes).flatten) (hbd : ∀ o ∈ l, ∀ x ∈ o.bytes, 0 ≤ x ∧ x ≤ 255) : PatL l b 0 0 := by
  have hlen : b.length = lenO l := by rw [hb, List.length_flatten, List.map_map]; rfl
  have hseg : ∀ i, SegL l b i 0 := fun i => by
    refine ⟨fun j hj _ => ?_, fun j hj => by omega⟩
    by_cases hi : i < l.length
    · rw [obAt_get hi] at hj ⊢
      have e : b = ((l.take i).map Ob.bytes).flatten ++ (l[i].bytes ++ ((l.drop (i + 1)).map Ob.bytes).flatten) := by
        rw [hb]
        conv => lhs; rw [← List.take_append_drop i l]
        rw [List.map_append, List.flatten_append, List.drop_eq_getElem_cons hi]; rfl
      have hl : (((l.take i).map Ob.bytes).flatten).length = offs l i := by rw [List.length_flatten, List.map_map]; rfl
      unfold gB
      rw [e, List.getD_eq_getElem?_getD, List.getElem?_append_right (by omega), hl, Nat.add_sub_cancel_left, List.getElem?_append_left hj, List.getD_eq_getElem?_getD]
    · have : obAt l i = onul := by unfold obAt; rw [List.getD_eq_getElem?_getD, List.getElem?_eq_none (by omega)]; rfl
      rw [this] at hj
      simp [onul] at hj
  refine ⟨hlen, fun x hx => ?_, fun i' hi' => by omega, hseg 0, fun i' _ => hseg i'⟩
  rw [hb] at hx
  obtain ⟨bs, hbs, hx⟩ := List.mem_flatten.1 hx
  obtain ⟨o, ho, rfl⟩ := List.mem_map.1 hbs
  exact hbd o ho x hx
theorem PatL.turn {l : List Ob} {b : List Int} {i : Nat} (h : PatL l b i (obAt l i).wants.length) : PatL l b (i + 1) 0 :=
  ⟨h.len, h.bd, fun i' hi' => by
    rcases Nat.lt_or_ge i' i with h1 | h1
    · exact h.old i' h1
    · have : i' = i := by omega
      subst this; exact h.now, h.new (i + 1) (by omega), fun i' hi' => h.new i' (by omega)⟩
/-- Is each name that is wanted there? -/
def AllL (l : List Ob) : Prop := ∀ o ∈ l, ∀ w ∈ o.wants, lk (entsL l) w.1 ≠ none
end Go.Proofs.Ytiphhadhbokgmaa
