/- Plain law of plan.List: turns by a list. -/
import Derived.Test.YtdkkmmljaijomaaPlnH
namespace Go.Proofs.Ytdkkmmljaijomaa
open Go.RowKit

/-- The list names each task once. -/
structure OrdOk (n : Nat) (O : List Int) : Prop where
  one : O.Nodup
  in_ : ∀ x ∈ O, 0 ≤ x ∧ x < n
  len : O.length = n
def natL (n : Nat) : List Int := (List.range n).map fun i : Nat => (i : Int)
theorem natL_len (n : Nat) : (natL n).length = n := by simp [natL]
theorem natL_nodup (n : Nat) : (natL n).Nodup := by
  unfold natL
  rw [List.nodup_iff_pairwise_ne, List.pairwise_map]
  exact List.nodup_range.imp fun h e => h (by omega)
theorem natL_mem {n : Nat} {x : Int} : x ∈ natL n ↔ 0 ≤ x ∧ x < n := by
  unfold natL
  simp only [List.mem_map, List.mem_range]
  constructor
  · rintro ⟨a, h, rfl⟩; omega
  · intro h; exact ⟨x.toNat, by omega, by omega⟩
theorem dup_short : ∀ {O : List Int}, ¬ O.Nodup → ∃ l : List Int, O.length = l.length + 1 ∧ ∀ x ∈ O, x ∈ l
  | [], h => absurd List.nodup_nil h
  | a :: r, h => by
    by_cases ha : a ∈ r
    · exact ⟨r, rfl, fun x hx => by rcases List.mem_cons.1 hx with rfl | hx; exact ha; exact hx⟩
    · have hr : ¬ r.Nodup := fun hr => h (List.nodup_cons.2 ⟨ha, hr⟩)
      obtain ⟨l, h1, h2⟩ := dup_short hr
      exact ⟨a :: l, by simp [h1], fun x hx => by
        rcases List.mem_cons.1 hx with rfl | hx
        · simp
        · exact List.mem_cons_of_mem _ (h2 x hx)⟩
theorem OrdOk.all {n : Nat} {O : List Int} (h : OrdOk n O) : ∀ i : Nat, i < n → (i : Int) ∈ O := fun i hi => Classical.byContradiction fun hn => by
  have := nodup_len (l := (i : Int) :: O) (m := natL n) (List.nodup_cons.2 ⟨hn, h.one⟩) (fun x hx => by
    rw [natL_mem]
    rcases List.mem_cons.1 hx with rfl | hx
    · omega
    · exact h.in_ x hx)
  have h2 := h.len
  simp only [List.length_cons, natL_len] at this
  omega
theorem ordOk_of {n : Nat} {O : List Int} (hl : O.length = n) (h : ∀ i : Nat, i < n → (i : Int) ∈ O) : OrdOk n O := by
  have key : ∀ x ∈ natL n, x ∈ O := fun x hx => by
    obtain ⟨h1, h2⟩ := natL_mem.1 hx
    obtain ⟨a, rfl⟩ := Int.eq_ofNat_of_zero_le h1
    exact h a (by omega)
  refine ⟨Classical.byContradiction fun hn => ?_, fun x hx => Classical.byContradiction fun hn => ?_, hl⟩
  · obtain ⟨l, h1, h2⟩ := dup_short hn
    have := nodup_len (natL_nodup n) (fun x hx => h2 x (key x hx))
    simp only [natL_len] at this
    omega
  · have := nodup_len (l := x :: natL n) (m := O) (List.nodup_cons.2 ⟨fun h => hn (natL_mem.1 h), natL_nodup n⟩) (fun y hy => by
      rcases List.mem_cons.1 hy with rfl | hy
      · exact hx
      · exact key y hy)
    simp only [List.length_cons, natL_len] at this
    omega
theorem nodup_at {O : List Int} (h : O.Nodup) {q : Nat} (hq : q < O.length) : O[q] ∉ O.take q := by
  have h1 : (O.take q ++ O[q] :: O.drop (q + 1)).Nodup := by rw [← List.drop_eq_getElem_cons hq, List.take_append_drop]; exact h
  rw [List.nodup_append] at h1
  intro hm
  exact h1.2.2 _ hm _ List.mem_cons_self rfl
/-- Of the list's first k each is in range and there once. -/
def PreO (n : Nat) (O : List Int) (k : Nat) : Prop := (O.take k).Nodup ∧ ∀ x ∈ O.take k, 0 ≤ x ∧ x < n
noncomputable def seenO (O : List Int) (k : Nat) : Nat := setN fun i => (i : Int) ∈ O.take k
theorem seenO_lt (O : List Int) (k : Nat) : seenO O k < 256 := setN_lt _
theorem seenO_zero (O : List Int) : seenO O 0 = 0 := setN_false fun k _ h => by simp at h
theorem seenO_push {O : List Int} {k a : Nat} (hk : k < O.length) (ha : O[k] = (a : Int)) (h8 : a < 8) : seenO O k ||| 2 ^ a = seenO O (k + 1) := setN_ext fun i => by
  rw [set_bit, Bool.or_eq_true, decide_eq_true_eq, List.take_succ_eq_append_getElem hk, List.mem_append, List.mem_singleton, ha]
  unfold seenO
  rw [setN_bit]
  constructor
  · rintro (⟨h1, h2⟩ | rfl)
    · exact ⟨h1, .inl h2⟩
    · exact ⟨h8, .inr rfl⟩
  · rintro ⟨h1, h2 | h2⟩
    · exact .inl ⟨h1, h2⟩
    · exact .inr (by omega)
theorem PreO.push {n : Nat} {O : List Int} {k a : Nat} (h : PreO n O k) (hk : k < O.length) (ha : O[k] = (a : Int)) (hn : a < n) (h8 : a < 8) (hb : (seenO O k).testBit a = false) : PreO n O (k + 1) := by
  have hnm : (a : Int) ∉ O.take k := fun hm => by
    have : (seenO O k).testBit a = true := (setN_bit _ _).2 ⟨h8, hm⟩
    rw [hb] at this; cases this
  unfold PreO
  rw [List.take_succ_eq_append_getElem hk, ha]
  refine ⟨?_, fun x hx => ?_⟩
  · rw [List.nodup_append]
    exact ⟨h.1, by simp, fun x hx y hy => by simp at hy; subst hy; intro e; subst e; exact hnm hx⟩
  · rcases List.mem_append.1 hx with hx | hx
    · exact h.2 x hx
    · simp at hx; omega
theorem PreO.no {n : Nat} {O : List Int} {k a : Nat} (hk : k < O.length) (ha : O[k] = (a : Int)) (hb : (seenO O k).testBit a = true) : ¬ OrdOk n O := fun h => by
  have hm : (a : Int) ∈ O.take k := ((setN_bit _ _).1 hb).2
  exact nodup_at h.one hk (by rw [ha]; exact hm)
theorem PreO.ok {n : Nat} {O : List Int} (h : PreO n O O.length) (hl : O.length = n) : OrdOk n O := by
  unfold PreO at h
  rw [List.take_length] at h
  exact ⟨h.1, h.2, hl⟩

/-- In the list y comes ahead of i. -/
def Bef (O : List Int) (y i : Nat) : Prop := ∃ p q : Nat, p < q ∧ O[p]? = some (y : Int) ∧ O[q]? = some (i : Int)
theorem bef_of {O : List Int} {y i q : Nat} (hy : (y : Int) ∈ O.take q) (hq : q < O.length) (hi : O[q] = (i : Int)) : Bef O y i := by
  obtain ⟨p, hp, e⟩ := List.getElem_of_mem hy
  rw [List.length_take] at hp
  rw [List.getElem_take] at e
  exact ⟨p, q, by omega, by rw [List.getElem?_eq_getElem (by omega), e], by rw [List.getElem?_eq_getElem hq, hi]⟩
theorem mem_take_succ {O : List Int} {q : Nat} {x : Int} (hq : q < O.length) : x ∈ O.take (q + 1) ↔ x ∈ O.take q ∨ x = O[q] := by
  rw [List.take_succ_eq_append_getElem hq, List.mem_append, List.mem_singleton]
/-- In a turn: of the list's first q those of x are taken. -/
structure InT (may h : Nat) (O : List Int) (q x : Nat) : Prop where
  sub : subW x may
  from_ : ∀ i, inW x i → (i : Int) ∈ O.take q
  few : cnt8 x ≤ h
  pri : ∀ i, inW may i → ¬ inW x i → (i : Int) ∈ O.take q → cnt8 x = h ∧ ∀ y, inW x y → Bef O y i
theorem inW_zero (i : Nat) : ¬ inW 0 i := by unfold inW; simp
theorem InT.start {may h : Nat} {O : List Int} : InT may h O 0 0 :=
  ⟨fun i hi => absurd hi (inW_zero i), fun i hi => absurd hi (inW_zero i), by rw [cnt8_zero]; omega, fun i _ _ h => by simp at h⟩
theorem InT.skip {may h q x a : Nat} {O : List Int} (hI : InT may h O q x) (hq : q < O.length) (ha : O[q] = (a : Int)) (hn : ¬ (inW may a ∧ cnt8 x < h)) : InT may h O (q + 1) x :=
  ⟨hI.sub, fun i hi => (mem_take_succ hq).2 (.inl (hI.from_ i hi)), hI.few, fun i hm hx hi => by
    rcases (mem_take_succ hq).1 hi with hi | hi
    · exact hI.pri i hm hx hi
    · have e : i = a := by omega
      subst e
      exact ⟨by have := hI.few; have := hn; simp only [not_and, Nat.not_lt] at this; have := this hm; omega, fun y hy => bef_of (hI.from_ y hy) hq ha⟩⟩
theorem cnt8_pow : ∀ {j : Nat}, j < 8 → cnt8 (2 ^ j) = 1 := fun {j} h => by
  have : ∀ j : Fin 8, cnt8 (2 ^ j.1) = 1 := by decide
  exact this ⟨j, h⟩
theorem pow_in (j i : Nat) : inW (2 ^ j) i ↔ j = i := by unfold inW; rw [testBit_pow, decide_eq_true_eq]
theorem InT.fresh {may h q x a : Nat} {O : List Int} (hI : InT may h O q x) (hO : O.Nodup) (hq : q < O.length) (ha : O[q] = (a : Int)) : ¬ inW x a := fun hx => by
  have hm := hI.from_ a hx
  exact nodup_at hO hq (by rw [ha]; exact hm)
theorem InT.cnt_take {may h q x a : Nat} {O : List Int} (hI : InT may h O q x) (hO : O.Nodup) (hq : q < O.length) (ha : O[q] = (a : Int)) (h8 : a < 8) : cnt8 (x ||| 2 ^ a) = cnt8 x + 1 := by
  rw [cnt8_or_dis (fun i h1 h2 => ?_), cnt8_pow h8]
  rw [← (pow_in _ _).1 h2] at h1
  exact hI.fresh hO hq ha h1
theorem InT.take {may h q x a : Nat} {O : List Int} (hI : InT may h O q x) (hO : O.Nodup) (hq : q < O.length) (ha : O[q] = (a : Int)) (h8 : a < 8) (hm : inW may a) (hc : cnt8 x < h) : InT may h O (q + 1) (x ||| 2 ^ a) := by
  have hcnt := hI.cnt_take hO hq ha h8
  refine ⟨fun i hi => ?_, fun i hi => ?_, by omega, fun i h1 h2 h3 => ?_⟩
  · rcases (or_in _ _ _).1 hi with hi | hi
    · exact hI.sub i hi
    · rw [← (pow_in _ _).1 hi]; exact hm
  · rcases (or_in _ _ _).1 hi with hi | hi
    · exact (mem_take_succ hq).2 (.inl (hI.from_ i hi))
    · rw [← (pow_in _ _).1 hi]; exact (mem_take_succ hq).2 (.inr ha.symm)
  · exfalso
    rcases (mem_take_succ hq).1 h3 with h3 | h3
    · have := (hI.pri i h1 (fun h => h2 ((or_in _ _ _).2 (.inl h))) h3).1
      omega
    · exact h2 ((or_in _ _ _).2 (.inr ((pow_in _ _).2 (by omega))))
theorem InT.done {may h x : Nat} {O : List Int} (hI : InT may h O O.length x) (hall : ∀ i, inW may i → (i : Int) ∈ O) :
    cnt8 x = min h (cnt8 may) ∧ ∀ i y, inW may i → ¬ inW x i → inW x y → Bef O y i := by
  have hp : ∀ i, inW may i → ¬ inW x i → cnt8 x = h ∧ ∀ y, inW x y → Bef O y i := fun i h1 h2 => hI.pri i h1 h2 (by rw [List.take_length]; exact hall i h1)
  refine ⟨?_, fun i y h1 h2 h3 => (hp i h1 h2).2 y h3⟩
  have h1 := cnt8_sub hI.sub
  have h2 := hI.few
  by_cases hx : ∃ i, inW may i ∧ ¬ inW x i
  · obtain ⟨i, h3, h4⟩ := hx
    have := (hp i h3 h4).1
    omega
  · have : cnt8 may ≤ cnt8 x := cnt8_sub fun i hi => Classical.byContradiction fun h => hx ⟨i, hi, h⟩
    omega
/-- After T turns d is done. -/
structure LsK (n : Nat) (R : Nat → Nat → Prop) (h : Nat) (O : List Int) (T d : Nat) (X D : Nat → Nat) : Prop where
  zero : D 0 = 0
  now : D T = d
  open_ : ∀ t, t < T → D t ≠ fullW n
  step : ∀ t, t < T → ∃ s, subW s (rdW n R (D t)) ∧ cnt8 s = min h (cnt8 (rdW n R (D t))) ∧ D (t + 1) = D t ||| s ∧ ∀ i x, inW (rdW n R (D t)) i → ¬ inW s i → inW s x → Bef O x i
  turn : ∀ i, inW d i → X i < T ∧ inW (D (X i + 1)) i ∧ ¬ inW (D (X i)) i
  sub : subW d (fullW n)
  cnt : T ≤ cnt8 d
theorem LsK.start {n h : Nat} {R : Nat → Nat → Prop} {O : List Int} {X : Nat → Nat} : LsK n R h O 0 0 X (fun _ => 0) :=
  ⟨rfl, rfl, fun t h => by omega, fun t h => by omega, fun i hi => absurd hi (inW_zero i), fun i hi => absurd hi (inW_zero i), Nat.zero_le _⟩
theorem LsK.next {n h T d x : Nat} {R : Nat → Nat → Prop} {rk : Nat → Nat} (hD : Dag n R rk) (hh : 1 ≤ h) {O : List Int} {X X' D : Nat → Nat} (hL : LsK n R h O T d X D) (hne : d ≠ fullW n) (hO : OrdOk n O)
    (hI : InT (rdW n R d) h O O.length x) (hX : ∀ i, X' i = if inW x i then T else X i) : LsK n R h O (T + 1) (d ||| x) X' (fun t => if t ≤ T then D t else d ||| x) := by
  obtain ⟨h1, h2⟩ := hI.done (fun i hi => hO.all i ((rdW_in hD _ _).1 hi).1)
  have hdis := rdW_dis hD hI.sub
  obtain ⟨i0, hi0⟩ := ready_ex hD (not_full hL.sub hne)
  have hpos : 0 < cnt8 (rdW n R d) := cnt8_ne (rdW_lt _) (fun e => by have := (rdW_in hD _ _).2 hi0; rw [e] at this; exact inW_zero _ this)
  have hcnt := cnt8_or_dis hdis
  have hD' : ∀ t, t ≤ T → (if t ≤ T then D t else d ||| x) = D t := fun t ht => if_pos ht
  have hDT : (if T + 1 ≤ T then D (T + 1) else d ||| x) = d ||| x := if_neg (by omega)
  refine ⟨by rw [hD' 0 (by omega)]; exact hL.zero, hDT, fun t ht => ?_, fun t ht => ?_, fun i hi => ?_, fun i hi => ?_, by have := hL.cnt; omega⟩
  · rw [hD' t (by omega)]
    by_cases e : t = T
    · subst e; rw [hL.now]; exact hne
    · exact hL.open_ t (by omega)
  · rw [hD' t (by omega)]
    by_cases e : t = T
    · subst e
      rw [hDT, hL.now]
      exact ⟨x, hI.sub, h1, rfl, h2⟩
    · rw [hD' (t + 1) (by omega)]
      exact hL.step t (by omega)
  · by_cases hx : inW x i
    · have e : X' i = T := by rw [hX, if_pos hx]
      rw [e, hDT, hD' T (Nat.le_refl _), hL.now]
      exact ⟨by omega, hi, fun h => hdis i h hx⟩
    · have e : X' i = X i := by rw [hX, if_neg hx]
      have := (or_in _ _ _).1 hi
      obtain ⟨h3, h4, h5⟩ := hL.turn i (this.resolve_right hx)
      rw [e, hD' _ (by omega), hD' _ (by omega)]
      exact ⟨by omega, h4, h5⟩
  · rcases (or_in _ _ _).1 hi with hi | hi
    · exact hL.sub i hi
    · exact (full_in n i).2 ((rdW_in hD _ _).1 (hI.sub i hi)).1
/-- The turn of each task. -/
def Tur (n T : Nat) (X D : Nat → Nat) : Prop := ∀ i, i < n → X i < T ∧ inW (D (X i + 1)) i ∧ ¬ inW (D (X i)) i
theorem LsK.grd {n h T : Nat} {R : Nat → Nat → Prop} {O : List Int} {X D : Nat → Nat} (hL : LsK n R h O T (fullW n) X D) : Grd n R h T (Bef O) D ∧ Tur n T X D :=
  ⟨⟨hL.zero, hL.now, hL.open_, hL.step⟩, fun i hi => hL.turn i ((full_in n i).2 hi)⟩
section
variable {n h T : Nat} {R : Nat → Nat → Prop} {rk : Nat → Nat} {pri : Nat → Nat → Prop} {X D : Nat → Nat}
theorem Grd.mono (hg : Grd n R h T pri D) : ∀ m t, t + m ≤ T → subW (D t) (D (t + m))
  | 0, _, _ => fun _ h => h
  | m + 1, t, ht => fun i hi => by
    obtain ⟨s, _, _, e, _⟩ := hg.step (t + m) (by omega)
    rw [show t + (m + 1) = t + m + 1 by omega, e]
    exact (or_in _ _ _).2 (.inl (hg.mono m t (by omega) i hi))
theorem Grd.mono' (hg : Grd n R h T pri D) {a b : Nat} (h : a ≤ b) (hb : b ≤ T) : subW (D a) (D b) := by
  obtain ⟨m, rfl⟩ : ∃ m, b = a + m := ⟨b - a, by omega⟩
  exact hg.mono m a (by omega)
theorem Grd.most (hg : Grd n R h T pri D) (hX : Tur n T X D) (h1 : 1 ≤ n) : mostF X n = T ∧ 1 ≤ T := by
  have hT : 1 ≤ T := by
    rcases Nat.eq_zero_or_pos T with rfl | h
    · have h2 := hg.full
      rw [hg.zero] at h2
      have := (full_in n 0).2 (by omega)
      rw [← h2] at this
      exact absurd this (inW_zero _)
    · exact h
  refine ⟨?_, hT⟩
  have h2 : mostF X n ≤ T := mostF_le fun j hj => (hX j hj).1
  have hx : ∃ i, i < n ∧ ¬ inW (D (T - 1)) i := Classical.byContradiction fun hn => by
    refine hg.open_ (T - 1) (by omega) (set_ext fun i => ?_)
    rw [Bool.eq_iff_iff]
    constructor
    · intro hi
      have := hg.mono' (show T - 1 ≤ T by omega) (Nat.le_refl _) i hi
      rw [hg.full] at this
      exact this
    · intro hi
      exact Classical.byContradiction fun h => hn ⟨i, (full_in n i).1 hi, h⟩
  obtain ⟨i, hi, hni⟩ := hx
  obtain ⟨h3, h4, h5⟩ := hX i hi
  have h6 := mostF_lt (L := X) hi
  rcases Nat.lt_or_ge (X i + 1) T with h7 | h7
  · exact absurd (hg.mono' (show X i + 1 ≤ T - 1 by omega) (by omega) i h4) hni
  · omega
theorem Tur.lt (hD : Dag n R rk) (hg : Grd n R h T pri D) (hX : Tur n T X D) {i j : Nat} (hR : R i j) : X i < X j := by
  have hl := hD.lt i j hR
  obtain ⟨a1, a2, a3⟩ := hX i hl.1
  obtain ⟨b1, b2, b3⟩ := hX j hl.2.1
  obtain ⟨s, hs, _, e, _⟩ := hg.step (X j) b1
  rw [e, or_in] at b2
  have := ((rdW_in hD _ _).1 (hs j (b2.resolve_left b3))).2.2 i hR
  rcases Nat.lt_or_ge (X i) (X j) with h | h
  · exact h
  · exact absurd (hg.mono' h (by omega) i this) a3
theorem Tur.few (hg : Grd n R h T pri D) (hX : Tur n T X D) (k t : Nat) (hk : k ≤ n) : cntB (fun i => decide (i < k ∧ X i = t)) ≤ h := by
  by_cases ht : t < T
  · obtain ⟨s, hs, hc, e, _⟩ := hg.step t ht
    have : cntB (fun i => decide (i < k ∧ X i = t)) ≤ cnt8 s := by
      rw [cnt8_B]
      refine cntB_mono fun i _ hi => ?_
      rw [decide_eq_true_eq] at hi
      obtain ⟨b1, b2, b3⟩ := hX i (by omega)
      rw [hi.2, e, or_in] at b2
      rw [hi.2] at b3
      exact b2.resolve_left b3
    omega
  · have : cntB (fun i => decide (i < k ∧ X i = t)) ≤ cnt8 0 := by
      rw [cnt8_B]
      refine cntB_mono fun i _ hi => ?_
      rw [decide_eq_true_eq] at hi
      have := (hX i (by omega)).1
      omega
    rw [cnt8_zero] at this
    omega
theorem cntB_same (p q : Nat → Bool) (h : ∀ i, i < 8 → p i = q i) : cntB p = cntB q :=
  Nat.le_antisymm (cntB_mono fun i hi hp => by rw [← h i hi]; exact hp) (cntB_mono fun i hi hp => by rw [h i hi]; exact hp)
theorem cntB_step (X : Nat → Nat) (t k : Nat) (h8 : k < 8) : cntB (fun i => decide (i < k + 1 ∧ X i = t)) = cntB (fun i => decide (i < k ∧ X i = t)) + if X k = t then 1 else 0 := by
  by_cases e : X k = t
  · have h0 := cntB_or (p := fun i => decide (i < k ∧ X i = t)) (q := fun j => decide (j = k)) (fun i h1 h2 => by
      rw [decide_eq_true_eq] at h1 h2
      omega)
    rw [show cntB (fun j => decide (j = k)) = 1 from cntB_one ⟨k, h8⟩] at h0
    rw [if_pos e, ← h0]
    refine cntB_same _ _ fun i _ => ?_
    rw [Bool.eq_iff_iff, Bool.or_eq_true, decide_eq_true_eq, decide_eq_true_eq, decide_eq_true_eq]
    constructor
    · rintro ⟨h1, h2⟩
      by_cases h3 : i = k
      · exact .inr h3
      · exact .inl ⟨by omega, h2⟩
    · rintro (⟨h1, h2⟩ | h3)
      · exact ⟨by omega, h2⟩
      · subst h3; exact ⟨by omega, e⟩
  · rw [if_neg e, Nat.add_zero]
    refine cntB_same _ _ fun i _ => ?_
    rw [Bool.eq_iff_iff, decide_eq_true_eq, decide_eq_true_eq]
    constructor
    · rintro ⟨h1, h2⟩
      by_cases h3 : i = k
      · subst h3; exact absurd h2 e
      · exact ⟨by omega, h2⟩
    · rintro ⟨h1, h2⟩
      exact ⟨by omega, h2⟩
theorem cntB_none (X : Nat → Nat) (t : Nat) : cntB (fun i => decide (i < 0 ∧ X i = t)) = 0 := by
  have : cntB (fun i => decide (i < 0 ∧ X i = t)) ≤ cnt8 0 := by
    rw [cnt8_B]
    exact cntB_mono fun i _ hi => by rw [decide_eq_true_eq] at hi; omega
  rw [cnt8_zero] at this
  omega
end
end Go.Proofs.Ytdkkmmljaijomaa
