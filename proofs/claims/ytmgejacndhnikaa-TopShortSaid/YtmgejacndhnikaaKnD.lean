/- package known, plain: what solve makes is the least of all that hold (none: an empty row). -/
import Derived.Test.YtmgejacndhnikaaKnC
namespace Go.Proofs.Ytmgejacndhnikaa
open Go.RowKit

abbrev rowF (F : List (List Int)) (i : Nat) : List Int := F.getD i []
def closedK (p : List Blk) (F : List (List Int)) (i : Nat) : Prop :=
  rowF F i ≠ [] → ∀ j ∈ goK (p.getD i bnul) (knR (rowF F i) (p.getD i bnul).code), rowF F j.toNat ≠ [] ∧ leK (knR (rowF F i) (p.getD i bnul).code) (rowF F j.toNat)
structure PostL (vars : Int) (p : List Blk) (h0 : List Int) (F : List (List Int)) : Prop where
  len : F.length = p.length
  wid : ∀ i, rowF F i ≠ [] → ((rowF F i).length : Int) = vars
  start : rowF F 0 ≠ [] ∧ leK h0 (rowF F 0)
  step : ∀ i, i < p.length → closedK p F i
theorem rowF_len {F : List (List Int)} {i : Nat} (h : rowF F i ≠ []) : i < F.length := by
  rcases Nat.lt_or_ge i F.length with hl | hl
  · exact hl
  · exact absurd (by show F.getD i [] = []; rw [List.getD_eq_getElem?_getD, List.getElem?_eq_none hl]; rfl) h
theorem rowF_get {F : List (List Int)} {i : Nat} (h : i < F.length) : rowF F i = F[i] := by show F.getD i [] = _; rw [List.getD_eq_getElem?_getD, List.getElem?_eq_getElem h]; rfl
theorem rowF_get? {F : List (List Int)} {i : Nat} (h : i < F.length) : F[i]? = some (rowF F i) := by rw [rowF_get h, List.getElem?_eq_getElem h]
theorem rowF_set {F : List (List Int)} {j : Nat} (x : List Int) (i : Nat) (hj : j < F.length) : rowF (F.set j x) i = if j = i then x else rowF F i := by
  show (F.set j x).getD i [] = _
  rw [List.getD_eq_getElem?_getD, List.getElem?_set]
  by_cases h : j = i
  · rw [if_pos h, if_pos h, if_pos hj]; rfl
  · rw [if_neg h, if_neg h]; rfl
/-- As options: what PostK speaks of. -/
def optF (F : List (List Int)) : List (Option (List Int)) := F.map fun r => if r = [] then none else some r
theorem optF_get {F : List (List Int)} {i : Nat} {a : List Int} : (optF F)[i]? = some (some a) ↔ rowF F i = a ∧ a ≠ [] := by
  unfold optF
  rw [List.getElem?_map]
  rcases Nat.lt_or_ge i F.length with h | h
  · rw [rowF_get? h]
    generalize rowF F i = r
    show some (if r = [] then none else some r) = some (some a) ↔ _
    by_cases hr : r = []
    · rw [if_pos hr]
      constructor
      · intro e; cases e
      · rintro ⟨rfl, h2⟩; exact absurd hr h2
    · rw [if_neg hr]
      constructor
      · intro e; injection e with e; injection e with e; exact ⟨e, e ▸ hr⟩
      · rintro ⟨rfl, _⟩; rfl
  · rw [List.getElem?_eq_none h]
    constructor
    · intro e; cases e
    · rintro ⟨rfl, h2⟩; exact absurd (rowF_len h2) (by omega)
theorem PostL.postK {vars : Int} {p : List Blk} {h0 : List Int} {F : List (List Int)} (h : PostL vars p h0 F) : PostK vars p h0 (optF F) := by
  refine ⟨by unfold optF; rw [List.length_map]; exact h.len, fun i a hi => ?_, ⟨_, optF_get.2 ⟨rfl, h.start.1⟩, h.start.2⟩, fun i a j hi hj => ?_⟩
  · obtain ⟨rfl, hne⟩ := optF_get.1 hi; exact h.wid i hne
  · obtain ⟨rfl, hne⟩ := optF_get.1 hi
    have hlt := rowF_len hne
    obtain ⟨h1, h2⟩ := h.step i (by rw [← h.len]; exact hlt) hne j hj
    exact ⟨_, optF_get.2 ⟨rfl, h1⟩, h2⟩
/-- F says at each block no more than G does there: where it comes, G does. -/
def leF (F G : List (List Int)) : Prop := ∀ i, rowF F i ≠ [] → rowF G i ≠ [] ∧ leK (rowF F i) (rowF G i)

theorem knR_mono {vars : Int} {c : List Step} (hs : ∀ s ∈ c, SOk vars s) : ∀ {v a : List Int}, leK v a → (a.length : Int) = vars → leK (knR v c) (knR a c) := by
  induction c with
  | nil => intro v a h _; exact h
  | cons s c ih =>
    intro v a h hl
    exact ih (fun t ht => hs t (by simp [ht])) (leK_step h hl (hs s (by simp))) (by rw [kn1_len]; exact hl)
theorem goK_mono {vars : Int} {b : Blk} {v a : List Int} (h : leK v a) (hl : (a.length : Int) = vars) (ht : b.test < vars) {j : Int} (hj : j ∈ goK b v) : j ∈ goK b a := by
  unfold goK at hj ⊢
  by_cases h1 : b.test < 0 ∧ b.thn < 0
  · rw [if_pos h1] at hj; cases hj
  rw [if_neg h1] at hj ⊢
  by_cases h2 : b.test < 0
  · rw [if_pos (.inl h2)] at hj ⊢; exact hj
  have hx := h.2 b.test.toNat (by omega)
  generalize a.getD b.test.toNat 0 = y at *
  generalize v.getD b.test.toNat 0 = x at *
  rcases hx with rfl | rfl
  · rw [if_neg (show ¬ (b.test < 0 ∨ (0 : Int) < -1) by omega), if_neg (by decide)]
    split at hj
    · simp at hj; simp [hj]
    · split at hj
      · simp at hj; simp [hj]
      · exact hj
  · exact hj

/-- What two say, together. -/
def joinK (v r : List Int) : List Int := List.zipWith (fun x y => if y = x then y else -1) v r
theorem joinK_len {v r : List Int} (h : v.length = r.length) : (joinK v r).length = r.length := by unfold joinK; rw [List.length_zipWith]; omega
theorem joinK_get {v r : List Int} (h : v.length = r.length) {k : Nat} (hk : k < r.length) : (joinK v r).getD k 0 = if r.getD k 0 = v.getD k 0 then r.getD k 0 else -1 := by
  unfold joinK
  rw [getI_get (by rw [List.length_zipWith]; omega), List.getElem_zipWith, getI_get hk, getI_get (by omega)]
theorem joinK_le {v r y : List Int} (hv : leK v y) (hr : leK r y) : leK (joinK v r) y := by
  have hl : v.length = r.length := by rw [hv.1, hr.1]
  refine ⟨by rw [joinK_len hl]; exact hr.1, fun i hi => ?_⟩
  rw [joinK_get hl (by have := hr.1; omega)]
  have h1 := hv.2 i hi
  have h2 := hr.2 i hi
  split <;> omega
theorem joinK_left {v r : List Int} (hl : v.length = r.length) : leK v (joinK v r) := by
  refine ⟨by rw [joinK_len hl]; exact hl, fun i hi => ?_⟩
  rw [joinK_len hl] at hi
  rw [joinK_get hl hi]
  split <;> omega
theorem joinK_right {v r : List Int} (hl : v.length = r.length) : leK r (joinK v r) := by
  refine ⟨(joinK_len hl).symm, fun i hi => ?_⟩
  rw [joinK_len hl] at hi
  rw [joinK_get hl hi]
  split <;> omega
theorem joinK_bd {v r : List Int} (h : ∀ x ∈ r, -1 ≤ x ∧ x ≤ 255) : ∀ x ∈ joinK v r, -1 ≤ x ∧ x ≤ 255 := by
  intro x hx
  unfold joinK at hx
  obtain ⟨i, hi, rfl⟩ := List.getElem_of_mem hx
  rw [List.getElem_zipWith]
  split
  · exact h _ (List.getElem_mem _)
  · omega
/-- The first k of them done. -/
def joinTo (v r : List Int) (k : Nat) : List Int := (joinK v r).take k ++ r.drop k
theorem joinTo_zero (v r : List Int) : joinTo v r 0 = r := by simp [joinTo]
theorem joinTo_all {v r : List Int} (h : v.length = r.length) : joinTo v r r.length = joinK v r := by
  unfold joinTo; rw [List.drop_length, List.append_nil, List.take_of_length_le (by rw [joinK_len h]; omega)]
theorem joinTo_len {v r : List Int} (h : v.length = r.length) {k : Nat} (hk : k ≤ r.length) : (joinTo v r k).length = r.length := by
  unfold joinTo; rw [List.length_append, List.length_take, List.length_drop, joinK_len h]; omega
theorem joinTo_at {v r : List Int} (h : v.length = r.length) {k : Nat} (hk : k < r.length) : (joinTo v r k).getD k 0 = r.getD k 0 := by
  unfold joinTo
  rw [List.getD_eq_getElem?_getD, List.getElem?_append_right (by rw [List.length_take, joinK_len h]; omega), List.length_take, joinK_len h, Nat.min_eq_left (by omega), Nat.sub_self, List.getElem?_drop, Nat.add_zero, ← List.getD_eq_getElem?_getD]
theorem joinTo_succ {v r : List Int} (h : v.length = r.length) {k : Nat} (hk : k < r.length) : joinTo v r (k + 1) = (joinTo v r k).set k ((joinK v r).getD k 0) := by
  apply List.ext_getElem?
  intro i
  rw [List.getElem?_set, joinTo_len h (by omega)]
  unfold joinTo
  have hjl := joinK_len h
  by_cases e : k = i
  · subst e
    rw [if_pos rfl, if_pos hk, List.getElem?_append_left (by rw [List.length_take]; omega), List.getElem?_take, if_pos (by omega), getI_get (by omega), List.getElem?_eq_getElem]
  · rw [if_neg e]
    by_cases hi : i < k
    · rw [List.getElem?_append_left (by rw [List.length_take]; omega), List.getElem?_append_left (by rw [List.length_take]; omega), List.getElem?_take, List.getElem?_take, if_pos hi, if_pos (by omega)]
    · rw [List.getElem?_append_right (by rw [List.length_take]; omega), List.getElem?_append_right (by rw [List.length_take]; omega), List.length_take, List.length_take, List.getElem?_drop, List.getElem?_drop]
      congr 1; omega
/-- Does the k-th one turn? -/
theorem joinTo_turn {v r : List Int} (h : v.length = r.length) {k : Nat} (hk : k < r.length) (hb : -1 ≤ r.getD k 0) :
    ((r.getD k 0 ≠ v.getD k 0 ∧ r.getD k 0 ≠ -1) → joinTo v r (k + 1) = (joinTo v r k).set k (-1) ∧ joinTo v r (k + 1) ≠ r) ∧
    (¬ (r.getD k 0 ≠ v.getD k 0 ∧ r.getD k 0 ≠ -1) → joinTo v r (k + 1) = joinTo v r k) := by
  rw [joinTo_succ h hk, joinK_get h hk]
  constructor
  · rintro ⟨h1, h2⟩
    rw [if_neg h1]
    refine ⟨rfl, fun e => h2 ?_⟩
    have := congrArg (fun l => List.getD l k 0) e
    rw [getK_set _ _ (by rw [joinTo_len h (by omega)]; exact hk), if_pos rfl] at this
    exact this.symm
  · intro h1
    have e : (if r.getD k 0 = v.getD k 0 then r.getD k 0 else -1) = (joinTo v r k).getD k 0 := by
      rw [joinTo_at h hk]; split <;> omega
    rw [e, getI_get (by rw [joinTo_len h (by omega)]; exact hk)]
    exact List.set_getElem_self _
theorem joinTo_ne {v r : List Int} (h : v.length = r.length) {k : Nat} (hk : k < r.length) (hn : joinTo v r k ≠ r) : joinTo v r (k + 1) ≠ r := by
  intro e
  apply hn
  have e2 : joinK v r = r ∨ True := .inr trivial
  rw [joinTo_succ h hk] at e
  apply List.ext_getElem?
  intro i
  have hi := congrArg (fun l : List Int => l[i]?) e
  rw [List.getElem?_set] at hi
  by_cases hki : k = i
  · subst hki
    have := joinTo_at h hk
    rw [getI_get (by rw [joinTo_len h (by omega)]; exact hk), getI_get hk] at this
    rw [List.getElem?_eq_getElem (by rw [joinTo_len h (by omega)]; exact hk), List.getElem?_eq_getElem hk, this]
  · rw [if_neg hki] at hi; exact hi

/-- How many places may still turn. -/
def potR (r : List Int) : Nat := if r = [] then 100 else (r.filter (· != -1)).length
def potF (F : List (List Int)) : Nat := (F.map potR).sum
theorem potR_join : ∀ {v r : List Int}, v.length = r.length → ((joinK v r).filter (· != -1)).length ≤ (r.filter (· != -1)).length ∧ (((joinK v r).filter (· != -1)).length = (r.filter (· != -1)).length → joinK v r = r)
  | [], [], _ => ⟨Nat.le_refl _, fun _ => rfl⟩
  | x :: v, y :: r, h => by
    have h' : v.length = r.length := by simpa using h
    obtain ⟨h1, h2⟩ := potR_join h'
    have e : joinK (x :: v) (y :: r) = (if y = x then y else -1) :: joinK v r := rfl
    rw [e]
    by_cases hxy : y = x
    · subst hxy
      rw [if_pos rfl]
      by_cases hy : y = -1
      · subst hy
        simp only [List.filter_cons]
        exact ⟨h1, fun e => by rw [h2 e]⟩
      · have : (y != -1) = true := by rw [bne_iff_ne]; exact hy
        simp only [List.filter_cons, this, if_true, List.length_cons]
        exact ⟨by omega, fun e => by rw [h2 (by omega)]⟩
    · rw [if_neg hxy]
      by_cases hy : y = -1
      · subst hy
        simp only [List.filter_cons]
        exact ⟨h1, fun e => by rw [h2 e]⟩
      · have : (y != -1) = true := by rw [bne_iff_ne]; exact hy
        simp only [List.filter_cons, this, if_true, List.length_cons]
        rw [if_neg (by simp)]
        exact ⟨by omega, fun e => by omega⟩
theorem sum_set : ∀ (l : List Nat) (j x : Nat) (hj : j < l.length), (l.set j x).sum + l[j] = l.sum + x
  | a :: r, 0, x, _ => by simp [List.sum_cons]; omega
  | a :: r, j + 1, x, hj => by
    have := sum_set r j x (by simpa using hj)
    rw [List.set_cons_succ, List.sum_cons, List.sum_cons, List.getElem_cons_succ]; omega
/-- What is said at block j, and v. -/
def updF (F : List (List Int)) (j : Nat) (v : List Int) : List (List Int) := F.set j (joinK v (if rowF F j = [] then v else rowF F j))
theorem updF_len (F : List (List Int)) (j : Nat) (v : List Int) : (updF F j v).length = F.length := by unfold updF; rw [List.length_set]
theorem potF_set (F : List (List Int)) (j : Nat) (x : List Int) (hj : j < F.length) : potF (F.set j x) + potR (rowF F j) = potF F + potR x := by
  unfold potF
  rw [List.map_set]
  have := sum_set (F.map potR) j (potR x) (by rw [List.length_map]; exact hj)
  rw [List.getElem_map, ← rowF_get hj] at this
  exact this
theorem joinK_self (v : List Int) : joinK v v = v := by
  induction v with
  | nil => rfl
  | cons x v ih => show (if x = x then x else -1) :: joinK v v = _; rw [if_pos rfl, ih]
theorem joinK_ne {v r : List Int} (h : v.length = r.length) (hr : r ≠ []) : joinK v r ≠ [] := by
  intro e
  have := joinK_len h
  rw [e] at this
  exact hr (List.eq_nil_of_length_eq_zero this.symm)
theorem updF_pot {F : List (List Int)} {j : Nat} {v : List Int} (hj : j < F.length) (hv1 : v ≠ []) (hv8 : v.length ≤ 8) (hl : rowF F j ≠ [] → v.length = (rowF F j).length) :
    potF (updF F j v) ≤ potF F ∧ (potF (updF F j v) = potF F → updF F j v = F) := by
  have hs := potF_set F j (joinK v (if rowF F j = [] then v else rowF F j)) hj
  have hself : rowF F j ≠ [] → joinK v (rowF F j) = rowF F j → F.set j (joinK v (rowF F j)) = F := fun _ e => by rw [e, rowF_get hj]; exact List.set_getElem_self _
  unfold updF
  by_cases h0 : rowF F j = []
  · rw [if_pos h0] at hs ⊢
    rw [joinK_self] at hs ⊢
    rw [h0] at hs
    have : potR v < 100 := by
      unfold potR; rw [if_neg hv1]
      have := List.length_filter_le (fun x : Int => x != -1) v
      omega
    have e : potR [] = 100 := rfl
    exact ⟨by omega, fun h => by omega⟩
  · rw [if_neg h0] at hs ⊢
    obtain ⟨h1, h2⟩ := potR_join (hl h0)
    have e1 : potR (joinK v (rowF F j)) = ((joinK v (rowF F j)).filter (· != -1)).length := by unfold potR; rw [if_neg (joinK_ne (hl h0) h0)]
    have e2 : potR (rowF F j) = ((rowF F j).filter (· != -1)).length := by unfold potR; rw [if_neg h0]
    rw [e1, e2] at hs
    exact ⟨by omega, fun h => hself h0 (h2 (by omega))⟩
theorem updF_same {F : List (List Int)} {j : Nat} {v : List Int} (hj : j < F.length) (hv1 : v ≠ []) (hl : rowF F j ≠ [] → v.length = (rowF F j).length) (h : updF F j v = F) : rowF F j ≠ [] ∧ leK v (rowF F j) := by
  have hr : rowF (updF F j v) j = rowF F j := by rw [h]
  unfold updF at hr
  rw [rowF_set _ _ hj, if_pos rfl] at hr
  by_cases h0 : rowF F j = []
  · rw [if_pos h0, joinK_self, h0] at hr; exact absurd hr hv1
  · rw [if_neg h0] at hr
    refine ⟨h0, ?_⟩
    have := joinK_left (hl h0)
    rw [hr] at this
    exact this

/-- What is so of all that solve makes on the way. -/
structure InvK (vars : Int) (p : List Blk) (h0 : List Int) (F : List (List Int)) : Prop where
  len : F.length = p.length
  wid : ∀ i, rowF F i ≠ [] → ((rowF F i).length : Int) = vars
  bd : ∀ i, ∀ x ∈ rowF F i, -1 ≤ x ∧ x ≤ 255
  start : rowF F 0 ≠ [] ∧ leK h0 (rowF F 0)
  least : ∀ G, PostL vars p h0 G → leF F G
theorem InvK.begin_ {vars : Int} {p : List Blk} {h0 : List Int} (hp : POk vars p) (hl : (h0.length : Int) = vars) (hb : ∀ x ∈ h0, -1 ≤ x ∧ x ≤ 255) : InvK vars p h0 ((List.replicate p.length []).set 0 h0) := by
  have hn := hp.n1
  have hv := hp.v1
  have hne : h0 ≠ [] := by intro e; subst e; simp at hl; omega
  have hr : ∀ i, rowF ((List.replicate p.length ([] : List Int)).set 0 h0) i = if 0 = i then h0 else [] := fun i => by
    rw [rowF_set _ _ (by simp; omega)]
    by_cases e : 0 = i
    · rw [if_pos e, if_pos e]
    · rw [if_neg e, if_neg e]
      show (List.replicate p.length ([] : List Int)).getD i [] = []
      rw [List.getD_eq_getElem?_getD, List.getElem?_replicate]; split <;> rfl
  have hr0 := hr 0
  rw [if_pos rfl] at hr0
  refine ⟨by simp, fun i hi => ?_, fun i x hx => ?_, by rw [hr0]; exact ⟨hne, leK.refl _⟩, fun G hG i hi => ?_⟩
  · rw [hr] at hi ⊢
    by_cases e : 0 = i
    · rw [if_pos e]; exact hl
    · rw [if_neg e] at hi; exact absurd rfl hi
  · rw [hr] at hx
    by_cases e : 0 = i
    · rw [if_pos e] at hx; exact hb x hx
    · rw [if_neg e] at hx; cases hx
  · rw [hr] at hi ⊢
    by_cases e : 0 = i
    · subst e; rw [if_pos rfl]; exact hG.start
    · rw [if_neg e] at hi; exact absurd rfl hi
theorem InvK.upd {vars : Int} {p : List Blk} {h0 : List Int} {F F1 : List (List Int)} {i : Nat} (hp : POk vars p) (h : InvK vars p h0 F) (h1 : InvK vars p h0 F1) (hi : i < p.length) (hne : rowF F1 i ≠ []) {j : Nat} (hj : (j : Int) ∈ goK p[i] (knR (rowF F1 i) p[i].code)) (hjl : j < p.length) :
    InvK vars p h0 (updF F j (knR (rowF F1 i) p[i].code)) := by
  have hv := hp.v1
  have hb := hp.bs _ (List.getElem_mem hi)
  have hw := h1.wid i hne
  have hvl : ((knR (rowF F1 i) p[i].code).length : Int) = vars := by rw [knR_len]; exact hw
  have hvb := knR_bd hb.code (h1.bd i)
  have hvn : knR (rowF F1 i) p[i].code ≠ [] := by intro e; rw [e] at hvl; simp at hvl; omega
  have hleast : ∀ G, PostL vars p h0 G → rowF G j ≠ [] ∧ leK (knR (rowF F1 i) p[i].code) (rowF G j) := fun G hG => by
    obtain ⟨g1, g2⟩ := h1.least G hG i hne
    have gw := hG.wid i g1
    have m1 := knR_mono hb.code g2 gw
    have m2 := goK_mono m1 (by rw [knR_len]; exact gw) hb.hi hj
    obtain ⟨g3, g4⟩ := hG.step i hi g1 (j : Int) (by rw [bget hi]; exact m2)
    rw [bget hi] at g4
    exact ⟨g3, m1.trans g4⟩
  generalize knR (rowF F1 i) p[i].code = v at *
  have hjF : j < F.length := by rw [h.len]; exact hjl
  have hll : ∀ r, (if rowF F j = [] then v else rowF F j) = r → v.length = r.length ∧ r ≠ [] := fun r e => by
    by_cases e0 : rowF F j = []
    · rw [if_pos e0] at e; subst e; exact ⟨rfl, hvn⟩
    · rw [if_neg e0] at e; subst e; exact ⟨by have := h.wid j e0; omega, e0⟩
  have hrb : ∀ x ∈ (if rowF F j = [] then v else rowF F j), -1 ≤ x ∧ x ≤ 255 := by
    split
    · exact hvb
    · exact h.bd j
  have hrl : ∀ G, PostL vars p h0 G → leK (if rowF F j = [] then v else rowF F j) (rowF G j) := fun G hG => by
    by_cases e0 : rowF F j = []
    · rw [if_pos e0]; exact (hleast G hG).2
    · rw [if_neg e0]; exact (h.least G hG j e0).2
  have hr0 : j = 0 → rowF F 0 = (if rowF F j = [] then v else rowF F j) := fun e => by subst e; rw [if_neg h.start.1]
  unfold updF
  generalize (if rowF F j = [] then v else rowF F j) = r at *
  obtain ⟨hlr, hrn⟩ := hll r rfl
  refine ⟨by rw [List.length_set]; exact h.len, fun k hk => ?_, fun k x hx => ?_, ?_, fun G hG k hk => ?_⟩
  · rw [rowF_set _ _ hjF] at hk ⊢
    by_cases e : j = k
    · rw [if_pos e, joinK_len hlr]; omega
    · rw [if_neg e] at hk ⊢; exact h.wid k hk
  · rw [rowF_set _ _ hjF] at hx
    by_cases e : j = k
    · rw [if_pos e] at hx; exact joinK_bd hrb x hx
    · rw [if_neg e] at hx; exact h.bd k x hx
  · rw [rowF_set _ _ hjF]
    by_cases e : j = 0
    · rw [if_pos e]
      refine ⟨joinK_ne hlr hrn, ?_⟩
      have := h.start.2
      rw [hr0 e] at this
      exact this.trans (joinK_right hlr)
    · rw [if_neg e]; exact h.start
  · rw [rowF_set _ _ hjF] at hk ⊢
    by_cases e : j = k
    · subst e
      rw [if_pos rfl]
      exact ⟨(hleast G hG).1, joinK_le (hleast G hG).2 (hrl G hG)⟩
    · rw [if_neg e] at hk ⊢; exact h.least G hG k hk
theorem InvK.post {vars : Int} {p : List Blk} {h0 : List Int} {F : List (List Int)} (h : InvK vars p h0 F) (hc : ∀ i, i < p.length → closedK p F i) : PostL vars p h0 F := ⟨h.len, h.wid, h.start, hc⟩
/-- What solve gives. -/
def SolK (vars : Int) (p : List Blk) (h0 : List Int) (F : List (List Int)) : Prop := InvK vars p h0 F ∧ PostL vars p h0 F
end Go.Proofs.Ytmgejacndhnikaa
