/- The plain law of weak.Ahead: a list that keeps each term once, and what its terms stand for. -/
import Derived.Test.YtmgejacndhnikaaRefT
import Derived.Test.YtmgejacndhnikaaValP
import Derived.Test.YtmgejacndhnikaaBlkF
namespace Go.Proofs.Ytmgejacndhnikaa
open Go.RowKit

def insK (ks : List Term) (x : Term) : List Term := if x ∈ ks then ks else ks ++ [x]
def idxK (ks : List Term) (x : Term) : Nat := (insK ks x).idxOf x
theorem insK_yes {ks : List Term} {x : Term} (h : x ∈ ks) : insK ks x = ks := if_pos h
theorem insK_no {ks : List Term} {x : Term} (h : x ∉ ks) : insK ks x = ks ++ [x] := if_neg h
theorem insK_mem (ks : List Term) (x : Term) : x ∈ insK ks x := by
  by_cases h : x ∈ ks
  · rw [insK_yes h]; exact h
  · rw [insK_no h]; simp
theorem idxK_lt (ks : List Term) (x : Term) : idxK ks x < (insK ks x).length := List.idxOf_lt_length_of_mem (insK_mem ks x)
theorem idxK_yes {ks : List Term} {x : Term} (h : x ∈ ks) : idxK ks x = ks.idxOf x := by unfold idxK; rw [insK_yes h]
theorem idxK_no {ks : List Term} {x : Term} (h : x ∉ ks) : idxK ks x = ks.length := by
  unfold idxK; rw [insK_no h, List.idxOf_append, if_neg h]; simp
theorem insK_len (ks : List Term) (x : Term) : ks.length ≤ (insK ks x).length ∧ (insK ks x).length ≤ ks.length + 1 := by
  by_cases h : x ∈ ks
  · rw [insK_yes h]; omega
  · rw [insK_no h]; simp
/-- The list's terms are valid, each by those ahead of it. -/
def TAll (vars : Int) (ks : List Term) : Prop := ∀ k (h : k < ks.length), TOk vars k ks[k]
theorem TAll.ins {vars : Int} {ks : List Term} {x : Term} (h : TAll vars ks) (hx : TOk vars ks.length x) : TAll vars (insK ks x) := by
  by_cases hm : x ∈ ks
  · rw [insK_yes hm]; exact h
  · rw [insK_no hm]
    intro k hk
    by_cases e : k < ks.length
    · rw [List.getElem_append_left e]; exact h k e
    · have : k = ks.length := by simp at hk; omega
      subst this
      rw [List.getElem_append_right (Nat.le_refl _)]
      simpa using hx
/-- What the list's term i stands for. -/
def valK (hv : List Int) (ks : List Term) (i : Nat) : Int := (vals hv [] ks).getD i 0
theorem vals_pre (hv : List Int) : ∀ (r : List Term) (vs : List Int), ∃ t, vals hv vs r = vs ++ t
  | [], vs => ⟨[], by simp [vals]⟩
  | x :: r, vs => by
    obtain ⟨t, h⟩ := vals_pre hv r (vs ++ [val1 hv vs x])
    exact ⟨val1 hv vs x :: t, by rw [show vals hv vs (x :: r) = vals hv (vs ++ [val1 hv vs x]) r from rfl, h]; simp⟩
theorem getD_pre {l t : List Int} {i : Nat} (h : i < l.length) : (l ++ t).getD i 0 = l.getD i 0 := by
  rw [List.getD_eq_getElem?_getD, List.getD_eq_getElem?_getD, List.getElem?_append_left h]
theorem valK_app (hv : List Int) {ks r : List Term} {i : Nat} (h : i < ks.length) : valK hv (ks ++ r) i = valK hv ks i := by
  unfold valK
  rw [vals_append]
  obtain ⟨t, e⟩ := vals_pre hv r (vals hv [] ks)
  rw [e]
  exact getD_pre (by rw [vals_len]; simp; exact h)
theorem valK_ins (hv : List Int) {ks : List Term} {x : Term} {i : Nat} (h : i < ks.length) : valK hv (insK ks x) i = valK hv ks i := by
  by_cases hm : x ∈ ks
  · rw [insK_yes hm]
  · rw [insK_no hm]; exact valK_app hv h
theorem val1_congr {hv : List Int} {vs us : List Int} {vars : Int} {n : Nat} {x : Term} (hx : TOk vars n x) (h : ∀ i, i < n → vs.getD i 0 = us.getD i 0) : val1 hv vs x = val1 hv us x := by
  unfold val1
  by_cases h1 : x.op = 1
  · rw [if_pos h1, if_pos h1]
  · by_cases h2 : x.op = 2
    · rw [if_neg h1, if_neg h1, if_pos h2, if_pos h2]
    · obtain ⟨o1, o6, _, _, hb⟩ := hx
      obtain ⟨a0, a1, b0, b1⟩ := hb (by omega)
      rw [if_neg h1, if_neg h1, if_neg h2, if_neg h2, h _ (by omega), h _ (by omega)]
theorem valK_at (hv : List Int) {ks : List Term} {i : Nat} (h : i < ks.length) : valK hv ks i = val1 hv (vals hv [] (ks.take i)) ks[i] := by
  have e : ks = ks.take i ++ ks[i] :: ks.drop (i + 1) := by rw [← List.drop_eq_getElem_cons h, List.take_append_drop]
  have e2 : valK hv ks i = valK hv (ks.take i ++ [ks[i]]) i := by
    have := valK_app hv (ks := ks.take i ++ [ks[i]]) (r := ks.drop (i + 1)) (i := i) (by simp; omega)
    rw [List.append_assoc, List.singleton_append, ← e] at this
    exact this
  rw [e2]
  unfold valK
  rw [vals_append]
  show ((vals hv [] (ks.take i)) ++ [val1 hv (vals hv [] (ks.take i)) ks[i]]).getD i 0 = _
  have hl : (vals hv [] (ks.take i)).length = i := by rw [vals_len]; simp; omega
  rw [List.getD_eq_getElem?_getD, List.getElem?_append_right (by omega), hl]
  simp
theorem valK_take (hv : List Int) {ks : List Term} {i n : Nat} (h : i < n) (hn : n ≤ ks.length) : (vals hv [] (ks.take n)).getD i 0 = valK hv ks i := by
  have := valK_app hv (ks := ks.take n) (r := ks.drop n) (i := i) (by simp; omega)
  rw [List.take_append_drop] at this
  exact this.symm
/-- What a term put in stands for. -/
theorem valK_put (hv : List Int) {vars : Int} {ks : List Term} {x : Term} (h : TAll vars ks) : valK hv (insK ks x) (idxK ks x) = val1 hv (vals hv [] ks) x := by
  by_cases hm : x ∈ ks
  · rw [idxK_yes hm, insK_yes hm]
    have hlt := List.idxOf_lt_length_of_mem hm
    rw [valK_at hv hlt]
    have e : ks[ks.idxOf x] = x := List.getElem_idxOf hlt
    have ht := h _ hlt
    rw [e] at ht ⊢
    exact val1_congr ht fun i hi => valK_take hv hi (by omega)
  · rw [idxK_no hm, insK_no hm, valK_at hv (by simp), List.take_append_of_le_length (Nat.le_refl _), List.take_length]
    congr 1
    rw [List.getElem_append_right (Nat.le_refl _)]
    simp
/-- Each variable's value is that of the term named for it. -/
structure EnvK (vars : Int) (n : Nat) (c : List Step) (ks : List Term) (is : List Int) : Prop where
  all : TAll vars ks
  len : is.length = n
  in_ : ∀ x ∈ is, 0 ≤ x ∧ x < ks.length
  val : ∀ hv : List Int, hv.length = n → ∀ v, v < n → valK hv ks (is.getD v 0).toNat = (dgR hv c).getD v 0
theorem EnvK.ins {vars : Int} {n : Nat} {c : List Step} {ks : List Term} {is : List Int} {x : Term} (h : EnvK vars n c ks is) (hx : TOk vars ks.length x) : EnvK vars n c (insK ks x) is :=
  ⟨h.all.ins hx, h.len, fun y hy => by have := h.in_ y hy; have := (insK_len ks x).1; omega, fun hv hl v hv' => by
    have h1 : is.getD v 0 ∈ is := by
      rw [List.getD_eq_getElem?_getD, List.getElem?_eq_getElem (by rw [h.len]; exact hv')]
      exact List.getElem_mem _
    have h2 := h.in_ _ h1
    rw [valK_ins hv (by omega)]
    exact h.val hv hl v hv'⟩
theorem tok1 {vars v : Int} {n : Nat} (h : 0 ≤ v ∧ v ≤ 255) : TOk vars n ⟨1, 0, 0, v⟩ := by
  unfold TOk; dsimp only; omega
theorem tok2 {vars v : Int} {n : Nat} (h : 0 ≤ v ∧ v < vars) : TOk vars n ⟨2, 0, 0, v⟩ := by
  unfold TOk; dsimp only; omega
theorem getD_set_ {l : List Int} {i j : Nat} {x : Int} (hi : i < l.length) : (l.set i x).getD j 0 = if j = i then x else l.getD j 0 := by
  rw [List.getD_eq_getElem?_getD, List.getD_eq_getElem?_getD, List.getElem?_set]
  by_cases e : i = j
  · subst e; rw [if_pos rfl, if_pos rfl, if_pos hi]; rfl
  · rw [if_neg e, if_neg (fun h => e h.symm)]
theorem getD_in {l : List Int} {i : Nat} (h : i < l.length) : l.getD i 0 ∈ l := by
  rw [List.getD_eq_getElem?_getD, List.getElem?_eq_getElem h]
  exact List.getElem_mem _
section
variable {vars : Int} {n : Nat} {c : List Step} {ks : List Term} {is : List Int} {s : Step}
theorem dgR_snoc (hv : List Int) (c : List Step) (s : Step) : dgR hv (c ++ [s]) = dg1 (dgR hv c) s := dgR_append hv c [s]
/-- A place is named anew. -/
theorem EnvK.put {ks' : List Term} {y : Int} (h : EnvK vars n c ks' is) (ht : 0 ≤ s.to ∧ s.to < n) (hy : 0 ≤ y ∧ y < ks'.length)
    (hval : ∀ hv : List Int, hv.length = n → valK hv ks' y.toNat = if s.op = 1 then s.val else if s.op = 2 then (dgR hv c).getD s.val.toNat 0 else doF s.op ((dgR hv c).getD s.a.toNat 0) ((dgR hv c).getD s.b.toNat 0)) :
    EnvK vars n (c ++ [s]) ks' (is.set s.to.toNat y) := by
  refine ⟨h.all, by rw [List.length_set]; exact h.len, fun x hx => ?_, fun hv hl v hv' => ?_⟩
  · rcases List.mem_or_eq_of_mem_set hx with h1 | h1
    · exact h.in_ x h1
    · rw [h1]; exact hy
  · rw [dgR_snoc, getD_set_ (by rw [h.len]; omega)]
    unfold dg1
    rw [getD_set_ (by rw [dgR_len, hl]; omega)]
    by_cases e : v = s.to.toNat
    · rw [if_pos e, if_pos e]; exact hval hv hl
    · rw [if_neg e, if_neg e]; exact h.val hv hl v hv'
theorem EnvK.num (h : EnvK vars n c ks is) (hs : SOk vars s) (hn : vars = n) (h1 : s.op = 1) : EnvK vars n (c ++ [s]) (insK ks ⟨1, 0, 0, s.val⟩) (is.set s.to.toNat (idxK ks ⟨1, 0, 0, s.val⟩ : Nat)) := by
  have hx : TOk vars ks.length ⟨1, 0, 0, s.val⟩ := tok1 (hs.2.2.1 h1)
  refine (h.ins hx).put (by have := hs.2.2.2.2.1; omega) (by have := idxK_lt ks ⟨1, 0, 0, s.val⟩; omega) fun hv hl => ?_
  rw [Int.toNat_natCast, valK_put hv h.all, if_pos h1]
  rfl
theorem EnvK.var (h : EnvK vars n c ks is) (hs : SOk vars s) (hn : vars = n) (h2 : s.op = 2) : EnvK vars n (c ++ [s]) ks (is.set s.to.toNat (is.getD s.val.toNat 0)) := by
  have hv' := hs.2.2.2.1 h2
  refine h.put (by have := hs.2.2.2.2.1; omega) (h.in_ _ (getD_in (by rw [h.len]; omega))) fun hv hl => ?_
  rw [if_neg (by omega), if_pos h2]
  exact h.val hv hl _ (by omega)
theorem EnvK.opx (h : EnvK vars n c ks is) (hs : SOk vars s) (hn : vars = n) (h3 : 3 ≤ s.op) :
    TOk vars ks.length ⟨s.op, is.getD s.a.toNat 0, is.getD s.b.toNat 0, 0⟩ := by
  obtain ⟨o1, o6, on, ov, ot, ob⟩ := hs
  have hb := ob h3
  have ha := h.in_ _ (getD_in (l := is) (i := s.a.toNat) (by rw [h.len]; omega))
  have hb' := h.in_ _ (getD_in (l := is) (i := s.b.toNat) (by rw [h.len]; omega))
  exact ⟨o1, o6, fun h => absurd h (by dsimp only; omega), fun h => absurd h (by dsimp only; omega), fun _ => ⟨ha.1, ha.2, hb'.1, hb'.2⟩⟩
theorem EnvK.op (h : EnvK vars n c ks is) (hs : SOk vars s) (hn : vars = n) (h3 : 3 ≤ s.op) : EnvK vars n (c ++ [s]) (insK ks ⟨s.op, is.getD s.a.toNat 0, is.getD s.b.toNat 0, 0⟩) (is.set s.to.toNat (idxK ks ⟨s.op, is.getD s.a.toNat 0, is.getD s.b.toNat 0, 0⟩ : Nat)) := by
  have hx := h.opx hs hn h3
  obtain ⟨o1, o6, on, ov, ot, ob⟩ := hs
  have hb := ob h3
  refine (h.ins hx).put (by omega) (by have := idxK_lt ks ⟨s.op, is.getD s.a.toNat 0, is.getD s.b.toNat 0, 0⟩; omega) fun hv hl => ?_
  rw [Int.toNat_natCast, valK_put hv h.all, if_neg (by omega), if_neg (by omega)]
  unfold val1
  dsimp only
  rw [if_neg (by omega), if_neg (by omega)]
  have e1 := h.val hv hl s.a.toNat (by omega)
  have e2 := h.val hv hl s.b.toNat (by omega)
  unfold valK at e1 e2
  rw [e1, e2]
end
/-- The terms of the variables. -/
def varK (k : Nat) : List Term := (List.range k).map fun v : Nat => (⟨2, 0, 0, (v : Int)⟩ : Term)
def isK (n k : Nat) : List Int := (List.range n).map fun v : Nat => if v < k then (v : Int) else 0
theorem varK_len (k : Nat) : (varK k).length = k := by simp [varK]
theorem isK_len (n k : Nat) : (isK n k).length = n := by simp [isK]
theorem varK_get {k j : Nat} (h : j < (varK k).length) : (varK k)[j] = ⟨2, 0, 0, (j : Int)⟩ := by simp [varK]
theorem varK_not (k : Nat) : (⟨2, 0, 0, (k : Int)⟩ : Term) ∉ varK k := fun h => by
  obtain ⟨v, hv, e⟩ := List.mem_map.1 h
  injection e with _ _ _ e
  have := List.mem_range.1 hv
  omega
theorem varK_ins (k : Nat) : insK (varK k) ⟨2, 0, 0, (k : Int)⟩ = varK (k + 1) ∧ idxK (varK k) ⟨2, 0, 0, (k : Int)⟩ = k := by
  rw [insK_no (varK_not k), idxK_no (varK_not k), varK_len]
  refine ⟨?_, rfl⟩
  unfold varK
  rw [List.range_succ, List.map_append]; rfl
theorem isK_zero (n : Nat) : isK n 0 = List.replicate n 0 := by
  refine List.ext_getElem (by simp [isK]) fun j h1 h2 => ?_
  simp [isK]
theorem isK_get {n k j : Nat} (h : j < (isK n k).length) : (isK n k)[j] = if j < k then (j : Int) else 0 := by simp [isK]
theorem isK_set {n k : Nat} (_h : k < n) : (isK n k).set k (k : Int) = isK n (k + 1) := by
  refine List.ext_getElem (by simp [isK]) fun j h1 h2 => ?_
  rw [List.getElem_set, isK_get, isK_get]
  by_cases e : k = j
  · subst e; rw [if_pos rfl, if_pos (by omega)]
  · rw [if_neg e]
    by_cases h3 : j < k
    · rw [if_pos h3, if_pos (by omega)]
    · rw [if_neg h3, if_neg (by omega)]
theorem varK_ok {vars : Int} {k n : Nat} (h : vars = n) (hk : k < n) : TOk vars (varK k).length ⟨2, 0, 0, (k : Int)⟩ := tok2 (by omega)
theorem envK_start {vars : Int} {n : Nat} (h : vars = n) : EnvK vars n [] (varK n) (isK n n) := by
  have hall : TAll vars (varK n) := fun k hk => by
    rw [varK_get hk]
    rw [varK_len] at hk
    exact tok2 (by omega)
  refine ⟨hall, isK_len n n, fun x hx => ?_, fun hv hl v hv' => ?_⟩
  · obtain ⟨v, hv, rfl⟩ := List.mem_map.1 hx
    have := List.mem_range.1 hv
    rw [varK_len, if_pos this]; omega
  · have e : (isK n n).getD v 0 = v := by
      rw [List.getD_eq_getElem?_getD, List.getElem?_eq_getElem (by rw [isK_len]; exact hv')]
      unfold isK
      rw [List.getElem_map, List.getElem_range, if_pos hv']; rfl
    rw [e, Int.toNat_natCast, valK_at hv (by rw [varK_len]; exact hv')]
    rw [varK_get]
    unfold val1
    dsimp only
    rw [if_neg (by decide), if_pos rfl, Int.toNat_natCast]
    rfl
/-- The post-condition's first terms, named. -/
structure AtK (vars : Int) (n : Nat) (c : List Step) (post : List Term) (k : Nat) (ks : List Term) (is at_ : List Int) : Prop where
  env : EnvK vars n c ks is
  len : at_.length = k
  in_ : ∀ x ∈ at_, 0 ≤ x ∧ x < ks.length
  val : ∀ hv : List Int, hv.length = n → ∀ j, j < k → valK hv ks (at_.getD j 0).toNat = (valsTo (dgR hv c) post k).getD j 0
section
variable {vars : Int} {n k : Nat} {c : List Step} {post ks : List Term} {is at_ : List Int}
theorem AtK.start (h : EnvK vars n c ks is) : AtK vars n c post 0 ks is [] := ⟨h, rfl, fun x hx => by simp at hx, fun hv _ j hj => by omega⟩
theorem getD_snoc {l : List Int} {x : Int} {j k : Nat} (hl : l.length = k) : (l ++ [x]).getD j 0 = if j = k then x else l.getD j 0 := by
  rw [List.getD_eq_getElem?_getD, List.getD_eq_getElem?_getD]
  by_cases e : j = k
  · subst e; rw [if_pos rfl, ← hl, List.getElem?_concat_length]; rfl
  · rw [if_neg e]
    by_cases h : j < k
    · rw [List.getElem?_append_left (by omega)]
    · rw [List.getElem?_eq_none (by simp; omega), List.getElem?_eq_none (by omega)]
theorem AtK.put {ks' : List Term} {y : Int} (h : AtK vars n c post k ks is at_) (hk : k < post.length) (he : EnvK vars n c ks' is) (hpre : ks.length ≤ ks'.length ∧ ∀ hv i, i < ks.length → valK hv ks' i = valK hv ks i) (hy : 0 ≤ y ∧ y < ks'.length)
    (hval : ∀ hv : List Int, hv.length = n → valK hv ks' y.toNat = val1 (dgR hv c) (valsTo (dgR hv c) post k) post[k]) : AtK vars n c post (k + 1) ks' is (at_ ++ [y]) := by
  refine ⟨he, by simp [h.len], fun x hx => ?_, fun hv hl j hj => ?_⟩
  · rcases List.mem_append.1 hx with hx | hx
    · have := h.in_ x hx; have := hpre.1; omega
    · simp at hx; rw [hx]; exact hy
  · rw [getD_snoc h.len, valsTo_succ _ hk, getD_snoc (valsTo_len _ (by omega))]
    by_cases e : j = k
    · rw [if_pos e, if_pos e]; exact hval hv hl
    · rw [if_neg e, if_neg e]
      have hm := h.in_ _ (getD_in (l := at_) (i := j) (by rw [h.len]; omega))
      rw [hpre.2 hv _ (by omega)]
      exact h.val hv hl j (by omega)
theorem ins_pre (ks : List Term) (x : Term) : ks.length ≤ (insK ks x).length ∧ ∀ hv i, i < ks.length → valK hv (insK ks x) i = valK hv ks i := ⟨(insK_len ks x).1, fun hv _ h => valK_ins hv h⟩
theorem AtK.num (h : AtK vars n c post k ks is at_) (hk : k < post.length) (ht : TOk vars k post[k]) (h1 : post[k].op = 1) :
    AtK vars n c post (k + 1) (insK ks ⟨1, 0, 0, post[k].val⟩) is (at_ ++ [((idxK ks ⟨1, 0, 0, post[k].val⟩ : Nat) : Int)]) := by
  have hx : TOk vars ks.length ⟨1, 0, 0, post[k].val⟩ := tok1 (ht.2.2.1 h1)
  refine h.put hk (h.env.ins hx) (ins_pre _ _) (by have := idxK_lt ks ⟨1, 0, 0, post[k].val⟩; omega) fun hv hl => ?_
  rw [Int.toNat_natCast, valK_put hv h.env.all]
  unfold val1
  rw [if_pos h1, if_pos rfl]
theorem AtK.var (h : AtK vars n c post k ks is at_) (hk : k < post.length) (ht : TOk vars k post[k]) (hn : vars = n) (h2 : post[k].op = 2) :
    AtK vars n c post (k + 1) ks is (at_ ++ [is.getD post[k].val.toNat 0]) := by
  have hv' := ht.2.2.2.1 h2
  refine h.put hk h.env ⟨Nat.le_refl _, fun _ _ _ => rfl⟩ (h.env.in_ _ (getD_in (by rw [h.env.len]; omega))) fun hv hl => ?_
  rw [h.env.val hv hl _ (by omega)]
  unfold val1
  rw [if_neg (by omega), if_pos h2]
theorem AtK.opx (h : AtK vars n c post k ks is at_) (hk : k < post.length) (ht : TOk vars k post[k]) (h3 : 3 ≤ post[k].op) :
    TOk vars ks.length ⟨post[k].op, at_.getD post[k].a.toNat 0, at_.getD post[k].b.toNat 0, 0⟩ := by
  obtain ⟨o1, o6, on, ov, ob⟩ := ht
  have hb := ob h3
  have ha := h.in_ _ (getD_in (l := at_) (i := post[k].a.toNat) (by rw [h.len]; omega))
  have hb' := h.in_ _ (getD_in (l := at_) (i := post[k].b.toNat) (by rw [h.len]; omega))
  exact ⟨o1, o6, fun h => absurd h (by dsimp only; omega), fun h => absurd h (by dsimp only; omega), fun _ => ⟨ha.1, ha.2, hb'.1, hb'.2⟩⟩
theorem AtK.op (h : AtK vars n c post k ks is at_) (hk : k < post.length) (ht : TOk vars k post[k]) (h3 : 3 ≤ post[k].op) :
    AtK vars n c post (k + 1) (insK ks ⟨post[k].op, at_.getD post[k].a.toNat 0, at_.getD post[k].b.toNat 0, 0⟩) is (at_ ++ [((idxK ks ⟨post[k].op, at_.getD post[k].a.toNat 0, at_.getD post[k].b.toNat 0, 0⟩ : Nat) : Int)]) := by
  have hx := h.opx hk ht h3
  obtain ⟨o1, o6, on, ov, ob⟩ := ht
  have hb := ob h3
  refine h.put hk (h.env.ins hx) (ins_pre _ _) (by have := idxK_lt ks ⟨post[k].op, at_.getD post[k].a.toNat 0, at_.getD post[k].b.toNat 0, 0⟩; omega) fun hv hl => ?_
  rw [Int.toNat_natCast, valK_put hv h.env.all]
  have e1 := h.val hv hl post[k].a.toNat (by omega)
  have e2 := h.val hv hl post[k].b.toNat (by omega)
  unfold valK at e1 e2
  unfold val1
  dsimp only
  rw [if_neg (by omega), if_neg (by omega), if_neg (by omega), if_neg (by omega), e1, e2]
/-- The list, cut behind the last term named, stands for what the post-condition stands for behind the code. -/
theorem AtK.done (h : AtK vars n c post post.length ks is at_) (h1 : 1 ≤ post.length) {m : Nat} (hm : (m : Int) = at_.getD (post.length - 1) 0) :
    m < ks.length ∧ (∀ k (hk : k < (ks.take (m + 1)).length), TOk vars k (ks.take (m + 1))[k]) ∧ ∀ hv : List Int, hv.length = n → tVal hv (ks.take (m + 1)) = tVal (dgR hv c) post := by
  have hi := h.in_ _ (getD_in (l := at_) (i := post.length - 1) (by rw [h.len]; omega))
  have hmk : m < ks.length := by omega
  have hl : (ks.take (m + 1)).length = m + 1 := by simp; omega
  refine ⟨hmk, fun k hk => ?_, fun hv hh => ?_⟩
  · rw [List.getElem_take]
    exact h.env.all k (by omega)
  · unfold tVal
    rw [hl, Nat.add_sub_cancel]
    have e := h.val hv hh (post.length - 1) (by omega)
    rw [← e, ← hm, Int.toNat_natCast]
    unfold valsTo
    rw [List.take_take, Nat.min_self]
    exact valK_take hv (by omega) (by omega)
end
end Go.Proofs.Ytmgejacndhnikaa
