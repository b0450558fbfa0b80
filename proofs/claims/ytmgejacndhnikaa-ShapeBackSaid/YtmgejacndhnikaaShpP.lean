/- ShapeBack, plain: shapes, what they do, as blocks. -/
import Derived.Test.YtmgejacndhnikaaBlkP
namespace Go.Proofs.Ytmgejacndhnikaa

/-- api.Shape -/
inductive Shp where
  | mk (kind test : Int) (code : List Step) (thn els : List Shp)
def Shp.kind : Shp → Int | .mk k _ _ _ _ => k
def Shp.test : Shp → Int | .mk _ t _ _ _ => t
def Shp.code : Shp → List Step | .mk _ _ c _ _ => c
def Shp.thn : Shp → List Shp | .mk _ _ _ l _ => l
def Shp.els : Shp → List Shp | .mk _ _ _ _ l => l
/-- One by one: with values v they end with v'. -/
inductive Ex : List Shp → List Int → List Int → Prop
  | nil (v : List Int) : Ex [] v v
  | code {x : Shp} {r : List Shp} {v v' : List Int} (hk : x.kind = 1) (h : Ex r (dgR v x.code) v') : Ex (x :: r) v v'
  | yes {x : Shp} {r : List Shp} {v u v' : List Int} (hk : x.kind = 2) (ht : v.getD x.test.toNat 0 ≠ 0) (h1 : Ex x.thn v u) (h2 : Ex r u v') : Ex (x :: r) v v'
  | no {x : Shp} {r : List Shp} {v u v' : List Int} (hk : x.kind = 2) (ht : v.getD x.test.toNat 0 = 0) (h1 : Ex x.els v u) (h2 : Ex r u v') : Ex (x :: r) v v'
  | stop {x : Shp} {r : List Shp} {v v' : List Int} (hk : x.kind = 3) (ht : v.getD x.test.toNat 0 = 0) (h : Ex r v v') : Ex (x :: r) v v'
  | go {x : Shp} {r : List Shp} {v u v' : List Int} (hk : x.kind = 3) (ht : v.getD x.test.toNat 0 ≠ 0) (h1 : Ex x.thn v u) (h2 : Ex (x :: r) u v') : Ex (x :: r) v v'
def nbl : Blk := ⟨[], -1, -1, 0⟩
def zbl : Blk := ⟨[], 0, 0, 0⟩
/-- Steps go behind a block's. -/
def addC (p : List Blk) (i : Nat) (c : List Step) : List Blk := p.set i { p.getD i bnul with code := (p.getD i bnul).code ++ c }
def setG (p : List Blk) (i : Nat) (test thn els : Int) : List Blk := p.set i { p.getD i bnul with test := test, thn := thn, els := els }
def setT (p : List Blk) (i : Nat) (thn : Int) : List Blk := p.set i { p.getD i bnul with thn := thn }
def flatL : Nat → List Shp → List Blk → Nat → List Blk × Nat
  | _, [], p, i => (p, i)
  | 0, _ :: _, p, i => (p, i)
  | d + 1, x :: r, p, i =>
    if x.kind = 1 then flatL (d + 1) r (addC p i x.code) i
    else if x.kind = 2 then
      let n := p.length
      let y := flatL d x.thn (setG (p ++ [nbl] ++ [nbl]) i x.test (n : Nat) ((n + 1 : Nat) : Int)) n
      let z := flatL d x.els y.1 (n + 1)
      let m := z.1.length
      flatL (d + 1) r (setT (setT (z.1 ++ [nbl]) y.2 (m : Nat)) z.2 (m : Nat)) m
    else if x.kind = 3 then
      let n := p.length
      let y := flatL d x.thn ((setT (p ++ [zbl] ++ [nbl] ++ [nbl]) i (n : Nat)).set n ⟨[], x.test, ((n + 1 : Nat) : Int), ((n + 2 : Nat) : Int)⟩) (n + 1)
      flatL (d + 1) r (setT y.1 y.2 (n : Nat)) (n + 2)
    else flatL (d + 1) r p i
  termination_by d l => (d, l.length)
/-- How deep shapes go. -/
def DeepL : Nat → List Shp → Prop
  | _, [] => True
  | 0, _ :: _ => False
  | d + 1, x :: r => DeepL d x.thn ∧ DeepL d x.els ∧ DeepL (d + 1) r
  termination_by d l => (d, l.length)
theorem set_len {α : Type} (p : List α) (i : Nat) (x : α) : (p.set i x).length = p.length := List.length_set
theorem addC_len (p : List Blk) (i : Nat) (c : List Step) : (addC p i c).length = p.length := List.length_set
theorem setG_len (p : List Blk) (i : Nat) (a b c : Int) : (setG p i a b c).length = p.length := List.length_set
theorem setT_len (p : List Blk) (i : Nat) (a : Int) : (setT p i a).length = p.length := List.length_set
theorem getB_set {p : List Blk} {i j : Nat} {b : Blk} (h : i < p.length) : (p.set i b).getD j bnul = if i = j then b else p.getD j bnul := by
  rw [List.getD_eq_getElem?_getD, List.getD_eq_getElem?_getD, List.getElem?_set]
  by_cases e : i = j
  · subst e; rw [if_pos rfl, if_pos rfl, if_pos h]; rfl
  · rw [if_neg e, if_neg e]
theorem getB_app {p : List Blk} {j : Nat} (q : List Blk) (h : j < p.length) : (p ++ q).getD j bnul = p.getD j bnul := by
  rw [List.getD_eq_getElem?_getD, List.getD_eq_getElem?_getD, List.getElem?_append_left h]
theorem getB_new {p : List Blk} (b : Blk) : (p ++ [b]).getD p.length bnul = b := by
  rw [List.getD_eq_getElem?_getD, List.getElem?_append_right (Nat.le_refl _)]; simp
/-- What flatL leaves: all blocks but the one at hand; that one's steps stay ahead. -/
structure Fr (p : List Blk) (i : Nat) (q : List Blk) (j : Nat) : Prop where
  len : p.length ≤ q.length
  old : ∀ k, k < p.length → k ≠ i → q.getD k bnul = p.getD k bnul
  pre : (p.getD i bnul).code <+: (q.getD i bnul).code
  lt : j < q.length
  at_ : j = i ∨ p.length ≤ j
  opn : (p.getD i bnul).test = -1 ∧ (p.getD i bnul).thn = -1 → (q.getD j bnul).test = -1 ∧ (q.getD j bnul).thn = -1
theorem Fr.refl {p : List Blk} {i : Nat} (h : i < p.length) : Fr p i p i := ⟨Nat.le_refl _, fun _ _ _ => rfl, List.prefix_refl _, h, .inl rfl, id⟩
theorem Fr.trans {p q s : List Blk} {i j k : Nat} (hi : i < p.length) (h : Fr p i q j) (g : Fr q j s k) : Fr p i s k := by
  have h1 := h.len
  refine ⟨Nat.le_trans h.len g.len, fun m hm hne => ?_, ?_, g.lt, ?_, fun e => g.opn (h.opn e)⟩
  · rw [g.old m (by omega) (by have := h.at_; omega), h.old m hm hne]
  · rcases h.at_ with rfl | h2
    · exact h.pre.trans g.pre
    · rw [g.old i (by omega) (by omega)]; exact h.pre
  · rcases g.at_ with rfl | h2
    · exact h.at_
    · exact .inr (by omega)
theorem fr_addC {p : List Blk} {i : Nat} (hi : i < p.length) (c : List Step) : Fr p i (addC p i c) i := by
  refine ⟨by rw [addC_len]; omega, fun k hk hne => ?_, ?_, by rw [addC_len]; exact hi, .inl rfl, fun e => by unfold addC; rw [getB_set hi, if_pos rfl]; exact e⟩
  · unfold addC; rw [getB_set hi, if_neg (fun e => hne e.symm)]
  · unfold addC; rw [getB_set hi, if_pos rfl]; exact List.prefix_append _ _
/-- The block at hand is shut, others are new; the last new one is at hand. -/
theorem fr_both {p : List Blk} {i n : Nat} (hi : i < p.length) (hn : n = p.length) (a b c : Int) : p.length ≤ (setG (p ++ [nbl] ++ [nbl]) i a b c).length ∧ (∀ k, k < p.length → k ≠ i → (setG (p ++ [nbl] ++ [nbl]) i a b c).getD k bnul = p.getD k bnul) ∧ (setG (p ++ [nbl] ++ [nbl]) i a b c).getD i bnul = { p.getD i bnul with test := a, thn := b, els := c } ∧
    (setG (p ++ [nbl] ++ [nbl]) i a b c).getD n bnul = nbl ∧ (setG (p ++ [nbl] ++ [nbl]) i a b c).getD (n + 1) bnul = nbl ∧ (setG (p ++ [nbl] ++ [nbl]) i a b c).length = n + 2 := by
  subst hn
  have hl : i < (p ++ [nbl] ++ [nbl]).length := by simp; omega
  have h2 : ∀ k, k < p.length → (p ++ [nbl] ++ [nbl]).getD k bnul = p.getD k bnul := fun k hk => by rw [getB_app _ (by simp; omega), getB_app _ hk]
  unfold setG
  refine ⟨by simp, fun k hk hne => ?_, ?_, ?_, ?_, by simp⟩
  · rw [getB_set hl, if_neg (fun e => hne e.symm), h2 k hk]
  · rw [getB_set hl, if_pos rfl, h2 i hi]
  · rw [getB_set hl, if_neg (by omega), getB_app _ (by simp), getB_new]
  · rw [getB_set hl, if_neg (by omega)]
    have := getB_new (p := p ++ [nbl]) nbl
    rwa [List.length_append, List.length_singleton] at this
theorem fr_while {p : List Blk} {i n : Nat} (hi : i < p.length) (hn : n = p.length) (a : Int) (w : Blk) : ∀ q, q = (setT (p ++ [zbl] ++ [nbl] ++ [nbl]) i a).set n w → (∀ k, k < p.length → k ≠ i → q.getD k bnul = p.getD k bnul) ∧ q.getD i bnul = { p.getD i bnul with thn := a } ∧
    q.getD n bnul = w ∧ q.getD (n + 1) bnul = nbl ∧ q.getD (n + 2) bnul = nbl ∧ q.length = n + 3 := by
  rintro q rfl
  subst hn
  have hl : i < (p ++ [zbl] ++ [nbl] ++ [nbl]).length := by simp; omega
  have h2 : ∀ k, k < p.length → (p ++ [zbl] ++ [nbl] ++ [nbl]).getD k bnul = p.getD k bnul := fun k hk => by rw [getB_app _ (by simp; omega), getB_app _ (by simp; omega), getB_app _ hk]
  have hl2 : p.length < (setT (p ++ [zbl] ++ [nbl] ++ [nbl]) i a).length := by rw [setT_len]; simp
  refine ⟨fun k hk hne => ?_, ?_, ?_, ?_, ?_, by rw [List.length_set, setT_len]; simp⟩
  · rw [getB_set hl2, if_neg (by omega)]
    unfold setT
    rw [getB_set hl, if_neg (fun e => hne e.symm), h2 k hk]
  · rw [getB_set hl2, if_neg (by omega)]
    unfold setT
    rw [getB_set hl, if_pos rfl, h2 i hi]
  · rw [getB_set hl2, if_pos rfl]
  · rw [getB_set hl2, if_neg (by omega)]
    unfold setT
    rw [getB_set hl, if_neg (by omega), getB_app _ (by simp)]
    have := getB_new (p := p ++ [zbl]) nbl
    rwa [List.length_append, List.length_singleton] at this
  · rw [getB_set hl2, if_neg (by omega)]
    unfold setT
    rw [getB_set hl, if_neg (by omega)]
    have := getB_new (p := p ++ [zbl] ++ [nbl]) nbl
    rwa [List.length_append, List.length_append, List.length_singleton, List.length_singleton] at this
theorem flat_fr : ∀ (d : Nat) (l : List Shp) (p : List Blk) (i : Nat), i < p.length → Fr p i (flatL d l p i).1 (flatL d l p i).2
  | d, [], p, i, hi => by cases d <;> (rw [flatL]; exact Fr.refl hi)
  | 0, x :: r, p, i, hi => by rw [flatL]; exact Fr.refl hi
  | d + 1, x :: r, p, i, hi => by
    rw [flatL]
    by_cases h1 : x.kind = 1
    · rw [if_pos h1]
      exact (fr_addC hi x.code).trans hi (flat_fr (d + 1) r _ i (by rw [addC_len]; exact hi))
    · rw [if_neg h1]
      by_cases h2 : x.kind = 2
      · rw [if_pos h2]
        dsimp only
        obtain ⟨a1, a2, a3, a4, a5, a6⟩ := fr_both hi rfl x.test ((p.length : Nat) : Int) ((p.length + 1 : Nat) : Int)
        generalize setG (p ++ [nbl] ++ [nbl]) i x.test ((p.length : Nat) : Int) ((p.length + 1 : Nat) : Int) = p2 at *
        have hy := flat_fr d x.thn p2 p.length (by omega)
        generalize flatL d x.thn p2 p.length = y at *
        have hyl := hy.len
        have hz := flat_fr d x.els y.1 (p.length + 1) (by omega)
        generalize flatL d x.els y.1 (p.length + 1) = z at *
        have hzl := hz.len
        have hy2 : y.2 = p.length ∨ p.length + 2 ≤ y.2 := by have := hy.at_; omega
        have hz2 : z.2 = p.length + 1 ∨ y.1.length ≤ z.2 := hz.at_
        have hyt := hy.lt
        have hzt := hz.lt
        have hl1 : y.2 < (z.1 ++ [nbl]).length := by simp; omega
        have hl2 : z.2 < (setT (z.1 ++ [nbl]) y.2 ((z.1.length : Nat) : Int)).length := by rw [setT_len]; simp; omega
        have hfr : Fr p i (setT (setT (z.1 ++ [nbl]) y.2 ((z.1.length : Nat) : Int)) z.2 ((z.1.length : Nat) : Int)) z.1.length := by
          have key : ∀ k, k < p.length → (setT (setT (z.1 ++ [nbl]) y.2 ((z.1.length : Nat) : Int)) z.2 ((z.1.length : Nat) : Int)).getD k bnul = p2.getD k bnul := fun k hk => by
            conv => lhs; unfold setT
            rw [getB_set (by rw [List.length_set]; simp; omega), if_neg (by omega), getB_set hl1, if_neg (by omega), getB_app _ (by omega), hz.old k (by omega) (by omega), hy.old k (by omega) (by omega)]
          refine ⟨by rw [setT_len, setT_len]; simp; omega, fun k hk hne => ?_, ?_, by rw [setT_len, setT_len]; simp, .inr (by omega), fun _ => ?_⟩
          · rw [key k hk, a2 k hk hne]
          · rw [key i hi, a3]; exact List.prefix_refl _
          · conv => lhs; unfold setT
            conv => rhs; unfold setT
            rw [getB_set (by rw [List.length_set]; simp; omega), if_neg (by omega), getB_set hl1, if_neg (by omega), getB_new]; exact ⟨rfl, rfl⟩
        exact hfr.trans hi (flat_fr (d + 1) r _ _ hfr.lt)
      · rw [if_neg h2]
        by_cases h3 : x.kind = 3
        · rw [if_pos h3]
          dsimp only
          obtain ⟨a1, a2, a3, a4, a5, a6⟩ := fr_while hi rfl ((p.length : Nat) : Int) ⟨[], x.test, ((p.length + 1 : Nat) : Int), ((p.length + 2 : Nat) : Int)⟩ _ rfl
          generalize (setT (p ++ [zbl] ++ [nbl] ++ [nbl]) i ((p.length : Nat) : Int)).set p.length ⟨[], x.test, ((p.length + 1 : Nat) : Int), ((p.length + 2 : Nat) : Int)⟩ = p2 at *
          have hy := flat_fr d x.thn p2 (p.length + 1) (by omega)
          generalize flatL d x.thn p2 (p.length + 1) = y at *
          have hyl := hy.len
          have hyt := hy.lt
          have hya := hy.at_
          have hfr : Fr p i (setT y.1 y.2 ((p.length : Nat) : Int)) (p.length + 2) := by
            have key : ∀ k, k < p.length → (setT y.1 y.2 ((p.length : Nat) : Int)).getD k bnul = p2.getD k bnul := fun k hk => by
              unfold setT
              rw [getB_set hyt, if_neg (by omega), hy.old k (by omega) (by omega)]
            refine ⟨by rw [setT_len]; omega, fun k hk hne => ?_, ?_, by rw [setT_len]; omega, .inr (by omega), fun _ => ?_⟩
            · rw [key k hk, a1 k hk hne]
            · rw [key i hi, a2]; exact List.prefix_refl _
            · unfold setT
              rw [getB_set hyt, if_neg (by omega), hy.old (p.length + 2) (by omega) (by omega), a5]; exact ⟨rfl, rfl⟩
          exact hfr.trans hi (flat_fr (d + 1) r _ _ hfr.lt)
        · rw [if_neg h3]
          exact flat_fr (d + 1) r p i hi
  termination_by d l => (d, l.length)
end Go.Proofs.Ytmgejacndhnikaa
