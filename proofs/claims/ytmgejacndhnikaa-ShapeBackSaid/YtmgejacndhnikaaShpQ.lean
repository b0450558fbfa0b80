/- ShapeBack, plain: the blocks do what the shapes do. -/
import Derived.Test.YtmgejacndhnikaaShpP
namespace Go.Proofs.Ytmgejacndhnikaa

/-- May shapes be, in depth? -/
def OkS (vars : Int) : Nat → List Shp → Prop
  | _, [] => True
  | 0, _ :: _ => False
  | d + 1, x :: r => (1 ≤ x.kind ∧ x.kind ≤ 3) ∧ (x.kind = 1 → ∀ s ∈ x.code, SOk vars s) ∧ (x.kind ≠ 1 → 0 ≤ x.test ∧ x.test < vars) ∧ OkS vars d x.thn ∧ OkS vars d x.els ∧ OkS vars (d + 1) r
  termination_by d l => (d, l.length)
/-- Somewhere within a block: n steps of block i are done. -/
def Mid (P : List Blk) (hv : List Int) (i n : Nat) (v : List Int) : Prop := ∃ k u, runsB P hv k ∧ stB P hv k = ((i : Int), u) ∧ v = dgR u ((P.getD i bnul).code.take n)
theorem Mid.app {P : List Blk} {hv v : List Int} {i : Nat} {c e : List Step} (h : Mid P hv i c.length v) (hp : (c ++ e) <+: (P.getD i bnul).code) : Mid P hv i (c ++ e).length (dgR v e) := by
  obtain ⟨k, u, h1, h2, h3⟩ := h
  obtain ⟨t, ht⟩ := hp
  refine ⟨k, u, h1, h2, ?_⟩
  rw [h3, ← ht, ← dgR_append]
  congr 1
  rw [List.take_left, List.append_assoc, List.take_left]
/-- On to the next block. -/
theorem Mid.next {P : List Blk} {hv v : List Int} {i j : Nat} (h : Mid P hv i (P.getD i bnul).code.length v) (hj : (if 0 ≤ (P.getD i bnul).test ∧ v.getD (P.getD i bnul).test.toNat 0 = 0 then (P.getD i bnul).els else (P.getD i bnul).thn) = (j : Int)) : Mid P hv j 0 v := by
  obtain ⟨k, u, h1, h2, h3⟩ := h
  rw [List.take_length] at h3
  refine ⟨k + 1, v, fun m hm => ?_, ?_, by rw [List.take_zero]; rfl⟩
  · rcases Nat.lt_or_ge m k with h | h
    · exact h1 m h
    · obtain rfl : m = k := by omega
      rw [h2]; exact Int.natCast_nonneg i
  · rw [st_succ, h2]
    unfold goB
    dsimp only
    rw [Int.toNat_natCast, ← h3, hj]
/-- q, with the block at hand j and others still open (S), grows to P. -/
structure Agr (S : Nat → Prop) (q : List Blk) (j : Nat) (P : List Blk) : Prop where
  len : q.length ≤ P.length
  eq : ∀ k, k < q.length → k ≠ j → ¬ S k → P.getD k bnul = q.getD k bnul
  pre : (q.getD j bnul).code <+: (P.getD j bnul).code
theorem Agr.back {S : Nat → Prop} {q s : List Blk} {j k : Nat} {P : List Blk} (h : Agr S s k P) (hf : Fr q j s k) (hj : j < q.length) (hS : ¬ S j) : Agr S q j P := by
  have hl := hf.len
  refine ⟨Nat.le_trans hf.len h.len, fun m hm hne hs => ?_, ?_⟩
  · rw [h.eq m (by omega) (by have := hf.at_; omega) hs, hf.old m hm hne]
  · rcases hf.at_ with e | e
    · subst e; exact hf.pre.trans h.pre
    · rw [h.eq j (by omega) (by omega) hS]; exact hf.pre
def SimA (l : List Shp) (v v' : List Int) : Prop := ∀ (vars : Int) (d : Nat), OkS vars d l → ∀ (p : List Blk) (i : Nat) (S : Nat → Prop) (P : List Blk) (hv : List Int), i < p.length → ¬ S i → (∀ k, S k → k < p.length) → (p.getD i bnul).test = -1 ∧ (p.getD i bnul).thn = -1 →
  Agr S (flatL d l p i).1 (flatL d l p i).2 P →
  (Mid P hv i (p.getD i bnul).code.length v → Mid P hv (flatL d l p i).2 ((flatL d l p i).1.getD (flatL d l p i).2 bnul).code.length v') ∧
  (∀ x r, l = x :: r → x.kind = 3 → Mid P hv p.length 0 v → Mid P hv (flatL d l p i).2 ((flatL d l p i).1.getD (flatL d l p i).2 bnul).code.length v')
/-- What the blocks of two ways are, in the end. -/
structure BothF (S : Nat → Prop) (P p : List Blk) (i : Nat) (x : Shp) (d : Nat) (y z : List Blk × Nat) (p2 p6 : List Blk) : Prop where
  ey : y = flatL d x.thn p2 p.length
  ez : z = flatL d x.els y.1 (p.length + 1)
  pi : P.getD i bnul = ⟨(p.getD i bnul).code, x.test, ((p.length : Nat) : Int), ((p.length + 1 : Nat) : Int)⟩
  n0 : p2.getD p.length bnul = nbl
  n1 : y.1.getD (p.length + 1) bnul = nbl
  l2 : p2.length = p.length + 2
  ly : p2.length ≤ y.1.length
  lz : y.1.length ≤ z.1.length
  ay : Agr (fun k => S k ∨ k = p.length + 1) y.1 y.2 P
  az : Agr (fun k => S k ∨ k = y.2) z.1 z.2 P
  cy : (P.getD y.2 bnul).code = (y.1.getD y.2 bnul).code ∧ (P.getD y.2 bnul).test = -1 ∧ (P.getD y.2 bnul).thn = ((z.1.length : Nat) : Int)
  cz : (P.getD z.2 bnul).code = (z.1.getD z.2 bnul).code ∧ (P.getD z.2 bnul).test = -1 ∧ (P.getD z.2 bnul).thn = ((z.1.length : Nat) : Int)
  hy : y.2 = p.length ∨ p.length + 2 ≤ y.2
  l6 : p6.length = z.1.length + 1
  n6 : p6.getD z.1.length bnul = nbl
theorem bothF {S : Nat → Prop} {P p : List Blk} {i : Nat} {x : Shp} {d : Nat} {p2 p6 : List Blk} {y z : List Blk × Nat} (hi : i < p.length) (hSi : ¬ S i) (hS : ∀ k, S k → k < p.length)
    (e2 : p2 = setG (p ++ [nbl] ++ [nbl]) i x.test ((p.length : Nat) : Int) ((p.length + 1 : Nat) : Int)) (ey : y = flatL d x.thn p2 p.length) (ez : z = flatL d x.els y.1 (p.length + 1))
    (e6 : p6 = setT (setT (z.1 ++ [nbl]) y.2 ((z.1.length : Nat) : Int)) z.2 ((z.1.length : Nat) : Int)) (ha : Agr S p6 z.1.length P) : BothF S P p i x d y z p2 p6 := by
  obtain ⟨a1, a2, a3, a4, a5, a6⟩ := fr_both hi rfl x.test ((p.length : Nat) : Int) ((p.length + 1 : Nat) : Int)
  rw [← e2] at a1 a2 a3 a4 a5 a6
  have hy := flat_fr d x.thn p2 p.length (by omega)
  rw [← ey] at hy
  have hyl := hy.len
  have hz := flat_fr d x.els y.1 (p.length + 1) (by omega)
  rw [← ez] at hz
  have hzl := hz.len
  have hy2 : y.2 = p.length ∨ p.length + 2 ≤ y.2 := by have := hy.at_; omega
  have hz2 := hz.at_
  have hyt := hy.lt
  have hzt := hz.lt
  have hyz : y.2 ≠ z.2 := by omega
  have l6 : p6.length = z.1.length + 1 := by rw [e6, setT_len, setT_len]; simp
  have g6 : ∀ k, p6.getD k bnul = if z.2 = k then { (if y.2 = k then { z.1.getD k bnul with thn := ((z.1.length : Nat) : Int) } else (z.1 ++ [nbl]).getD k bnul) with thn := ((z.1.length : Nat) : Int) } else if y.2 = k then { z.1.getD k bnul with thn := ((z.1.length : Nat) : Int) } else (z.1 ++ [nbl]).getD k bnul := fun k => by
    rw [e6]
    conv => lhs; unfold setT
    rw [getB_set (by rw [List.length_set]; simp; omega)]
    by_cases h1 : z.2 = k
    · subst h1
      rw [if_pos rfl, if_pos rfl, if_neg hyz, getB_set (by simp; omega), if_neg hyz]
    · rw [if_neg h1, if_neg h1, getB_set (by simp; omega)]
      by_cases h2 : y.2 = k
      · subst h2
        rw [if_pos rfl, if_pos rfl, getB_app _ (by omega)]
      · rw [if_neg h2, if_neg h2]
  have far : ∀ k, k < z.1.length → k ≠ y.2 → k ≠ z.2 → p6.getD k bnul = z.1.getD k bnul := fun k hk h1 h2 => by
    rw [g6, if_neg (fun e => h2 e.symm), if_neg (fun e => h1 e.symm), getB_app _ hk]
  have hPk : ∀ k, k < z.1.length → ¬ S k → P.getD k bnul = p6.getD k bnul := fun k hk hs => ha.eq k (by omega) (by omega) hs
  have nSy : ¬ S y.2 := fun h => by have := hS _ h; omega
  have nSz : ¬ S z.2 := fun h => by have := hS _ h; omega
  have py : P.getD y.2 bnul = { y.1.getD y.2 bnul with thn := ((z.1.length : Nat) : Int) } := by
    rw [hPk y.2 (by omega) nSy, g6, if_neg (fun e => hyz e.symm), if_pos rfl, hz.old y.2 hyt (by omega)]
  have pz : P.getD z.2 bnul = { z.1.getD z.2 bnul with thn := ((z.1.length : Nat) : Int) } := by
    rw [hPk z.2 (by omega) nSz, g6, if_pos rfl, if_neg hyz, getB_app _ hzt]
  have n1 : y.1.getD (p.length + 1) bnul = nbl := by rw [hy.old (p.length + 1) (by omega) (by omega), a5]
  have oy := hy.opn (by rw [a4]; exact ⟨rfl, rfl⟩)
  have oz := hz.opn (by rw [n1]; exact ⟨rfl, rfl⟩)
  refine ⟨ey, ez, ?_, a4, n1, a6, hyl, hzl, ⟨?_, fun k hk hne hs => ?_, ?_⟩, ⟨?_, fun k hk hne hs => ?_, ?_⟩, ?_, ?_, hy2, l6, ?_⟩
  · rw [hPk i (by omega) hSi, far i (by omega) (by omega) (by omega), hz.old i (by omega) (by omega), hy.old i (by omega) (by omega), a3]
  · have := ha.len; omega
  · rw [hPk k (by omega) (fun h => hs (.inl h)), far k (by omega) hne (by have : k ≠ p.length + 1 := fun h => hs (.inr h); omega), hz.old k hk (fun h => hs (.inr h))]
  · rw [py]; exact List.prefix_refl _
  · have := ha.len; omega
  · rw [hPk k hk (fun h => hs (.inl h)), far k hk (fun h => hs (.inr h)) hne]
  · rw [pz]; exact List.prefix_refl _
  · rw [py]; exact ⟨rfl, oy.1, rfl⟩
  · rw [pz]; exact ⟨rfl, oz.1, rfl⟩
  · rw [g6, if_neg (by omega), if_neg (by omega), getB_new]
/-- What the blocks of a round are, in the end. -/
structure LoopF (S : Nat → Prop) (P p : List Blk) (i : Nat) (x : Shp) (d : Nat) (y : List Blk × Nat) (p2 p6 : List Blk) : Prop where
  ey : y = flatL d x.thn p2 (p.length + 1)
  pi : P.getD i bnul = ⟨(p.getD i bnul).code, -1, ((p.length : Nat) : Int), (p.getD i bnul).els⟩
  ph : P.getD p.length bnul = ⟨[], x.test, ((p.length + 1 : Nat) : Int), ((p.length + 2 : Nat) : Int)⟩
  n1 : p2.getD (p.length + 1) bnul = nbl
  l2 : p2.length = p.length + 3
  ly : p2.length ≤ y.1.length
  ay : Agr (fun k => S k ∨ k = p.length + 2) y.1 y.2 P
  cy : (P.getD y.2 bnul).code = (y.1.getD y.2 bnul).code ∧ (P.getD y.2 bnul).test = -1 ∧ (P.getD y.2 bnul).thn = ((p.length : Nat) : Int)
  l6 : p6.length = y.1.length
  n6 : p6.getD (p.length + 2) bnul = nbl
theorem loopF {S : Nat → Prop} {P p : List Blk} {i : Nat} {x : Shp} {d : Nat} {p2 p6 : List Blk} {y : List Blk × Nat} (hi : i < p.length) (hSi : ¬ S i) (hS : ∀ k, S k → k < p.length) (ht : (p.getD i bnul).test = -1)
    (e2 : p2 = (setT (p ++ [zbl] ++ [nbl] ++ [nbl]) i ((p.length : Nat) : Int)).set p.length ⟨[], x.test, ((p.length + 1 : Nat) : Int), ((p.length + 2 : Nat) : Int)⟩) (ey : y = flatL d x.thn p2 (p.length + 1))
    (e6 : p6 = setT y.1 y.2 ((p.length : Nat) : Int)) (ha : Agr S p6 (p.length + 2) P) : LoopF S P p i x d y p2 p6 := by
  obtain ⟨a1, a2, a3, a4, a5, a6⟩ := fr_while hi rfl ((p.length : Nat) : Int) ⟨[], x.test, ((p.length + 1 : Nat) : Int), ((p.length + 2 : Nat) : Int)⟩ p2 e2
  have hy := flat_fr d x.thn p2 (p.length + 1) (by omega)
  rw [← ey] at hy
  have hyl := hy.len
  have hyt := hy.lt
  have hya := hy.at_
  have l6 : p6.length = y.1.length := by rw [e6, setT_len]
  have g6 : ∀ k, p6.getD k bnul = if y.2 = k then { y.1.getD y.2 bnul with thn := ((p.length : Nat) : Int) } else y.1.getD k bnul := fun k => by
    rw [e6]; unfold setT; rw [getB_set hyt]
  have hPk : ∀ k, k < y.1.length → k ≠ p.length + 2 → ¬ S k → P.getD k bnul = p6.getD k bnul := fun k hk hne hs => ha.eq k (by omega) hne hs
  have nS : ∀ k, p.length ≤ k → ¬ S k := fun k hk h => by have := hS _ h; omega
  have py : P.getD y.2 bnul = { y.1.getD y.2 bnul with thn := ((p.length : Nat) : Int) } := by
    rw [hPk y.2 hyt (by omega) (nS _ (by omega)), g6, if_pos rfl]
  have oy := hy.opn (by rw [a4]; exact ⟨rfl, rfl⟩)
  refine ⟨ey, ?_, ?_, a4, a6, hyl, ⟨by have := ha.len; omega, fun k hk hne hs => ?_, ?_⟩, ?_, l6, ?_⟩
  · rw [hPk i (by omega) (by omega) hSi, g6, if_neg (by omega), hy.old i (by omega) (by omega), a2]; dsimp only; rw [ht]
  · rw [hPk p.length (by omega) (by omega) (nS _ (Nat.le_refl _)), g6, if_neg (by omega), hy.old p.length (by omega) (by omega), a3]
  · rw [hPk k hk (fun h => hs (.inr h)) (fun h => hs (.inl h)), g6, if_neg (fun h => hne h.symm)]
  · rw [py]; exact List.prefix_refl _
  · rw [py]; exact ⟨rfl, oy.1, rfl⟩
  · rw [g6, if_neg (by omega), hy.old (p.length + 2) (by omega) (by omega), a5]
theorem flatL_nil (d : Nat) (p : List Blk) (i : Nat) : flatL d [] p i = (p, i) := by cases d <;> rw [flatL]
theorem flat_sim {l : List Shp} {v v' : List Int} (h : Ex l v v') : SimA l v v' := by
  induction h with
  | nil v =>
    intro vars d hok p i S P hv hi hSi hS ho ha
    rw [flatL_nil]
    exact ⟨id, fun x r h => by cases h⟩
  | @code x r v v' hk h ih =>
    intro vars d hok p i S P hv hi hSi hS ho ha
    cases d with
    | zero => rw [OkS] at hok; exact hok.elim
    | succ d =>
      rw [OkS] at hok
      rw [flatL, if_pos hk] at ha ⊢
      have hl : i < (addC p i x.code).length := by rw [addC_len]; exact hi
      have e : (addC p i x.code).getD i bnul = { p.getD i bnul with code := (p.getD i bnul).code ++ x.code } := by unfold addC; rw [getB_set hi, if_pos rfl]
      have hb := ha.back (flat_fr (d + 1) r _ i hl) hl hSi
      have sim := (ih vars (d + 1) hok.2.2.2.2.2 (addC p i x.code) i S P hv hl hSi (fun k hk => by rw [addC_len]; exact hS k hk) (by rw [e]; exact ho) ha).1
      refine ⟨fun hm => sim ?_, fun x' r' e' hk' => by injection e' with e1 e2; subst e1; omega⟩
      have hp := hb.pre
      rw [e] at hp ⊢
      exact hm.app hp
  | @yes x r v u v' hk ht h1 h2 ih1 ih2 =>
    intro vars d hok p i S P hv hi hSi hS ho ha
    cases d with
    | zero => rw [OkS] at hok; exact hok.elim
    | succ d =>
      rw [OkS] at hok
      obtain ⟨-, -, htest, hok1, hok2, hok3⟩ := hok
      have htest := htest (by omega)
      rw [flatL, if_neg (by omega), if_pos hk] at ha ⊢
      dsimp only at ha ⊢
      obtain ⟨p2, e2⟩ : ∃ p2, p2 = setG (p ++ [nbl] ++ [nbl]) i x.test ((p.length : Nat) : Int) ((p.length + 1 : Nat) : Int) := ⟨_, rfl⟩
      rw [← e2] at ha ⊢
      obtain ⟨y, ey⟩ : ∃ y, y = flatL d x.thn p2 p.length := ⟨_, rfl⟩
      rw [← ey] at ha ⊢
      obtain ⟨z, ez⟩ : ∃ z, z = flatL d x.els y.1 (p.length + 1) := ⟨_, rfl⟩
      rw [← ez] at ha ⊢
      obtain ⟨p6, e6⟩ : ∃ p6, p6 = setT (setT (z.1 ++ [nbl]) y.2 ((z.1.length : Nat) : Int)) z.2 ((z.1.length : Nat) : Int) := ⟨_, rfl⟩
      rw [← e6] at ha ⊢
      have l6 : p6.length = z.1.length + 1 := by rw [e6, setT_len, setT_len]; simp
      have hb := bothF hi hSi hS e2 ey ez e6 (ha.back (flat_fr (d + 1) r p6 z.1.length (by omega)) (by omega) (fun h => by
        have := hS _ h
        have h1 := flat_fr d x.thn p2 p.length (by rw [e2, setG_len]; simp)
        rw [← ey] at h1
        have h2 := h1.len
        rw [e2, setG_len] at h2
        simp at h2
        have h3 := flat_fr d x.els y.1 (p.length + 1) (by omega)
        rw [← ez] at h3
        have := h3.len
        omega))
      have l2 := hb.l2
      have ly := hb.ly
      have lz := hb.lz
      have nm : ¬ S z.1.length := fun h => by have := hS _ h; omega
      refine ⟨fun hm => ?_, fun x' r' e' hk' => by injection e' with e1 e2; subst e1; omega⟩
      have m1 : Mid P hv p.length 0 v := by
        refine Mid.next (i := i) (by rw [hb.pi]; exact hm) ?_
        rw [hb.pi]
        dsimp only
        rw [if_neg (fun h => ht h.2)]
      have m2 := (ih1 vars d hok1 p2 p.length (fun k => S k ∨ k = p.length + 1) P hv (by omega) (fun h => h.elim (fun h => by have := hS _ h; omega) (fun h => by omega)) (fun k h => h.elim (fun h => by have := hS _ h; omega) (fun h => by omega)) (by rw [hb.n0]; exact ⟨rfl, rfl⟩) (by rw [← ey]; exact hb.ay)).1 (by rw [hb.n0]; exact m1)
      rw [← ey, ← hb.cy.1] at m2
      have m3 : Mid P hv z.1.length 0 u := by
        refine Mid.next m2 ?_
        rw [hb.cy.2.1, if_neg (fun h => by have := h.1; omega)]
        exact hb.cy.2.2
      exact (ih2 vars (d + 1) hok3 p6 z.1.length S P hv (by omega) nm (fun k hk => by have := hS k hk; omega) (by rw [hb.n6]; exact ⟨rfl, rfl⟩) ha).1 (by rw [hb.n6]; exact m3)
  | @no x r v u v' hk ht h1 h2 ih1 ih2 =>
    intro vars d hok p i S P hv hi hSi hS ho ha
    cases d with
    | zero => rw [OkS] at hok; exact hok.elim
    | succ d =>
      rw [OkS] at hok
      obtain ⟨-, -, htest, hok1, hok2, hok3⟩ := hok
      have htest := htest (by omega)
      rw [flatL, if_neg (by omega), if_pos hk] at ha ⊢
      dsimp only at ha ⊢
      obtain ⟨p2, e2⟩ : ∃ p2, p2 = setG (p ++ [nbl] ++ [nbl]) i x.test ((p.length : Nat) : Int) ((p.length + 1 : Nat) : Int) := ⟨_, rfl⟩
      rw [← e2] at ha ⊢
      obtain ⟨y, ey⟩ : ∃ y, y = flatL d x.thn p2 p.length := ⟨_, rfl⟩
      rw [← ey] at ha ⊢
      obtain ⟨z, ez⟩ : ∃ z, z = flatL d x.els y.1 (p.length + 1) := ⟨_, rfl⟩
      rw [← ez] at ha ⊢
      obtain ⟨p6, e6⟩ : ∃ p6, p6 = setT (setT (z.1 ++ [nbl]) y.2 ((z.1.length : Nat) : Int)) z.2 ((z.1.length : Nat) : Int) := ⟨_, rfl⟩
      rw [← e6] at ha ⊢
      have l6 : p6.length = z.1.length + 1 := by rw [e6, setT_len, setT_len]; simp
      have hb := bothF hi hSi hS e2 ey ez e6 (ha.back (flat_fr (d + 1) r p6 z.1.length (by omega)) (by omega) (fun h => by
        have := hS _ h
        have h1 := flat_fr d x.thn p2 p.length (by rw [e2, setG_len]; simp)
        rw [← ey] at h1
        have h2 := h1.len
        rw [e2, setG_len] at h2
        simp at h2
        have h3 := flat_fr d x.els y.1 (p.length + 1) (by omega)
        rw [← ez] at h3
        have := h3.len
        omega))
      have l2 := hb.l2
      have ly := hb.ly
      have lz := hb.lz
      have hy := hb.hy
      have nm : ¬ S z.1.length := fun h => by have := hS _ h; omega
      refine ⟨fun hm => ?_, fun x' r' e' hk' => by injection e' with e1 e2; subst e1; omega⟩
      have m1 : Mid P hv (p.length + 1) 0 v := by
        refine Mid.next (i := i) (by rw [hb.pi]; exact hm) ?_
        rw [hb.pi]
        dsimp only
        rw [if_pos ⟨htest.1, ht⟩]
      have hyt : y.2 < y.1.length := by
        have h1 := flat_fr d x.thn p2 p.length (by omega)
        rw [← ey] at h1
        exact h1.lt
      have m2 := (ih1 vars d hok2 y.1 (p.length + 1) (fun k => S k ∨ k = y.2) P hv (by omega) (fun h => h.elim (fun h => by have := hS _ h; omega) (fun h => by omega)) (fun k h => h.elim (fun h => by have := hS _ h; omega) (fun h => by omega)) (by rw [hb.n1]; exact ⟨rfl, rfl⟩) (by rw [← ez]; exact hb.az)).1 (by rw [hb.n1]; exact m1)
      rw [← ez, ← hb.cz.1] at m2
      have m3 : Mid P hv z.1.length 0 u := by
        refine Mid.next m2 ?_
        rw [hb.cz.2.1, if_neg (fun h => by have := h.1; omega)]
        exact hb.cz.2.2
      exact (ih2 vars (d + 1) hok3 p6 z.1.length S P hv (by omega) nm (fun k hk => by have := hS k hk; omega) (by rw [hb.n6]; exact ⟨rfl, rfl⟩) ha).1 (by rw [hb.n6]; exact m3)
  | @stop x r v v' hk ht h ih =>
    intro vars d hok p i S P hv hi hSi hS ho ha
    cases d with
    | zero => rw [OkS] at hok; exact hok.elim
    | succ d =>
      have hok0 := hok
      rw [OkS] at hok
      obtain ⟨-, -, htest, hok1, hok2, hok3⟩ := hok
      have htest := htest (by omega)
      rw [flatL, if_neg (by omega), if_neg (by omega), if_pos hk] at ha ⊢
      dsimp only at ha ⊢
      obtain ⟨p2, e2⟩ : ∃ p2, p2 = (setT (p ++ [zbl] ++ [nbl] ++ [nbl]) i ((p.length : Nat) : Int)).set p.length ⟨[], x.test, ((p.length + 1 : Nat) : Int), ((p.length + 2 : Nat) : Int)⟩ := ⟨_, rfl⟩
      rw [← e2] at ha ⊢
      obtain ⟨y, ey⟩ : ∃ y, y = flatL d x.thn p2 (p.length + 1) := ⟨_, rfl⟩
      rw [← ey] at ha ⊢
      obtain ⟨p6, e6⟩ : ∃ p6, p6 = setT y.1 y.2 ((p.length : Nat) : Int) := ⟨_, rfl⟩
      rw [← e6] at ha ⊢
      have l2 : p2.length = p.length + 3 := by rw [e2, List.length_set, setT_len]; simp
      have l6 : p6.length = y.1.length := by rw [e6, setT_len]
      have ly : p2.length ≤ y.1.length := by
        have h1 := flat_fr d x.thn p2 (p.length + 1) (by omega)
        rw [← ey] at h1
        exact h1.len
      have nS : ¬ S (p.length + 2) := fun h => by have := hS _ h; omega
      have hb := loopF hi hSi hS ho.1 e2 ey e6 (ha.back (flat_fr (d + 1) r p6 (p.length + 2) (by omega)) (by omega) nS)
      have fin : Mid P hv p.length 0 v → Mid P hv (flatL (d + 1) r p6 (p.length + 2)).2 ((flatL (d + 1) r p6 (p.length + 2)).1.getD (flatL (d + 1) r p6 (p.length + 2)).2 bnul).code.length v' := fun hm => by
        have m2 : Mid P hv (p.length + 2) 0 v := by
          refine Mid.next (i := p.length) (by rw [hb.ph]; exact hm) ?_
          rw [hb.ph]
          dsimp only
          rw [if_pos ⟨htest.1, ht⟩]
        exact (ih vars (d + 1) hok3 p6 (p.length + 2) S P hv (by omega) nS (fun k hk => by have := hS k hk; omega) (by rw [hb.n6]; exact ⟨rfl, rfl⟩) ha).1 (by rw [hb.n6]; exact m2)
      refine ⟨fun hm => fin ?_, fun _ _ _ _ hm => fin hm⟩
      refine Mid.next (i := i) (by rw [hb.pi]; exact hm) ?_
      rw [hb.pi]
      dsimp only
      rw [if_neg (fun h => by have := h.1; omega)]
  | @go x r v u v' hk ht h1 h2 ih1 ih2 =>
    intro vars d hok p i S P hv hi hSi hS ho ha
    cases d with
    | zero => rw [OkS] at hok; exact hok.elim
    | succ d =>
      have back := (ih2 vars (d + 1) hok p i S P hv hi hSi hS ho ha).2 x r rfl hk
      rw [OkS] at hok
      obtain ⟨-, -, htest, hok1, hok2, hok3⟩ := hok
      have htest := htest (by omega)
      rw [flatL, if_neg (by omega), if_neg (by omega), if_pos hk] at ha
      dsimp only at ha
      obtain ⟨p2, e2⟩ : ∃ p2, p2 = (setT (p ++ [zbl] ++ [nbl] ++ [nbl]) i ((p.length : Nat) : Int)).set p.length ⟨[], x.test, ((p.length + 1 : Nat) : Int), ((p.length + 2 : Nat) : Int)⟩ := ⟨_, rfl⟩
      rw [← e2] at ha
      obtain ⟨y, ey⟩ : ∃ y, y = flatL d x.thn p2 (p.length + 1) := ⟨_, rfl⟩
      rw [← ey] at ha
      obtain ⟨p6, e6⟩ : ∃ p6, p6 = setT y.1 y.2 ((p.length : Nat) : Int) := ⟨_, rfl⟩
      rw [← e6] at ha
      have l2 : p2.length = p.length + 3 := by rw [e2, List.length_set, setT_len]; simp
      have l6 : p6.length = y.1.length := by rw [e6, setT_len]
      have ly : p2.length ≤ y.1.length := by
        have h1 := flat_fr d x.thn p2 (p.length + 1) (by omega)
        rw [← ey] at h1
        exact h1.len
      have nS : ¬ S (p.length + 2) := fun h => by have := hS _ h; omega
      have hb := loopF hi hSi hS ho.1 e2 ey e6 (ha.back (flat_fr (d + 1) r p6 (p.length + 2) (by omega)) (by omega) nS)
      have fin : Mid P hv p.length 0 v → Mid P hv p.length 0 u := fun hm => by
        have m1 : Mid P hv (p.length + 1) 0 v := by
          refine Mid.next (i := p.length) (by rw [hb.ph]; exact hm) ?_
          rw [hb.ph]
          dsimp only
          rw [if_neg (fun h => ht h.2)]
        have m2 := (ih1 vars d hok1 p2 (p.length + 1) (fun k => S k ∨ k = p.length + 2) P hv (by omega) (fun h => h.elim (fun h => by have := hS _ h; omega) (fun h => by omega)) (fun k h => h.elim (fun h => by have := hS _ h; omega) (fun h => by omega)) (by rw [hb.n1]; exact ⟨rfl, rfl⟩) (by rw [← ey]; exact hb.ay)).1 (by rw [hb.n1]; exact m1)
        rw [← ey, ← hb.cy.1] at m2
        refine Mid.next m2 ?_
        rw [hb.cy.2.1, if_neg (fun h => by have := h.1; omega)]
        exact hb.cy.2.2
      refine ⟨fun hm => back (fin ?_), fun _ _ _ _ hm => back (fin hm)⟩
      refine Mid.next (i := i) (by rw [hb.pi]; exact hm) ?_
      rw [hb.pi]
      dsimp only
      rw [if_neg (fun h => by have := h.1; omega)]
end Go.Proofs.Ytmgejacndhnikaa
