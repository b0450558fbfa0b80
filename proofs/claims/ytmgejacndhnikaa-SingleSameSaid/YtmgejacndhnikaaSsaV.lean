/- SingleSame, plain: the namer as a function. -/
import Derived.Test.YtmgejacndhnikaaBlkP
namespace Go.Proofs.Ytmgejacndhnikaa

/-- api.Join -/
structure Jn where
  to : Int
  fr : List Int
/-- api.Single -/
structure Sg where
  joins : List Jn
  code : List Step
  test : Int
  thn : Int
  els : Int
  last : List Int
def sgnul : Sg := ⟨[], [], -1, -1, 0, []⟩
/-- What the namer has that goes on. -/
structure NS where
  many : Nat
  done : Nat
  out : List Sg
/-- What it has that stays. -/
structure NE where
  p : List Blk
  next : List (List Int)
  frm : List (List Int)
  joins : List (List Int)
  vars : Nat
def gI (l : List Int) (i : Int) : Int := l.getD i.toNat 0
/-- Joins without what comes. -/
def mkJ (many c m : Nat) : List Jn := (List.range c).map fun k => ⟨((many + k : Nat) : Int), List.replicate m 0⟩
/-- Joins get what comes from place x: names ahead; names behind. -/
def fillJ (x : Nat) : List Int → List Jn → List Int → List Jn × List Int
  | v :: vs, j :: js, ns => (⟨j.to, j.fr.set x (gI ns v)⟩ :: (fillJ x vs js (ns.set v.toNat j.to)).1, (fillJ x vs js (ns.set v.toNat j.to)).2)
  | _, js, ns => (js, ns)
/-- A step with names. -/
def renS (ns : List Int) (n : Nat) (s : Step) : Step :=
  ⟨s.op, (n : Int), if 2 < s.op then gI ns s.a else s.a, if 2 < s.op then gI ns s.b else s.b, if s.op = 2 then gI ns s.val else s.val⟩
def renC : List Int → Nat → List Step → List Step × List Int
  | ns, _, [] => ([], ns)
  | ns, n, s :: r => (renS ns n s :: (renC (ns.set s.to.toNat (n : Int)) (n + 1) r).1, (renC (ns.set s.to.toNat (n : Int)) (n + 1) r).2)
/-- A block is named: joins as they are (filled), names behind them. -/
def nameB (b : Blk) (o : Sg) (js : List Jn) (ns : List Int) (many : Nat) : Sg :=
  ⟨js, o.code ++ (renC ns many b.code).1, if 0 ≤ o.test then gI (renC ns many b.code).2 b.test else o.test, o.thn, o.els, (renC ns many b.code).2⟩
def joinsAt (E : NE) (i : Nat) : List Int := E.joins.getD i []
def fromAt (E : NE) (i : Nat) : List Int := E.frm.getD i []
def firstIn (E : NE) (i : Nat) (st : NS) : List Jn :=
  if st.done.testBit i then (st.out.getD i sgnul).joins else (st.out.getD i sgnul).joins ++ mkJ st.many (joinsAt E i).length (fromAt E i).length
def manyIn (E : NE) (i : Nat) (st : NS) : Nat := if st.done.testBit i then st.many else st.many + (joinsAt E i).length
def filled (E : NE) (last : Int) (i : Nat) (ns : List Int) (st : NS) : List Jn × List Int := fillJ ((fromAt E i).idxOf last) (joinsAt E i) (firstIn E i st) ns
/-- One comes again: only what comes. -/
def againN (E : NE) (last : Int) (i : Nat) (ns : List Int) (st : NS) : NS :=
  ⟨st.many, st.done ||| 2 ^ i, st.out.set i { st.out.getD i sgnul with joins := (filled E last i ns st).1 }⟩
/-- One comes for the first time: ahead of those behind it. -/
def firstN (E : NE) (last : Int) (i : Nat) (ns : List Int) (st : NS) : NS :=
  ⟨manyIn E i st + (E.p.getD i bnul).code.length, st.done ||| 2 ^ i, st.out.set i (nameB (E.p.getD i bnul) (st.out.getD i sgnul) (filled E last i ns st).1 (filled E last i ns st).2 (manyIn E i st))⟩
def lastN (i : Nat) (st : NS) : List Int := (st.out.getD i sgnul).last
mutual
def walkN (E : NE) : Nat → Int → Nat → List Int → NS → NS
  | 0, _, _, _, st => st
  | n + 1, last, i, ns, st =>
    if st.done.testBit i then againN E last i ns st
    else walksN E n i (lastN i (firstN E last i ns st)) (E.next.getD i []) (firstN E last i ns st)
  termination_by n => (n, 0)
def walksN (E : NE) : Nat → Nat → List Int → List Int → NS → NS
  | _, _, _, [], st => st
  | n, i, ns, j :: js, st => walksN E n i ns js (walkN E n i j.toNat ns st)
  termination_by n _ _ js => (n, js.length + 1)
end
end Go.Proofs.Ytmgejacndhnikaa
namespace Go.Proofs.Ytmgejacndhnikaa

theorem getI_set {l : List Int} {i : Nat} {x : Int} (h : i < l.length) (j : Nat) : (l.set i x).getD j 0 = if i = j then x else l.getD j 0 := by
  rw [List.getD_eq_getElem?_getD, List.getD_eq_getElem?_getD, List.getElem?_set]
  by_cases e : i = j
  · subst e; rw [if_pos rfl, if_pos rfl, if_pos h]; rfl
  · rw [if_neg e, if_neg e]
theorem getI_out {l : List Int} {i : Nat} {x : Int} (h : ¬ i < l.length) : l.set i x = l := List.set_eq_of_length_le (by omega)
/-- Each name belongs to its variable. -/
def Ow (own : Int → Nat) (vars : Nat) (ns : List Int) : Prop := ∀ v, v < vars → own (ns.getD v 0) = v ∧ 0 ≤ ns.getD v 0
/-- What a name has is what its variable has. -/
def Sm (vars : Nat) (V ns hv : List Int) : Prop := ∀ v, v < vars → V.getD (ns.getD v 0).toNat 0 = hv.getD v 0
theorem renC_nil (ns : List Int) (m : Nat) : renC ns m [] = ([], ns) := by rw [renC]
theorem renC_cons (ns : List Int) (m : Nat) (s : Step) (r : List Step) : renC ns m (s :: r) = (renS ns m s :: (renC (ns.set s.to.toNat (m : Int)) (m + 1) r).1, (renC (ns.set s.to.toNat (m : Int)) (m + 1) r).2) := by
  conv => lhs; rw [renC]
theorem renC_len : ∀ (c : List Step) (ns : List Int) (m : Nat), (renC ns m c).1.length = c.length ∧ (renC ns m c).2.length = ns.length
  | [], ns, m => by rw [renC_nil]; exact ⟨rfl, rfl⟩
  | s :: r, ns, m => by
    rw [renC_cons]
    have := renC_len r (ns.set s.to.toNat (m : Int)) (m + 1)
    exact ⟨by rw [List.length_cons, this.1, List.length_cons], by rw [this.2, List.length_set]⟩
/-- A variable's name behind steps: as it was, or of the last step that sets it. -/
theorem renC_at {vars : Nat} : ∀ (c : List Step) (ns : List Int) (m : Nat), ns.length = vars → (∀ s ∈ c, 0 ≤ s.to ∧ s.to < vars) → ∀ v, v < vars →
    ((renC ns m c).2.getD v 0 = ns.getD v 0 ∧ ∀ s ∈ c, s.to ≠ (v : Int)) ∨ ∃ k s, c[k]? = some s ∧ s.to = (v : Int) ∧ (renC ns m c).2.getD v 0 = ((m + k : Nat) : Int)
  | [], ns, m, _, _, v, _ => .inl ⟨by rw [renC_nil], fun s h => absurd h List.not_mem_nil⟩
  | s :: r, ns, m, hl, hs, v, hv => by
    rw [renC_cons]
    have h0 := hs s (by simp)
    rcases renC_at r (ns.set s.to.toNat (m : Int)) (m + 1) (by rw [List.length_set]; exact hl) (fun t ht => hs t (by simp [ht])) v hv with ⟨h1, h2⟩ | ⟨k, t, h1, h2, h3⟩
    · by_cases e : s.to.toNat = v
      · refine .inr ⟨0, s, rfl, by omega, ?_⟩
        show (renC (ns.set s.to.toNat (m : Int)) (m + 1) r).2.getD v 0 = _
        rw [h1, getI_set (by omega), if_pos e]
        rfl
      · refine .inl ⟨?_, fun t ht => ?_⟩
        · show (renC (ns.set s.to.toNat (m : Int)) (m + 1) r).2.getD v 0 = _
          rw [h1, getI_set (by omega), if_neg e]
        · rcases List.mem_cons.1 ht with rfl | ht
          · intro e2; omega
          · exact h2 t ht
    · refine .inr ⟨k + 1, t, by rw [List.getElem?_cons_succ]; exact h1, h2, ?_⟩
      show (renC (ns.set s.to.toNat (m : Int)) (m + 1) r).2.getD v 0 = _
      rw [h3]
      congr 1
      omega
/-- The k-th step, with the names behind those ahead of it. -/
theorem renC_get : ∀ (c : List Step) (ns : List Int) (m k : Nat) (s : Step), c[k]? = some s → (renC ns m c).1[k]? = some (renS (renC ns m (c.take k)).2 (m + k) s)
  | [], _, _, k, s, h => by simp at h
  | t :: r, ns, m, 0, s, h => by
    have e : t = s := by simpa using h
    subst e
    rw [renC_cons, List.take_zero, renC_nil]; rfl
  | t :: r, ns, m, k + 1, s, h => by
    rw [renC_cons, List.getElem?_cons_succ, List.take_succ_cons, renC_cons]
    rw [renC_get r _ (m + 1) k s (by simpa using h)]
    rw [show m + 1 + k = m + (k + 1) by omega]
theorem dg1_eq (V : List Int) (s : Step) : dg1 V s = V.set s.to.toNat (if s.op = 1 then s.val else if s.op = 2 then V.getD s.val.toNat 0 else doF s.op (V.getD s.a.toNat 0) (V.getD s.b.toNat 0)) := rfl
theorem renC_sim {own : Int → Nat} {vars : Nat} : ∀ (c : List Step) (ns : List Int) (m : Nat) (V hv : List Int), ns.length = vars → hv.length = vars → (∀ s ∈ c, SOk vars s) → Ow own vars ns → (∀ k s, c[k]? = some s → own ((m + k : Nat) : Int) = s.to.toNat) → m + c.length ≤ V.length → Sm vars V ns hv →
    Sm vars (dgR V (renC ns m c).1) (renC ns m c).2 (dgR hv c) ∧ Ow own vars (renC ns m c).2
  | [], ns, m, V, hv, _, _, _, ho, _, _, h => by rw [renC_nil]; exact ⟨h, ho⟩
  | s :: r, ns, m, V, hv, hl, hh, hs, ho, hm, hV, h => by
    rw [renC_cons]
    obtain ⟨o1, o6, on, ov, ⟨t0, t1⟩, oab⟩ := hs s (by simp)
    have hown : own ((m : Nat) : Int) = s.to.toNat := hm 0 s rfl
    rw [List.length_cons] at hV
    have hval : ∀ x : Int, 0 ≤ x → x < vars → V.getD (gI ns x).toNat 0 = hv.getD x.toNat 0 := fun x h0 h1 => h x.toNat (by omega)
    have ho1 : Ow own vars (ns.set s.to.toNat (m : Int)) := fun v hv' => by
      rw [getI_set (by omega)]
      by_cases e : s.to.toNat = v
      · rw [if_pos e]; exact ⟨hown.trans e, Int.natCast_nonneg _⟩
      · rw [if_neg e]; exact ho v hv'
    obtain ⟨X, hX⟩ : ∃ X, X = (if s.op = 1 then s.val else if s.op = 2 then hv.getD s.val.toNat 0 else doF s.op (hv.getD s.a.toNat 0) (hv.getD s.b.toNat 0)) := ⟨_, rfl⟩
    have e1 : dg1 V (renS ns m s) = V.set m X := by
      rw [dg1_eq, hX]
      unfold renS
      dsimp only
      rw [Int.toNat_natCast]
      congr 1
      by_cases h1 : s.op = 1
      · rw [if_pos h1, if_pos h1, if_neg (by omega)]
      · rw [if_neg h1, if_neg h1]
        by_cases h2 : s.op = 2
        · have := ov h2
          rw [if_pos h2, if_pos h2, if_pos h2, hval _ this.1 this.2]
        · have := oab (by omega)
          rw [if_neg h2, if_neg h2, if_pos (by omega), if_pos (by omega), hval _ this.1.1 this.1.2, hval _ this.2.1 this.2.2]
    have e2 : dg1 hv s = hv.set s.to.toNat X := by rw [dg1_eq, hX]
    have h1 : Sm vars (V.set m X) (ns.set s.to.toNat (m : Int)) (hv.set s.to.toNat X) := fun v hv' => by
      rw [getI_set (l := ns) (by omega), getI_set (l := hv) (by omega)]
      by_cases e : s.to.toNat = v
      · rw [if_pos e, if_pos e, Int.toNat_natCast, getI_set (by omega), if_pos rfl]
      · rw [if_neg e, if_neg e, getI_set (by omega)]
        have hne : ¬ m = (ns.getD v 0).toNat := fun e2 => by
          obtain ⟨a, b⟩ := ho v hv'
          rw [show ns.getD v 0 = ((m : Nat) : Int) by omega, hown] at a
          exact e a
        rw [if_neg hne]
        exact h v hv'
    have := renC_sim r (ns.set s.to.toNat (m : Int)) (m + 1) (V.set m X) (hv.set s.to.toNat X) (by rw [List.length_set]; exact hl) (by rw [List.length_set]; exact hh) (fun t ht => hs t (by simp [ht])) ho1 (fun k t hk => by
      have := hm (k + 1) t (by rw [List.getElem?_cons_succ]; exact hk)
      rw [show m + 1 + k = m + (k + 1) by omega]; exact this) (by rw [List.length_set]; omega) h1
    show Sm vars (dgR (dg1 V (renS ns m s)) (renC (ns.set s.to.toNat (m : Int)) (m + 1) r).1) (renC (ns.set s.to.toNat (m : Int)) (m + 1) r).2 (dgR (dg1 hv s) r) ∧ _
    rw [e1, e2]
    exact this
/-- Joins in one go: each gets what its variable had. -/
theorem fillJ_1 {x : Nat} : ∀ (vs : List Int) (js : List Jn) (ns : List Int), vs.length = js.length → (∀ v ∈ vs, 0 ≤ v) → vs.Nodup → (fillJ x vs js ns).1.length = js.length ∧ ∀ (k : Nat) (v : Int) (j : Jn), vs[k]? = some v → js[k]? = some j → (fillJ x vs js ns).1[k]? = some ⟨j.to, j.fr.set x (gI ns v)⟩
  | [], [], ns, _, _, _ => by rw [fillJ] <;> simp
  | [], _ :: _, _, h, _, _ => by simp at h
  | _ :: _, [], _, h, _, _ => by simp at h
  | v :: vs, j :: js, ns, h, h0, hd => by
    rw [fillJ]
    have hd' := List.nodup_cons.1 hd
    obtain ⟨h1, h2⟩ := fillJ_1 (x := x) vs js (ns.set v.toNat j.to) (by simpa using h) (fun u hu => h0 u (by simp [hu])) hd'.2
    refine ⟨by rw [List.length_cons, h1, List.length_cons], fun k u i hu hi => ?_⟩
    match k, hu, hi with
    | 0, hu, hi =>
      simp at hu hi
      subst hu hi
      rfl
    | k + 1, hu, hi =>
      rw [List.getElem?_cons_succ] at hu hi ⊢
      rw [h2 k u i hu hi]
      have hm : u ∈ vs := List.mem_of_getElem? hu
      have hne : v.toNat ≠ u.toNat := fun e => by
        have := h0 v (by simp)
        have := h0 u (by simp [hm])
        exact hd'.1 (by rw [show v = u by omega]; exact hm)
      have : gI (ns.set v.toNat j.to) u = gI ns u := by
        unfold gI
        by_cases hl : v.toNat < ns.length
        · rw [getI_set hl, if_neg hne]
        · rw [getI_out hl]
      rw [this]
theorem fillJ_2 {x : Nat} : ∀ (vs : List Int) (js : List Jn) (ns : List Int), vs.length = js.length → (∀ v ∈ vs, 0 ≤ v ∧ v < ns.length) → vs.Nodup → (fillJ x vs js ns).2.length = ns.length ∧ (∀ (k : Nat) (v : Int) (j : Jn), vs[k]? = some v → js[k]? = some j → (fillJ x vs js ns).2.getD v.toNat 0 = j.to) ∧ ∀ u : Nat, ((u : Nat) : Int) ∉ vs → (fillJ x vs js ns).2.getD u 0 = ns.getD u 0
  | [], [], ns, _, _, _ => by rw [fillJ] <;> simp
  | [], _ :: _, _, h, _, _ => by simp at h
  | _ :: _, [], _, h, _, _ => by simp at h
  | v :: vs, j :: js, ns, h, h0, hd => by
    rw [fillJ]
    have hd' := List.nodup_cons.1 hd
    obtain ⟨h1, h2, h3⟩ := fillJ_2 (x := x) vs js (ns.set v.toNat j.to) (by simpa using h) (fun u hu => by rw [List.length_set]; exact h0 u (by simp [hu])) hd'.2
    have hv := h0 v (by simp)
    refine ⟨by rw [h1, List.length_set], fun k u i hu hi => ?_, fun u hu => ?_⟩
    · match k, hu, hi with
      | 0, hu, hi =>
        simp at hu hi
        subst hu hi
        rw [h3 v.toNat (by rw [show ((v.toNat : Nat) : Int) = v by omega]; exact hd'.1), getI_set (by omega), if_pos rfl]
      | k + 1, hu, hi =>
        rw [List.getElem?_cons_succ] at hu hi
        exact h2 k u i hu hi
    · simp only [List.mem_cons, not_or] at hu
      rw [h3 u hu.2, getI_set (by omega), if_neg (fun e => hu.1 (by omega))]
end Go.Proofs.Ytmgejacndhnikaa
namespace Go.Proofs.Ytmgejacndhnikaa

/-- A block sets a variable; the beginning sets each. -/
def Df (E : NE) (v d : Nat) : Prop := d = 0 ∨ (∃ s ∈ (E.p.getD d bnul).code, s.to = (v : Int)) ∨ (v : Int) ∈ joinsAt E d
def Ed (E : NE) (i j : Nat) : Prop := (j : Int) ∈ E.next.getD i []
/-- What is known of the graph: reached, rules, where Joins are. -/
structure Gr (E : NE) (R : Nat → Prop) (D : Nat → Nat → Prop) : Prop where
  ok : POk E.vars E.p
  nx : E.next = nexts E.p
  frm : ∀ l i : Nat, l < E.p.length → i < E.p.length → ((l : Int) ∈ fromAt E i ↔ Ed E l i)
  frm0 : (-1 : Int) ∈ fromAt E 0
  js : ∀ i, (joinsAt E i).Nodup ∧ ∀ v ∈ joinsAt E i, 0 ≤ v ∧ v < E.vars
  nn : ∀ i, ∀ x ∈ E.next.getD i [], 0 ≤ x
  r0 : R 0
  rmin : ∀ P : Nat → Prop, P 0 → (∀ i j, P i → Ed E i j → P j) → ∀ i, R i → P i
  rs : ∀ i j, R i → Ed E i j → R j
  rlt : ∀ i, R i → i < E.p.length
  refl : ∀ i, R i → D i i
  zero : ∀ i, R i → D 0 i
  back : ∀ a i j, R i → Ed E i j → D a j → a = j ∨ D a i
  zo : ∀ a, D a 0 → a = 0
  anti : ∀ a b, D a b → D b a → a = b
  jc : ∀ v d i j, v < E.vars → R i → D d i → Ed E i j → (j = d ∨ ¬ D d j) → Df E v d → (v : Int) ∈ joinsAt E j
def firstL (E : NE) : List Int := (List.range E.vars).map fun v : Nat => (v : Int)
def codeAt (E : NE) (i : Nat) : List Step := (E.p.getD i bnul).code
def rawSg (E : NE) (i : Nat) : Sg := ⟨[], [], if 0 ≤ (E.p.getD i bnul).test then (E.p.getD i bnul).test else -1, (E.p.getD i bnul).thn, (E.p.getD i bnul).els, firstL E⟩
def lenN (E : NE) (i : Nat) : Nat := (joinsAt E i).length + (codeAt E i).length
def nm (st : NS) (i v : Nat) : Int := (lastN i st).getD v 0
/-- A block that is named: its names begin at b, and come in with n. -/
structure Nd (E : NE) (st : NS) (i b : Nat) (n : List Int) : Prop where
  code : (st.out.getD i sgnul).code = (renC n (b + (joinsAt E i).length) (codeAt E i)).1
  last : (st.out.getD i sgnul).last = (renC n (b + (joinsAt E i).length) (codeAt E i)).2
  test : (st.out.getD i sgnul).test = if 0 ≤ (E.p.getD i bnul).test then gI (renC n (b + (joinsAt E i).length) (codeAt E i)).2 (E.p.getD i bnul).test else -1
  thn : (st.out.getD i sgnul).thn = (E.p.getD i bnul).thn
  els : (st.out.getD i sgnul).els = (E.p.getD i bnul).els
  jl : (st.out.getD i sgnul).joins.length = (joinsAt E i).length
  jt : ∀ (k : Nat) (j : Jn), (st.out.getD i sgnul).joins[k]? = some j → j.to = ((b + k : Nat) : Int) ∧ j.fr.length = (fromAt E i).length
  nl : n.length = E.vars
  nj : ∀ (k : Nat) (v : Int), (joinsAt E i)[k]? = some v → n.getD v.toNat 0 = ((b + k : Nat) : Int)
  lo : E.vars ≤ b
  hi : b + lenN E i ≤ st.many
def sumN (E : NE) (d : Nat) : Nat := ((List.range E.p.length).map fun i => if d.testBit i = true then lenN E i else 0).sum
structure Inv (E : NE) (R : Nat → Prop) (D : Nat → Nat → Prop) (st : NS) (base : Nat → Nat) (nin : Nat → List Int) (own : Int → Nat) : Prop where
  len : st.out.length = E.p.length
  dlt : ∀ i, st.done.testBit i = true → R i
  many : E.vars ≤ st.many
  tot : st.many = E.vars + sumN E st.done
  raw : ∀ i, i < E.p.length → st.done.testBit i = false → st.out.getD i sgnul = rawSg E i
  nd : ∀ i, st.done.testBit i = true → Nd E st i (base i) (nin i)
  own0 : ∀ v : Nat, v < E.vars → own (v : Int) = v
  ow : ∀ i, st.done.testBit i = true → Ow own E.vars (nin i) ∧ Ow own E.vars (lastN i st) ∧ (∀ (k : Nat) (v : Int), (joinsAt E i)[k]? = some v → own ((base i + k : Nat) : Int) = v.toNat) ∧ ∀ (k : Nat) (s : Step), (codeAt E i)[k]? = some s → own ((base i + (joinsAt E i).length + k : Nat) : Int) = s.to.toNat
  bd : ∀ i, st.done.testBit i = true → ∀ v, v < E.vars → (nin i).getD v 0 < st.many ∧ nm st i v < st.many
  ap : ∀ i j, st.done.testBit i = true → st.done.testBit j = true → i ≠ j → base i + lenN E i ≤ base j ∨ base j + lenN E j ≤ base i
  mx : ∀ i, st.done.testBit i = true → ∀ v, v < E.vars → ∃ d, st.done.testBit d = true ∧ Df E v d ∧ D d i ∧ (∀ d', Df E v d' → D d' i → D d' d) ∧ nm st i v = nm st d v ∧ ((∃ k, k < lenN E d ∧ nm st d v = ((base d + k : Nat) : Int)) ∨ (d = 0 ∧ nm st d v = (v : Int)))
  pr : ∀ i, st.done.testBit i = true → (i = 0 ∧ ∀ v, v < E.vars → ((v : Nat) : Int) ∉ joinsAt E i → (nin i).getD v 0 = (v : Int)) ∨ ∃ r, st.done.testBit r = true ∧ Ed E r i ∧ ∀ v, v < E.vars → ((v : Nat) : Int) ∉ joinsAt E i → (nin i).getD v 0 = nm st r v
def srcOf (E : NE) (st : NS) (l : Int) : List Int := if l < 0 then firstL E else lastN l.toNat st
/-- One has gone from l to i. -/
structure Walked (E : NE) (st : NS) (l : Int) (i : Nat) : Prop where
  dn : st.done.testBit i = true
  mem : l ∈ fromAt E i
  fill : ∀ (k : Nat) (v : Int) (j : Jn), (joinsAt E i)[k]? = some v → (st.out.getD i sgnul).joins[k]? = some j → j.fr.getD ((fromAt E i).idxOf l) 0 = gI (srcOf E st l) v
/-- What stays as one goes on. -/
structure Ext (E : NE) (st st' : NS) (base base' : Nat → Nat) (nin nin' : Nat → List Int) : Prop where
  done : ∀ i, st.done.testBit i = true → st'.done.testBit i = true
  base : ∀ i, st.done.testBit i = true → base' i = base i
  nin : ∀ i, st.done.testBit i = true → nin' i = nin i
  last : ∀ i, st.done.testBit i = true → lastN i st' = lastN i st
  walked : ∀ l i, (l = -1 ∨ st.done.testBit l.toNat = true) → Walked E st l i → Walked E st' l i
theorem Ext.refl (E : NE) (st : NS) (base : Nat → Nat) (nin : Nat → List Int) : Ext E st st base base nin nin := ⟨fun _ h => h, fun _ _ => rfl, fun _ _ => rfl, fun _ _ => rfl, fun _ _ _ h => h⟩
theorem Ext.trans {E : NE} {s1 s2 s3 : NS} {b1 b2 b3 : Nat → Nat} {n1 n2 n3 : Nat → List Int} (h : Ext E s1 s2 b1 b2 n1 n2) (g : Ext E s2 s3 b2 b3 n2 n3) : Ext E s1 s3 b1 b3 n1 n3 :=
  ⟨fun i hi => g.done i (h.done i hi), fun i hi => (g.base i (h.done i hi)).trans (h.base i hi), fun i hi => (g.nin i (h.done i hi)).trans (h.nin i hi), fun i hi => (g.last i (h.done i hi)).trans (h.last i hi),
    fun l i hl hw => g.walked l i (hl.imp id (fun e => h.done _ e)) (h.walked l i hl hw)⟩
theorem getS_set {l : List Sg} {i j : Nat} {x : Sg} (h : i < l.length) : (l.set i x).getD j sgnul = if i = j then x else l.getD j sgnul := by
  rw [List.getD_eq_getElem?_getD, List.getD_eq_getElem?_getD, List.getElem?_set]
  by_cases e : i = j
  · subst e; rw [if_pos rfl, if_pos rfl, if_pos h]; rfl
  · rw [if_neg e, if_neg e]
theorem bit_or {d i j : Nat} : (d ||| 2 ^ i).testBit j = (d.testBit j || decide (i = j)) := by
  rw [Nat.testBit_or, Nat.testBit_two_pow]
theorem bit_or_same {d i : Nat} (h : d.testBit i = true) : d ||| 2 ^ i = d := by
  apply Nat.eq_of_testBit_eq
  intro j
  rw [bit_or]
  by_cases e : i = j
  · subst e; rw [h]; simp
  · simp [e]
theorem idx_inj {l : List Int} {a b : Int} (ha : a ∈ l) (hb : b ∈ l) (h : l.idxOf a = l.idxOf b) : a = b := by
  have h1 := List.getElem_idxOf (List.idxOf_lt_length_of_mem ha)
  have h2 := List.getElem_idxOf (List.idxOf_lt_length_of_mem hb)
  rw [← h1, ← h2]
  congr 1
/-- One comes where one has been. -/
theorem again_ok {E : NE} {R : Nat → Prop} {D : Nat → Nat → Prop} (hG : Gr E R D) {st : NS} {base : Nat → Nat} {nin : Nat → List Int} {own : Int → Nat} (h : Inv E R D st base nin own) {i : Nat} {l : Int} (hd : st.done.testBit i = true) (hm : l ∈ fromAt E i) :
    Inv E R D (againN E l i (srcOf E st l) st) base nin own ∧ Ext E st (againN E l i (srcOf E st l) st) base base nin nin ∧ Walked E (againN E l i (srcOf E st l) st) l i := by
  have hi : i < st.out.length := by rw [h.len]; exact hG.rlt i (h.dlt i hd)
  have hN := h.nd i hd
  have hJ := hG.js i
  have hfi : firstIn E i st = (st.out.getD i sgnul).joins := by unfold firstIn; rw [if_pos hd]
  obtain ⟨f1, f2⟩ := fillJ_1 (x := (fromAt E i).idxOf l) (joinsAt E i) (st.out.getD i sgnul).joins (srcOf E st l) hN.jl.symm (fun v hv => (hJ.2 v hv).1) hJ.1
  obtain ⟨st', hst⟩ : ∃ st', st' = againN E l i (srcOf E st l) st := ⟨_, rfl⟩
  have hdn : st'.done = st.done := by rw [hst]; exact bit_or_same hd
  have hmn : st'.many = st.many := by rw [hst]; rfl
  have hout : st'.out = st.out.set i { st.out.getD i sgnul with joins := (fillJ ((fromAt E i).idxOf l) (joinsAt E i) (st.out.getD i sgnul).joins (srcOf E st l)).1 } := by rw [hst]; unfold againN filled; rw [hfi]
  have hget : ∀ j, st'.out.getD j sgnul = if i = j then { st.out.getD i sgnul with joins := (fillJ ((fromAt E i).idxOf l) (joinsAt E i) (st.out.getD i sgnul).joins (srcOf E st l)).1 } else st.out.getD j sgnul := fun j => by rw [hout]; exact getS_set hi
  have hlast : ∀ j, lastN j st' = lastN j st := fun j => by
    unfold lastN
    rw [hget]
    by_cases e : i = j
    · subst e; rw [if_pos rfl]
    · rw [if_neg e]
  have hnm : ∀ j v, nm st' j v = nm st j v := fun j v => by unfold nm; rw [hlast]
  have hsrc : ∀ l, srcOf E st' l = srcOf E st l := fun l => by unfold srcOf; rw [hlast]
  rw [← hst]
  refine ⟨⟨?_, ?_, ?_, by rw [hmn, hdn]; exact h.tot, ?_, ?_, h.own0, ?_, ?_, ?_, ?_, ?_⟩, ⟨fun j hj => by rw [hdn]; exact hj, fun _ _ => rfl, fun _ _ => rfl, fun j _ => hlast j, fun l' j hl' hw => ?_⟩, ?_⟩
  · rw [hout, List.length_set]; exact h.len
  · rw [hdn]; exact h.dlt
  · rw [hmn]; exact h.many
  · intro j hj hnd
    rw [hdn] at hnd
    rw [hget, if_neg (fun e => by subst e; rw [hd] at hnd; cases hnd)]
    exact h.raw j hj hnd
  · intro j hj
    rw [hdn] at hj
    have hNj := h.nd j hj
    by_cases e : i = j
    · subst e
      have e1 := hget i
      rw [if_pos rfl] at e1
      refine ⟨by rw [e1]; exact hNj.code, by rw [e1]; exact hNj.last, by rw [e1]; exact hNj.test, by rw [e1]; exact hNj.thn, by rw [e1]; exact hNj.els, by rw [e1]; exact f1.trans hNj.jl, fun k q hq => ?_, hNj.nl, hNj.nj, hNj.lo, by rw [hmn]; exact hNj.hi⟩
      rw [e1] at hq
      have hk : k < (st.out.getD i sgnul).joins.length := by rw [← f1]; exact (List.getElem?_eq_some_iff.1 hq).1
      have hkv : k < (joinsAt E i).length := by rw [← hN.jl]; exact hk
      have := f2 k _ _ (List.getElem?_eq_getElem hkv) (List.getElem?_eq_getElem hk)
      rw [this] at hq
      injection hq with hq
      subst hq
      have := hNj.jt k _ (List.getElem?_eq_getElem hk)
      exact ⟨this.1, by rw [List.length_set]; exact this.2⟩
    · have e1 := hget j
      rw [if_neg e] at e1
      exact ⟨by rw [e1]; exact hNj.code, by rw [e1]; exact hNj.last, by rw [e1]; exact hNj.test, by rw [e1]; exact hNj.thn, by rw [e1]; exact hNj.els, by rw [e1]; exact hNj.jl, by rw [e1]; exact hNj.jt, hNj.nl, hNj.nj, hNj.lo, by rw [hmn]; exact hNj.hi⟩
  · intro j hj
    rw [hdn] at hj
    rw [hlast]
    exact h.ow j hj
  · intro j hj v hv
    rw [hdn] at hj
    rw [hmn, hnm]
    exact h.bd j hj v hv
  · rw [hdn]; exact h.ap
  · intro j hj v hv
    rw [hdn] at hj
    obtain ⟨d, a1, a2, a3, a4, a5, a6⟩ := h.mx j hj v hv
    exact ⟨d, by rw [hdn]; exact a1, a2, a3, a4, by rw [hnm, hnm]; exact a5, by rw [hnm]; exact a6⟩
  · intro j hj
    rw [hdn] at hj
    rcases h.pr j hj with a | ⟨r, a1, a2, a3⟩
    · exact .inl a
    · exact .inr ⟨r, by rw [hdn]; exact a1, a2, fun v hv hn => by rw [hnm]; exact a3 v hv hn⟩
  · refine ⟨by rw [hdn]; exact hw.dn, hw.mem, fun k v q hv hq => ?_⟩
    rw [hsrc]
    rw [hget] at hq
    by_cases e : i = j
    · subst e
      rw [if_pos rfl] at hq
      have hkv : k < (joinsAt E i).length := (List.getElem?_eq_some_iff.1 hv).1
      have hk : k < (st.out.getD i sgnul).joins.length := by rw [hN.jl]; exact hkv
      rw [f2 k v _ hv (List.getElem?_eq_getElem hk)] at hq
      injection hq with hq
      subst hq
      have hlen := (hN.jt k _ (List.getElem?_eq_getElem hk)).2
      have hx : (fromAt E i).idxOf l < (st.out.getD i sgnul).joins[k].fr.length := by rw [hlen]; exact List.idxOf_lt_length_of_mem hm
      show ((st.out.getD i sgnul).joins[k].fr.set ((fromAt E i).idxOf l) (gI (srcOf E st l) v)).getD ((fromAt E i).idxOf l') 0 = _
      rw [getI_set hx]
      by_cases e2 : (fromAt E i).idxOf l = (fromAt E i).idxOf l'
      · rw [if_pos e2, idx_inj hm hw.mem e2]
      · rw [if_neg e2]
        exact hw.fill k v _ hv (List.getElem?_eq_getElem hk)
    · rw [if_neg e] at hq
      exact hw.fill k v q hv hq
  · refine ⟨by rw [hdn]; exact hd, hm, fun k v q hv hq => ?_⟩
    rw [hsrc]
    rw [hget, if_pos rfl] at hq
    have hkv : k < (joinsAt E i).length := (List.getElem?_eq_some_iff.1 hv).1
    have hk : k < (st.out.getD i sgnul).joins.length := by rw [hN.jl]; exact hkv
    rw [f2 k v _ hv (List.getElem?_eq_getElem hk)] at hq
    injection hq with hq
    subst hq
    have hlen := (hN.jt k _ (List.getElem?_eq_getElem hk)).2
    have hx : (fromAt E i).idxOf l < (st.out.getD i sgnul).joins[k].fr.length := by rw [hlen]; exact List.idxOf_lt_length_of_mem hm
    show ((st.out.getD i sgnul).joins[k].fr.set ((fromAt E i).idxOf l) (gI (srcOf E st l) v)).getD ((fromAt E i).idxOf l) 0 = _
    rw [getI_set hx, if_pos rfl]
end Go.Proofs.Ytmgejacndhnikaa
namespace Go.Proofs.Ytmgejacndhnikaa

theorem mkJ_len (a c m : Nat) : (mkJ a c m).length = c := by unfold mkJ; simp
theorem mkJ_get {a c m k : Nat} (h : k < c) : (mkJ a c m)[k]? = some ⟨((a + k : Nat) : Int), List.replicate m 0⟩ := by
  unfold mkJ
  rw [List.getElem?_map, List.getElem?_range h]; rfl
theorem firstL_len (E : NE) : (firstL E).length = E.vars := by unfold firstL; simp
theorem firstL_get (E : NE) {v : Nat} (h : v < E.vars) : (firstL E).getD v 0 = (v : Int) := by
  unfold firstL
  rw [List.getD_eq_getElem?_getD, List.getElem?_map, List.getElem?_range h]; rfl
/-- Where one may come from. -/
def Cm (E : NE) (st : NS) (l : Int) (i : Nat) : Prop := (l = -1 ∧ i = 0) ∨ ∃ r : Nat, l = (r : Int) ∧ st.done.testBit r = true ∧ Ed E r i ∧ i ≠ 0
def ownN (E : NE) (st : NS) (i : Nat) (own : Int → Nat) (x : Int) : Nat :=
  if x < st.many then own x else
    if (x - st.many).toNat < (joinsAt E i).length then ((joinsAt E i).getD (x - st.many).toNat 0).toNat else (((codeAt E i)[(x - st.many).toNat - (joinsAt E i).length]?).map fun s => s.to.toNat).getD 0
theorem ownN_old {E : NE} {st : NS} {i : Nat} {own : Int → Nat} {x : Int} (h : x < st.many) : ownN E st i own x = own x := by unfold ownN; rw [if_pos h]
theorem ownN_join {E : NE} {st : NS} {i : Nat} {own : Int → Nat} {k : Nat} {v : Int} (h : (joinsAt E i)[k]? = some v) : ownN E st i own ((st.many + k : Nat) : Int) = v.toNat := by
  have hk := (List.getElem?_eq_some_iff.1 h).1
  unfold ownN
  rw [if_neg (by omega), if_pos (by omega), show (((st.many + k : Nat) : Int) - (st.many : Int)).toNat = k by omega, List.getD_eq_getElem?_getD, h]
  rfl
theorem ownN_step {E : NE} {st : NS} {i : Nat} {own : Int → Nat} {k : Nat} {s : Step} (h : (codeAt E i)[k]? = some s) : ownN E st i own ((st.many + (joinsAt E i).length + k : Nat) : Int) = s.to.toNat := by
  unfold ownN
  rw [if_neg (by omega), if_neg (by omega), show (((st.many + (joinsAt E i).length + k : Nat) : Int) - (st.many : Int)).toNat - (joinsAt E i).length = k by omega, h]
  rfl
theorem mem_get {l : List Int} {v : Int} (h : v ∈ l) : ∃ k : Nat, l[k]? = some v := List.getElem?_of_mem h
theorem sum_one {f g : Nat → Nat} {i : Nat} {c : Nat} : ∀ (n : Nat), (∀ j, j ≠ i → f j = g j) → f i = g i + c → ((List.range n).map f).sum = ((List.range n).map g).sum + if i < n then c else 0
  | 0, _, _ => by simp
  | n + 1, h, hi => by
    rw [List.range_succ, List.map_append, List.map_append, List.sum_append, List.sum_append, sum_one n h hi]
    simp only [List.map_cons, List.map_nil, List.sum_cons, List.sum_nil]
    by_cases e : i = n
    · subst e
      rw [if_neg (by omega), if_pos (by omega), hi]
      omega
    · rw [h n (fun e2 => e e2.symm)]
      by_cases e2 : i < n
      · rw [if_pos e2, if_pos (by omega)]; omega
      · rw [if_neg e2, if_neg (by omega)]
        omega
theorem sum_bit {E : NE} {d i : Nat} (hi : i < E.p.length) (h : d.testBit i = false) : sumN E (d ||| 2 ^ i) = sumN E d + lenN E i := by
  unfold sumN
  rw [sum_one (f := fun j => if (d ||| 2 ^ i).testBit j = true then lenN E j else 0) (g := fun j => if d.testBit j = true then lenN E j else 0) (i := i) (c := lenN E i) E.p.length (fun j hj => by
    rw [bit_or]
    simp only [decide_eq_false (fun e : i = j => hj e.symm), Bool.or_false]) (by
    rw [bit_or, h]; simp), if_pos hi]
set_option maxHeartbeats 1000000 in
theorem first_ok {E : NE} {R : Nat → Prop} {D : Nat → Nat → Prop} (hG : Gr E R D) {st : NS} {base : Nat → Nat} {nin : Nat → List Int} {own : Int → Nat} (h : Inv E R D st base nin own) {i : Nat} {l : Int} (hd : st.done.testBit i = false) (hR : R i) (hm : l ∈ fromAt E i) (hl : Cm E st l i) :
    ∃ base' nin' own', Inv E R D (firstN E l i (srcOf E st l) st) base' nin' own' ∧ Ext E st (firstN E l i (srcOf E st l) st) base base' nin nin' ∧ Walked E (firstN E l i (srcOf E st l) st) l i ∧ ∀ j, (firstN E l i (srcOf E st l) st).done.testBit j = true ↔ st.done.testBit j = true ∨ j = i := by
  have hin := hG.rlt i hR
  have hi : i < st.out.length := by rw [h.len]; exact hin
  have hJ := hG.js i
  have hraw := h.raw i hin hd
  have hbok := hG.ok.bs _ (List.getElem_mem hin)
  have hcode : ∀ s ∈ codeAt E i, SOk E.vars s := fun s hs => hbok.code s (by unfold codeAt at hs; rwa [bget hin] at hs)
  have hfi : firstIn E i st = mkJ st.many (joinsAt E i).length (fromAt E i).length := by
    unfold firstIn; rw [if_neg (by rw [hd]; simp), hraw]; rfl
  -- the names that come
  obtain ⟨S, hS⟩ : ∃ S, S = srcOf E st l := ⟨_, rfl⟩
  have hSl : S.length = E.vars := by
    rw [hS]
    unfold srcOf
    rcases hl with ⟨rfl, _⟩ | ⟨r, rfl, hr, _⟩
    · rw [if_pos (by omega)]; exact firstL_len E
    · rw [if_neg (by omega), Int.toNat_natCast]
      have := h.nd r hr
      unfold lastN
      rw [this.last, (renC_len _ _ _).2, this.nl]
  have hSb : ∀ v, v < E.vars → S.getD v 0 < st.many ∧ own (S.getD v 0) = v ∧ 0 ≤ S.getD v 0 := fun v hv => by
    rw [hS]
    unfold srcOf
    have := h.many
    rcases hl with ⟨rfl, _⟩ | ⟨r, rfl, hr, _⟩
    · rw [if_pos (by omega), firstL_get E hv]
      exact ⟨by omega, h.own0 v hv, by omega⟩
    · rw [if_neg (by omega), Int.toNat_natCast]
      exact ⟨(h.bd r hr v hv).2, (h.ow r hr).2.1 v hv⟩
  obtain ⟨JS, hJS⟩ : ∃ J, J = (fillJ ((fromAt E i).idxOf l) (joinsAt E i) (mkJ st.many (joinsAt E i).length (fromAt E i).length) S).1 := ⟨_, rfl⟩
  obtain ⟨N, hN⟩ : ∃ N, N = (fillJ ((fromAt E i).idxOf l) (joinsAt E i) (mkJ st.many (joinsAt E i).length (fromAt E i).length) S).2 := ⟨_, rfl⟩
  obtain ⟨f1, f2⟩ := fillJ_1 (x := (fromAt E i).idxOf l) (joinsAt E i) (mkJ st.many (joinsAt E i).length (fromAt E i).length) S (mkJ_len _ _ _).symm (fun v hv => (hJ.2 v hv).1) hJ.1
  obtain ⟨g1, g2, g3⟩ := fillJ_2 (x := (fromAt E i).idxOf l) (joinsAt E i) (mkJ st.many (joinsAt E i).length (fromAt E i).length) S (mkJ_len _ _ _).symm (fun v hv => by rw [hSl]; exact hJ.2 v hv) hJ.1
  rw [← hJS] at f1 f2
  rw [← hN] at g1 g2 g3
  rw [mkJ_len] at f1
  have hNl : N.length = E.vars := g1.trans hSl
  have hNj : ∀ (k : Nat) (v : Int), (joinsAt E i)[k]? = some v → N.getD v.toNat 0 = ((st.many + k : Nat) : Int) := fun k v hv => g2 k v _ hv (mkJ_get (List.getElem?_eq_some_iff.1 hv).1)
  have hJk : ∀ (k : Nat) (v : Int), (joinsAt E i)[k]? = some v → JS[k]? = some ⟨((st.many + k : Nat) : Int), (List.replicate (fromAt E i).length 0).set ((fromAt E i).idxOf l) (gI S v)⟩ := fun k v hv => f2 k v _ hv (mkJ_get (List.getElem?_eq_some_iff.1 hv).1)
  have hNo : ∀ v, v < E.vars → ownN E st i own (N.getD v 0) = v ∧ 0 ≤ N.getD v 0 ∧ N.getD v 0 < st.many + lenN E i := fun v hv => by
    by_cases e : ((v : Nat) : Int) ∈ joinsAt E i
    · obtain ⟨k, hk⟩ := mem_get e
      have h1 := hNj k _ hk
      rw [Int.toNat_natCast] at h1
      have hkl := (List.getElem?_eq_some_iff.1 hk).1
      rw [h1, ownN_join hk]
      exact ⟨Int.toNat_natCast v, Int.natCast_nonneg _, by unfold lenN; omega⟩
    · rw [g3 v e]
      obtain ⟨a, b, c⟩ := hSb v hv
      exact ⟨(ownN_old a).trans b, c, by omega⟩
  obtain ⟨b0, hb0⟩ : ∃ b0, b0 = st.many + (joinsAt E i).length := ⟨_, rfl⟩
  obtain ⟨st', hst⟩ : ∃ st', st' = firstN E l i (srcOf E st l) st := ⟨_, rfl⟩
  have hmi : manyIn E i st = b0 := by unfold manyIn; rw [if_neg (by rw [hd]; simp), hb0]
  have hfl : filled E l i (srcOf E st l) st = (JS, N) := by unfold filled; rw [hfi, ← hS, hJS, hN]
  have hdn : st'.done = st.done ||| 2 ^ i := by rw [hst]; rfl
  have hmn : st'.many = st.many + lenN E i := by
    rw [hst]
    show manyIn E i st + (E.p.getD i bnul).code.length = _
    rw [hmi, hb0]; unfold lenN codeAt; omega
  have hsg : st'.out = st.out.set i (nameB (E.p.getD i bnul) (rawSg E i) JS N b0) := by
    rw [hst]
    show st.out.set i (nameB (E.p.getD i bnul) (st.out.getD i sgnul) (filled E l i (srcOf E st l) st).1 (filled E l i (srcOf E st l) st).2 (manyIn E i st)) = _
    rw [hmi, hfl, hraw]
  have hget : ∀ j, st'.out.getD j sgnul = if i = j then nameB (E.p.getD i bnul) (rawSg E i) JS N b0 else st.out.getD j sgnul := fun j => by rw [hsg]; exact getS_set hi
  have hbit : ∀ j, st'.done.testBit j = true ↔ st.done.testBit j = true ∨ j = i := fun j => by
    rw [hdn, bit_or, Bool.or_eq_true, decide_eq_true_eq]
    constructor
    · exact fun e => e.imp id Eq.symm
    · exact fun e => e.imp id Eq.symm
  have hne : ∀ j, st.done.testBit j = true → i ≠ j := fun j hj e => by subst e; rw [hd] at hj; cases hj
  have hlast : ∀ j, st.done.testBit j = true → lastN j st' = lastN j st := fun j hj => by unfold lastN; rw [hget, if_neg (hne j hj)]
  have hlasti : lastN i st' = (renC N b0 (codeAt E i)).2 := by unfold lastN; rw [hget, if_pos rfl]; rfl
  have hnm : ∀ j v, st.done.testBit j = true → nm st' j v = nm st j v := fun j v hj => by unfold nm; rw [hlast j hj]
  have hsrc : ∀ l', (l' = -1 ∨ st.done.testBit l'.toNat = true) → srcOf E st' l' = srcOf E st l' := fun l' hl' => by
    unfold srcOf
    by_cases e : l' < 0
    · rw [if_pos e, if_pos e]
    · rw [if_neg e, if_neg e]
      rcases hl' with rfl | hl'
      · exact absurd (by decide) e
      · exact hlast _ hl'
  have hmany := h.many
  have hat := fun v hv => renC_at (vars := E.vars) (codeAt E i) N b0 hNl (fun s hs => ⟨(hcode s hs).2.2.2.2.1.1, (hcode s hs).2.2.2.2.1.2⟩) v hv
  have hnmi : ∀ v, v < E.vars → (nm st' i v = N.getD v 0 ∧ ∀ s ∈ codeAt E i, s.to ≠ (v : Int)) ∨ ∃ k s, (codeAt E i)[k]? = some s ∧ s.to = (v : Int) ∧ nm st' i v = ((b0 + k : Nat) : Int) := fun v hv => by
    unfold nm
    rw [hlasti]
    exact hat v hv
  rw [← hst]
  refine ⟨fun j => if j = i then st.many else base j, fun j => if j = i then N else nin j, ownN E st i own, ⟨?_, ?_, ?_, by rw [hmn, hdn, sum_bit hin hd, h.tot]; omega, ?_, ?_, ?_, ?_, ?_, ?_, ?_, ?_⟩, ⟨?_, ?_, ?_, hlast, ?_⟩, ?_, hbit⟩
  · rw [hsg, List.length_set]; exact h.len
  · intro j hj
    rcases (hbit j).1 hj with e | rfl
    · exact h.dlt j e
    · exact hR
  · rw [hmn]; omega
  · intro j hj hnd
    have hj1 : ¬ (st.done.testBit j = true ∨ j = i) := fun e => by rw [(hbit j).2 e] at hnd; cases hnd
    rw [hget, if_neg (fun e => hj1 (.inr e.symm))]
    exact h.raw j hj (by
      match e : st.done.testBit j with
      | false => rfl
      | true => exact absurd (.inl e) hj1)
  · intro j hj
    by_cases e : j = i
    · subst e
      have e1 := hget j
      rw [if_pos rfl] at e1
      rw [if_pos rfl, if_pos rfl]
      refine ⟨by rw [e1, ← hb0]; rfl, by rw [e1, ← hb0]; rfl, ?_, by rw [e1]; rfl, by rw [e1]; rfl, by rw [e1]; exact f1, fun k q hq => ?_, hNl, hNj, h.many, by rw [hmn]; omega⟩
      · rw [e1, ← hb0]
        show (if 0 ≤ (rawSg E j).test then gI (renC N b0 (E.p.getD j bnul).code).2 (E.p.getD j bnul).test else (rawSg E j).test) = _
        unfold rawSg
        dsimp only
        by_cases ht : 0 ≤ (E.p.getD j bnul).test
        · rw [if_pos ht, if_pos ht, if_pos ht]; rfl
        · rw [if_neg ht, if_neg (by decide), if_neg ht]
      · rw [e1] at hq
        have hk : k < (joinsAt E j).length := by rw [← f1]; exact (List.getElem?_eq_some_iff.1 hq).1
        have := hJk k _ (List.getElem?_eq_getElem hk)
        have hq : JS[k]? = some q := hq
        rw [this] at hq
        injection hq with hq
        subst hq
        exact ⟨rfl, by rw [List.length_set, List.length_replicate]⟩
    · have hj' : st.done.testBit j = true := ((hbit j).1 hj).resolve_right e
      rw [if_neg e, if_neg e]
      have e1 := hget j
      rw [if_neg (fun e2 => e e2.symm)] at e1
      have hNj := h.nd j hj'
      exact ⟨by rw [e1]; exact hNj.code, by rw [e1]; exact hNj.last, by rw [e1]; exact hNj.test, by rw [e1]; exact hNj.thn, by rw [e1]; exact hNj.els, by rw [e1]; exact hNj.jl, by rw [e1]; exact hNj.jt, hNj.nl, hNj.nj, hNj.lo, by rw [hmn]; have := hNj.hi; omega⟩
  · intro v hv
    rw [ownN_old (by omega)]
    exact h.own0 v hv
  · intro j hj
    by_cases e : j = i
    · subst e
      rw [if_pos rfl, if_pos rfl]
      refine ⟨fun v hv => ⟨(hNo v hv).1, (hNo v hv).2.1⟩, fun v hv => ?_, fun k v hk => ownN_join hk, fun k s hk => ownN_step hk⟩
      rcases hnmi v hv with ⟨a, _⟩ | ⟨k, s, a, b, c⟩
      · show ownN E st j own (nm st' j v) = v ∧ 0 ≤ nm st' j v
        rw [a]; exact ⟨(hNo v hv).1, (hNo v hv).2.1⟩
      · show ownN E st j own (nm st' j v) = v ∧ 0 ≤ nm st' j v
        rw [c, hb0, ownN_step a, b]
        exact ⟨Int.toNat_natCast v, Int.natCast_nonneg _⟩
    · have hj' : st.done.testBit j = true := ((hbit j).1 hj).resolve_right e
      rw [if_neg e, if_neg e, hlast j hj']
      obtain ⟨a, b, c, d⟩ := h.ow j hj'
      have hNj := (h.nd j hj').hi
      unfold lenN at hNj
      refine ⟨fun v hv => ?_, fun v hv => ?_, fun k v hk => ?_, fun k s hk => ?_⟩
      · rw [ownN_old (h.bd j hj' v hv).1]; exact a v hv
      · show ownN E st i own (nm st j v) = v ∧ 0 ≤ nm st j v
        rw [ownN_old (h.bd j hj' v hv).2]; exact b v hv
      · have := (List.getElem?_eq_some_iff.1 hk).1
        rw [ownN_old (by omega)]; exact c k v hk
      · have := (List.getElem?_eq_some_iff.1 hk).1
        rw [ownN_old (by omega)]; exact d k s hk
  · intro j hj v hv
    rw [hmn]
    by_cases e : j = i
    · subst e
      rw [if_pos rfl]
      refine ⟨by have := (hNo v hv).2.2; omega, ?_⟩
      rcases hnmi v hv with ⟨a, _⟩ | ⟨k, s, a, _, c⟩
      · rw [a]; have := (hNo v hv).2.2; omega
      · rw [c, hb0]
        have := (List.getElem?_eq_some_iff.1 a).1
        unfold lenN
        omega
    · have hj' : st.done.testBit j = true := ((hbit j).1 hj).resolve_right e
      rw [if_neg e, hnm j v hj']
      have := h.bd j hj' v hv
      omega
  · intro j k hj hk hjk
    by_cases e : j = i
    · subst e
      have hk' : st.done.testBit k = true := ((hbit k).1 hk).resolve_right (fun e => hjk e.symm)
      rw [if_pos rfl, if_neg (fun e => hjk e.symm)]
      exact .inr (h.nd k hk').hi
    · have hj' : st.done.testBit j = true := ((hbit j).1 hj).resolve_right e
      by_cases e2 : k = i
      · subst e2
        rw [if_neg e, if_pos rfl]
        exact .inl (h.nd j hj').hi
      · have hk' : st.done.testBit k = true := ((hbit k).1 hk).resolve_right e2
        rw [if_neg e, if_neg e2]
        exact h.ap j k hj' hk' hjk
  · intro j hj v hv
    by_cases e : j = i
    · subst e
      by_cases hdf : Df E v j
      · refine ⟨j, hj, hdf, hG.refl j hR, fun d' _ h' => h', rfl, ?_⟩
        rw [if_pos rfl]
        rcases hnmi v hv with ⟨a, b⟩ | ⟨k, s, a, b, c⟩
        · by_cases hvj : ((v : Nat) : Int) ∈ joinsAt E j
          · obtain ⟨k, hk⟩ := mem_get hvj
            have h1 := hNj k _ hk
            rw [Int.toNat_natCast] at h1
            have hkl := (List.getElem?_eq_some_iff.1 hk).1
            exact .inl ⟨k, by unfold lenN; omega, a.trans h1⟩
          · rcases hdf with h0 | ⟨s, hs, e⟩ | hh
            · rcases hl with ⟨rfl, _⟩ | ⟨r, _, _, _, hn0⟩
              · refine .inr ⟨h0, ?_⟩
                rw [a, g3 v hvj, hS]
                unfold srcOf
                rw [if_pos (by omega), firstL_get E hv]
              · exact absurd h0 hn0
            · exact absurd e (b s hs)
            · exact absurd hh hvj
        · have := (List.getElem?_eq_some_iff.1 a).1
          exact .inl ⟨(joinsAt E j).length + k, by unfold lenN; omega, by rw [c, hb0]; congr 1; omega⟩
      · rcases hl with ⟨_, rfl⟩ | ⟨r, rfl, hr, her, hn0⟩
        · exact absurd (.inl rfl) hdf
        · have hvj : ((v : Nat) : Int) ∉ joinsAt E j := fun e => hdf (.inr (.inr e))
          have hni : nm st' j v = nm st r v := by
            rcases hnmi v hv with ⟨a, _⟩ | ⟨k, s, a, b, _⟩
            · rw [a, g3 v hvj, hS]
              unfold srcOf nm
              rw [if_neg (by omega), Int.toNat_natCast]
            · exact absurd (.inr (.inl ⟨s, List.mem_of_getElem? a, b⟩)) hdf
          obtain ⟨d, a1, a2, a3, a4, a5, a6⟩ := h.mx r hr v hv
          have hRr := h.dlt r hr
          have hdj : ¬ (j = d ∨ ¬ D d j) := fun e => hvj (hG.jc v d r j hv hRr a3 her e a2)
          have hDdj : D d j := Classical.not_not.1 (fun e => hdj (.inr e))
          have hdi : d ≠ j := fun e => hdj (.inl e.symm)
          refine ⟨d, (hbit d).2 (.inl a1), a2, hDdj, fun d' h1 h2 => ?_, by rw [hni, hnm d v a1]; exact a5, ?_⟩
          · rcases hG.back d' r j hRr her h2 with rfl | h3
            · exact absurd h1 hdf
            · exact a4 d' h1 h3
          · rw [if_neg hdi, hnm d v a1]; exact a6
    · have hj' : st.done.testBit j = true := ((hbit j).1 hj).resolve_right e
      obtain ⟨d, a1, a2, a3, a4, a5, a6⟩ := h.mx j hj' v hv
      have hdi : d ≠ i := fun e => hne d a1 e.symm
      exact ⟨d, (hbit d).2 (.inl a1), a2, a3, a4, by rw [hnm j v hj', hnm d v a1]; exact a5, by rw [if_neg hdi, hnm d v a1]; exact a6⟩
  · intro j hj
    by_cases e : j = i
    · subst e
      rw [if_pos rfl]
      rcases hl with ⟨rfl, h0⟩ | ⟨r, rfl, hr, her, hn0⟩
      · refine .inl ⟨h0, fun v hv hvj => ?_⟩
        rw [g3 v hvj, hS]
        unfold srcOf
        rw [if_pos (by omega), firstL_get E hv]
      · refine .inr ⟨r, (hbit r).2 (.inl hr), her, fun v hv hvj => ?_⟩
        rw [hnm r v hr, g3 v hvj, hS]
        unfold srcOf nm
        rw [if_neg (by omega), Int.toNat_natCast]
    · have hj' : st.done.testBit j = true := ((hbit j).1 hj).resolve_right e
      rw [if_neg e]
      rcases h.pr j hj' with a | ⟨r, a1, a2, a3⟩
      · exact .inl a
      · exact .inr ⟨r, (hbit r).2 (.inl a1), a2, fun v hv hn => by rw [hnm r v a1]; exact a3 v hv hn⟩
  · exact fun j hj => (hbit j).2 (.inl hj)
  · exact fun j hj => if_neg (fun e => hne j hj e.symm)
  · exact fun j hj => if_neg (fun e => hne j hj e.symm)
  · intro l' j hl' hw
    refine ⟨(hbit j).2 (.inl hw.dn), hw.mem, fun k v q hv hq => ?_⟩
    rw [hsrc l' hl']
    rw [hget, if_neg (hne j hw.dn)] at hq
    exact hw.fill k v q hv hq
  · refine ⟨(hbit i).2 (.inr rfl), hm, fun k v q hv hq => ?_⟩
    have hl' : l = -1 ∨ st.done.testBit l.toNat = true := by
      rcases hl with ⟨rfl, _⟩ | ⟨r, rfl, hr, _⟩
      · exact .inl rfl
      · exact .inr (by rw [Int.toNat_natCast]; exact hr)
    rw [hsrc l hl', ← hS]
    rw [hget, if_pos rfl] at hq
    have hq : JS[k]? = some q := hq
    rw [hJk k v hv] at hq
    injection hq with hq
    subst hq
    show ((List.replicate (fromAt E i).length (0 : Int)).set ((fromAt E i).idxOf l) (gI S v)).getD ((fromAt E i).idxOf l) 0 = _
    rw [getI_set (by rw [List.length_replicate]; exact List.idxOf_lt_length_of_mem hm), if_pos rfl]
end Go.Proofs.Ytmgejacndhnikaa
namespace Go.Proofs.Ytmgejacndhnikaa

def undN (E : NE) (st : NS) : Nat := ((List.range E.p.length).filter fun i => !st.done.testBit i).length
theorem filter_le {α : Type} {f g : α → Bool} : ∀ (l : List α), (∀ x ∈ l, f x = true → g x = true) → (l.filter f).length ≤ (l.filter g).length
  | [], _ => Nat.le_refl _
  | x :: l, h => by
    have ih := filter_le l (fun y hy => h y (by simp [hy]))
    rw [List.filter_cons, List.filter_cons]
    by_cases e : f x = true
    · rw [if_pos e, if_pos (h x (by simp) e), List.length_cons, List.length_cons]; omega
    · rw [if_neg e]
      split
      · rw [List.length_cons]; omega
      · exact ih
theorem filter_lt {α : Type} {f g : α → Bool} : ∀ (l : List α), (∀ x ∈ l, f x = true → g x = true) → (∃ x ∈ l, f x = false ∧ g x = true) → (l.filter f).length < (l.filter g).length
  | [], _, ⟨_, h, _⟩ => absurd h List.not_mem_nil
  | x :: l, h, ⟨y, hy, h1, h2⟩ => by
    have ih := filter_le l (fun y hy => h y (by simp [hy]))
    rw [List.filter_cons, List.filter_cons]
    rcases List.mem_cons.1 hy with rfl | hy
    · rw [if_neg (by rw [h1]; simp), if_pos h2, List.length_cons]; omega
    · have ih := filter_lt l (fun y hy => h y (by simp [hy])) ⟨y, hy, h1, h2⟩
      by_cases e : f x = true
      · rw [if_pos e, if_pos (h x (by simp) e), List.length_cons, List.length_cons]; omega
      · rw [if_neg e]
        split
        · rw [List.length_cons]; omega
        · exact ih
theorem und_le {E : NE} {st st' : NS} (h : ∀ i, st.done.testBit i = true → st'.done.testBit i = true) : undN E st' ≤ undN E st :=
  filter_le _ fun i _ hi => by
    match e : st.done.testBit i with
    | false => rfl
    | true => rw [h i e] at hi; exact absurd hi (by simp)
theorem und_lt {E : NE} {st st' : NS} (h : ∀ i, st.done.testBit i = true → st'.done.testBit i = true) {i : Nat} (hi : i < E.p.length) (h0 : st.done.testBit i = false) (h1 : st'.done.testBit i = true) : undN E st' < undN E st :=
  filter_lt _ (fun i _ hi => by
    match e : st.done.testBit i with
    | false => rfl
    | true => rw [h i e] at hi; exact absurd hi (by simp)) ⟨i, List.mem_range.2 hi, by rw [h1]; rfl, by rw [h0]; rfl⟩
/-- Where one may come from, at any time. -/
def Come (E : NE) (st : NS) (l : Int) (i : Nat) : Prop := (l = -1 ∧ i = 0) ∨ ∃ r : Nat, l = (r : Int) ∧ st.done.testBit r = true ∧ Ed E r i ∧ st.done.testBit 0 = true
def Post (E : NE) (R : Nat → Prop) (D : Nat → Nat → Prop) (st st' : NS) (base : Nat → Nat) (nin : Nat → List Int) : Prop :=
  ∃ base' nin' own', Inv E R D st' base' nin' own' ∧ Ext E st st' base base' nin nin' ∧ ∀ j, st'.done.testBit j = true → st.done.testBit j = true ∨ ∀ e, Ed E j e → Walked E st' (j : Int) e
theorem src_nat (E : NE) (st : NS) (i : Nat) : srcOf E st (i : Int) = lastN i st := by unfold srcOf; rw [if_neg (by omega), Int.toNat_natCast]
theorem walks_ok {E : NE} {R : Nat → Prop} {D : Nat → Nat → Prop} (hG : Gr E R D) {f : Nat}
    (ih : ∀ (st : NS) (base : Nat → Nat) (nin : Nat → List Int) (own : Int → Nat) (l : Int) (i : Nat), Inv E R D st base nin own → undN E st < f → R i → l ∈ fromAt E i → Come E st l i → Post E R D st (walkN E f l i (srcOf E st l) st) base nin ∧ Walked E (walkN E f l i (srcOf E st l) st) l i)
    {i : Nat} : ∀ (js : List Int) (st : NS) (base : Nat → Nat) (nin : Nat → List Int) (own : Int → Nat), Inv E R D st base nin own → undN E st < f → st.done.testBit i = true → st.done.testBit 0 = true → (∀ j ∈ js, 0 ≤ j ∧ j ∈ E.next.getD i []) →
      Post E R D st (walksN E f i (lastN i st) js st) base nin ∧ ∀ j ∈ js, Walked E (walksN E f i (lastN i st) js st) (i : Int) j.toNat
  | [], st, base, nin, own, h, _, _, _, _ => by
    rw [walksN]
    exact ⟨⟨base, nin, own, h, Ext.refl _ _ _ _, fun j hj => .inl hj⟩, fun j hj => absurd hj List.not_mem_nil⟩
  | j :: js, st, base, nin, own, h, hu, hi, h0, hjs => by
    rw [walksN]
    obtain ⟨j0, j1⟩ := hjs j (by simp)
    have hed : Ed E i j.toNat := by unfold Ed; rw [show ((j.toNat : Nat) : Int) = j by omega]; exact j1
    have hRi := h.dlt i hi
    have hRj := hG.rs i _ hRi hed
    have hm : ((i : Nat) : Int) ∈ fromAt E j.toNat := (hG.frm i j.toNat (hG.rlt i hRi) (hG.rlt _ hRj)).2 hed
    obtain ⟨⟨b1, n1, o1, hI1, hE1, hF1⟩, hW1⟩ := ih st base nin own (i : Int) j.toNat h hu hRj hm (.inr ⟨i, rfl, hi, hed, h0⟩)
    rw [src_nat] at hI1 hE1 hF1 hW1
    have hl := hE1.last i hi
    obtain ⟨⟨b2, n2, o2, hI2, hE2, hF2⟩, hW2⟩ := walks_ok hG ih js _ b1 n1 o1 hI1 (Nat.lt_of_le_of_lt (und_le hE1.done) hu) (hE1.done i hi) (hE1.done 0 h0) (fun k hk => hjs k (by simp [hk]))
    rw [hl] at hI2 hE2 hF2 hW2
    refine ⟨⟨b2, n2, o2, hI2, hE1.trans hE2, fun k hk => ?_⟩, fun k hk => ?_⟩
    · rcases hF2 k hk with e | e
      · rcases hF1 k e with e2 | e2
        · exact .inl e2
        · exact .inr fun x hx => hE2.walked _ _ (.inr (by rw [Int.toNat_natCast]; exact e)) (e2 x hx)
      · exact .inr e
    · rcases List.mem_cons.1 hk with rfl | hk
      · exact hE2.walked _ _ (.inr (by rw [Int.toNat_natCast]; exact hE1.done i hi)) hW1
      · exact hW2 k hk
theorem walk_ok {E : NE} {R : Nat → Prop} {D : Nat → Nat → Prop} (hG : Gr E R D) : ∀ (f : Nat) (st : NS) (base : Nat → Nat) (nin : Nat → List Int) (own : Int → Nat) (l : Int) (i : Nat), Inv E R D st base nin own → undN E st < f → R i → l ∈ fromAt E i → Come E st l i →
    Post E R D st (walkN E f l i (srcOf E st l) st) base nin ∧ Walked E (walkN E f l i (srcOf E st l) st) l i
  | 0, _, _, _, _, _, _, _, h, _, _, _ => absurd h (Nat.not_lt_zero _)
  | f + 1, st, base, nin, own, l, i, h, hu, hR, hm, hc => by
    rw [walkN]
    by_cases hd : st.done.testBit i = true
    · rw [if_pos hd]
      obtain ⟨a, b, c⟩ := again_ok hG h hd hm
      refine ⟨⟨base, nin, own, a, b, fun j hj => .inl ?_⟩, c⟩
      have e : (againN E l i (srcOf E st l) st).done = st.done := bit_or_same hd
      rwa [e] at hj
    · rw [if_neg hd]
      have hd' : st.done.testBit i = false := by simpa using hd
      have hcm : Cm E st l i := by
        rcases hc with e | ⟨r, e1, e2, e3, e4⟩
        · exact .inl e
        · exact .inr ⟨r, e1, e2, e3, fun e => by subst e; exact hd e4⟩
      obtain ⟨b1, n1, o1, hI1, hE1, hW1, hbit⟩ := first_ok hG h hd' hR hm hcm
      have hi1 := (hbit i).2 (.inr rfl)
      have h01 : (firstN E l i (srcOf E st l) st).done.testBit 0 = true := by
        rcases hc with ⟨_, rfl⟩ | ⟨r, _, _, _, e4⟩
        · exact hi1
        · exact hE1.done 0 e4
      have hu1 := und_lt hE1.done (hG.rlt i hR) hd' hi1
      obtain ⟨⟨b2, n2, o2, hI2, hE2, hF2⟩, hW2⟩ := walks_ok hG (walk_ok hG f) (i := i) (E.next.getD i []) _ b1 n1 o1 hI1 (by omega) hi1 h01 (fun j hj => ⟨hG.nn i j hj, hj⟩)
      have hl : l = -1 ∨ (firstN E l i (srcOf E st l) st).done.testBit l.toNat = true := by
        rcases hc with ⟨rfl, _⟩ | ⟨r, rfl, e2, _, _⟩
        · exact .inl rfl
        · exact .inr (by rw [Int.toNat_natCast]; exact hE1.done r e2)
      refine ⟨⟨b2, n2, o2, hI2, hE1.trans hE2, fun k hk => ?_⟩, hE2.walked l i hl hW1⟩
      rcases hF2 k hk with e | e
      · rcases (hbit k).1 e with e | rfl
        · exact .inl e
        · exact .inr fun x hx => by
            have := hW2 (x : Int) hx
            rwa [Int.toNat_natCast] at this
      · exact .inr e
/-- How the namer begins. -/
def startN (E : NE) : NS := ⟨E.vars, 0, (List.range E.p.length).map (rawSg E)⟩
def endN (E : NE) : NS := walkN E (E.p.length + 1) (-1) 0 (firstL E) (startN E)
structure Done (E : NE) (R : Nat → Prop) (D : Nat → Nat → Prop) (base : Nat → Nat) (nin : Nat → List Int) (own : Int → Nat) : Prop where
  inv : Inv E R D (endN E) base nin own
  zero : Walked E (endN E) (-1) 0
  all : ∀ j, R j → (endN E).done.testBit j = true ∧ ∀ e, Ed E j e → Walked E (endN E) (j : Int) e
theorem start_tot (E : NE) : (startN E).many = E.vars + sumN E (startN E).done := by
  have : ∀ l : List Nat, (l.map fun i => if (startN E).done.testBit i = true then lenN E i else 0).sum = 0 := fun l => by
    induction l with
    | nil => rfl
    | cons x l ih =>
      rw [List.map_cons, List.sum_cons, ih]
      have : (startN E).done.testBit x = false := Nat.zero_testBit x
      rw [this]; simp
  unfold sumN
  rw [this]
  rfl
theorem start_inv {E : NE} {R : Nat → Prop} {D : Nat → Nat → Prop} : Inv E R D (startN E) (fun _ => 0) (fun _ => []) Int.toNat := by
  have no : ∀ i, (startN E).done.testBit i = true → False := fun i h => by
    have : (0 : Nat).testBit i = true := h
    rw [Nat.zero_testBit] at this
    cases this
  refine ⟨by unfold startN; simp, fun i h => (no i h).elim, Nat.le_refl _, start_tot E, fun i hi _ => ?_, fun i h => (no i h).elim, fun v _ => Int.toNat_natCast v, fun i h => (no i h).elim, fun i h => (no i h).elim, fun i j h => (no i h).elim, fun i h => (no i h).elim, fun i h => (no i h).elim⟩
  show ((List.range E.p.length).map (rawSg E)).getD i sgnul = _
  rw [List.getD_eq_getElem?_getD, List.getElem?_map, List.getElem?_range hi]; rfl
theorem end_done {E : NE} {R : Nat → Prop} {D : Nat → Nat → Prop} (hG : Gr E R D) : ∃ base nin own, Done E R D base nin own := by
  have hu : undN E (startN E) < E.p.length + 1 := by
    have := List.length_filter_le (fun i => !(startN E).done.testBit i) (List.range E.p.length)
    rw [List.length_range] at this
    unfold undN
    omega
  obtain ⟨⟨b, n, o, hI, hE, hF⟩, hW⟩ := walk_ok hG (E.p.length + 1) (startN E) _ _ _ (-1) 0 (start_inv (E := E) (R := R) (D := D)) hu hG.r0 hG.frm0 (.inl ⟨rfl, rfl⟩)
  have e : srcOf E (startN E) (-1) = firstL E := by unfold srcOf; rw [if_pos (by decide)]
  rw [e] at hI hE hF hW
  have hF' : ∀ j, (endN E).done.testBit j = true → ∀ e, Ed E j e → Walked E (endN E) (j : Int) e := fun j hj => by
    rcases hF j hj with h | h
    · have : (0 : Nat).testBit j = true := h
      rw [Nat.zero_testBit] at this
      cases this
    · exact h
  refine ⟨b, n, o, hI, hW, fun j hj => ?_⟩
  have hd : (endN E).done.testBit j = true := hG.rmin (fun i => (endN E).done.testBit i = true) hW.dn (fun i k hi hk => (hF' i hi k hk).dn) j hj
  exact ⟨hd, hF' j hd⟩
end Go.Proofs.Ytmgejacndhnikaa
namespace Go.Proofs.Ytmgejacndhnikaa

section
variable {E : NE} {R : Nat → Prop} {D : Nat → Nat → Prop} {base : Nat → Nat} {nin : Nat → List Int} {own : Int → Nat}
/-- Without a Join all who come bring the same name. -/
theorem came (hG : Gr E R D) (h : Done E R D base nin own) {l i : Nat} (hl : R l) (he : Ed E l i) {v : Nat} (hv : v < E.vars) (hj : ((v : Nat) : Int) ∉ joinsAt E i) : (nin i).getD v 0 = nm (endN E) l v := by
  have hRi := hG.rs l i hl he
  rcases h.inv.pr i (h.all i hRi).1 with ⟨rfl, _⟩ | ⟨r, a1, a2, a3⟩
  · exact absurd (hG.jc v 0 l 0 hv hl (hG.zero l hl) he (.inl rfl) (.inl rfl)) hj
  · rw [a3 v hv hj]
    have hRr := h.inv.dlt r a1
    obtain ⟨d1, b1, b2, b3, b4, b5, _⟩ := h.inv.mx l (h.all l hl).1 v hv
    obtain ⟨d2, c1, c2, c3, c4, c5, _⟩ := h.inv.mx r a1 v hv
    have key : ∀ (x y d e : Nat), R x → R y → Ed E x i → Ed E y i → Df E v d → D d x → (∀ d', Df E v d' → D d' y → D d' e) → D d e := fun x y d e hx hy ex ey hd hdx hm => by
      have hn : ¬ (i = d ∨ ¬ D d i) := fun e => hj (hG.jc v d x i hv hx hdx ex e hd)
      have hdi : D d i := Classical.not_not.1 (fun e => hn (.inr e))
      rcases hG.back d y i hy ey hdi with rfl | e3
      · exact absurd (.inl rfl) hn
      · exact hm d hd e3
    have e : d1 = d2 := hG.anti _ _ (key l r d1 d2 hl hRr he a2 b2 b3 c4) (key r l d2 d1 hRr hl a2 he c2 c3 b4)
    rw [c5, b5, e]
theorem came0 (hG : Gr E R D) (h : Done E R D base nin own) {v : Nat} (hv : v < E.vars) (hj : ((v : Nat) : Int) ∉ joinsAt E 0) : (nin 0).getD v 0 = (v : Int) := by
  rcases h.inv.pr 0 (h.all 0 hG.r0).1 with ⟨_, a⟩ | ⟨r, a1, a2, a3⟩
  · exact a v hv hj
  · have hRr := h.inv.dlt r a1
    exact absurd (hG.jc v 0 r 0 hv hRr (hG.zero r hRr) a2 (.inl rfl) (.inl rfl)) hj
/-- All Joins of a block at once. -/
def jnR (V : List Int) (k : Nat) (js : List Jn) (W : List Int) : List Int := js.foldl (fun W j => W.set j.to.toNat (V.getD (j.fr.getD k 0).toNat 0)) W
theorem jn_fold (V : List Int) (k : Nat) : ∀ (js : List Jn) (b : Nat) (W : List Int), (∀ m j, js[m]? = some j → j.to = ((b + m : Nat) : Int)) → b + js.length ≤ W.length →
    (jnR V k js W).length = W.length ∧ (∀ m j, js[m]? = some j → (jnR V k js W).getD (b + m) 0 = V.getD (j.fr.getD k 0).toNat 0) ∧ ∀ x, x < b ∨ b + js.length ≤ x → (jnR V k js W).getD x 0 = W.getD x 0
  | [], b, W, _, _ => ⟨rfl, fun m j h => by simp at h, fun _ _ => rfl⟩
  | j :: js, b, W, h, hl => by
    rw [List.length_cons] at hl
    have h0 : j.to = ((b : Nat) : Int) := h 0 j rfl
    obtain ⟨a1, a2, a3⟩ := jn_fold V k js (b + 1) (W.set b (V.getD (j.fr.getD k 0).toNat 0)) (fun m q hq => by rw [h (m + 1) q (by rw [List.getElem?_cons_succ]; exact hq)]; congr 1; omega) (by rw [List.length_set]; omega)
    have e : jnR V k (j :: js) W = jnR V k js (W.set b (V.getD (j.fr.getD k 0).toNat 0)) := by
      unfold jnR
      rw [List.foldl_cons, h0, Int.toNat_natCast]
    rw [e]
    refine ⟨by rw [a1, List.length_set], fun m q hq => ?_, fun x hx => ?_⟩
    · match m, hq with
      | 0, hq =>
        have e : j = q := by simpa using hq
        subst e
        rw [Nat.add_zero, a3 b (.inl (by omega)), getI_set (by omega), if_pos rfl]
      | m + 1, hq =>
        rw [List.getElem?_cons_succ] at hq
        rw [show b + (m + 1) = b + 1 + m by omega]
        exact a2 m q hq
    · rw [List.length_cons] at hx
      rw [a3 x (by omega), getI_set (by omega), if_neg (by omega)]
/-- A turn of the named program: from l, at i. -/
def goS (E : NE) (out : List Sg) (l i : Int) (V : List Int) : Int × List Int :=
  (if 0 ≤ (out.getD i.toNat sgnul).test ∧ (dgR (jnR V ((fromAt E i.toNat).idxOf l) (out.getD i.toNat sgnul).joins V) (out.getD i.toNat sgnul).code).getD (out.getD i.toNat sgnul).test.toNat 0 = 0 then (out.getD i.toNat sgnul).els else (out.getD i.toNat sgnul).thn,
    dgR (jnR V ((fromAt E i.toNat).idxOf l) (out.getD i.toNat sgnul).joins V) (out.getD i.toNat sgnul).code)
def stS (E : NE) (out : List Sg) (V : List Int) : Nat → Int × Int × List Int
  | 0 => (-1, 0, V)
  | k + 1 => ((stS E out V k).2.1, goS E out (stS E out V k).1 (stS E out V k).2.1 (stS E out V k).2.2)
theorem go_sim (hG : Gr E R D) (h : Done E R D base nin own) {M : Nat} (hM : (endN E).many ≤ M) {l : Int} {i : Nat} (hR : R i) (hc : (l = -1 ∧ i = 0) ∨ ∃ r : Nat, l = (r : Int) ∧ R r ∧ Ed E r i) {V hv : List Int} (hV : V.length = M) (hh : hv.length = E.vars) (hs : Sm E.vars V (srcOf E (endN E) l) hv) :
    (goS E (endN E).out l (i : Int) V).1 = (goB E.p (i : Int) hv).1 ∧ (goS E (endN E).out l (i : Int) V).2.length = M ∧ Sm E.vars (goS E (endN E).out l (i : Int) V).2 (lastN i (endN E)) (goB E.p (i : Int) hv).2 := by
  have hin := hG.rlt i hR
  have hd := (h.all i hR).1
  have hN := h.inv.nd i hd
  obtain ⟨o1, o2, o3, o4⟩ := h.inv.ow i hd
  have hJ := hG.js i
  have hbok := hG.ok.bs _ (List.getElem_mem hin)
  have hcode : ∀ s ∈ codeAt E i, SOk E.vars s := fun s hs => hbok.code s (by unfold codeAt at hs; rwa [bget hin] at hs)
  have hW : Walked E (endN E) l i := by
    rcases hc with ⟨rfl, rfl⟩ | ⟨r, rfl, hr, he⟩
    · exact h.zero
    · exact (h.all r hr).2 i he
  have hhi := hN.hi
  have hll : (codeAt E i).length + (joinsAt E i).length = lenN E i := by unfold lenN; omega
  obtain ⟨b, hb⟩ : ∃ b, b = (endN E).out.getD i sgnul := ⟨_, rfl⟩
  obtain ⟨V1, hV1⟩ : ∃ V1, V1 = jnR V ((fromAt E i).idxOf l) b.joins V := ⟨_, rfl⟩
  have hjl : b.joins.length = (joinsAt E i).length := by rw [hb]; exact hN.jl
  obtain ⟨a1, a2, a3⟩ := jn_fold V ((fromAt E i).idxOf l) b.joins (base i) V (fun m j hm => by rw [hb] at hm; exact (hN.jt m j hm).1) (by rw [hV, hjl]; omega)
  rw [← hV1] at a1 a2 a3
  -- what comes, by name
  have hsrc : ∀ v, v < E.vars → own ((srcOf E (endN E) l).getD v 0) = v ∧ 0 ≤ (srcOf E (endN E) l).getD v 0 := fun v hv => by
    rcases hc with ⟨rfl, _⟩ | ⟨r, rfl, hr, _⟩
    · unfold srcOf
      rw [if_pos (by omega), firstL_get E hv]
      exact ⟨h.inv.own0 v hv, by omega⟩
    · rw [src_nat]
      exact (h.inv.ow r (h.all r hr).1).2.1 v hv
  have h1 : Sm E.vars V1 (nin i) hv := fun v hvv => by
    by_cases e : ((v : Nat) : Int) ∈ joinsAt E i
    · obtain ⟨k, hk⟩ := mem_get e
      have hkl := (List.getElem?_eq_some_iff.1 hk).1
      have hn := hN.nj k _ hk
      rw [Int.toNat_natCast] at hn
      have hq : b.joins[k]? = some (b.joins[k]'(by omega)) := List.getElem?_eq_getElem _
      have hf := hW.fill k _ _ hk (by rw [← hb]; exact hq)
      rw [hn, Int.toNat_natCast, a2 k _ hq, hf]
      unfold gI
      rw [Int.toNat_natCast]
      exact hs v hvv
    · have hn : (nin i).getD v 0 = (srcOf E (endN E) l).getD v 0 := by
        rcases hc with ⟨rfl, rfl⟩ | ⟨r, rfl, hr, he⟩
        · unfold srcOf
          rw [if_pos (by omega), firstL_get E hvv]
          exact came0 hG h hvv e
        · rw [src_nat]
          exact came hG h hr he hvv e
      rw [hn, a3, hs v hvv]
      obtain ⟨c1, c2⟩ := hsrc v hvv
      rw [hjl]
      refine Classical.byContradiction fun hno => ?_
      obtain ⟨k, hk1, hk2⟩ : ∃ k, ((srcOf E (endN E) l).getD v 0).toNat = base i + k ∧ k < (joinsAt E i).length := ⟨((srcOf E (endN E) l).getD v 0).toNat - base i, by omega, by omega⟩
      have hg : (joinsAt E i)[k]? = some ((joinsAt E i)[k]'hk2) := List.getElem?_eq_getElem _
      have := o3 k _ hg
      rw [← hk1, show (((((srcOf E (endN E) l).getD v 0).toNat : Nat)) : Int) = (srcOf E (endN E) l).getD v 0 by omega, c1] at this
      have hm := List.getElem_mem hk2
      have := (hJ.2 _ hm).1
      exact e (by rw [show ((v : Nat) : Int) = (joinsAt E i)[k]'hk2 by omega]; exact hm)
  have h2 := renC_sim (own := own) (vars := E.vars) (codeAt E i) (nin i) (base i + (joinsAt E i).length) V1 hv hN.nl hh hcode o1 o4 (by rw [a1, hV]; omega) h1
  have e1 : b.code = (renC (nin i) (base i + (joinsAt E i).length) (codeAt E i)).1 := by rw [hb]; exact hN.code
  have e2 : lastN i (endN E) = (renC (nin i) (base i + (joinsAt E i).length) (codeAt E i)).2 := hN.last
  have e3 : b.test = if 0 ≤ (E.p.getD i bnul).test then gI (lastN i (endN E)) (E.p.getD i bnul).test else -1 := by rw [hb, e2]; exact hN.test
  have e4 : b.thn = (E.p.getD i bnul).thn := by rw [hb]; exact hN.thn
  have e5 : b.els = (E.p.getD i bnul).els := by rw [hb]; exact hN.els
  have h3 : Sm E.vars (dgR V1 b.code) (lastN i (endN E)) (dgR hv (codeAt E i)) := by rw [e1, e2]; exact h2.1
  have eg : goS E (endN E).out l (i : Int) V = (if 0 ≤ b.test ∧ (dgR V1 b.code).getD b.test.toNat 0 = 0 then b.els else b.thn, dgR V1 b.code) := by
    unfold goS
    rw [Int.toNat_natCast, ← hb, ← hV1]
  rw [eg]
  refine ⟨?_, by rw [dgR_len, a1, hV], ?_⟩
  · show (if 0 ≤ b.test ∧ (dgR V1 b.code).getD b.test.toNat 0 = 0 then b.els else b.thn) = (goB E.p (i : Int) hv).1
    unfold goB
    rw [Int.toNat_natCast, e3, e4, e5]
    dsimp only
    by_cases ht : 0 ≤ (E.p.getD i bnul).test
    · rw [if_pos ht]
      have hth : (E.p.getD i bnul).test.toNat < E.vars := by
        have := hbok.hi
        rw [bget hin] at ht ⊢
        omega
      have hq := h3 _ hth
      have h0 := (o2 _ hth).2
      unfold gI
      rw [hq]
      unfold codeAt
      by_cases hz : (dgR hv (E.p.getD i bnul).code).getD (E.p.getD i bnul).test.toNat 0 = 0
      · rw [if_pos ⟨h0, hz⟩, if_pos ⟨ht, hz⟩]
      · rw [if_neg (fun e => hz e.2), if_neg (fun e => hz e.2)]
    · rw [if_neg ht, if_neg (fun e => by have := e.1; omega), if_neg (fun e => ht e.1)]
  · have : (goB E.p (i : Int) hv).2 = dgR hv (codeAt E i) := by unfold goB codeAt; rw [Int.toNat_natCast]
    rw [this]
    exact h3
/-- The named program's run goes along with the program's. -/
theorem run_sim (hG : Gr E R D) (h : Done E R D base nin own) {M : Nat} (hM : (endN E).many ≤ M) {V hv : List Int} (hV : V.length = M) (hh : hv.length = E.vars) (hs : Sm E.vars V (firstL E) hv) : ∀ k, runsB E.p hv k →
    (stS E (endN E).out V k).2.1 = (stB E.p hv k).1 ∧ (stS E (endN E).out V k).2.2.length = M ∧ (stB E.p hv k).2.length = E.vars ∧ Sm E.vars (stS E (endN E).out V k).2.2 (srcOf E (endN E) (stS E (endN E).out V k).1) (stB E.p hv k).2 ∧
      ((stS E (endN E).out V k).1 = -1 ∨ ∃ r : Nat, (stS E (endN E).out V k).1 = (r : Int) ∧ R r) ∧
      (0 ≤ (stB E.p hv k).1 → ∃ i : Nat, (stB E.p hv k).1 = (i : Int) ∧ R i ∧ (((stS E (endN E).out V k).1 = -1 ∧ i = 0) ∨ ∃ r : Nat, (stS E (endN E).out V k).1 = (r : Int) ∧ R r ∧ Ed E r i))
  | 0, _ => by
    refine ⟨rfl, hV, hh, ?_, .inl rfl, fun _ => ⟨0, rfl, hG.r0, .inl ⟨rfl, rfl⟩⟩⟩
    show Sm E.vars V (srcOf E (endN E) (-1)) hv
    unfold srcOf
    rw [if_pos (by decide)]
    exact hs
  | k + 1, hr => by
    obtain ⟨a1, a2, a3, a4, _, a6⟩ := run_sim hG h hM hV hh hs k (fun j hj => hr j (by omega))
    have h0 := hr k (by omega)
    obtain ⟨i, hi, hRi, hc⟩ := a6 h0
    obtain ⟨l, hl⟩ : ∃ l, l = (stS E (endN E).out V k).1 := ⟨_, rfl⟩
    obtain ⟨W, hW⟩ : ∃ W, W = (stS E (endN E).out V k).2.2 := ⟨_, rfl⟩
    rw [← hl] at hc a4
    rw [← hW] at a2 a4
    obtain ⟨b1, b2, b3⟩ := go_sim hG h hM hRi hc a2 a3 a4
    have e1 : stS E (endN E).out V (k + 1) = ((i : Int), goS E (endN E).out l (i : Int) W) := by
      rw [← hi, ← a1, hl, hW]; rfl
    have e2 : stB E.p hv (k + 1) = goB E.p (i : Int) (stB E.p hv k).2 := by rw [← hi]; rfl
    rw [e1, e2]
    have hlen : (goB E.p (i : Int) (stB E.p hv k).2).2.length = E.vars := by unfold goB; rw [dgR_len]; exact a3
    refine ⟨b1, b2, hlen, by rw [src_nat]; exact b3, .inr ⟨i, rfl, hRi⟩, fun hp => ?_⟩
    have hin := hG.rlt i hRi
    have hg := go_in hG.ok hin hp
    have hj : ∃ j : Nat, (goB E.p (i : Int) (stB E.p hv k).2).1 = (j : Int) := ⟨(goB E.p (i : Int) (stB E.p hv k).2).1.toNat, by omega⟩
    obtain ⟨j, hj⟩ := hj
    have hed : Ed E i j := by
      unfold Ed
      rw [hG.nx]
      have : (nexts E.p).getD i [] = nxB E.p[i] := by unfold nexts; rw [List.getD_eq_getElem?_getD, List.getElem?_map, List.getElem?_eq_getElem hin]; rfl
      rw [this, ← hj]
      exact hg
    exact ⟨j, hj, hG.rs i j hRi hed, .inr ⟨i, rfl, hRi, hed⟩⟩
/-- What the run gives at its end. -/
theorem out_sim (h : Done E R D base nin own) {i : Nat} (hR : R i) {V hv : List Int} (hh : hv.length = E.vars) (hs : Sm E.vars V (lastN i (endN E)) hv) : (lastN i (endN E)).map (fun n => V.getD n.toNat 0) = hv := by
  have hN := h.inv.nd i (h.all i hR).1
  have hl : (lastN i (endN E)).length = E.vars := by
    show ((endN E).out.getD i sgnul).last.length = _
    rw [hN.last, (renC_len _ _ _).2, hN.nl]
  refine List.ext_getElem (by rw [List.length_map, hl, hh]) fun v h1 h2 => ?_
  rw [List.getElem_map]
  have := hs v (by omega)
  have e1 : (lastN i (endN E)).getD v 0 = (lastN i (endN E))[v]'(by rw [hl]; omega) := by rw [List.getD_eq_getElem?_getD, List.getElem?_eq_getElem (by rw [hl]; omega)]; rfl
  have e2 : hv.getD v 0 = hv[v] := by rw [List.getD_eq_getElem?_getD, List.getElem?_eq_getElem h2]; rfl
  rw [e1, e2] at this
  exact this
end
end Go.Proofs.Ytmgejacndhnikaa
namespace Go.Proofs.Ytmgejacndhnikaa

/-- What is set in a block, and where. -/
def entB (i : Nat) (b : Sg) : List (Int × Int × Int) := (b.joins.map fun j => (j.to, ((i : Nat) : Int), (-1 : Int))) ++ (List.range b.code.length).map fun k => ((b.code.getD k ⟨0, 0, 0, 0, 0⟩).to, ((i : Nat) : Int), ((k : Nat) : Int))
def ent0 (vars : Nat) : List (Int × Int × Int) := (List.range vars).map fun v => (((v : Nat) : Int), (-1 : Int), (0 : Int))
def preE (vars : Nat) (out : List Sg) (i : Nat) : List (Int × Int × Int) := ent0 vars ++ (List.range i).flatMap fun k => entB k (out.getD k sgnul)
theorem preE_succ (vars : Nat) (out : List Sg) (i : Nat) : preE vars out (i + 1) = preE vars out i ++ entB i (out.getD i sgnul) := by
  unfold preE
  rw [List.range_succ, List.flatMap_append, ← List.append_assoc]
  simp
/-- Is a name set ahead of a place? -/
def SetA (D : Nat → Nat → Prop) (L : List (Int × Int × Int)) (n i k : Int) : Prop := ∃ q ∈ L, q.1 = n ∧ (q.2.1 < 0 ∨ (q.2.1 = i ∧ q.2.2 < k) ∨ (q.2.1 ≠ i ∧ 0 ≤ i ∧ D q.2.1.toNat i.toNat))
section
variable {E : NE} {R : Nat → Prop} {D : Nat → Nat → Prop} {base : Nat → Nat} {nin : Nat → List Int} {own : Int → Nat}
theorem entB_raw (h : Done E R D base nin own) {i : Nat} (hi : i < E.p.length) (hR : ¬ (endN E).done.testBit i = true) : entB i ((endN E).out.getD i sgnul) = [] := by
  rw [h.inv.raw i hi (by simpa using hR)]; rfl
theorem entB_keys (h : Done E R D base nin own) {i : Nat} (hd : (endN E).done.testBit i = true) : (entB i ((endN E).out.getD i sgnul)).map (·.1) = (List.range (lenN E i)).map fun m => ((base i + m : Nat) : Int) := by
  have hN := h.inv.nd i hd
  have hcl : ((endN E).out.getD i sgnul).code.length = (codeAt E i).length := by rw [hN.code]; exact (renC_len _ _ _).1
  refine List.ext_getElem? fun m => ?_
  rw [List.getElem?_map, List.getElem?_map]
  unfold entB lenN
  by_cases h1 : m < (joinsAt E i).length
  · have hj : ((endN E).out.getD i sgnul).joins[m]? = some (((endN E).out.getD i sgnul).joins[m]'(by rw [hN.jl]; exact h1)) := List.getElem?_eq_getElem _
    rw [List.getElem?_append_left (by rw [List.length_map, hN.jl]; exact h1), List.getElem?_map, hj, List.getElem?_range (by omega)]
    exact congrArg some (hN.jt m _ hj).1
  · rw [List.getElem?_append_right (by rw [List.length_map, hN.jl]; omega), List.length_map, hN.jl]
    by_cases h2 : m < (joinsAt E i).length + (codeAt E i).length
    · have hs : (codeAt E i)[m - (joinsAt E i).length]? = some ((codeAt E i)[m - (joinsAt E i).length]'(by omega)) := List.getElem?_eq_getElem _
      have hc := renC_get (codeAt E i) (nin i) (base i + (joinsAt E i).length) _ _ hs
      rw [← hN.code] at hc
      rw [List.getElem?_map, List.getElem?_range (by rw [hcl]; omega), List.getElem?_range h2]
      show some _ = some _
      congr 1
      show (((endN E).out.getD i sgnul).code.getD (m - (joinsAt E i).length) ⟨0, 0, 0, 0, 0⟩).to = _
      rw [List.getD_eq_getElem?_getD, hc]
      show ((base i + (joinsAt E i).length + (m - (joinsAt E i).length) : Nat) : Int) = _
      congr 1
      omega
    · rw [List.getElem?_eq_none (by rw [List.length_map, List.length_range, hcl]; omega), List.getElem?_eq_none (by rw [List.length_range]; omega)]
      rfl
theorem range_nodup (b n : Nat) : ((List.range n).map fun m => ((b + m : Nat) : Int)).Nodup := by
  exact List.Pairwise.map _ (fun a b h e => h (by omega)) List.nodup_range
/-- Each is set once. -/
theorem keys_nodup (h : Done E R D base nin own) : ∀ i, i ≤ E.p.length → ((preE E.vars (endN E).out i).map (·.1)).Nodup ∧ ∀ n : Int, n ∈ (preE E.vars (endN E).out i).map (fun q => q.1) → (0 ≤ n ∧ n < E.vars) ∨ ∃ j m, j < i ∧ (endN E).done.testBit j = true ∧ m < lenN E j ∧ n = ((base j + m : Nat) : Int)
  | 0, _ => by
    have e : (preE E.vars (endN E).out 0).map (·.1) = (List.range E.vars).map fun m => ((0 + m : Nat) : Int) := by
      unfold preE ent0
      rw [List.range_zero, List.flatMap_nil, List.append_nil, List.map_map]
      refine List.map_congr_left fun m _ => ?_
      rw [Nat.zero_add]; rfl
    rw [e]
    refine ⟨range_nodup 0 _, fun n hn => ?_⟩
    obtain ⟨m, hm, rfl⟩ := List.mem_map.1 hn
    have := List.mem_range.1 hm
    exact .inl ⟨by omega, by omega⟩
  | i + 1, hi => by
    obtain ⟨a1, a2⟩ := keys_nodup h i (by omega)
    rw [preE_succ, List.map_append]
    by_cases hd : (endN E).done.testBit i = true
    · rw [entB_keys h hd]
      refine ⟨List.nodup_append.2 ⟨a1, range_nodup _ _, fun x hx y hy e => ?_⟩, fun n hn => ?_⟩
      · subst e
        obtain ⟨m, hm, rfl⟩ := List.mem_map.1 hy
        have hm := List.mem_range.1 hm
        have hlo := (h.inv.nd i hd).lo
        rcases a2 _ hx with ⟨_, b⟩ | ⟨j, m', j1, j2, j3, j4⟩
        · omega
        · have := h.inv.ap i j hd j2 (by omega)
          omega
      · rcases List.mem_append.1 hn with hn | hn
        · rcases a2 n hn with b | ⟨j, m, j1, j2⟩
          · exact .inl b
          · exact .inr ⟨j, m, by omega, j2⟩
        · obtain ⟨m, hm, rfl⟩ := List.mem_map.1 hn
          exact .inr ⟨i, m, by omega, hd, List.mem_range.1 hm, rfl⟩
    · rw [entB_raw h (by omega) hd, List.map_nil, List.append_nil]
      exact ⟨a1, fun n hn => (a2 n hn).imp id (fun ⟨j, m, j1, j2⟩ => ⟨j, m, by omega, j2⟩)⟩
theorem ent_first {L : List (Int × Int × Int)} {n : Nat} {out : List Sg} {v : Nat} (hv : v < E.vars) (hL : L = preE E.vars out n) : (((v : Nat) : Int), (-1 : Int), (0 : Int)) ∈ L := by
  rw [hL]
  exact List.mem_append_left _ (List.mem_map.2 ⟨v, List.mem_range.2 hv, rfl⟩)
theorem ent_at {n : Nat} {out : List Sg} {i : Nat} (hi : i < n) {q : Int × Int × Int} (hq : q ∈ entB i (out.getD i sgnul)) : q ∈ preE E.vars out n :=
  List.mem_append_right _ (List.mem_flatMap.2 ⟨i, List.mem_range.2 hi, hq⟩)
/-- The k-th name of a block: where it is set. -/
theorem ent_born (h : Done E R D base nin own) {i m : Nat} (hd : (endN E).done.testBit i = true) (hm : m < lenN E i) : ∃ k : Int, (((base i + m : Nat) : Int), ((i : Nat) : Int), k) ∈ entB i ((endN E).out.getD i sgnul) ∧ k < (codeAt E i).length ∧ (m < (joinsAt E i).length → k = -1) ∧ (¬ m < (joinsAt E i).length → k = ((m - (joinsAt E i).length : Nat) : Int)) := by
  have hN := h.inv.nd i hd
  have hcl : ((endN E).out.getD i sgnul).code.length = (codeAt E i).length := by rw [hN.code]; exact (renC_len _ _ _).1
  unfold lenN at hm
  by_cases h1 : m < (joinsAt E i).length
  · have hj : ((endN E).out.getD i sgnul).joins[m]? = some (((endN E).out.getD i sgnul).joins[m]'(by rw [hN.jl]; exact h1)) := List.getElem?_eq_getElem _
    exact ⟨-1, List.mem_append_left _ (List.mem_map.2 ⟨_, List.mem_of_getElem? hj, by rw [(hN.jt m _ hj).1]⟩), by omega, fun _ => rfl, fun e => absurd h1 e⟩
  · have hs : (codeAt E i)[m - (joinsAt E i).length]? = some ((codeAt E i)[m - (joinsAt E i).length]'(by omega)) := List.getElem?_eq_getElem _
    have hc := renC_get (codeAt E i) (nin i) (base i + (joinsAt E i).length) _ _ hs
    rw [← hN.code] at hc
    refine ⟨((m - (joinsAt E i).length : Nat) : Int), List.mem_append_right _ (List.mem_map.2 ⟨m - (joinsAt E i).length, List.mem_range.2 (by rw [hcl]; omega), ?_⟩), by omega, fun e => absurd e h1, fun _ => rfl⟩
    rw [List.getD_eq_getElem?_getD, hc]
    show (((base i + (joinsAt E i).length + (m - (joinsAt E i).length) : Nat) : Int), _, _) = _
    rw [show base i + (joinsAt E i).length + (m - (joinsAt E i).length) = base i + m by omega]
theorem code_20 (hG : Gr E R D) {i : Nat} (hR : R i) : (codeAt E i).length ≤ 20 := by
  have hin := hG.rlt i hR
  have h1 := hG.ok.many
  have h2 := manyB_mem (List.getElem_mem hin)
  unfold codeAt
  rw [bget hin]
  omega
/-- A name that a block ends with is set ahead of its end. -/
theorem set_end (hG : Gr E R D) (h : Done E R D base nin own) {i : Nat} (hR : R i) {v : Nat} (hv : v < E.vars) : SetA D (preE E.vars (endN E).out E.p.length) (nm (endN E) i v) (i : Int) 20 := by
  obtain ⟨d, a1, a2, a3, a4, a5, a6⟩ := h.inv.mx i (h.all i hR).1 v hv
  have hRd := h.inv.dlt d a1
  rcases a6 with ⟨m, hm, e⟩ | ⟨rfl, e⟩
  · obtain ⟨k, hk, hkl, _⟩ := ent_born h a1 hm
    have h20 := code_20 hG hRd
    refine ⟨_, ent_at (hG.rlt d hRd) hk, by rw [a5, e], .inr ?_⟩
    by_cases ed : d = i
    · subst ed; exact .inl ⟨rfl, by show k < 20; omega⟩
    · refine .inr ⟨by show ((d : Nat) : Int) ≠ (i : Int); omega, by omega, ?_⟩
      show D ((d : Nat) : Int).toNat ((i : Nat) : Int).toNat
      rw [Int.toNat_natCast, Int.toNat_natCast]; exact a3
  · exact ⟨_, ent_first hv rfl, by rw [a5, e], .inl (by show (-1 : Int) < 0; decide)⟩
/-- A name that a block begins with is set ahead of its steps. -/
theorem set_in (hG : Gr E R D) (h : Done E R D base nin own) {i : Nat} (hR : R i) {v : Nat} (hv : v < E.vars) {k : Int} (hk : 0 ≤ k) : SetA D (preE E.vars (endN E).out E.p.length) ((nin i).getD v 0) (i : Int) k := by
  have hd := (h.all i hR).1
  by_cases e : ((v : Nat) : Int) ∈ joinsAt E i
  · obtain ⟨m, hm⟩ := mem_get e
    have hml := (List.getElem?_eq_some_iff.1 hm).1
    have hn := (h.inv.nd i hd).nj m _ hm
    rw [Int.toNat_natCast] at hn
    obtain ⟨q, hq, _, q1, _⟩ := ent_born h hd (m := m) (by unfold lenN; omega)
    refine ⟨_, ent_at (hG.rlt i hR) hq, by rw [hn], .inr (.inl ⟨rfl, ?_⟩)⟩
    show q < k
    have := q1 hml
    omega
  · rcases h.inv.pr i hd with ⟨rfl, a⟩ | ⟨r, a1, a2, a3⟩
    · exact ⟨_, ent_first hv rfl, (a v hv e).symm, .inl (by show (-1 : Int) < 0; decide)⟩
    · have hRr := h.inv.dlt r a1
      obtain ⟨d, b1, b2, b3, b4, b5, b6⟩ := h.inv.mx r a1 v hv
      have hRd := h.inv.dlt d b1
      have hn : ¬ (i = d ∨ ¬ D d i) := fun e2 => e (hG.jc v d r i hv hRr b3 a2 e2 b2)
      have hDi : D d i := Classical.not_not.1 (fun e => hn (.inr e))
      rcases b6 with ⟨m, hm, em⟩ | ⟨rfl, em⟩
      · obtain ⟨q, hq, _⟩ := ent_born h b1 hm
        refine ⟨_, ent_at (hG.rlt d hRd) hq, by rw [a3 v hv e, b5, em], .inr (.inr ⟨?_, by omega, ?_⟩)⟩
        · show ((d : Nat) : Int) ≠ (i : Int)
          intro e3
          exact hn (.inl (by omega))
        · show D ((d : Nat) : Int).toNat ((i : Nat) : Int).toNat
          rw [Int.toNat_natCast, Int.toNat_natCast]; exact hDi
      · exact ⟨_, ent_first hv rfl, by rw [a3 v hv e, b5, em], .inl (by show (-1 : Int) < 0; decide)⟩
/-- Behind some steps. -/
theorem set_step (hG : Gr E R D) (h : Done E R D base nin own) {i : Nat} (hR : R i) {v : Nat} (hv : v < E.vars) {k : Nat} : SetA D (preE E.vars (endN E).out E.p.length) ((renC (nin i) (base i + (joinsAt E i).length) ((codeAt E i).take k)).2.getD v 0) (i : Int) (k : Int) := by
  have hd := (h.all i hR).1
  have hin := hG.rlt i hR
  have hbok := hG.ok.bs _ (List.getElem_mem hin)
  have hcode : ∀ s ∈ codeAt E i, SOk E.vars s := fun s hs => hbok.code s (by unfold codeAt at hs; rwa [bget hin] at hs)
  rcases renC_at (vars := E.vars) ((codeAt E i).take k) (nin i) (base i + (joinsAt E i).length) (h.inv.nd i hd).nl (fun s hs => (hcode s (List.mem_of_mem_take hs)).2.2.2.2.1) v hv with ⟨a, _⟩ | ⟨m, s, a, _, c⟩
  · rw [a]; exact set_in hG h hR hv (by omega)
  · have hml := (List.getElem?_eq_some_iff.1 a).1
    rw [List.length_take] at hml
    obtain ⟨q, hq, _, _, q2⟩ := ent_born h hd (m := (joinsAt E i).length + m) (by unfold lenN; omega)
    have := q2 (by omega)
    refine ⟨_, ent_at hin hq, ?_, .inr (.inl ⟨rfl, ?_⟩)⟩
    · show ((base i + ((joinsAt E i).length + m) : Nat) : Int) = _
      rw [c]; congr 1; omega
    · show q < (k : Int)
      omega
end
end Go.Proofs.Ytmgejacndhnikaa
