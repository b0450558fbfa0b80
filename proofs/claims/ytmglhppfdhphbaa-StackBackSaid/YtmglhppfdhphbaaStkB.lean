/- StackBack: plain law. -/
import Derived.Test.YtmglhppfdhphbaaStkP
namespace Go.Proofs.Ytmglhppfdhphbaa
open Go.RowKit

def bk1 (st : List Term × List Int) (c : SOp) : List Term × List Int :=
  if c.op ≤ 2 then (st.1 ++ [⟨c.op, 0, 0, c.val⟩], st.2 ++ [(st.1.length : Int)])
  else (st.1 ++ [⟨c.op, st.2.getD (st.2.length - 2) 0, st.2.getD (st.2.length - 1) 0, 0⟩], st.2.take (st.2.length - 2) ++ [(st.1.length : Int)])
def bkTo (c : List SOp) (k : Nat) : List Term × List Int := (c.take k).foldl bk1 ([], [])
def normS (c : SOp) : SOp := if c.op ≤ 2 then c else ⟨c.op, 0⟩
section
variable {c : List SOp} {vars : Int}
theorem bkTo_succ {k : Nat} (h : k < c.length) : bkTo c (k + 1) = bk1 (bkTo c k) c[k] := by
  unfold bkTo; rw [List.take_succ_eq_append_getElem h, List.foldl_append]; rfl
theorem bk1_len (st : List Term × List Int) (c : SOp) : (bk1 st c).1.length = st.1.length + 1 := by unfold bk1; split <;> simp
theorem bkTo_len : ∀ {k : Nat}, k ≤ c.length → (bkTo c k).1.length = k
  | 0, _ => rfl
  | k + 1, h => by rw [bkTo_succ h, bk1_len, bkTo_len (by omega)]
theorem laid_ext {l : List Term} {t : Term} (hok : ∀ k (h : k < l.length), TOk vars k l[k]) : ∀ n i, i < l.length → laidF (l ++ [t]) n i = laidF l n i
  | 0, _, _ => rfl
  | n + 1, i, hi => by
    have e : (l ++ [t]).getD i tnul = l.getD i tnul := by rw [List.getD_eq_getElem?_getD, List.getElem?_append_left hi, ← List.getD_eq_getElem?_getD]
    unfold laidF
    rw [e]
    by_cases h2 : 2 < (l.getD i tnul).op
    · obtain ⟨a, b, ea, eb, la, lb⟩ := ab_of hok hi h2
      rw [if_pos h2, if_pos h2, ea, eb, Int.toNat_natCast, Int.toNat_natCast, laid_ext hok n a (by omega), laid_ext hok n b (by omega)]
    · rw [if_neg h2, if_neg h2]
theorem ok_snoc {l : List Term} {t : Term} (hok : ∀ k (h : k < l.length), TOk vars k l[k]) (ht : TOk vars l.length t) : ∀ k (h : k < (l ++ [t]).length), TOk vars k (l ++ [t])[k] := fun k h => by
  rw [List.getElem_append]
  split
  · exact hok k _
  · have : k = l.length := by simp at h; omega
    subst this
    simpa using ht
theorem sum_zero : ∀ (l : List Int), (∀ x ∈ l, x = 0) → l.sum = 0
  | [], _ => rfl
  | x :: r, h => by rw [List.sum_cons, h x (by simp), sum_zero r (fun y hy => h y (by simp [hy]))]; rfl
theorem flatMap_cg {α β : Type} {f g : α → List β} : ∀ {l : List α}, (∀ x ∈ l, f x = g x) → l.flatMap f = l.flatMap g
  | [], _ => rfl
  | x :: r, h => by rw [List.flatMap_cons, List.flatMap_cons, h x (by simp), flatMap_cg (fun y hy => h y (by simp [hy]))]
theorem uses_none {l : List Term} {k : Nat} (hok : ∀ k (h : k < l.length), TOk vars k l[k]) (hk : l.length = k) : usesN l k = 0 := by
  unfold usesN
  refine sum_zero _ fun y hy => ?_
  obtain ⟨t, htm, rfl⟩ := List.mem_map.1 hy
  obtain ⟨j, hj, rfl⟩ := List.getElem_of_mem htm
  obtain ⟨_, _, _, _, hob⟩ := hok j hj
  unfold uses1
  rw [if_neg, if_neg]
  · rfl
  · rintro ⟨h3, e⟩; have := hob h3; omega
  · rintro ⟨h3, e⟩; have := hob h3; omega
theorem getD_new {l : List Term} {t : Term} {k : Nat} (hk : l.length = k) : (l ++ [t]).getD k tnul = t := by
  rw [List.getD_eq_getElem?_getD, List.getElem?_append_right (by omega), show k - l.length = 0 by omega]; rfl
/-- What holds between two operations. -/
structure BI (vars : Int) (c : List SOp) (k : Nat) (l : List Term) (s : List Int) : Prop where
  len : l.length = k
  errs : sErrs vars s.length (c.drop k) = 0
  ok : ∀ i (h : i < l.length), TOk vars i l[i]
  lt : ∀ x ∈ s, 0 ≤ x ∧ x < k
  nd : s.Nodup
  uses : ∀ i : Nat, i < k → usesN l i = if (i : Int) ∈ s then 0 else 1
  code : s.flatMap (fun x => laid l x.toNat) = (c.take k).map normS
  last : 0 < k → ∃ r, s = r ++ [(k : Int) - 1]
theorem split2 {s : List Int} (h : 2 ≤ s.length) : s = s.take (s.length - 2) ++ [s.getD (s.length - 2) 0, s.getD (s.length - 1) 0] := by
  conv => lhs; rw [← List.take_append_drop (s.length - 2) s]
  congr 1
  rw [List.drop_eq_getElem_cons (by omega), show s.length - 2 + 1 = s.length - 1 by omega, List.drop_eq_getElem_cons (by omega), show s.length - 1 + 1 = s.length by omega, List.drop_length, List.getD_eq_getElem?_getD, List.getD_eq_getElem?_getD, List.getElem?_eq_getElem (by omega), List.getElem?_eq_getElem (by omega)]
  rfl
theorem errs_two {d : Int} {k : Nat} (hk : k < c.length) (h : sErrs vars d (c.drop k) = 0) (h2 : 2 < c[k].op) : 2 ≤ d := by
  rw [List.drop_eq_getElem_cons hk] at h
  generalize c[k] = x at *
  by_cases hz : sErr1 vars d x = 0
  · unfold sErr1 at hz
    by_cases e1 : x.op < 1 ∨ 6 < x.op
    · rw [if_pos e1] at hz; cases hz
    rw [if_neg e1, if_neg (by omega)] at hz
    by_cases e3 : d < 2
    · rw [if_pos e3] at hz; cases hz
    · omega
  · rw [show sErrs vars d (x :: c.drop (k + 1)) = if sErr1 vars d x = 0 then sErrs vars (sNext d x) (c.drop (k + 1)) else sErr1 vars d x from rfl, if_neg hz] at h
    exact absurd h hz
theorem bi_zero (h : sErrs vars 0 c = 0) : BI vars c 0 [] [] :=
  ⟨rfl, h, fun i h => absurd h (by simp), fun x h => absurd h (by simp), List.nodup_nil, fun i h => absurd h (by omega), rfl, fun h => absurd h (by omega)⟩
theorem bi_step (hv0 : 0 ≤ vars) {k : Nat} {l : List Term} {s : List Int} (h : BI vars c k l s) (hk : k < c.length) : BI vars c (k + 1) (bk1 (l, s) c[k]).1 (bk1 (l, s) c[k]).2 := by
  have he := h.errs
  rw [List.drop_eq_getElem_cons hk] at he
  have htk : (c.take (k + 1)).map normS = (c.take k).map normS ++ [normS c[k]] := by rw [List.take_succ_eq_append_getElem hk, List.map_append]; rfl
  generalize c[k] = x at *
  by_cases hz : sErr1 vars s.length x = 0
  case neg => rw [show sErrs vars s.length (x :: c.drop (k + 1)) = if sErr1 vars s.length x = 0 then sErrs vars (sNext s.length x) (c.drop (k + 1)) else sErr1 vars s.length x from rfl, if_neg hz] at he; exact absurd he hz
  rw [show sErrs vars s.length (x :: c.drop (k + 1)) = if sErr1 vars s.length x = 0 then sErrs vars (sNext s.length x) (c.drop (k + 1)) else sErr1 vars s.length x from rfl, if_pos hz] at he
  have hlen := h.len
  have hlen' : (l.length : Int) = k := by omega
  obtain ⟨op, val⟩ := x
  have hz1 : 1 ≤ op ∧ op ≤ 6 ∧ (op ≤ 2 → ¬ (val < 0 ∨ op = 1 ∧ 255 < val ∨ op = 2 ∧ vars ≤ val)) ∧ (2 < op → 2 ≤ s.length) := by
    unfold sErr1 at hz
    dsimp only at hz
    by_cases e1 : op < 1 ∨ 6 < op
    · rw [if_pos e1] at hz; cases hz
    rw [if_neg e1] at hz
    refine ⟨by omega, by omega, fun e2 => ?_, fun e2 => ?_⟩
    · rw [if_pos e2] at hz
      by_cases e3 : 0 ≤ vars ∧ (val < 0 ∨ op = 1 ∧ 255 < val ∨ op = 2 ∧ vars ≤ val)
      · rw [if_pos e3] at hz; cases hz
      · exact fun h' => e3 ⟨hv0, h'⟩
    · rw [if_neg (by omega)] at hz
      by_cases e3 : (s.length : Int) < 2
      · rw [if_pos e3] at hz; cases hz
      · omega
  obtain ⟨o1, o6, ov, o2⟩ := hz1
  by_cases h2 : op ≤ 2
  · have ht : TOk vars l.length ⟨op, 0, 0, val⟩ := ⟨o1, o6, fun e => by have := ov h2; dsimp only at e ⊢; omega, fun e => by have := ov h2; dsimp only at e ⊢; omega, fun e => by dsimp only at e; omega⟩
    have e1 : bk1 (l, s) ⟨op, val⟩ = (l ++ [⟨op, 0, 0, val⟩], s ++ [(l.length : Int)]) := by unfold bk1; rw [if_pos (by exact h2)]
    rw [e1, hlen']
    rw [sNext_leaf (by exact h2)] at he
    have hlt := h.lt
    refine ⟨by simp; omega, by rw [List.length_append]; exact he, ok_snoc h.ok ht, ?_, ?_, ?_, ?_, fun _ => ⟨s, by simp⟩⟩
    · intro y hy
      rcases List.mem_append.1 hy with hy | hy
      · have := hlt y hy; omega
      · simp at hy; omega
    · rw [List.nodup_append]
      exact ⟨h.nd, by simp, fun a ha b hb e => by simp at hb; have := hlt a ha; omega⟩
    · intro i hi
      have hu1 : uses1 ⟨op, 0, 0, val⟩ i = 0 := by
        unfold uses1
        dsimp only
        rw [if_neg (fun h' => by omega)]; rfl
      show usesN (l ++ [_]) i = _
      rw [usesN_snoc, hu1, Int.add_zero]
      by_cases e : i < k
      · rw [h.uses i e]
        by_cases hm : (i : Int) ∈ s
        · rw [if_pos hm, if_pos (List.mem_append_left _ hm)]
        · rw [if_neg hm, if_neg]
          intro hm'
          rcases List.mem_append.1 hm' with h' | h'
          · exact hm h'
          · simp at h'; omega
      · have : i = k := by omega
        subst this
        rw [if_pos (List.mem_append_right _ (by simp))]
        exact uses_none h.ok hlen
    · show (s ++ [(k : Int)]).flatMap (fun x => laid (l ++ [_]) x.toNat) = _
      rw [htk, ← h.code, List.flatMap_append]
      congr 1
      · refine flatMap_cg fun y hy => ?_
        obtain ⟨y0, y1⟩ := hlt y hy
        exact laid_ext h.ok _ _ (by omega)
      · have eg := getD_new (l := l) (t := ⟨op, 0, 0, val⟩) hlen
        show laid _ (k : Int).toNat ++ [] = [normS _]
        rw [Int.toNat_natCast, laid_leaf (by rw [eg]; dsimp only; omega), eg, List.append_nil]
        unfold normS; rw [if_pos (by exact h2)]
  · have hs2 := o2 (by omega)
    have hsp := split2 hs2
    have e1 : bk1 (l, s) ⟨op, val⟩ = (l ++ [⟨op, s.getD (s.length - 2) 0, s.getD (s.length - 1) 0, 0⟩], s.take (s.length - 2) ++ [(l.length : Int)]) := by unfold bk1; rw [if_neg (by exact h2)]
    rw [e1, hlen']
    rw [sNext_node (by show 2 < op; omega)] at he
    have hlenr : (s.take (s.length - 2)).length = s.length - 2 := by rw [List.length_take]; omega
    obtain ⟨r, hr⟩ : ∃ r, s.take (s.length - 2) = r := ⟨_, rfl⟩
    rw [hr] at hsp hlenr ⊢
    generalize hxa : s.getD (s.length - 2) 0 = xa at *
    generalize hxb : s.getD (s.length - 1) 0 = xb at *
    have hnd := h.nd
    have hlt := h.lt
    have hcode := h.code
    have huses := h.uses
    have hsl : (s.length : Int) = r.length + 2 := by omega
    rw [hsp] at hnd hlt hcode huses
    obtain ⟨a0, a1⟩ := hlt xa (by simp)
    obtain ⟨b0, b1⟩ := hlt xb (by simp)
    obtain ⟨a, rfl⟩ := Int.eq_ofNat_of_zero_le a0
    obtain ⟨b, rfl⟩ := Int.eq_ofNat_of_zero_le b0
    have hab : a ≠ b := fun e => by
      subst e
      rw [List.nodup_append] at hnd
      simp at hnd
    have har : (a : Int) ∉ r := fun hm => by rw [List.nodup_append] at hnd; exact hnd.2.2 _ hm _ (by simp) rfl
    have hbr : (b : Int) ∉ r := fun hm => by rw [List.nodup_append] at hnd; exact hnd.2.2 _ hm _ (by simp) rfl
    have ht : TOk vars l.length ⟨op, a, b, 0⟩ := ⟨o1, o6, fun e => by dsimp only at e; omega, fun e => by dsimp only at e; omega, fun e => by dsimp only; omega⟩
    have hrl : ∀ y ∈ r, 0 ≤ y ∧ y < k := fun y hy => hlt y (by simp [hy])
    refine ⟨by simp; omega, ?_, ok_snoc h.ok ht, ?_, ?_, ?_, ?_, fun _ => ⟨r, by simp⟩⟩
    · rw [List.length_append, List.length_singleton, show ((r.length + 1 : Nat) : Int) = (s.length : Int) - 1 by omega]; exact he
    · intro y hy
      rcases List.mem_append.1 hy with hy | hy
      · have := hrl y hy; omega
      · simp at hy; omega
    · rw [List.nodup_append]
      refine ⟨(List.nodup_append.1 hnd).1, by simp, fun y hy z hz e => by simp at hz; have := hrl y hy; omega⟩
    · intro i hi
      show usesN (l ++ [_]) i = _
      rw [usesN_snoc]
      have hu1 : uses1 ⟨op, (a : Int), (b : Int), 0⟩ i = (if a = i then 1 else 0) + (if b = i then 1 else 0) := by
        unfold uses1
        dsimp only
        congr 1
        · by_cases e : a = i
          · rw [if_pos e, if_pos ⟨by omega, by omega⟩]
          · rw [if_neg e, if_neg (by omega)]
        · by_cases e : b = i
          · rw [if_pos e, if_pos ⟨by omega, by omega⟩]
          · rw [if_neg e, if_neg (by omega)]
      rw [hu1]
      by_cases e : i < k
      · rw [huses i e]
        by_cases ea : a = i
        · subst ea
          rw [if_pos (by simp), if_pos rfl, if_neg (fun e => hab e.symm), if_neg]
          · rfl
          · intro hm
            rcases List.mem_append.1 hm with h' | h'
            · exact har h'
            · simp at h'; omega
        · by_cases eb : b = i
          · subst eb
            rw [if_pos (by simp), if_neg ea, if_pos rfl, if_neg]
            · rfl
            · intro hm
              rcases List.mem_append.1 hm with h' | h'
              · exact hbr h'
              · simp at h'; omega
          · rw [if_neg ea, if_neg eb]
            by_cases hm : (i : Int) ∈ r
            · rw [if_pos (List.mem_append_left _ hm), if_pos (List.mem_append_left _ hm)]; rfl
            · rw [if_neg, if_neg]
              · rfl
              · intro hm'
                rcases List.mem_append.1 hm' with h' | h'
                · exact hm h'
                · simp at h'; omega
              · intro hm'
                rcases List.mem_append.1 hm' with h' | h'
                · exact hm h'
                · simp at h'; omega
      · have : i = k := by omega
        subst this
        rw [if_pos (List.mem_append_right _ (by simp)), if_neg (by omega), if_neg (by omega)]
        have : usesN l i = 0 := uses_none h.ok hlen
        rw [this]; rfl
    · show (r ++ [(k : Int)]).flatMap (fun x => laid (l ++ [_]) x.toNat) = _
      rw [htk, ← hcode, List.flatMap_append, List.flatMap_append, List.append_assoc]
      congr 1
      · refine flatMap_cg fun y hy => ?_
        obtain ⟨y0, y1⟩ := hrl y hy
        exact laid_ext h.ok _ _ (by omega)
      · have eg := getD_new (l := l) (t := ⟨op, (a : Int), (b : Int), 0⟩) hlen
        have hok' := ok_snoc h.ok ht
        show laid _ (k : Int).toNat ++ [] = (laid l (a : Int).toNat ++ (laid l (b : Int).toNat ++ [])) ++ [normS _]
        rw [Int.toNat_natCast, Int.toNat_natCast, Int.toNat_natCast, List.append_nil, List.append_nil, laid_node hok' (by simp; omega) (by rw [eg]; dsimp only; omega) (by rw [eg]) (by rw [eg]), eg]
        have x1 : laid (l ++ [⟨op, (a : Int), (b : Int), 0⟩]) a = laid l a := laid_ext h.ok _ _ (by omega)
        have x2 : laid (l ++ [⟨op, (a : Int), (b : Int), 0⟩]) b = laid l b := laid_ext h.ok _ _ (by omega)
        rw [x1, x2]
        congr 2
        unfold normS; rw [if_neg (by exact h2)]
theorem bi_all (hv0 : 0 ≤ vars) (h : sErrs vars 0 c = 0) : ∀ k, k ≤ c.length → BI vars c k (bkTo c k).1 (bkTo c k).2
  | 0, _ => bi_zero h
  | k + 1, hk => by rw [bkTo_succ hk]; exact bi_step hv0 (bi_all hv0 h k (by omega)) hk
/-- The terms of a right code of one value are a tree, whose code it is. -/
theorem back_tree (hv0 : 0 ≤ vars) (hv6 : vars ≤ 6) (h : sErrs vars 0 c = 0) (h1 : 1 ≤ c.length) (h16 : c.length ≤ 16) (hs : (bkTo c c.length).2.length = 1) :
    needErr vars (bkTo c c.length).1 = 0 ∧ (bkTo c c.length).1.length = c.length ∧ laid (bkTo c c.length).1 ((bkTo c c.length).1.length - 1) = c.map normS := by
  have hb := bi_all hv0 h c.length (Nat.le_refl _)
  generalize (bkTo c c.length).1 = l at *
  generalize (bkTo c c.length).2 = s at *
  have hl := hb.len
  obtain ⟨r, hr⟩ := hb.last (by omega)
  have hr0 : r = [] := by
    have : s.length = r.length + 1 := by rw [hr]; simp
    exact List.eq_nil_of_length_eq_zero (by omega)
  subst hr0
  rw [List.nil_append] at hr
  have hcast : ((c.length : Int) - 1) = ((c.length - 1 : Nat) : Int) := by omega
  rw [hcast] at hr
  refine ⟨?_, hl, ?_⟩
  · have ht : tErr vars l = 0 := by
      unfold tErr
      rw [if_neg (by omega)]
      have : ∀ (m : List Term) (i : Nat), (∀ k (h : k < m.length), TOk vars (i + k) m[k]) → tErrs vars i m = 0 := by
        intro m
        induction m with
        | nil => intro _ _; rfl
        | cons t m ih =>
          intro i hm
          have h0 := hm 0 (by simp)
          have ho : tErr1 vars i t = 0 := by
            obtain ⟨o1, o6, on, ov, ob⟩ := h0
            obtain ⟨op, a, b, v⟩ := t
            exact tErr1_0 o1 o6 on ov ob
          show (if tErr1 vars i t = 0 then tErrs vars (i + 1) m else tErr1 vars i t) = 0
          rw [if_pos ho]
          exact ih (i + 1) fun k hk => by
            have := hm (k + 1) (by simpa using hk)
            rw [show i + 1 + k = i + (k + 1) by omega]
            simpa using this
      exact this l 0 fun k hk => by rw [Nat.zero_add]; exact hb.ok k hk
    unfold needErr
    rw [if_neg (by rw [ht]; decide), if_pos]
    intro i hi
    rw [hl] at hi
    have hu := hb.uses i hi
    rw [hr] at hu
    constructor
    · intro h'
      rw [hu, if_neg (by simp; omega)]
    · intro h'
      rw [hu, if_pos (by simp; omega)]
  · have hc := hb.code
    rw [hr, List.take_length] at hc
    rw [← hc, hl]
    show _ = laid l ((c.length - 1 : Nat) : Int).toNat ++ []
    rw [Int.toNat_natCast, List.append_nil]
end
end Go.Proofs.Ytmglhppfdhphbaa
