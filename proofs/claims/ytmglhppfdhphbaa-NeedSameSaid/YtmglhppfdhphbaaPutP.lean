/- need.Code, plain: the steps of a term, what they compute. -/
import Derived.Test.YtmglhppfdhphbaaStkP
import Derived.Test.YtmglhppfdhphbaaStep
namespace Go.Proofs.Ytmglhppfdhphbaa
open Go.RowKit

abbrev ndT (l : List Term) (i : Nat) : Int := accAt need1 l i
def putF (l : List Term) : Nat → Nat → Nat → List Step
  | 0, _, _ => []
  | n + 1, i, to =>
    if 2 < (l.getD i tnul).op then
      (if ndT l (l.getD i tnul).b.toNat ≤ ndT l (l.getD i tnul).a.toNat then putF l n (l.getD i tnul).a.toNat to ++ putF l n (l.getD i tnul).b.toNat (to + 1) ++ [⟨(l.getD i tnul).op, to, to, to + 1, 0⟩]
       else putF l n (l.getD i tnul).b.toNat to ++ putF l n (l.getD i tnul).a.toNat (to + 1) ++ [⟨(l.getD i tnul).op, to, to + 1, to, 0⟩])
    else [⟨(l.getD i tnul).op, to, 0, 0, (l.getD i tnul).val⟩]
def putT (l : List Term) (i to : Nat) : List Step := putF l (i + 1) i to
section
variable {l : List Term} {vars : Int}
theorem putF_eq (hok : ∀ k (h : k < l.length), TOk vars k l[k]) : ∀ n m i to, i < n → i < m → i < l.length → putF l n i to = putF l m i to
  | n + 1, m + 1, i, to, hn, hm, hi => by
    unfold putF
    by_cases h2 : 2 < (l.getD i tnul).op
    · obtain ⟨a, b, ea, eb, la, lb⟩ := ab_of hok hi h2
      rw [if_pos h2, if_pos h2, ea, eb, Int.toNat_natCast, Int.toNat_natCast]
      have x := fun t => putF_eq hok n m a t (by omega) (by omega) (by omega)
      have y := fun t => putF_eq hok n m b t (by omega) (by omega) (by omega)
      rw [x, x, y, y]
    · rw [if_neg h2, if_neg h2]
theorem putT_node (hok : ∀ k (h : k < l.length), TOk vars k l[k]) {i a b : Nat} (to : Nat) (hi : i < l.length) (h2 : 2 < (l.getD i tnul).op) (ea : (l.getD i tnul).a = a) (eb : (l.getD i tnul).b = b) :
    putT l i to = if ndT l b ≤ ndT l a then putT l a to ++ putT l b (to + 1) ++ [⟨(l.getD i tnul).op, to, to, to + 1, 0⟩] else putT l b to ++ putT l a (to + 1) ++ [⟨(l.getD i tnul).op, to, to + 1, to, 0⟩] := by
  obtain ⟨a', b', ea', eb', la, lb⟩ := ab_of hok hi h2
  have : a = a' := by have := ea.symm.trans ea'; omega
  subst this
  have : b = b' := by have := eb.symm.trans eb'; omega
  subst this
  unfold putT
  conv => lhs; unfold putF
  have x := fun t => putF_eq hok i (a + 1) a t la (by omega) (by omega)
  have y := fun t => putF_eq hok i (b + 1) b t lb (by omega) (by omega)
  rw [if_pos h2, ea, eb, Int.toNat_natCast, Int.toNat_natCast, x, x, y, y]
theorem putT_leaf {i : Nat} (to : Nat) (h2 : ¬ 2 < (l.getD i tnul).op) : putT l i to = [⟨(l.getD i tnul).op, to, 0, 0, (l.getD i tnul).val⟩] := by
  unfold putT putF; rw [if_neg h2]
theorem putT_len (hok : ∀ k (h : k < l.length), TOk vars k l[k]) : ∀ n i to, i < n → i < l.length → (putT l i to).length = (laid l i).length
  | n + 1, i, to, hn, hi => by
    by_cases h2 : 2 < (l.getD i tnul).op
    · obtain ⟨a, b, ea, eb, la, lb⟩ := ab_of hok hi h2
      have x := fun t => putT_len hok n a t (by omega) (by omega)
      have y := fun t => putT_len hok n b t (by omega) (by omega)
      rw [putT_node hok to hi h2 ea eb, laid_node hok hi h2 ea eb]
      split
      · rw [List.length_append, List.length_append, List.length_append, List.length_append, x, y]; simp
      · rw [List.length_append, List.length_append, List.length_append, List.length_append, x, y]; simp; omega
    · rw [putT_leaf to h2, laid_leaf h2]; rfl
theorem nd_node (hok : ∀ k (h : k < l.length), TOk vars k l[k]) {i a b : Nat} (hi : i < l.length) (h2 : 2 < (l.getD i tnul).op) (ea : (l.getD i tnul).a = a) (eb : (l.getD i tnul).b = b) (la : a < i) (lb : b < i) :
    ndT l i = if ndT l a = ndT l b then ndT l a + 1 else if ndT l a < ndT l b then ndT l b else ndT l a := by
  have e : l.getD i tnul = l[i] := getD_at hi
  rw [e] at h2 ea eb
  unfold ndT
  rw [accAt_eq need1 hi, need1_3 (by omega), ea, eb, Int.toNat_natCast, Int.toNat_natCast, accTo_at need1 (by omega) la, accTo_at need1 (by omega) lb]
end
/-- A step may be, with so many registers. -/
def StOk (vars regs : Int) (s : Step) : Prop :=
  1 ≤ s.op ∧ s.op ≤ 6 ∧ (s.op = 1 → 0 ≤ s.val ∧ s.val ≤ 255) ∧ (s.op = 2 → 0 ≤ s.val ∧ s.val < vars) ∧ (0 ≤ s.to ∧ s.to < regs) ∧ (2 < s.op → (0 ≤ s.a ∧ s.a < regs) ∧ 0 ≤ s.b ∧ s.b < regs)
def rg1 (hv r : List Int) (s : Step) : List Int :=
  r.set s.to.toNat (if s.op = 1 then s.val else if s.op = 2 then hv.getD s.val.toNat 0 else doF s.op (r.getD s.a.toNat 0) (r.getD s.b.toNat 0))
def rgR (hv r : List Int) (c : List Step) : List Int := c.foldl (rg1 hv) r
section
variable {l : List Term} {vars : Int} {hv : List Int}
theorem rgR_append (r : List Int) (a b : List Step) : rgR hv r (a ++ b) = rgR hv (rgR hv r a) b := List.foldl_append ..
theorem rg1_len (r : List Int) (s : Step) : (rg1 hv r s).length = r.length := by unfold rg1; rw [List.length_set]
theorem getI_set {r : List Int} {j : Nat} (x : Int) (i : Nat) (hj : j < r.length) : (r.set j x).getD i 0 = if j = i then x else r.getD i 0 := by
  rw [List.getD_eq_getElem?_getD, List.getElem?_set, List.getD_eq_getElem?_getD]
  by_cases h : j = i
  · rw [if_pos h, if_pos h, if_pos hj]; rfl
  · rw [if_neg h, if_neg h]
/-- A term's steps: what they leave. -/
theorem put_run (hok : ∀ k (h : k < l.length), TOk vars k l[k]) : ∀ n i, i < n → i < l.length → ∀ (to : Nat) (r : List Int), (to : Int) + ndT l i ≤ r.length →
    (rgR hv r (putT l i to)).length = r.length ∧ (rgR hv r (putT l i to)).getD to 0 = (valsTo hv l l.length).getD i 0 ∧ (∀ j, j < to → (rgR hv r (putT l i to)).getD j 0 = r.getD j 0) ∧ 1 ≤ ndT l i
  | n + 1, i, hn, hi, to, r, hr => by
    have e : l.getD i tnul = l[i] := getD_at hi
    obtain ⟨o1, o6, on, ov, _⟩ := hok i hi
    rw [val_here hok hi]
    by_cases h2 : 2 < (l.getD i tnul).op
    · obtain ⟨a, b, ea, eb, la, lb⟩ := ab_of hok hi h2
      have hnd := nd_node hok hi h2 ea eb la lb
      rw [putT_node hok to hi h2 ea eb]
      have hv1 : val1 hv (valsTo hv l l.length) l[i] = doF (l.getD i tnul).op ((valsTo hv l l.length).getD a 0) ((valsTo hv l l.length).getD b 0) := by
        rw [e] at h2 ea eb ⊢
        unfold val1
        rw [if_neg (by omega), if_neg (by omega), ea, eb, Int.toNat_natCast, Int.toNat_natCast]
      rw [hv1]
      have fin : ∀ (u v : Nat) (x y : Nat), u < i → v < i → ndT l v ≤ ndT l u → ((u = a ∧ v = b ∧ x = to ∧ y = to + 1) ∨ (u = b ∧ v = a ∧ x = to + 1 ∧ y = to)) →
          (rgR hv r (putT l u to ++ putT l v (to + 1) ++ [⟨(l.getD i tnul).op, to, (x : Nat), (y : Nat), 0⟩])).length = r.length ∧
          (rgR hv r (putT l u to ++ putT l v (to + 1) ++ [⟨(l.getD i tnul).op, to, (x : Nat), (y : Nat), 0⟩])).getD to 0 = doF (l.getD i tnul).op ((valsTo hv l l.length).getD a 0) ((valsTo hv l l.length).getD b 0) ∧
          (∀ j, j < to → (rgR hv r (putT l u to ++ putT l v (to + 1) ++ [⟨(l.getD i tnul).op, to, (x : Nat), (y : Nat), 0⟩])).getD j 0 = r.getD j 0) ∧ 1 ≤ ndT l i := fun u v x y hu hv' hle hxy => by
        have hge : ndT l u ≤ ndT l i ∧ ndT l v + 1 ≤ ndT l i := by
          rw [hnd]
          rcases hxy with ⟨rfl, rfl, _, _⟩ | ⟨rfl, rfl, _, _⟩
          · split
            · omega
            · split <;> omega
          · split
            · omega
            · split <;> omega
        obtain ⟨a1, a2, a3, a4⟩ := put_run hok n u (by omega) (by omega) to r (by omega)
        obtain ⟨b1, b2, b3, b4⟩ := put_run hok n v (by omega) (by omega) (to + 1) (rgR hv r (putT l u to)) (by rw [a1]; omega)
        rw [rgR_append, rgR_append]
        generalize rgR hv r (putT l u to) = ra at *
        generalize rgR hv ra (putT l v (to + 1)) = rb at *
        have htl : to < rb.length := by omega
        have hs : rgR hv rb [⟨(l.getD i tnul).op, to, (x : Nat), (y : Nat), 0⟩] = rb.set to (doF (l.getD i tnul).op (rb.getD x 0) (rb.getD y 0)) := by
          show rg1 hv rb _ = _
          unfold rg1
          dsimp only
          rw [if_neg (by omega), if_neg (by omega), Int.toNat_natCast, Int.toNat_natCast, Int.toNat_natCast]
        rw [hs]
        have hu' : rb.getD to 0 = (valsTo hv l l.length).getD u 0 := (b3 to (by omega)).trans a2
        refine ⟨by rw [List.length_set]; omega, ?_, fun j hj => ?_, by omega⟩
        · rw [getI_set _ _ htl, if_pos rfl]
          rcases hxy with ⟨rfl, rfl, rfl, rfl⟩ | ⟨rfl, rfl, rfl, rfl⟩
          · rw [hu', b2]
          · rw [hu', b2]
        · rw [getI_set _ _ htl, if_neg (by omega), b3 j (by omega), a3 j hj]
      by_cases hle : ndT l b ≤ ndT l a
      · rw [if_pos hle]
        have := fin a b to (to + 1) la lb hle (Or.inl ⟨rfl, rfl, rfl, rfl⟩)
        rwa [show (((to + 1 : Nat)) : Int) = (to : Int) + 1 by omega] at this
      · rw [if_neg hle]
        have := fin b a (to + 1) to lb la (by omega) (Or.inr ⟨rfl, rfl, rfl, rfl⟩)
        rwa [show (((to + 1 : Nat)) : Int) = (to : Int) + 1 by omega] at this
    · have hnd : ndT l i = 1 := by unfold ndT; rw [accAt_eq need1 hi, need1_0 (by rw [e] at h2; omega)]
      rw [putT_leaf to h2, hnd]
      rw [hnd] at hr
      have htl : to < r.length := by omega
      have hs : rgR hv r [⟨(l.getD i tnul).op, to, 0, 0, (l.getD i tnul).val⟩] = r.set to (val1 hv (valsTo hv l l.length) l[i]) := by
        rw [e] at h2 ⊢
        show rg1 hv r _ = _
        unfold rg1 val1
        dsimp only
        rw [Int.toNat_natCast]
        by_cases h1 : l[i].op = 1
        · rw [if_pos h1, if_pos h1]
        · rw [if_neg h1, if_neg h1, if_pos (by omega), if_pos (by omega)]
      rw [hs]
      refine ⟨by rw [List.length_set], by rw [getI_set _ _ htl, if_pos rfl], fun j hj => by rw [getI_set _ _ htl, if_neg (by omega)], by omega⟩
theorem nd_pos (hok : ∀ k (h : k < l.length), TOk vars k l[k]) {i : Nat} (hi : i < l.length) : 1 ≤ ndT l i := (need_bd hok i hi).1
/-- A term's steps may be, and set no register below the first one. -/
theorem put_ok (hok : ∀ k (h : k < l.length), TOk vars k l[k]) : ∀ n i, i < n → i < l.length → ∀ (to : Nat) (regs : Int), (to : Int) + ndT l i ≤ regs → ∀ s ∈ putT l i to, StOk vars regs s
  | n + 1, i, hn, hi, to, regs, hr => by
    have e : l.getD i tnul = l[i] := getD_at hi
    obtain ⟨o1, o6, on, ov, _⟩ := hok i hi
    by_cases h2 : 2 < (l.getD i tnul).op
    · obtain ⟨a, b, ea, eb, la, lb⟩ := ab_of hok hi h2
      have hnd := nd_node hok hi h2 ea eb la lb
      have pa := nd_pos hok (show a < l.length by omega)
      have pb := nd_pos hok (show b < l.length by omega)
      rw [putT_node hok to hi h2 ea eb]
      intro s hs
      rw [← e] at o6
      split at hs
      · rename_i hle
        have h3 : ndT l a ≤ ndT l i ∧ ndT l b + 1 ≤ ndT l i := by rw [hnd]; split <;> (first | omega | (split <;> omega))
        rcases List.mem_append.1 hs with hs | hs
        · rcases List.mem_append.1 hs with hs | hs
          · exact put_ok hok n a (by omega) (by omega) to regs (by omega) s hs
          · exact put_ok hok n b (by omega) (by omega) (to + 1) regs (by omega) s hs
        · simp only [List.mem_singleton] at hs; subst hs
          exact ⟨by dsimp only; omega, o6, fun h => by dsimp only at h; omega, fun h => by dsimp only at h; omega, ⟨by dsimp only; omega, by dsimp only; omega⟩, fun _ => ⟨⟨by dsimp only; omega, by dsimp only; omega⟩, by dsimp only; omega, by dsimp only; omega⟩⟩
      · rename_i hle
        have h3 : ndT l b ≤ ndT l i ∧ ndT l a + 1 ≤ ndT l i := by rw [hnd]; split <;> (first | omega | (split <;> omega))
        rcases List.mem_append.1 hs with hs | hs
        · rcases List.mem_append.1 hs with hs | hs
          · exact put_ok hok n b (by omega) (by omega) to regs (by omega) s hs
          · exact put_ok hok n a (by omega) (by omega) (to + 1) regs (by omega) s hs
        · simp only [List.mem_singleton] at hs; subst hs
          exact ⟨by dsimp only; omega, o6, fun h => by dsimp only at h; omega, fun h => by dsimp only at h; omega, ⟨by dsimp only; omega, by dsimp only; omega⟩, fun _ => ⟨⟨by dsimp only; omega, by dsimp only; omega⟩, by dsimp only; omega, by dsimp only; omega⟩⟩
    · have hnd : ndT l i = 1 := by unfold ndT; rw [accAt_eq need1 hi, need1_0 (by rw [e] at h2; omega)]
      rw [putT_leaf to h2]
      intro s hs
      simp only [List.mem_singleton] at hs; subst hs
      rw [e] at h2 ⊢
      exact ⟨o1, o6, on, ov, ⟨by dsimp only; omega, by dsimp only; omega⟩, fun h => absurd h h2⟩
end
end Go.Proofs.Ytmglhppfdhphbaa
