/- SingleSame: the namer's steps as its loops take them (plain); its box. -/
import Derived.Test.YtmgejacndhnikaaSnA
import Derived.Test.YtmgejacndhnikaaSsaZ
namespace Go.Proofs.Ytmgejacndhnikaa
set_option maxRecDepth 100000
open Go.RowKit

theorem map_sg {rs : List RS} {out : List Sg} (h : rs.map RS.sg = out) {i : Nat} {x x' : RS} (hx : rs[i]? = some x) : x.sg = out.getD i sgnul ∧ (rs.set i x').map RS.sg = out.set i x'.sg := by
  subst h
  refine ⟨?_, by rw [List.map_set]⟩
  rw [List.getD_eq_getElem?_getD, List.getElem?_map, hx]
  rfl
theorem map_self {rs : List RS} {out : List Sg} (h : rs.map RS.sg = out) {i : Nat} {x : RS} (hx : rs[i]? = some x) : rs.map RS.sg = out.set i x.sg := by
  rw [← (map_sg h hx (x' := x)).2]
  obtain ⟨hl, he⟩ := List.getElem?_eq_some_iff.1 hx
  rw [← he, List.set_getElem_self]
/-- Only single i is another one. -/
def LvF (d : Nat → Prop) (rs rs' : List RS) : Prop := ∀ k, d k → (rs'[k]?).map RS.lv = (rs[k]?).map RS.lv
theorem LvF.refl (d : Nat → Prop) (rs : List RS) : LvF d rs rs := fun _ _ => rfl
theorem LvF.trans {d d' : Nat → Prop} {a b c : List RS} (h : LvF d a b) (k : LvF d' b c) (hd : ∀ k, d k → d' k) : LvF d a c := fun j hj => (k j (hd j hj)).trans (h j hj)
theorem LvF.set {d : Nat → Prop} {a b : List RS} (h : LvF d a b) {i : Nat} {x x' : RS} (hx : b[i]? = some x) (hv : x'.lv = x.lv ∨ ¬ d i) : LvF d a (b.set i x') := fun j hj => by
  by_cases e : i = j
  · subst e
    rw [List.getElem?_set_self (List.getElem?_eq_some_iff.1 hx).1, ← h i hj, hx]
    rcases hv with hv | hv
    · show some x'.lv = some x.lv
      rw [hv]
    · exact absurd hj hv
  · rw [List.getElem?_set_ne e]
    exact h j hj
/-- Joins in the making. -/
theorem mkJ_succ (a c m : Nat) : mkJ a (c + 1) m = mkJ a c m ++ [⟨((a + c : Nat) : Int), List.replicate m 0⟩] := by
  unfold mkJ
  rw [List.range_succ, List.map_append]
  rfl
/-- Joins in the filling: k are done. -/
def FillR (x : Nat) (vs : List Int) (js : List Jn) (ns : List Int) (k : Nat) (js' : List Jn) (ns' : List Int) : Prop :=
  ∃ pre : List Jn, pre.length = k ∧ js' = pre ++ js.drop k ∧ ns'.length = ns.length ∧ fillJ x vs js ns = (pre ++ (fillJ x (vs.drop k) (js.drop k) ns').1, (fillJ x (vs.drop k) (js.drop k) ns').2)
theorem FillR.start (x : Nat) (vs : List Int) (js : List Jn) (ns : List Int) : FillR x vs js ns 0 js ns := ⟨[], rfl, rfl, rfl, rfl⟩
theorem FillR.get {x : Nat} {vs : List Int} {js : List Jn} {ns : List Int} {k : Nat} {js' : List Jn} {ns' : List Int} (h : FillR x vs js ns k js' ns') (hk : k < js.length) : js'[k]? = some js[k] := by
  obtain ⟨pre, h1, rfl, -⟩ := h
  rw [List.getElem?_append_right (by omega), h1, Nat.sub_self, List.getElem?_drop, Nat.add_zero, List.getElem?_eq_getElem hk]
theorem FillR.next {x : Nat} {vs : List Int} {js : List Jn} {ns : List Int} {k : Nat} {js' : List Jn} {ns' : List Int} (h : FillR x vs js ns k js' ns') {v : Int} (hv : vs[k]? = some v) {j : Jn} (hj : js[k]? = some j) :
    FillR x vs js ns (k + 1) (js'.set k ⟨j.to, j.fr.set x (gI ns' v)⟩) (ns'.set v.toNat j.to) := by
  obtain ⟨pre, h1, rfl, h0, h2⟩ := h
  obtain ⟨hvl, rfl⟩ := List.getElem?_eq_some_iff.1 hv
  obtain ⟨hjl, rfl⟩ := List.getElem?_eq_some_iff.1 hj
  refine ⟨pre ++ [⟨js[k].to, js[k].fr.set x (gI ns' vs[k])⟩], by rw [List.length_append, h1]; rfl, ?_, by rw [List.length_set]; exact h0, ?_⟩
  · rw [List.drop_eq_getElem_cons hjl, List.set_append_right _ _ (by omega), h1, Nat.sub_self, List.set_cons_zero, List.append_assoc]
    rfl
  · rw [h2, List.drop_eq_getElem_cons hvl, List.drop_eq_getElem_cons hjl, fillJ, List.append_assoc]
    rfl
theorem FillR.done {x : Nat} {vs : List Int} {js : List Jn} {ns : List Int} {js' : List Jn} {ns' : List Int} (hl : vs.length = js.length) (h : FillR x vs js ns vs.length js' ns') : js' = (fillJ x vs js ns).1 ∧ ns' = (fillJ x vs js ns).2 := by
  obtain ⟨pre, h1, rfl, -, h2⟩ := h
  rw [h2, List.drop_length, hl, List.drop_length]
  constructor <;> simp [fillJ]
/-- Steps in the naming: k are done. -/
def RenR (ns : List Int) (m : Nat) (c : List Step) (k : Nat) (c' : List Step) (ns' : List Int) : Prop :=
  c'.length = k ∧ ns'.length = ns.length ∧ renC ns m c = (c' ++ (renC ns' (m + k) (c.drop k)).1, (renC ns' (m + k) (c.drop k)).2)
theorem RenR.start (ns : List Int) (m : Nat) (c : List Step) : RenR ns m c 0 [] ns := ⟨rfl, rfl, rfl⟩
theorem RenR.next {ns : List Int} {m : Nat} {c : List Step} {k : Nat} {c' : List Step} {ns' : List Int} (h : RenR ns m c k c' ns') {s : Step} (hs : c[k]? = some s) : RenR ns m c (k + 1) (c' ++ [renS ns' (m + k) s]) (ns'.set s.to.toNat ((m + k : Nat) : Int)) := by
  obtain ⟨h1, h0, h2⟩ := h
  obtain ⟨hsl, rfl⟩ := List.getElem?_eq_some_iff.1 hs
  refine ⟨by rw [List.length_append, h1]; rfl, by rw [List.length_set]; exact h0, ?_⟩
  rw [h2, List.drop_eq_getElem_cons hsl, renC_cons, List.append_assoc, show m + (k + 1) = m + k + 1 by omega]
  rfl
theorem RenR.done {ns : List Int} {m : Nat} {c : List Step} {c' : List Step} {ns' : List Int} (h : RenR ns m c c.length c' ns') : c' = (renC ns m c).1 ∧ ns' = (renC ns m c).2 := by
  obtain ⟨-, -, h2⟩ := h
  rw [h2, List.drop_length, renC_nil]
  simp
/-- The names that a step of the namer comes with. -/
theorem fill_len (x : Nat) : ∀ (vs : List Int) (js : List Jn) (ns : List Int), (fillJ x vs js ns).2.length = ns.length
  | [], js, ns => by rw [fillJ] <;> simp
  | v :: vs, [], ns => by rw [fillJ] <;> simp
  | v :: vs, j :: js, ns => by
    rw [fillJ]
    show (fillJ x vs js (ns.set v.toNat j.to)).2.length = _
    rw [fill_len x vs js, List.length_set]
section
variable {E : NE} {R : Nat → Prop} {D : Nat → Nat → Prop} {base : Nat → Nat} {nin : Nat → List Int} {own : Int → Nat} {st : NS}
theorem sum_le {f : Nat → Nat} {c : Nat} : ∀ (n : Nat), (∀ i, i < n → f i ≤ c) → ((List.range n).map f).sum ≤ n * c
  | 0, _ => by simp
  | n + 1, h => by
    have := sum_le n (fun i hi => h i (by omega))
    have := h n (by omega)
    rw [List.range_succ, List.map_append, List.sum_append, Nat.succ_mul]
    simp
    omega
theorem len_erase_le (l : List Int) (a : Int) : l.length ≤ (l.erase a).length + 1 := by
  rw [List.length_erase]
  split <;> omega
theorem nodup_bound : ∀ (n : Nat) (l : List Int), l.Nodup → (∀ v ∈ l, 0 ≤ v ∧ v < (n : Int)) → l.length ≤ n
  | 0, l, _, h => by
    match l, h with
    | [], _ => simp
    | v :: _, h => have := h v (by simp); omega
  | n + 1, l, hd, h => by
    have h1 := nodup_bound n (l.erase (n : Int)) (hd.erase _) (fun v hv => by
      have := h v (List.mem_of_mem_erase hv)
      have : v ≠ (n : Int) := fun e => by subst e; exact (hd.not_mem_erase) hv
      omega)
    have := len_erase_le l (n : Int)
    omega
theorem joins_6 (hG : Gr E R D) (i : Nat) : (joinsAt E i).length ≤ 6 := by
  have := nodup_bound E.vars _ (hG.js i).1 (hG.js i).2
  have := hG.ok.v6
  omega
theorem sumN_le (hG : Gr E R D) (d : Nat) : sumN E d ≤ 208 := by
  have h8 := hG.ok.n8
  have : sumN E d ≤ E.p.length * 26 := sum_le _ (fun i hi => by
    split
    · unfold lenN
      have h1 := joins_6 hG i
      have h2 : (codeAt E i).length ≤ 20 := by
        unfold codeAt
        rw [bget hi]
        exact Nat.le_trans (manyB_mem (List.getElem_mem hi)) hG.ok.many
      omega
    · omega)
  omega
theorem Inv.many_le (hG : Gr E R D) (h : Inv E R D st base nin own) : st.many ≤ 214 := by
  have := h.tot
  have := sumN_le hG st.done
  have := hG.ok.v6
  omega
theorem Inv.done_lt (hG : Gr E R D) (h : Inv E R D st base nin own) : st.done < 256 :=
  W.lt_pow_of_bits (n := 8) fun k hk => by
    have := hG.rlt k (h.dlt k hk)
    have := hG.ok.n8
    omega
theorem src_len (h : Inv E R D st base nin own) {l : Int} {i : Nat} (hc : Come E st l i) : (srcOf E st l).length = E.vars := by
  rcases hc with ⟨rfl, _⟩ | ⟨r, rfl, hr, _, _⟩
  · unfold srcOf
    rw [if_pos (by omega), firstL_len]
  · rw [src_nat]
    have hN := h.nd r hr
    show (st.out.getD r sgnul).last.length = _
    rw [hN.last, (renC_len _ _ _).2, hN.nl]
end
end Go.Proofs.Ytmgejacndhnikaa
