/- cut.build: its state while the rows of steps are made. -/
import Derived.Test.YtadmmciiahdmcaaCutC
import Derived.Test.YtadmmciiahdmcaaOwnBo
import Derived.Test.YtadmmciiahdmcaaOwnLG
import Derived.Test.YtadmmciiahdmcaaAppN
import Derived.Test.YtadmmciiahdmcaaWFam
import Derived.Deep.RegionHeld3
import Derived.Deep.CutRange
namespace Go.Proofs.Ytadmmciiahdmcaa
set_option maxRecDepth 100000
open Go.RowKit

theorem wayErr_of {ls : List (List Int)} (h1 : 1 ≤ ls.length) (h8 : ls.length ≤ 8) (h : ∀ l ∈ ls, l.length ≤ 3 ∧ ∀ x ∈ l, 0 ≤ x ∧ x < ls.length) : W.wayErr ls = 0 := by
  have key : ∀ (n : Nat) (r : List (List Int)), (∀ l ∈ r, l.length ≤ 3 ∧ ∀ x ∈ l, 0 ≤ x ∧ x < (n : Int)) → W.wErrs n r = 0 := fun n r => by
    induction r with
    | nil => intro _; rfl
    | cons l r ih =>
      intro hr
      have h0 : W.wErr1 n l = 0 := by
        unfold W.wErr1
        have hl := hr l (by simp)
        rw [if_neg (by omega), if_pos]
        unfold insideB
        rw [List.all_eq_true]
        exact fun x hx => decide_eq_true (hl.2 x hx)
      rw [show W.wErrs n (l :: r) = if W.wErr1 n l = 0 then W.wErrs n r else W.wErr1 n l from rfl, if_pos h0]
      exact ih fun l' hl' => hr l' (by simp [hl'])
  unfold W.wayErr
  rw [if_neg (by omega)]
  exact key _ _ h
theorem nexts_way {vars : Int} {p : List Blk} (hp : POk vars p) : W.wayErr (nexts p) = 0 := by
  have hl : (nexts p).length = p.length := by simp [nexts]
  refine wayErr_of (by rw [hl]; exact hp.n1) (by rw [hl]; exact hp.n8) fun l hlm => ?_
  unfold nexts at hlm
  obtain ⟨b, hb, rfl⟩ := List.mem_map.1 hlm
  refine ⟨?_, fun x hx => ?_⟩
  · unfold nxB; rw [List.length_append]; split <;> split <;> simp
  · rw [hl]; exact nxB_ok (hp.bs b hb) x hx
/-- A slice of bools by its block and length. -/
def bsV (x : Nat × Nat) : List Value := [.slice (some ⟨x.1, 0, none⟩) x.2 x.2]
theorem bsV_len (x : Nat × Nat) : (bsV x).length = 1 := rfl
theorem bsV_one (x : Nat × Nat) : ∀ u ∈ bsV x, u.oneCell' = true := by intro u hu; simp [bsV] at hu; subst hu; rfl
theorem infoBs : (Try.prog.info? 71).map (fun i => (i.zero, i.size, i.bytes)) = some (some (.slice none 0 0), 1, 24) := by kernel_rfl
theorem flat_one {α : Type} (f : α → Value) : ∀ l : List α, l.flatMap (fun i => [f i]) = l.map f
  | [] => rfl
  | x :: r => by rw [List.flatMap_cons, flat_one f r]; rfl
theorem own_raw {w : World} {base g : Nat} {l : List Bool} (h : OwnBo w base 4 (.slice (some ⟨g, 0, none⟩) l.length l.length) l) : w.heap[g]? = some (.cells (l.map Value.bool).toArray 4 (0, 0)) := by
  obtain ⟨h1, h2⟩ := h
  rcases h2 with ⟨h3, _⟩ | ⟨g', cap, cur, e, _, h4, _, _, h5, h6⟩
  · cases h3
  · injection e with e1 e2 e3
    injection e1 with e1
    injection e1 with e1
    subst e1 e3
    rw [h4]
    have hf : l.flatMap boCells = l.map Value.bool := flat_one Value.bool l
    rw [hf, List.take_of_length_le (by rw [Array.length_toList, h5]; exact Nat.le_refl _)] at h6
    rw [← h6]
theorem own_rawU {w : World} {base g : Nat} {l : List Nat} (h : OwnU w base 39 (.slice (some ⟨g, 0, none⟩) l.length l.length) l) : w.heap[g]? = some (.cells (l.map u32V).toArray 39 (0, 0)) := by
  obtain ⟨h1, h2⟩ := h
  rcases h2 with ⟨h3, _⟩ | ⟨g', cap, cur, e, _, h4, _, _, h5, h6⟩
  · cases h3
  · injection e with e1 e2 e3
    injection e1 with e1
    injection e1 with e1
    subst e1 e3
    rw [h4]
    have hf : l.flatMap u32Cells = l.map u32V := flat_one u32V l
    rw [hf, List.take_of_length_le (by rw [Array.length_toList, h5]; exact Nat.le_refl _)] at h6
    rw [← h6]
theorem own_ty {α : Type} {f : α → List Value} {size base E g : Nat} {w : World} {v : Value} {l : List α} (h : Own f size w base E v l) (hg : v.ownBlock = some g) : ∃ cur, w.heap[g]? = some (.cells cur E (0, 0)) := by
  rcases h.2 with ⟨h3, _⟩ | ⟨g', cap, cur, rfl, _, h4, _⟩
  · rw [h3] at hg; cases hg
  · injection hg with hg
    subst hg
    exact ⟨cur, h4⟩
theorem wp_makeBo {w : World} {o : Oper} {a : Act} {K : Act → World → Prop} {Q : Exit → Act → World → Prop} (lo c : Operand) (hop : o.op = Op.makeSlice 71 lo c)
    (base n : Nat) (hl : a.eval lo = .int .i64 (n : Int)) (hc : a.eval c = .int .i64 (n : Int)) (hn : n < 1000000) (hbase : base ≤ w.heap.size)
    (h : ∀ w', OwnBo w' base 4 (.slice (some ⟨w.heap.size, 0, none⟩) n n) (List.replicate n false) → w.grownBy w' none → K (a.put o.dst (.slice (some ⟨w.heap.size, 0, none⟩) n n)) w') : o.wp Try.prog a w K Q := by
  obtain ⟨i, hi, hz0, hz1, hz2⟩ := info_parts infoBo
  obtain ⟨w', hrun, r1, r2⟩ := run_make_full (P := Try.prog) w base 71 4 i (.bool false) 1 Try.underlying71 hi hz0 hz1 .i64 .i64 n (by rw [hz2]; omega) (by unfold maxLen; omega) hbase
  unfold Oper.wp
  simp [execOp, hop, hl, hc, hrun, Result.andThen]
  refine h w' ?_ r2
  have e : (madeCells (Value.bool false).cells (n * 1)).toList = (List.replicate n false).flatMap boCells := by
    rw [show (Value.bool false).cells = #[.bool false] from rfl, Nat.mul_one, toList_madeCells_one]
    clear r1 r2 hl hc h hrun
    induction n with
    | zero => rfl
    | succ n ih => rw [List.replicate_succ, List.replicate_succ, List.flatMap_cons, ← ih (by omega)]; rfl
  rw [e] at r1
  unfold OwnBo Own
  rw [List.length_replicate]
  exact r1
def lenC (p : List Blk) (i : Nat) : Nat := (p.getD i bnul).code.length
/-- In build: k rows of steps are made. -/
structure BX (w0 : World) (T FB : Nat) (vp vn : Value) (p : List Blk) (want k : Nat) (vc v : Value) (R : Nat → Nat) (wr : World) : Prop where
  bel : Below w0.heap.size w0 wr
  hT : wr.heap[T]? = some (.cells #[vp, vn, .int .u32 (want : Nat), vc, .int .u32 0, .slice (some ⟨FB, 0, none⟩) p.length p.length] 108 (0, 0))
  hF : wr.heap[FB]? = some (.cells ((List.replicate p.length 0).map u32V).toArray 39 (0, 0))
  own : Own bsV 1 wr (T + 1) 71 v ((List.range k).map fun i => (R i, lenC p i))
  rows : ∀ i, i < k → wr.heap[R i]? = some (.cells ((List.replicate (lenC p i) false).map Value.bool).toArray 4 (0, 0))
  inj : ∀ i j, i < k → j < k → R i = R j → i = j
  base : w0.heap.size ≤ FB ∧ w0.heap.size ≤ T ∧ ∀ i, i < k → w0.heap.size ≤ R i
section
variable {w0 wr w' : World} {T FB : Nat} {vp vn vc v : Value} {p : List Blk} {want k : Nat} {R : Nat → Nat}
theorem BX.drew (h : BX w0 T FB vp vn p want k vc v R wr) : BX w0 T FB vp vn p want k vc v R wr.drew := ⟨h.bel.drew, h.hT, h.hF, Own.drew h.own, h.rows, h.inj, h.base⟩
theorem BX.alloc (h : BX w0 T FB vp vn p want k vc v R wr) (o : Obj) : BX w0 T FB vp vn p want k vc v R (wr.alloc o) :=
  have kk : ∀ {j : Nat} {x : Obj}, wr.heap[j]? = some x → (wr.alloc o).heap[j]? = some x := fun {j _} hx => (Below.heap_alloc wr o j (lt_cells hx)).trans hx
  ⟨h.bel.alloc h.bel.size o, kk h.hT, kk h.hF, Own.alloc h.own o, fun i hi => kk (h.rows i hi), h.inj, h.base⟩
/-- A row is made. -/
theorem BX.made (h : BX w0 T FB vp vn p want k vc v R wr) (hg : wr.grownBy w' none) : BX w0 T FB vp vn p want k vc v R w' :=
  have kk : ∀ {j : Nat} {x : Obj}, wr.heap[j]? = some x → w'.heap[j]? = some x := fun {j _} hx => (hg.block j (lt_cells hx) (by simp)).trans hx
  ⟨h.bel.grown hg h.bel.size (fun k e => by cases e), kk h.hT, kk h.hF, h.own.kept hg (by
    rcases e : v.ownBlock with _ | g
    · exact .inl rfl
    · exact .inr (by simp)), fun i hi => kk (h.rows i hi), h.inj, h.base⟩
/-- The row goes behind the others. -/
theorem BX.push (h : BX w0 T FB vp vn p want k vc v R wr) {rk : Nat} (hrk : wr.heap[rk]? = some (.cells ((List.replicate (lenC p k) false).map Value.bool).toArray 4 (0, 0))) (hne : ∀ i, i < k → R i ≠ rk) (hb : w0.heap.size ≤ rk) {v' : Value}
    (hown : Own bsV 1 w' (T + 1) 71 v' (((List.range k).map fun i => (R i, lenC p i)) ++ [(rk, lenC p k)])) (hg : wr.grownBy w' v.ownBlock) : BX w0 T FB vp vn p want (k + 1) vc v' (fun i => if i = k then rk else R i) w' := by
  have kk : ∀ {j : Nat} {x : Array Value} {e : Nat}, e ≠ 71 → wr.heap[j]? = some (Obj.cells x e (0, 0)) → w'.heap[j]? = some (Obj.cells x e (0, 0)) := fun {j _ _} he hx => (hg.block j (lt_cells hx) (fun e => by
    obtain ⟨cur, hc⟩ := own_ty h.own e.symm
    rw [hx] at hc
    injection hc with hc
    injection hc with _ hc
    exact he hc)).trans hx
  refine ⟨h.bel.grown hg h.bel.size (fun g e => by have := (own_lt h.own g e).1; have := h.base.2.1; omega), kk (by decide) h.hT, kk (by decide) h.hF, ?_, fun i hi => ?_, fun i j hi hj e => ?_, h.base.1, h.base.2.1, fun i hi => ?_⟩
  · have e : ((List.range (k + 1)).map fun i => ((if i = k then rk else R i), lenC p i)) = ((List.range k).map fun i => (R i, lenC p i)) ++ [(rk, lenC p k)] := by
      rw [List.range_succ, List.map_append, List.map_singleton, if_pos rfl]
      congr 1
      refine List.map_congr_left fun i hi => ?_
      rw [List.mem_range] at hi
      rw [if_neg (by omega)]
    rw [e]; exact hown
  · by_cases e : i = k
    · rw [if_pos e, e]; exact kk (by decide) hrk
    · rw [if_neg e]; exact kk (by decide) (h.rows i (by omega))
  · by_cases e1 : i = k
    · by_cases e2 : j = k
      · omega
      · rw [if_pos e1, if_neg e2] at e; exact absurd e.symm (hne j (by omega))
    · by_cases e2 : j = k
      · rw [if_neg e1, if_pos e2] at e; exact absurd e (hne i (by omega))
      · rw [if_neg e1, if_neg e2] at e; exact h.inj i j (by omega) (by omega) e
  · by_cases e : i = k
    · rw [if_pos e]; exact hb
    · rw [if_neg e]; exact h.base.2.2 i (by omega)
theorem BX.setT (h : BX w0 T FB vp vn p want k vc v R wr) : BX w0 T FB vp vn p want k v v R (wr.setCell ⟨T, 3, none⟩ v) :=
  have kk : ∀ {j : Nat} {x : Array Value} {e : Nat}, e ≠ 108 → wr.heap[j]? = some (Obj.cells x e (0, 0)) → (wr.setCell ⟨T, 3, none⟩ v).heap[j]? = some (Obj.cells x e (0, 0)) := fun {j _ _} he hx => (Below.heap_setCell _ _ _ _ (ty_ne hx h.hT he)).trans hx
  ⟨h.bel.setCell (p := ⟨T, 3, none⟩) h.base.2.1 v, by rw [heap_setC wr T 3 _ _ _ h.hT]; rfl, kk (by decide) h.hF, h.own.kept (grown_set wr T 3 v) (Or.inr (fun e => by have := (own_lt h.own _ e).1; omega)), fun i hi => kk (by decide) (h.rows i hi), h.inj, h.base⟩
theorem BX.at3 (h : BX w0 T FB vp vn p want k vc v R wr) : wr.cell? ⟨T, 3, none⟩ = some vc ∧ wr.frozen? ⟨T, 3, none⟩ = false := by
  refine ⟨?_, frozen_of h.hT⟩
  rw [cell_of_row wr T _ _ _ _ h.hT]; rfl
/-- All rows are made: the state that solve starts from. -/
theorem BX.done {n : Nat} {on : Nat → Nat} (h : BX w0 T FB vp vn p want p.length v v R wr) (h1 : 1 ≤ p.length) :
    ∃ SB cS, v = .slice (some ⟨SB, 0, none⟩) p.length cS ∧ SX n p on want w0 T SB FB R vp vn cS 0 (List.replicate p.length 0) (fun i => List.replicate (lenC p i) false) wr := by
  have hl : ((List.range p.length).map fun i => (R i, lenC p i)).length = p.length := by simp
  have how := h.own
  obtain ⟨e1, e2⟩ := how
  rcases e2 with ⟨_, e2⟩ | ⟨SB, cS, cur, rfl, hb, hc, hle, _, hsz, htk⟩
  · rw [hl] at e2; omega
  · rw [hl] at *
    refine ⟨SB, cS, rfl, ⟨h.hT, h.hF, ⟨cur, hc, fun i hi => ?_⟩, h.rows, h.inj, by simp⟩, h.bel, ?_, fun i b hb => ?_, fun i => ?_, by decide, fun i b _ hi => ?_, h.base.2.1, h.base.1, h.base.2.2⟩
    · have hf : ((List.range p.length).map fun i => (R i, lenC p i)).flatMap bsV = (List.range p.length).map fun i => Value.slice (some ⟨R i, 0, none⟩) (lenC p i) (lenC p i) := by
        rw [List.flatMap_map]
        show (List.range p.length).flatMap (fun i => [Value.slice (some ⟨R i, 0, none⟩) (lenC p i) (lenC p i)]) = _
        exact flat_one (fun i => Value.slice (some ⟨R i, 0, none⟩) (lenC p i) (lenC p i)) _
      have h2 : cur.toList[i]? = some (Value.slice (some ⟨R i, 0, none⟩) (lenC p i) (lenC p i)) := by
        have h3 : (cur.toList.take (p.length * 1))[i]? = cur.toList[i]? := by rw [List.getElem?_take, if_pos (by omega)]
        rw [← h3, htk, hf, List.getElem?_map, List.getElem?_range hi]; rfl
      rw [Array.getElem?_toList] at h2
      rw [h2, List.length_replicate]
    · have h0 := Low.start p on want p.length
      intro C hC
      refine ⟨(h0 C hC).F, fun i k hm => ?_, (h0 C hC).t⟩
      have := hm.2
      rw [List.getElem?_replicate] at this
      split at this <;> cases this
    · rw [List.length_replicate]
      unfold lenC
      rw [List.getD_eq_getElem?_getD, hb]; rfl
    · have : getU (List.replicate p.length 0) i = 0 := by
        unfold getU
        rw [List.getD_eq_getElem?_getD, List.getElem?_replicate]
        split <;> rfl
      rw [this]; exact Nat.two_pow_pos n
    · rw [Nat.zero_testBit] at hi; cases hi
end
end Go.Proofs.Ytadmmciiahdmcaa
