/- cut.build: its state while the rows of steps are made. -/
import Derived.Test.YtadmmciiahdmcaaCutC
import Derived.Test.YtadmmciiahdmcaaOwnBo
import Derived.Test.YtadmmciiahdmcaaOwnLG
import Derived.Test.YtadmmciiahdmcaaAppN
import Derived.Test.YtadmmciiahdmcaaWFam
import Derived.Test.YtadmmciiahdmcaaEntR
import Derived.Deep.RegionHeld3
import Derived.Deep.CutRange
namespace Go.Proofs.Ytadmmciiahdmcaa
set_option maxRecDepth 100000
open Go.RowKit

theorem wayErr_of {ls : List (List Int)} (h1 : 1 ≤ ls.length) (h8 : ls.length ≤ 8) (h : ∀ l ∈ ls, l.length ≤ 3 ∧ ∀ x ∈ l, 0 ≤ x ∧ x < ls.length) : W.wayErr ls = 0 := by
  have key : ∀ (n : Nat) (r : List (List Int)), (∀ l ∈ r, l.length ≤ 3 ∧ ∀ x ∈ l, 0 ≤ x ∧ x < (n : Int)) → W.wErrs n r = 0 := fun n r => by
    induction r with
    | nil => intro _; rfl
    | cons l r ih =>
      intro hr
      have h0 : W.wErr1 n l = 0 := by
        unfold W.wErr1
        have hl := hr l (by simp)
        rw [if_neg (by omega), if_pos]
        unfold insideB
        rw [List.all_eq_true]
        exact fun x hx => decide_eq_true (hl.2 x hx)
      rw [show W.wErrs n (l :: r) = if W.wErr1 n l = 0 then W.wErrs n r else W.wErr1 n l from rfl, if_pos h0]
      exact ih fun l' hl' => hr l' (by simp [hl'])
  unfold W.wayErr
  rw [if_neg (by omega)]
  exact key _ _ h
theorem nexts_way {vars : Int} {p : List Blk} (hp : POk vars p) : W.wayErr (nexts p) = 0 := by
  have hl : (nexts p).length = p.length := by simp [nexts]
  refine wayErr_of (by rw [hl]; exact hp.n1) (by rw [hl]; exact hp.n8) fun l hlm => ?_
  unfold nexts at hlm
  obtain ⟨b, hb, rfl⟩ := List.mem_map.1 hlm
  refine ⟨?_, fun x hx => ?_⟩
  · unfold nxB; rw [List.length_append]; split <;> split <;> simp
  · rw [hl]; exact nxB_ok (hp.bs b hb) x hx
/-- A slice of bools by its block and length. -/
def bsV (x : Nat × Nat) : List Value := [.slice (some ⟨x.1, 0, none⟩) x.2 x.2]
theorem bsV_len (x : Nat × Nat) : (bsV x).length = 1 := rfl
theorem bsV_one (x : Nat × Nat) : ∀ u ∈ bsV x, u.oneCell' = true := by intro u hu; simp [bsV] at hu; subst hu; rfl
theorem infoBs : (Try.prog.info? 71).map (fun i => (i.zero, i.size, i.bytes)) = some (some (.slice none 0 0), 1, 24) := by kernel_rfl
theorem own_raw {w : World} {base g : Nat} {l : List Bool} (h : OwnBo w base 4 (.slice (some ⟨g, 0, none⟩) l.length l.length) l) : w.heap[g]? = some (.cells (l.map Value.bool).toArray 4 (0, 0)) := by
  obtain ⟨h1, h2⟩ := h
  rcases h2 with ⟨h3, _⟩ | ⟨g', cap, cur, e, _, h4, _, _, h5, h6⟩
  · cases h3
  · injection e with e1 e2 e3
    injection e1 with e1
    injection e1 with e1
    subst e1 e3
    rw [h4]
    have hf : l.flatMap boCells = l.map Value.bool := flat_one Value.bool l
    rw [hf, List.take_of_length_le (by rw [Array.length_toList, h5]; exact Nat.le_refl _)] at h6
    rw [← h6]
theorem own_rawU {w : World} {base g : Nat} {l : List Nat} (h : OwnU w base 39 (.slice (some ⟨g, 0, none⟩) l.length l.length) l) : w.heap[g]? = some (.cells (l.map u32V).toArray 39 (0, 0)) := by
  obtain ⟨h1, h2⟩ := h
  rcases h2 with ⟨h3, _⟩ | ⟨g', cap, cur, e, _, h4, _, _, h5, h6⟩
  · cases h3
  · injection e with e1 e2 e3
    injection e1 with e1
    injection e1 with e1
    subst e1 e3
    rw [h4]
    have hf : l.flatMap u32Cells = l.map u32V := flat_one u32V l
    rw [hf, List.take_of_length_le (by rw [Array.length_toList, h5]; exact Nat.le_refl _)] at h6
    rw [← h6]
theorem wp_makeBo {w : World} {o : Oper} {a : Act} {K : Act → World → Prop} {Q : Exit → Act → World → Prop} (lo c : Operand) (hop : o.op = Op.makeSlice 71 lo c)
    (base n : Nat) (hl : a.eval lo = .int .i64 (n : Int)) (hc : a.eval c = .int .i64 (n : Int)) (hn : n < 1000000) (hbase : base ≤ w.heap.size)
    (h : ∀ w', OwnBo w' base 4 (.slice (some ⟨w.heap.size, 0, none⟩) n n) (List.replicate n false) → w.grownBy w' none → K (a.put o.dst (.slice (some ⟨w.heap.size, 0, none⟩) n n)) w') : o.wp Try.prog a w K Q := by
  obtain ⟨i, hi, hz0, hz1, hz2⟩ := info_parts infoBo
  obtain ⟨w', hrun, r1, r2⟩ := run_make_full (P := Try.prog) w base 71 4 i (.bool false) 1 Try.underlying71 hi hz0 hz1 .i64 .i64 n (by rw [hz2]; omega) (by unfold maxLen; omega) hbase
  unfold Oper.wp
  simp [execOp, hop, hl, hc, hrun, Result.andThen]
  refine h w' ?_ r2
  have e : (madeCells (Value.bool false).cells (n * 1)).toList = (List.replicate n false).flatMap boCells := by
    rw [show (Value.bool false).cells = #[.bool false] from rfl, Nat.mul_one, toList_madeCells_one]
    clear r1 r2 hl hc h hrun
    induction n with
    | zero => rfl
    | succ n ih => rw [List.replicate_succ, List.replicate_succ, List.flatMap_cons, ← ih (by omega)]; rfl
  rw [e] at r1
  unfold OwnBo Own
  rw [List.length_replicate]
  exact r1
def lenC (p : List Blk) (i : Nat) : Nat := (p.getD i bnul).code.length
/-- In build: k rows of steps are made. -/
structure BX (w0 : World) (T FB : Nat) (vp vn : Value) (p : List Blk) (want k : Nat) (vc v : Value) (R : Nat → Nat) (wr : World) : Prop where
  bel : Below w0.heap.size w0 wr
  hT : wr.heap[T]? = some (.cells #[vp, vn, .int .u32 (want : Nat), vc, .int .u32 0, .slice (some ⟨FB, 0, none⟩) p.length p.length] 108 (0, 0))
  hF : wr.heap[FB]? = some (.cells ((List.replicate p.length 0).map u32V).toArray 39 (0, 0))
  own : Own bsV 1 wr (T + 1) 71 v ((List.range k).map fun i => (R i, lenC p i))
  rows : ∀ i, i < k → wr.heap[R i]? = some (.cells ((List.replicate (lenC p i) false).map Value.bool).toArray 4 (0, 0))
  inj : ∀ i j, i < k → j < k → R i = R j → i = j
  base : w0.heap.size ≤ FB ∧ w0.heap.size ≤ T ∧ ∀ i, i < k → w0.heap.size ≤ R i
section
variable {w0 wr w' : World} {T FB : Nat} {vp vn vc v : Value} {p : List Blk} {want k : Nat} {R : Nat → Nat}
theorem BX.drew (h : BX w0 T FB vp vn p want k vc v R wr) : BX w0 T FB vp vn p want k vc v R wr.drew := ⟨h.bel.drew, h.hT, h.hF, Own.drew h.own, h.rows, h.inj, h.base⟩
theorem BX.alloc (h : BX w0 T FB vp vn p want k vc v R wr) (o : Obj) : BX w0 T FB vp vn p want k vc v R (wr.alloc o) :=
  have kk : ∀ {j : Nat} {x : Obj}, wr.heap[j]? = some x → (wr.alloc o).heap[j]? = some x := fun {j _} hx => (Below.heap_alloc wr o j (lt_cells hx)).trans hx
  ⟨h.bel.alloc h.bel.size o, kk h.hT, kk h.hF, Own.alloc h.own o, fun i hi => kk (h.rows i hi), h.inj, h.base⟩
/-- A row is made. -/
theorem BX.made (h : BX w0 T FB vp vn p want k vc v R wr) (hg : wr.grownBy w' none) : BX w0 T FB vp vn p want k vc v R w' :=
  have kk : ∀ {j : Nat} {x : Obj}, wr.heap[j]? = some x → w'.heap[j]? = some x := fun {j _} hx => (hg.block j (lt_cells hx) (by simp)).trans hx
  ⟨h.bel.grown hg h.bel.size (fun k e => by cases e), kk h.hT, kk h.hF, h.own.kept hg (by
    rcases e : v.ownBlock with _ | g
    · exact .inl rfl
    · exact .inr (by simp)), fun i hi => kk (h.rows i hi), h.inj, h.base⟩
/-- The row goes behind the others. -/
theorem BX.push (h : BX w0 T FB vp vn p want k vc v R wr) {rk : Nat} (hrk : wr.heap[rk]? = some (.cells ((List.replicate (lenC p k) false).map Value.bool).toArray 4 (0, 0))) (hne : ∀ i, i < k → R i ≠ rk) (hb : w0.heap.size ≤ rk) {v' : Value}
    (hown : Own bsV 1 w' (T + 1) 71 v' (((List.range k).map fun i => (R i, lenC p i)) ++ [(rk, lenC p k)])) (hg : wr.grownBy w' v.ownBlock) : BX w0 T FB vp vn p want (k + 1) vc v' (fun i => if i = k then rk else R i) w' := by
  have kk : ∀ {j : Nat} {x : Array Value} {e : Nat}, e ≠ 71 → wr.heap[j]? = some (Obj.cells x e (0, 0)) → w'.heap[j]? = some (Obj.cells x e (0, 0)) := fun {j _ _} he hx => (hg.block j (lt_cells hx) (fun e => by
    obtain ⟨cur, hc⟩ := own_ty h.own e.symm
    rw [hx] at hc
    injection hc with hc
    injection hc with _ hc
    exact he hc)).trans hx
  refine ⟨h.bel.grown hg h.bel.size (fun g e => by have := (own_lt h.own g e).1; have := h.base.2.1; omega), kk (by decide) h.hT, kk (by decide) h.hF, ?_, fun i hi => ?_, fun i j hi hj e => ?_, h.base.1, h.base.2.1, fun i hi => ?_⟩
  · have e : ((List.range (k + 1)).map fun i => ((if i = k then rk else R i), lenC p i)) = ((List.range k).map fun i => (R i, lenC p i)) ++ [(rk, lenC p k)] := by
      rw [List.range_succ, List.map_append, List.map_singleton, if_pos rfl]
      congr 1
      refine List.map_congr_left fun i hi => ?_
      rw [List.mem_range] at hi
      rw [if_neg (by omega)]
    rw [e]; exact hown
  · by_cases e : i = k
    · rw [if_pos e, e]; exact kk (by decide) hrk
    · rw [if_neg e]; exact kk (by decide) (h.rows i (by omega))
  · by_cases e1 : i = k
    · by_cases e2 : j = k
      · omega
      · rw [if_pos e1, if_neg e2] at e; exact absurd e.symm (hne j (by omega))
    · by_cases e2 : j = k
      · rw [if_neg e1, if_pos e2] at e; exact absurd e (hne i (by omega))
      · rw [if_neg e1, if_neg e2] at e; exact h.inj i j (by omega) (by omega) e
  · by_cases e : i = k
    · rw [if_pos e]; exact hb
    · rw [if_neg e]; exact h.base.2.2 i (by omega)
theorem BX.setT (h : BX w0 T FB vp vn p want k vc v R wr) : BX w0 T FB vp vn p want k v v R (wr.setCell ⟨T, 3, none⟩ v) :=
  have kk : ∀ {j : Nat} {x : Array Value} {e : Nat}, e ≠ 108 → wr.heap[j]? = some (Obj.cells x e (0, 0)) → (wr.setCell ⟨T, 3, none⟩ v).heap[j]? = some (Obj.cells x e (0, 0)) := fun {j _ _} he hx => (Below.heap_setCell _ _ _ _ (ty_ne hx h.hT he)).trans hx
  ⟨h.bel.setCell (p := ⟨T, 3, none⟩) h.base.2.1 v, by rw [heap_setC wr T 3 _ _ _ h.hT]; rfl, kk (by decide) h.hF, h.own.kept (grown_set wr T 3 v) (Or.inr (fun e => by have := (own_lt h.own _ e).1; omega)), fun i hi => kk (by decide) (h.rows i hi), h.inj, h.base⟩
theorem BX.at3 (h : BX w0 T FB vp vn p want k vc v R wr) : wr.cell? ⟨T, 3, none⟩ = some vc ∧ wr.frozen? ⟨T, 3, none⟩ = false := by
  refine ⟨?_, frozen_of h.hT⟩
  rw [cell_of_row wr T _ _ _ _ h.hT]; rfl
/-- All rows are made: the state that solve starts from. -/
theorem BX.done {n : Nat} {on : Nat → Nat} (h : BX w0 T FB vp vn p want p.length v v R wr) (h1 : 1 ≤ p.length) :
    ∃ SB cS, v = .slice (some ⟨SB, 0, none⟩) p.length cS ∧ SX n p on want w0 T SB FB R vp vn cS 0 (List.replicate p.length 0) (fun i => List.replicate (lenC p i) false) wr := by
  have hl : ((List.range p.length).map fun i => (R i, lenC p i)).length = p.length := by simp
  have how := h.own
  obtain ⟨e1, e2⟩ := how
  rcases e2 with ⟨_, e2⟩ | ⟨SB, cS, cur, rfl, hb, hc, hle, _, hsz, htk⟩
  · rw [hl] at e2; omega
  · rw [hl] at *
    refine ⟨SB, cS, rfl, ⟨h.hT, h.hF, ⟨cur, hc, fun i hi => ?_⟩, h.rows, h.inj, by simp⟩, h.bel, ?_, fun i b hb => ?_, fun i => ?_, by decide, fun i b _ hi => ?_, h.base.2.1, h.base.1, h.base.2.2⟩
    · have hf : ((List.range p.length).map fun i => (R i, lenC p i)).flatMap bsV = (List.range p.length).map fun i => Value.slice (some ⟨R i, 0, none⟩) (lenC p i) (lenC p i) := by
        rw [List.flatMap_map]
        show (List.range p.length).flatMap (fun i => [Value.slice (some ⟨R i, 0, none⟩) (lenC p i) (lenC p i)]) = _
        exact flat_one (fun i => Value.slice (some ⟨R i, 0, none⟩) (lenC p i) (lenC p i)) _
      have h2 : cur.toList[i]? = some (Value.slice (some ⟨R i, 0, none⟩) (lenC p i) (lenC p i)) := by
        have h3 : (cur.toList.take (p.length * 1))[i]? = cur.toList[i]? := by rw [List.getElem?_take, if_pos (by omega)]
        rw [← h3, htk, hf, List.getElem?_map, List.getElem?_range hi]; rfl
      rw [Array.getElem?_toList] at h2
      rw [h2, List.length_replicate]
    · have h0 := Low.start p on want p.length
      intro C hC
      refine ⟨(h0 C hC).F, fun i k hm => ?_, (h0 C hC).t⟩
      have := hm.2
      rw [List.getElem?_replicate] at this
      split at this <;> cases this
    · rw [List.length_replicate]
      unfold lenC
      rw [List.getD_eq_getElem?_getD, hb]; rfl
    · have : getU (List.replicate p.length 0) i = 0 := by
        unfold getU
        rw [List.getD_eq_getElem?_getD, List.getElem?_replicate]
        split <;> rfl
      rw [this]; exact Nat.two_pow_pos n
    · rw [Nat.zero_testBit] at hi; cases hi
end
end Go.Proofs.Ytadmmciiahdmcaa
namespace Go.Proofs.Ytadmmciiahdmcaa
set_option maxRecDepth 100000
open Go.RowKit

theorem SX.base_ {n : Nat} {p : List Blk} {on : Nat → Nat} {want : Nat} {w0 w1 : World} {T SB FB : Nat} {R : Nat → Nat} {vp vn : Value} {cS t : Nat} {F : List Nat} {B : Nat → List Bool} {wr : World}
    (h : SX n p on want w1 T SB FB R vp vn cS t F B wr) (hb : Below w0.heap.size w0 w1) : SX n p on want w0 T SB FB R vp vn cS t F B wr :=
  ⟨h.ct, hb.trans (h.bel.mono hb.size), h.low, h.len, h.lt, h.t8, h.tt, ⟨Nat.le_trans hb.size h.base.1, Nat.le_trans hb.size h.base.2.1, fun i hi => Nat.le_trans hb.size (h.base.2.2 i hi)⟩⟩
theorem onL_lt (ls : List (List Int)) : ∀ x ∈ W.onL ls, x < 4294967296 := fun x hx => by
  unfold W.onL at hx
  obtain ⟨i, _, rfl⟩ := List.mem_map.1 hx
  exact W.onP_lt _ _ _
def BuildE (n : Nat) (p : List Blk) (A : Option Addr) (cap want : Nat) (w : World) (e : Ending) (w' : World) : Prop :=
  (∃ x, x ≠ 0 ∧ e = .returned (.tuple #[.pointer none, .slice none 0 0, .int .i64 x]) ∧ Below w.heap.size w w') ∨
  (pkErr (n : Int) p = 0 ∧ want < 2 ^ n ∧ ∃ (T SB FB : Nat) (R : Nat → Nat) (b cS t : Nat) (F : List Nat) (B : Nat → List Bool) (vs : Value), e = .returned (.tuple #[.pointer (some ⟨T, 0, none⟩), vs, .int .i64 0]) ∧
    SX n p (getU (W.onL (nexts p))) want w T SB FB R (.slice A p.length cap) (.slice (some ⟨b, 0, none⟩) p.length p.length) cS t F B w' ∧ Clo p (getU (W.onL (nexts p))) want ⟨F, MB p.length B, t⟩ ∧ OwnU w' w.heap.size 39 vs (W.lastL (nexts p)))
theorem build_bad (vars : Int) (A : Option Addr) (p : List Blk) (cap want : Nat) (w : World) (hA : RdBk w A p) (hm : p.length ≤ maxLen) (hmc : smallB p) (h0 : pkErr vars p ≠ 0) :
    Calls Try.prog 64 #[.int .i64 vars, .slice A p.length cap, .int .u32 want] w fun e w' => ∃ x, x ≠ 0 ∧ e = .returned (.tuple #[.pointer none, .slice none 0 0, .int .i64 x]) ∧ Below w.heap.size w w' := by
  have Hway := Lib.hid (way_bad vars A p cap w hA hm hmc h0)
  clear hA h0
  go_enter Try.func64, Try.ntmps64
  go_upto_region 2 with (go_at_call 18; refine Hway.out.mono ?_; rintro e w1 ⟨⟨x, hx, rfl⟩, hW⟩; have HW1 := Lib.hid hW; clear hW)
  have q : (x != 0) = true := by rw [bne_iff_ne]; exact hx
  have Hx := Lib.hid hx
  clear hx
  go_wp2
  go_ret3
  exact ⟨x, Hx.out, rfl, HW1.out⟩
set_option maxHeartbeats 4000000 in
theorem build_calls (n : Nat) (A : Option Addr) (p : List Blk) (cap want : Nat) (w : World) (hA : RdBk w A p) (hm : p.length ≤ maxLen) (hmc : smallB p) :
    Calls Try.prog 64 #[.int .i64 (n : Nat), .slice A p.length cap, .int .u32 want] w (BuildE n p A cap want w) := by
  by_cases h0 : pkErr (n : Int) p = 0
  · have HA := Lib.hid hA
    have hp := pok_of h0
    have H0 := Lib.hid h0
    have HP := Lib.hid hp
    have hn1 := hp.n1
    have hn8 := hp.n8
    have hn6 : n ≤ 6 := by have := hp.v6; omega
    have Hway := Lib.hid (way_ok (n : Int) A p cap w hA hm hmc h0)
    have hs := shr_u32 want n
    have hz := shr_zero want n
    clear hA hp h0
    by_cases h1 : want < 2 ^ n
    · have h2 := hz.2 h1
      rw [h2] at hs
      have H1 := Lib.hid h1
      clear hz h1 h2
      have hwy := Lib.hid (nexts_way HP.out)
      have hnl : (nexts p).length = p.length := by simp [nexts]
      obtain ⟨-, -, hval⟩ := W.valid_of hwy.out
      have Hval := Lib.hid hval
      have Hlast : Hid (∀ (b : Nat) (w : World), RdN w (some ⟨b, 0, none⟩) (nexts p) → Calls Try.prog 77 #[.slice (some ⟨b, 0, none⟩) p.length p.length] w fun e w' => ∃ v, e = .returned (.tuple #[v, .int .i64 0]) ∧ OwnU w' w.heap.size 39 v (W.lastL (nexts p)) ∧ Below w.heap.size w w') := Lib.hid fun b w hR => by
        have := W.last_ok (some ⟨b, 0, none⟩) (nexts p) p.length w hR hwy.out
        rwa [hnl] at this
      have Hon : Hid (∀ (b : Nat) (w : World), RdN w (some ⟨b, 0, none⟩) (nexts p) → Calls Try.prog 79 #[.slice (some ⟨b, 0, none⟩) p.length p.length] w fun e w' => ∃ v, e = .returned (.tuple #[v, .int .i64 0]) ∧ OwnU w' w.heap.size 39 v (W.onL (nexts p)) ∧ Below w.heap.size w w') := Lib.hid fun b w hR => by
        have := W.on_ok (some ⟨b, 0, none⟩) (nexts p) p.length w hR hwy.out
        rwa [hnl] at this
      have Hfrom : Hid (∀ (b : Nat) (w : World), RdN w (some ⟨b, 0, none⟩) (nexts p) → Calls Try.prog 78 #[.slice (some ⟨b, 0, none⟩) p.length p.length, .int .i64 0, .int .i64 (-1)] w fun e w' => e = .returned (.int .u32 (W.fromS (nexts p) (-1) 0 : Nat)) ∧ Below w.heap.size w w') := Lib.hid fun b w hR => by
        have := W.fromS_calls (some ⟨b, 0, none⟩) (nexts p) p.length w 0 (-1) hR (by omega) Hval.out (by omega)
        rwa [hnl] at this
      have Hll := Lib.hid (W.lastL_len (nexts p))
      have Hlv : Hid (∀ x ∈ W.lastL (nexts p), x < 4294967296) := Lib.hid fun x hx => by
        unfold W.lastL at hx
        obtain ⟨i, _, rfl⟩ := List.mem_map.1 hx
        exact Nat.lt_trans (W.lastS_lt _ _) (by decide)
      have Hfl := Lib.hid (W.fromS_lt (nexts p) (-1) 0)
      have Hol : Hid ((W.onL (nexts p)).length = p.length) := Lib.hid (by simp [W.onL, hnl])
      rw [hnl] at Hll
      generalize W.fromS (nexts p) (-1) 0 = fs at *
      generalize hll : W.lastL (nexts p) = ll at *
      have Hle := Lib.hid hll
      clear hval hll
      have hfl := Nat.lt_of_lt_of_le Hfl.out (show 256 ≤ 4294967296 by decide)
      go_enter Try.func64, Try.ntmps64
      go_wp2_with (first
        | (go_at_call 18; refine Hway.out.mono ?_; rintro e w1 ⟨b, rfl, hR, hW⟩; have HW1 := Lib.hid hW; have HR := Lib.hid hR; clear hW hR)
        | (go_at_call 77; refine (Hlast.out b w1 HR.out).mono ?_; rintro e w2 ⟨vs, rfl, hO, hW⟩; obtain ⟨sg, sc, rfl, -, -, -, -, -⟩ := OwnU.at_ hO (by rw [Hll.out]; omega); rw [Hll.out] at hO ⊢; have HO := Lib.hid hO; have HW2 := Lib.hid (HW1.out.trans (hW.mono HW1.out.size)); have HR2 := Lib.hid (RdN.below HR.out hW); clear hW hO)
        | (go_at_call 78; refine (Hfrom.out b w2 HR2.out).mono ?_; rintro e w3 ⟨rfl, hW⟩; have HO3 := Lib.hid (HO.out.below hW); have HW3 := Lib.hid (HW2.out.trans (hW.mono HW2.out.size)); have HR3 := Lib.hid (RdN.below HR2.out hW); clear hW))
      have HRs : Hid (RdU w3 (some ⟨sg, 0, none⟩) ll) := Lib.hid (by obtain ⟨A9, c9, e9, h9⟩ := OwnU.rd HO3.out; injection e9 with e9; rw [e9]; exact h9)
      go_loopw [43] (fun i wr => ∃ k : Nat, k ≤ p.length ∧ i = .int .i64 k ∧ Hid (wr = w3)) (fun i _ => p.length - (intOf i).toNat)
      case atStart => exact ⟨0, Nat.zero_le _, rfl, Lib.hid rfl⟩
      case round =>
        obtain ⟨k, hk, rfl, HWe⟩ := hrel
        obtain rfl := HWe.out
        clear HWe
        by_cases hlt : k < p.length
        · have hkl : k < ll.length := by rw [Hll.out]; exact hlt
          obtain ⟨b1, o1, e1, hb1, m1⟩ := RdU.at1 HRs.out hkl
          obtain ⟨rfl, rfl⟩ : sg = b1 ∧ o1 = 0 := by injection e1 with e1; injection e1 with e1 e2; exact ⟨e1, e2.symm⟩
          rw [Nat.zero_add] at m1
          clear e1 hb1
          have hv32 := Hlv.out _ (List.getElem_mem hkl)
          have q1 : ((k : Nat) : Int) < ((p.length : Nat) : Int) := by omega
          have q2 : ((k : Nat) : Int) < ((ll.length : Nat) : Int) := by omega
          have rf := W.test1_u32 fs k hfl
          generalize ll[k] = x at *
          clear hkl
          cases hb : fs.testBit k
          · rw [hb] at rf
            clear hb
            go_wp2
            go_roundw
            case rel => exact ⟨k + 1, by omega, by go_num, Lib.hid (by trivial)⟩
            case measure => simp [intOf]; omega
          · rw [hb] at rf
            clear hb
            by_cases hx : x = 0
            · subst hx
              go_wp2
              go_ret3
              exact .inl ⟨5, by decide, rfl, HW3.out⟩
            · have q3 : (((x : Nat) : Int) == 0) = false := by rw [beq_eq_false_iff_ne]; omega
              clear hx
              go_wp2
              go_roundw
              case rel => exact ⟨k + 1, by omega, by go_num, Lib.hid (by trivial)⟩
              case measure => simp [intOf]; omega
        · have hkp : k = p.length := by omega
          subst hkp
          have hll : ¬ ((p.length : Int) < (p.length : Int)) := by omega
          clear hlt hk
          go_wp2_with (first
            | (go_at_call 79; refine (Hon.out b wr HR3.out).mono ?_; rintro e w4 ⟨vo, rfl, hOo, hW⟩; obtain ⟨og, oc, rfl, -, -, -, -, -⟩ := OwnU.at_ hOo (by rw [Hol.out]; omega); rw [Hol.out] at hOo ⊢; have HOo := Lib.hid hOo; have HO4 := Lib.hid (HO3.out.below hW); have HW4 := Lib.hid (HW3.out.trans (hW.mono HW3.out.size)); have HR4 := Lib.hid (RdN.below HR3.out hW); clear hW hOo)
            | (at_make; refine wpList_makeU rfl _ _ rfl w4.heap.size p.length rfl rfl (by omega) (Nat.le_refl _) ?_; intro w5 hown5 hgrow5
               have HW5 := Lib.hid ((Below.refl w4.heap.size w4).grown hgrow5 (Nat.le_refl _) (fun k hk => by cases hk))
               have HF5 : Hid (w5.heap[w4.heap.size]? = some (.cells ((List.replicate p.length 0).map u32V).toArray 39 (0, 0))) := Lib.hid (own_rawU (by rw [List.length_replicate]; exact hown5))
               clear hown5 hgrow5))
          have HA4 := Lib.hid (HA.out.below HW4.out)
          have hz45 := HW5.out.size
          have hF4 := lt_cells HF5.out
          obtain ⟨T, hT⟩ : ∃ T, T = w5.heap.size := ⟨_, rfl⟩
          obtain ⟨FB, hFB⟩ : ∃ FB, FB = w4.heap.size := ⟨_, rfl⟩
          have HB0 : Hid (BX w4 T FB (.slice A p.length cap) (.slice (some ⟨b, 0, none⟩) p.length p.length) p want 0 (.slice none 0 0) (.slice none 0 0) (fun _ => 0) (w5.alloc (.cells #[.slice A p.length cap, .slice (some ⟨b, 0, none⟩) p.length p.length, .int .u32 want, .slice none 0 0, .int .u32 0, .slice (some ⟨w4.heap.size, 0, none⟩) p.length p.length] 108))) := Lib.hid (by
            refine ⟨HW5.out.alloc hz45 _, ?_, ?_, Own.nil_ _ _ _, fun i hi => by omega, fun i j hi => by omega, by omega, by omega, fun i hi => by omega⟩
            · rw [hT, hFB]; exact heap_alloc_new w5 _
            · rw [hFB]; exact (Below.heap_alloc w5 _ _ hF4).trans HF5.out)
          rw [← hT, ← hFB]
          rw [← hFB] at HB0
          have HTF : Hid (T = w5.heap.size ∧ FB = w4.heap.size) := Lib.hid ⟨hT, hFB⟩
          clear hT hFB HF5 HW5 hz45 hF4
          generalize w5.alloc (.cells #[.slice A p.length cap, .slice (some ⟨b, 0, none⟩) p.length p.length, .int .u32 want, .slice none 0 0, .int .u32 0, .slice (some ⟨FB, 0, none⟩) p.length p.length] 108) = w6 at *
          go_loopw [73] (fun i wr => ∃ (k : Nat) (v : Value) (R : Nat → Nat), k ≤ p.length ∧ i = .int .i64 k ∧ Hid (BX w4 T FB (.slice A p.length cap) (.slice (some ⟨b, 0, none⟩) p.length p.length) p want k v v R wr)) (fun i _ => p.length - (intOf i).toNat)
          case atStart => exact ⟨0, _, _, Nat.zero_le _, rfl, HB0⟩
          case round =>
            clear HB0
            obtain ⟨k, vc, R, hk, rfl, HB⟩ := hrel
            by_cases hlt : k < p.length
            · have Hlt := Lib.hid hlt
              have q1 : ((k : Nat) : Int) < ((p.length : Nat) : Int) := by omega
              obtain ⟨pb, off, A', cap', rfl, hpb, d0, d1, d2, d3, -⟩ := RdBk.at_ (HA4.out.below HB.out.bel) hlt
              have Hlc : Hid (lenC p k = p[k].code.length) := Lib.hid (congrArg (fun b : Blk => b.code.length) (bget hlt))
              have hcl : p[k].code.length ≤ 20 := by have := manyB_mem (List.getElem_mem hlt); have := HP.out.many; omega
              generalize p[k] = bk at *
              obtain ⟨code, test, thn, els⟩ := bk
              dsimp only at d0 d1 d2 d3 Hlc hcl
              go_upto_region 19 with fail
              obtain ⟨NB, hNB⟩ : ∃ NB, NB = wr.heap.size := ⟨_, rfl⟩
              have HB5 := Lib.hid (HB.out.alloc (.cells #[.slice A' code.length cap', .int .i64 test, .int .i64 thn, .int .i64 els] 25))
              have HNB : Hid ((wr.alloc (.cells #[.slice A' code.length cap', .int .i64 test, .int .i64 thn, .int .i64 els] 25)).heap[NB]? = some (.cells #[.slice A' code.length cap', .int .i64 test, .int .i64 thn, .int .i64 els] 25 (0, 0))) := Lib.hid (by rw [hNB]; exact heap_alloc_new wr _)
              have HN0 : Hid (∀ i, i < k → R i ≠ NB) := Lib.hid fun i hi e => by have := lt_cells (HB.out.rows i hi); omega
              rw [← hNB]
              have HNz := Lib.hid hNB
              clear HB hNB d0 d1 d2 d3 hpb hlt
              generalize wr.alloc (.cells #[.slice A' code.length cap', .int .i64 test, .int .i64 thn, .int .i64 els] 25) = w8 at *
              have hS0 : w8.drew.cell? ⟨NB, 0, none⟩ = some (.slice A' code.length cap') := by rw [cell_of_row w8.drew NB _ _ _ _ HNB.out]; rfl
              refine wp_region_held_drew (S := fun w' => w'.cell? ⟨NB, 0, none⟩ = some (.slice A' code.length cap')) (by kernel_rfl) hS0 (fun hH0 => ?_)
              have HB0 := Lib.hid HB5.out.drew
              have HNB : Hid (w8.drew.heap[NB]? = some (.cells #[.slice A' code.length cap', .int .i64 test, .int .i64 thn, .int .i64 els] 25 (0, 0))) := Lib.hid HNB.out
              clear HB5 hS0 HN0 HNz
              generalize w8.drew = w0 at *
              have Hne : Hid (∀ i, i < k → R i ≠ w0.heap.size) := Lib.hid fun i hi e => by have := lt_cells (HB0.out.rows i hi); omega
              refine wpAnyH_take (i := 0) (oi := { dst := some 77, op := Go.Op.move (Go.Operand.tmp 18), type := 104, pos := "cut.go:97", after := #[], guard := none }) rfl (by kernel_rfl) (by kernel_rfl) (by kernel_rfl) (fun _ _ _ h => h) (Or.inl ⟨by rfl, fun w hw => by (have p1 := hw; go_simp; try with_reducible rfl)⟩) (by assumption) ?_
              try simp only [Act.put, List.setIfInBounds_toArray, List.set_cons_zero, List.set_cons_succ]
              refine wpAnyH_take (i := 1) (oi := { dst := some 78, op := Go.Op.move (Go.Operand.tmp 18), type := 104, pos := "cut.go:97", after := #[], guard := none }) rfl (by kernel_rfl) (by kernel_rfl) (by kernel_rfl) (fun _ _ _ h => h) (Or.inl ⟨by rfl, fun w hw => by (have p1 := hw; go_simp; try with_reducible rfl)⟩) (by assumption) ?_
              try simp only [Act.put, List.setIfInBounds_toArray, List.set_cons_zero, List.set_cons_succ]
              refine wpAnyH_take (i := 2) (oi := { dst := some 79, op := Go.Op.nilCheck (Go.Operand.tmp 78), type := 0, pos := "cut.go:97", after := #[{ on := 1, ground := Go.Ground.data }], guard := none }) rfl (by kernel_rfl) (by kernel_rfl) (by kernel_rfl) (fun _ _ _ h => h) (Or.inl ⟨by rfl, fun w hw => by (have p1 := hw; go_simp; try with_reducible rfl)⟩) (by assumption) ?_
              try simp only [Act.put, List.setIfInBounds_toArray, List.set_cons_zero, List.set_cons_succ]
              refine wpAnyH_take (i := 3) (oi := { dst := some 80, op := Go.Op.fieldAddr 108 (Go.Operand.tmp 79) 3, type := 0, pos := "cut.go:97", after := #[{ on := 2, ground := Go.Ground.data }], guard := none }) rfl (by kernel_rfl) (by kernel_rfl) (by kernel_rfl) (fun _ _ _ h => h) (Or.inl ⟨by rfl, fun w hw => by (have p1 := hw; go_simp; try with_reducible rfl)⟩) (by assumption) ?_
              try simp only [Act.put, List.setIfInBounds_toArray, List.set_cons_zero, List.set_cons_succ]
              refine wpAnyH_take (i := 5) (oi := { dst := some 82, op := Go.Op.fieldAddr 25 (Go.Operand.tmp 20) 0, type := 0, pos := "cut.go:97", after := #[], guard := none }) rfl (by kernel_rfl) (by kernel_rfl) (by kernel_rfl) (fun _ _ _ h => h) (Or.inl ⟨by rfl, fun w hw => by (have p1 := hw; go_simp; try with_reducible rfl)⟩) (by assumption) ?_
              try simp only [Act.put, List.setIfInBounds_toArray, List.set_cons_zero, List.set_cons_succ]
              refine wpAnyH_take (i := 6) (oi := { dst := some 83, op := Go.Op.load 22 (Go.Operand.tmp 82), type := 22, pos := "cut.go:97", after := #[{ on := 5, ground := Go.Ground.data }], guard := none }) rfl (by kernel_rfl) (by kernel_rfl) (by kernel_rfl) (fun _ _ _ h => h) (Or.inl ⟨by rfl, fun w hw => by (have p1 := hw; go_simp; try with_reducible rfl)⟩) (by assumption) ?_
              try simp only [Act.put, List.setIfInBounds_toArray, List.set_cons_zero, List.set_cons_succ]
              refine wpAnyH_take (i := 7) (oi := { dst := some 84, op := Go.Op.call { callee := Go.Callee.builtin Go.Builtin.len, args := #[Go.Operand.tmp 83], argTypes := #[22] }, type := 3, pos := "cut.go:97", after := #[{ on := 6, ground := Go.Ground.data }], guard := none }) rfl (by kernel_rfl) (by kernel_rfl) (by kernel_rfl) (fun _ _ _ h => h) (Or.inl ⟨by rfl, fun w hw => by (have p1 := hw; go_simp; try with_reducible rfl)⟩) (by assumption) ?_
              try simp only [Act.put, List.setIfInBounds_toArray, List.set_cons_zero, List.set_cons_succ]
              refine wpAnyH_ready (rs := [4, 8]) (by kernel_rfl) (by simp) ?_
              refine AllReadyH.cons (o := { dst := some 81, op := Go.Op.load 67 (Go.Operand.tmp 80), type := 67, pos := "cut.go:97", after := #[{ on := 3, ground := Go.Ground.data }], guard := none }) rfl (fun K hK => ?_) ?_
              · have c9 := HB0.out.at3.1
                go_simp
                clear c9
                refine hK.out _ _ hH0 (fun hH1 => ?_)
                clear hK hH0
                have hH0 := hH1
                clear hH1
                try simp only [Act.put, List.setIfInBounds_toArray, List.set_cons_zero, List.set_cons_succ]
                refine wpAnyH_ready (rs := [8]) (by kernel_rfl) (by simp) ?_
                refine AllReadyH.cons (o := { dst := some 85, op := Go.Op.makeSlice 71 (Go.Operand.tmp 84) (Go.Operand.tmp 84), type := 71, pos := "cut.go:97", after := #[{ on := 7, ground := Go.Ground.data }, { on := 7, ground := Go.Ground.data }], guard := none }) rfl (fun K hK => ?_) AllReadyH.nil
                try rw [if_pos (by rfl)]
                refine wp_makeBo _ _ rfl w4.heap.size code.length rfl rfl (by omega) HB0.out.bel.size ?_
                intro wb hOb hg
                have Hrow : Hid (wb.heap[w0.heap.size]? = some (.cells ((List.replicate (lenC p k) false).map Value.bool).toArray 4 (0, 0))) := Lib.hid (by rw [Hlc.out]; refine own_raw (base := w4.heap.size) ?_; rw [List.length_replicate]; exact hOb)
                have HB1 := Lib.hid (HB0.out.made hg)
                have HNb := Lib.hid ((hg.block NB (lt_cells HNB.out) (by simp)).trans HNB.out)
                have hzb : w0.heap.size < wb.heap.size := lt_cells Hrow.out
                refine hK.out _ _ (by rw [cell_of_row wb NB _ _ _ _ HNb.out]; rfl) (fun hH1 => ?_)
                clear hg hOb
                clear hK hH0
                have hH0 := hH1
                clear hH1
                try simp only [Act.put, List.setIfInBounds_toArray, List.set_cons_zero, List.set_cons_succ]
                refine wpAnyH_ready (rs := [9]) (by kernel_rfl) (by simp) ?_
                refine AllReadyH.cons (o := { dst := some 86, op := Go.Op.buildSlice 67 1 #[(0, Go.Operand.tmp 85)], type := 67, pos := "cut.go:97", after := #[{ on := 8, ground := Go.Ground.data }], guard := none }) rfl (fun K hK => ?_) AllReadyH.nil
                try rw [if_pos (by rfl)]
                go_simp
                have HB2 := Lib.hid (HB1.out.alloc (.cells #[.slice (some ⟨w0.heap.size, 0, none⟩) code.length code.length] 71))
                have hc2 : (wb.alloc (.cells #[.slice (some ⟨w0.heap.size, 0, none⟩) code.length code.length] 71)).cell? ⟨wb.heap.size, 0, none⟩ = some (.slice (some ⟨w0.heap.size, 0, none⟩) code.length code.length) := cell_new wb _ _ _ rfl 0
                have Hrow2 := Lib.hid ((Below.heap_alloc wb (.cells #[.slice (some ⟨w0.heap.size, 0, none⟩) code.length code.length] 71) w0.heap.size hzb).trans Hrow.out)
                have HNc := Lib.hid ((Below.heap_alloc wb (.cells #[.slice (some ⟨w0.heap.size, 0, none⟩) code.length code.length] 71) NB (lt_cells HNb.out)).trans HNb.out)
                refine hK.out _ _ (by rw [cell_of_row _ NB _ _ _ _ HNc.out]; rfl) (fun hH1 => ?_)
                generalize wb.alloc (.cells #[.slice (some ⟨w0.heap.size, 0, none⟩) code.length code.length] 71) = wc at *
                clear hK hH0
                have hH0 := hH1
                clear hH1
                try simp only [Act.put, List.setIfInBounds_toArray, List.set_cons_zero, List.set_cons_succ]
                refine wpAnyH_ready (rs := [10]) (by kernel_rfl) (by simp) ?_
                refine AllReadyH.cons (o := { dst := some 87, op := Go.Op.call { callee := Go.Callee.builtin Go.Builtin.append, args := #[Go.Operand.tmp 81, Go.Operand.tmp 86], argTypes := #[67, 67] }, type := 67, pos := "cut.go:97", after := #[{ on := 4, ground := Go.Ground.data }, { on := 9, ground := Go.Ground.data }], guard := none }) rfl (fun K hK => ?_) AllReadyH.nil
                obtain ⟨v3, w5, hrun, hown, hgrow, hat⟩ := run_app1 (P := Try.prog) (w := wc) 67 67 bsV 1 24 71 (.slice none 0 0) Try.underlying67 infoBs rfl (by decide) bsV_len bsV_one (T + 1) vc _ (w0.heap.size, lenC p k) HB2.out.own wb.heap.size 1 (fun j hj => by obtain rfl : j = 0 := (by omega); rw [hc2, Hlc.out]; rfl) (by unfold maxLen; simp; omega) (by simp; omega) (by have := lt_cells HB2.out.hT; omega)
                obtain ⟨g3, d3, rfl⟩ : ∃ g3 d3, v3 = .slice (some ⟨g3, 0, none⟩) (k + 1) d3 := by obtain ⟨g3, d3, e3, -⟩ := Own.some_ hown (by simp); exact ⟨g3, d3, by rw [e3]; simp⟩
                try rw [if_pos (by rfl)]
                refine wp_app_run 67 _ _ rfl rfl rfl hrun ?_
                have HB3 := Lib.hid (HB2.out.push Hrow2.out Hne.out (by have := HB0.out.bel.size; omega) hown hgrow)
                have HNe : Hid (w5.heap[NB]? = some (.cells #[.slice A' code.length cap', .int .i64 test, .int .i64 thn, .int .i64 els] 25 (0, 0))) := Lib.hid ((hgrow.block NB (lt_cells HNc.out) (fun e => by obtain ⟨cur, hc⟩ := own_ty HB2.out.own e.symm; rw [HNc.out] at hc; injection hc with hc; injection hc with _ hc; exact absurd hc (by decide))).trans HNc.out)
                have HNd : Hid (w5.cell? ⟨NB, 0, none⟩ = some (.slice A' code.length cap')) := Lib.hid (by rw [cell_of_row w5 NB _ _ _ _ HNe.out]; rfl)
                refine hK.out _ _ HNd.out (fun hH1 => ?_)
                clear hrun hown hgrow hat hc2
                clear hK hH0
                have hH0 := hH1
                clear hH1
                try simp only [Act.put, List.setIfInBounds_toArray, List.set_cons_zero, List.set_cons_succ]
                refine wpAnyH_take (i := 11) (oi := { dst := some 88, op := Go.Op.nilCheck (Go.Operand.tmp 77), type := 0, pos := "cut.go:97", after := #[{ on := 0, ground := Go.Ground.data }, { on := 0, ground := Go.Ground.phase }, { on := 1, ground := Go.Ground.phase }, { on := 2, ground := Go.Ground.phase }, { on := 3, ground := Go.Ground.phase }, { on := 4, ground := Go.Ground.phase }, { on := 5, ground := Go.Ground.phase }, { on := 6, ground := Go.Ground.phase }, { on := 7, ground := Go.Ground.phase }, { on := 8, ground := Go.Ground.phase }, { on := 9, ground := Go.Ground.phase }, { on := 10, ground := Go.Ground.phase }], guard := none }) rfl (by kernel_rfl) (by kernel_rfl) (by kernel_rfl) (fun _ _ _ h => h) (Or.inl ⟨by rfl, fun w hw => by (go_simp; try with_reducible rfl)⟩) (by assumption) ?_
                try simp only [Act.put, List.setIfInBounds_toArray, List.set_cons_zero, List.set_cons_succ]
                refine wpAnyH_take (i := 12) (oi := { dst := some 89, op := Go.Op.fieldAddr 108 (Go.Operand.tmp 88) 3, type := 0, pos := "cut.go:97", after := #[{ on := 11, ground := Go.Ground.data }, { on := 0, ground := Go.Ground.phase }, { on := 1, ground := Go.Ground.phase }, { on := 2, ground := Go.Ground.phase }, { on := 3, ground := Go.Ground.phase }, { on := 4, ground := Go.Ground.phase }, { on := 5, ground := Go.Ground.phase }, { on := 6, ground := Go.Ground.phase }, { on := 7, ground := Go.Ground.phase }, { on := 8, ground := Go.Ground.phase }, { on := 9, ground := Go.Ground.phase }, { on := 10, ground := Go.Ground.phase }], guard := none }) rfl (by kernel_rfl) (by kernel_rfl) (by kernel_rfl) (fun _ _ _ h => h) (Or.inl ⟨by rfl, fun w hw => by (go_simp; try with_reducible rfl)⟩) (by assumption) ?_
                try simp only [Act.put, List.setIfInBounds_toArray, List.set_cons_zero, List.set_cons_succ]
                refine wpAnyH_ready (rs := [13]) (by kernel_rfl) (by simp) ?_
                refine AllReadyH.cons (o := { dst := none, op := Go.Op.store 67 (Go.Operand.tmp 89) (Go.Operand.tmp 87), type := 0, pos := "cut.go:97", after := #[{ on := 12, ground := Go.Ground.data }, { on := 10, ground := Go.Ground.data }, { on := 10, ground := Go.Ground.chain }, { on := 0, ground := Go.Ground.phase }, { on := 1, ground := Go.Ground.phase }, { on := 2, ground := Go.Ground.phase }, { on := 3, ground := Go.Ground.phase }, { on := 4, ground := Go.Ground.phase }, { on := 5, ground := Go.Ground.phase }, { on := 6, ground := Go.Ground.phase }, { on := 7, ground := Go.Ground.phase }, { on := 8, ground := Go.Ground.phase }, { on := 9, ground := Go.Ground.phase }, { on := 10, ground := Go.Ground.phase }], guard := none }) rfl (fun K hK => ?_) AllReadyH.nil
                have cc := HB3.out.at3.1
                have ff := HB3.out.at3.2
                go_simp
                clear cc ff
                have HB4 := Lib.hid HB3.out.setT
                refine hK.out _ _ (cell_far (ty_ne HNe.out HB3.out.hT (by decide)).symm hH0) (fun hH1 => ?_)
                try simp only [Act.put, List.setIfInBounds_toArray, List.set_cons_zero, List.set_cons_succ]
                refine wpAnyH_done (by kernel_rfl) ?_ _
                clear hK hH0 hH1
                go_wp2
                go_roundw
                case rel => exact ⟨k + 1, _, _, by have := Hlt.out; omega, by go_num, HB4⟩
                case measure => simp [intOf]; omega
              refine AllReadyH.cons (o := { dst := some 85, op := Go.Op.makeSlice 71 (Go.Operand.tmp 84) (Go.Operand.tmp 84), type := 71, pos := "cut.go:97", after := #[{ on := 7, ground := Go.Ground.data }, { on := 7, ground := Go.Ground.data }], guard := none }) rfl (fun K hK => ?_) AllReadyH.nil
              try rw [if_pos (by rfl)]
              refine wp_makeBo _ _ rfl w4.heap.size code.length rfl rfl (by omega) HB0.out.bel.size ?_
              intro wb hOb hg
              have Hrow : Hid (wb.heap[w0.heap.size]? = some (.cells ((List.replicate (lenC p k) false).map Value.bool).toArray 4 (0, 0))) := Lib.hid (by rw [Hlc.out]; refine own_raw (base := w4.heap.size) ?_; rw [List.length_replicate]; exact hOb)
              have HB1 := Lib.hid (HB0.out.made hg)
              have HNb := Lib.hid ((hg.block NB (lt_cells HNB.out) (by simp)).trans HNB.out)
              have hzb : w0.heap.size < wb.heap.size := lt_cells Hrow.out
              refine hK.out _ _ (by rw [cell_of_row wb NB _ _ _ _ HNb.out]; rfl) (fun hH1 => ?_)
              clear hg hOb
              clear hK hH0
              have hH0 := hH1
              clear hH1
              try simp only [Act.put, List.setIfInBounds_toArray, List.set_cons_zero, List.set_cons_succ]
              refine wpAnyH_ready (rs := [4, 9]) (by kernel_rfl) (by simp) ?_
              refine AllReadyH.cons (o := { dst := some 81, op := Go.Op.load 67 (Go.Operand.tmp 80), type := 67, pos := "cut.go:97", after := #[{ on := 3, ground := Go.Ground.data }], guard := none }) rfl (fun K hK => ?_) ?_
              · have c9 := HB1.out.at3.1
                go_simp
                clear c9
                refine hK.out _ _ hH0 (fun hH1 => ?_)
                clear hK hH0
                have hH0 := hH1
                clear hH1
                try simp only [Act.put, List.setIfInBounds_toArray, List.set_cons_zero, List.set_cons_succ]
                refine wpAnyH_ready (rs := [9]) (by kernel_rfl) (by simp) ?_
                refine AllReadyH.cons (o := { dst := some 86, op := Go.Op.buildSlice 67 1 #[(0, Go.Operand.tmp 85)], type := 67, pos := "cut.go:97", after := #[{ on := 8, ground := Go.Ground.data }], guard := none }) rfl (fun K hK => ?_) AllReadyH.nil
                try rw [if_pos (by rfl)]
                go_simp
                have HB2 := Lib.hid (HB1.out.alloc (.cells #[.slice (some ⟨w0.heap.size, 0, none⟩) code.length code.length] 71))
                have hc2 : (wb.alloc (.cells #[.slice (some ⟨w0.heap.size, 0, none⟩) code.length code.length] 71)).cell? ⟨wb.heap.size, 0, none⟩ = some (.slice (some ⟨w0.heap.size, 0, none⟩) code.length code.length) := cell_new wb _ _ _ rfl 0
                have Hrow2 := Lib.hid ((Below.heap_alloc wb (.cells #[.slice (some ⟨w0.heap.size, 0, none⟩) code.length code.length] 71) w0.heap.size hzb).trans Hrow.out)
                have HNc := Lib.hid ((Below.heap_alloc wb (.cells #[.slice (some ⟨w0.heap.size, 0, none⟩) code.length code.length] 71) NB (lt_cells HNb.out)).trans HNb.out)
                refine hK.out _ _ (by rw [cell_of_row _ NB _ _ _ _ HNc.out]; rfl) (fun hH1 => ?_)
                generalize wb.alloc (.cells #[.slice (some ⟨w0.heap.size, 0, none⟩) code.length code.length] 71) = wc at *
                clear hK hH0
                have hH0 := hH1
                clear hH1
                try simp only [Act.put, List.setIfInBounds_toArray, List.set_cons_zero, List.set_cons_succ]
                refine wpAnyH_ready (rs := [10]) (by kernel_rfl) (by simp) ?_
                refine AllReadyH.cons (o := { dst := some 87, op := Go.Op.call { callee := Go.Callee.builtin Go.Builtin.append, args := #[Go.Operand.tmp 81, Go.Operand.tmp 86], argTypes := #[67, 67] }, type := 67, pos := "cut.go:97", after := #[{ on := 4, ground := Go.Ground.data }, { on := 9, ground := Go.Ground.data }], guard := none }) rfl (fun K hK => ?_) AllReadyH.nil
                obtain ⟨v3, w5, hrun, hown, hgrow, hat⟩ := run_app1 (P := Try.prog) (w := wc) 67 67 bsV 1 24 71 (.slice none 0 0) Try.underlying67 infoBs rfl (by decide) bsV_len bsV_one (T + 1) vc _ (w0.heap.size, lenC p k) HB2.out.own wb.heap.size 1 (fun j hj => by obtain rfl : j = 0 := (by omega); rw [hc2, Hlc.out]; rfl) (by unfold maxLen; simp; omega) (by simp; omega) (by have := lt_cells HB2.out.hT; omega)
                obtain ⟨g3, d3, rfl⟩ : ∃ g3 d3, v3 = .slice (some ⟨g3, 0, none⟩) (k + 1) d3 := by obtain ⟨g3, d3, e3, -⟩ := Own.some_ hown (by simp); exact ⟨g3, d3, by rw [e3]; simp⟩
                try rw [if_pos (by rfl)]
                refine wp_app_run 67 _ _ rfl rfl rfl hrun ?_
                have HB3 := Lib.hid (HB2.out.push Hrow2.out Hne.out (by have := HB0.out.bel.size; omega) hown hgrow)
                have HNe : Hid (w5.heap[NB]? = some (.cells #[.slice A' code.length cap', .int .i64 test, .int .i64 thn, .int .i64 els] 25 (0, 0))) := Lib.hid ((hgrow.block NB (lt_cells HNc.out) (fun e => by obtain ⟨cur, hc⟩ := own_ty HB2.out.own e.symm; rw [HNc.out] at hc; injection hc with hc; injection hc with _ hc; exact absurd hc (by decide))).trans HNc.out)
                have HNd : Hid (w5.cell? ⟨NB, 0, none⟩ = some (.slice A' code.length cap')) := Lib.hid (by rw [cell_of_row w5 NB _ _ _ _ HNe.out]; rfl)
                refine hK.out _ _ HNd.out (fun hH1 => ?_)
                clear hrun hown hgrow hat hc2
                clear hK hH0
                have hH0 := hH1
                clear hH1
                try simp only [Act.put, List.setIfInBounds_toArray, List.set_cons_zero, List.set_cons_succ]
                refine wpAnyH_take (i := 11) (oi := { dst := some 88, op := Go.Op.nilCheck (Go.Operand.tmp 77), type := 0, pos := "cut.go:97", after := #[{ on := 0, ground := Go.Ground.data }, { on := 0, ground := Go.Ground.phase }, { on := 1, ground := Go.Ground.phase }, { on := 2, ground := Go.Ground.phase }, { on := 3, ground := Go.Ground.phase }, { on := 4, ground := Go.Ground.phase }, { on := 5, ground := Go.Ground.phase }, { on := 6, ground := Go.Ground.phase }, { on := 7, ground := Go.Ground.phase }, { on := 8, ground := Go.Ground.phase }, { on := 9, ground := Go.Ground.phase }, { on := 10, ground := Go.Ground.phase }], guard := none }) rfl (by kernel_rfl) (by kernel_rfl) (by kernel_rfl) (fun _ _ _ h => h) (Or.inl ⟨by rfl, fun w hw => by (go_simp; try with_reducible rfl)⟩) (by assumption) ?_
                try simp only [Act.put, List.setIfInBounds_toArray, List.set_cons_zero, List.set_cons_succ]
                refine wpAnyH_take (i := 12) (oi := { dst := some 89, op := Go.Op.fieldAddr 108 (Go.Operand.tmp 88) 3, type := 0, pos := "cut.go:97", after := #[{ on := 11, ground := Go.Ground.data }, { on := 0, ground := Go.Ground.phase }, { on := 1, ground := Go.Ground.phase }, { on := 2, ground := Go.Ground.phase }, { on := 3, ground := Go.Ground.phase }, { on := 4, ground := Go.Ground.phase }, { on := 5, ground := Go.Ground.phase }, { on := 6, ground := Go.Ground.phase }, { on := 7, ground := Go.Ground.phase }, { on := 8, ground := Go.Ground.phase }, { on := 9, ground := Go.Ground.phase }, { on := 10, ground := Go.Ground.phase }], guard := none }) rfl (by kernel_rfl) (by kernel_rfl) (by kernel_rfl) (fun _ _ _ h => h) (Or.inl ⟨by rfl, fun w hw => by (go_simp; try with_reducible rfl)⟩) (by assumption) ?_
                try simp only [Act.put, List.setIfInBounds_toArray, List.set_cons_zero, List.set_cons_succ]
                refine wpAnyH_ready (rs := [13]) (by kernel_rfl) (by simp) ?_
                refine AllReadyH.cons (o := { dst := none, op := Go.Op.store 67 (Go.Operand.tmp 89) (Go.Operand.tmp 87), type := 0, pos := "cut.go:97", after := #[{ on := 12, ground := Go.Ground.data }, { on := 10, ground := Go.Ground.data }, { on := 10, ground := Go.Ground.chain }, { on := 0, ground := Go.Ground.phase }, { on := 1, ground := Go.Ground.phase }, { on := 2, ground := Go.Ground.phase }, { on := 3, ground := Go.Ground.phase }, { on := 4, ground := Go.Ground.phase }, { on := 5, ground := Go.Ground.phase }, { on := 6, ground := Go.Ground.phase }, { on := 7, ground := Go.Ground.phase }, { on := 8, ground := Go.Ground.phase }, { on := 9, ground := Go.Ground.phase }, { on := 10, ground := Go.Ground.phase }], guard := none }) rfl (fun K hK => ?_) AllReadyH.nil
                have cc := HB3.out.at3.1
                have ff := HB3.out.at3.2
                go_simp
                clear cc ff
                have HB4 := Lib.hid HB3.out.setT
                refine hK.out _ _ (cell_far (ty_ne HNe.out HB3.out.hT (by decide)).symm hH0) (fun hH1 => ?_)
                try simp only [Act.put, List.setIfInBounds_toArray, List.set_cons_zero, List.set_cons_succ]
                refine wpAnyH_done (by kernel_rfl) ?_ _
                clear hK hH0 hH1
                go_wp2
                go_roundw
                case rel => exact ⟨k + 1, _, _, by have := Hlt.out; omega, by go_num, HB4⟩
                case measure => simp [intOf]; omega
              refine AllReadyH.cons (o := { dst := some 86, op := Go.Op.buildSlice 67 1 #[(0, Go.Operand.tmp 85)], type := 67, pos := "cut.go:97", after := #[{ on := 8, ground := Go.Ground.data }], guard := none }) rfl (fun K hK => ?_) AllReadyH.nil
              try rw [if_pos (by rfl)]
              go_simp
              have HB2 := Lib.hid (HB1.out.alloc (.cells #[.slice (some ⟨w0.heap.size, 0, none⟩) code.length code.length] 71))
              have hc2 : (wb.alloc (.cells #[.slice (some ⟨w0.heap.size, 0, none⟩) code.length code.length] 71)).cell? ⟨wb.heap.size, 0, none⟩ = some (.slice (some ⟨w0.heap.size, 0, none⟩) code.length code.length) := cell_new wb _ _ _ rfl 0
              have Hrow2 := Lib.hid ((Below.heap_alloc wb (.cells #[.slice (some ⟨w0.heap.size, 0, none⟩) code.length code.length] 71) w0.heap.size hzb).trans Hrow.out)
              have HNc := Lib.hid ((Below.heap_alloc wb (.cells #[.slice (some ⟨w0.heap.size, 0, none⟩) code.length code.length] 71) NB (lt_cells HNb.out)).trans HNb.out)
              refine hK.out _ _ (by rw [cell_of_row _ NB _ _ _ _ HNc.out]; rfl) (fun hH1 => ?_)
              generalize wb.alloc (.cells #[.slice (some ⟨w0.heap.size, 0, none⟩) code.length code.length] 71) = wc at *
              clear hK hH0
              have hH0 := hH1
              clear hH1
              try simp only [Act.put, List.setIfInBounds_toArray, List.set_cons_zero, List.set_cons_succ]
              refine wpAnyH_ready (rs := [4]) (by kernel_rfl) (by simp) ?_
              refine AllReadyH.cons (o := { dst := some 81, op := Go.Op.load 67 (Go.Operand.tmp 80), type := 67, pos := "cut.go:97", after := #[{ on := 3, ground := Go.Ground.data }], guard := none }) rfl (fun K hK => ?_) AllReadyH.nil
              have c9 := HB2.out.at3.1
              go_simp
              clear c9
              refine hK.out _ _ hH0 (fun hH1 => ?_)
              clear hK hH0
              have hH0 := hH1
              clear hH1
              try simp only [Act.put, List.setIfInBounds_toArray, List.set_cons_zero, List.set_cons_succ]
              refine wpAnyH_ready (rs := [10]) (by kernel_rfl) (by simp) ?_
              refine AllReadyH.cons (o := { dst := some 87, op := Go.Op.call { callee := Go.Callee.builtin Go.Builtin.append, args := #[Go.Operand.tmp 81, Go.Operand.tmp 86], argTypes := #[67, 67] }, type := 67, pos := "cut.go:97", after := #[{ on := 4, ground := Go.Ground.data }, { on := 9, ground := Go.Ground.data }], guard := none }) rfl (fun K hK => ?_) AllReadyH.nil
              obtain ⟨v3, w5, hrun, hown, hgrow, hat⟩ := run_app1 (P := Try.prog) (w := wc) 67 67 bsV 1 24 71 (.slice none 0 0) Try.underlying67 infoBs rfl (by decide) bsV_len bsV_one (T + 1) vc _ (w0.heap.size, lenC p k) HB2.out.own wb.heap.size 1 (fun j hj => by obtain rfl : j = 0 := (by omega); rw [hc2, Hlc.out]; rfl) (by unfold maxLen; simp; omega) (by simp; omega) (by have := lt_cells HB2.out.hT; omega)
              obtain ⟨g3, d3, rfl⟩ : ∃ g3 d3, v3 = .slice (some ⟨g3, 0, none⟩) (k + 1) d3 := by obtain ⟨g3, d3, e3, -⟩ := Own.some_ hown (by simp); exact ⟨g3, d3, by rw [e3]; simp⟩
              try rw [if_pos (by rfl)]
              refine wp_app_run 67 _ _ rfl rfl rfl hrun ?_
              have HB3 := Lib.hid (HB2.out.push Hrow2.out Hne.out (by have := HB0.out.bel.size; omega) hown hgrow)
              have HNe : Hid (w5.heap[NB]? = some (.cells #[.slice A' code.length cap', .int .i64 test, .int .i64 thn, .int .i64 els] 25 (0, 0))) := Lib.hid ((hgrow.block NB (lt_cells HNc.out) (fun e => by obtain ⟨cur, hc⟩ := own_ty HB2.out.own e.symm; rw [HNc.out] at hc; injection hc with hc; injection hc with _ hc; exact absurd hc (by decide))).trans HNc.out)
              have HNd : Hid (w5.cell? ⟨NB, 0, none⟩ = some (.slice A' code.length cap')) := Lib.hid (by rw [cell_of_row w5 NB _ _ _ _ HNe.out]; rfl)
              refine hK.out _ _ HNd.out (fun hH1 => ?_)
              clear hrun hown hgrow hat hc2
              clear hK hH0
              have hH0 := hH1
              clear hH1
              try simp only [Act.put, List.setIfInBounds_toArray, List.set_cons_zero, List.set_cons_succ]
              refine wpAnyH_take (i := 11) (oi := { dst := some 88, op := Go.Op.nilCheck (Go.Operand.tmp 77), type := 0, pos := "cut.go:97", after := #[{ on := 0, ground := Go.Ground.data }, { on := 0, ground := Go.Ground.phase }, { on := 1, ground := Go.Ground.phase }, { on := 2, ground := Go.Ground.phase }, { on := 3, ground := Go.Ground.phase }, { on := 4, ground := Go.Ground.phase }, { on := 5, ground := Go.Ground.phase }, { on := 6, ground := Go.Ground.phase }, { on := 7, ground := Go.Ground.phase }, { on := 8, ground := Go.Ground.phase }, { on := 9, ground := Go.Ground.phase }, { on := 10, ground := Go.Ground.phase }], guard := none }) rfl (by kernel_rfl) (by kernel_rfl) (by kernel_rfl) (fun _ _ _ h => h) (Or.inl ⟨by rfl, fun w hw => by (go_simp; try with_reducible rfl)⟩) (by assumption) ?_
              try simp only [Act.put, List.setIfInBounds_toArray, List.set_cons_zero, List.set_cons_succ]
              refine wpAnyH_take (i := 12) (oi := { dst := some 89, op := Go.Op.fieldAddr 108 (Go.Operand.tmp 88) 3, type := 0, pos := "cut.go:97", after := #[{ on := 11, ground := Go.Ground.data }, { on := 0, ground := Go.Ground.phase }, { on := 1, ground := Go.Ground.phase }, { on := 2, ground := Go.Ground.phase }, { on := 3, ground := Go.Ground.phase }, { on := 4, ground := Go.Ground.phase }, { on := 5, ground := Go.Ground.phase }, { on := 6, ground := Go.Ground.phase }, { on := 7, ground := Go.Ground.phase }, { on := 8, ground := Go.Ground.phase }, { on := 9, ground := Go.Ground.phase }, { on := 10, ground := Go.Ground.phase }], guard := none }) rfl (by kernel_rfl) (by kernel_rfl) (by kernel_rfl) (fun _ _ _ h => h) (Or.inl ⟨by rfl, fun w hw => by (go_simp; try with_reducible rfl)⟩) (by assumption) ?_
              try simp only [Act.put, List.setIfInBounds_toArray, List.set_cons_zero, List.set_cons_succ]
              refine wpAnyH_ready (rs := [13]) (by kernel_rfl) (by simp) ?_
              refine AllReadyH.cons (o := { dst := none, op := Go.Op.store 67 (Go.Operand.tmp 89) (Go.Operand.tmp 87), type := 0, pos := "cut.go:97", after := #[{ on := 12, ground := Go.Ground.data }, { on := 10, ground := Go.Ground.data }, { on := 10, ground := Go.Ground.chain }, { on := 0, ground := Go.Ground.phase }, { on := 1, ground := Go.Ground.phase }, { on := 2, ground := Go.Ground.phase }, { on := 3, ground := Go.Ground.phase }, { on := 4, ground := Go.Ground.phase }, { on := 5, ground := Go.Ground.phase }, { on := 6, ground := Go.Ground.phase }, { on := 7, ground := Go.Ground.phase }, { on := 8, ground := Go.Ground.phase }, { on := 9, ground := Go.Ground.phase }, { on := 10, ground := Go.Ground.phase }], guard := none }) rfl (fun K hK => ?_) AllReadyH.nil
              have cc := HB3.out.at3.1
              have ff := HB3.out.at3.2
              go_simp
              clear cc ff
              have HB4 := Lib.hid HB3.out.setT
              refine hK.out _ _ (cell_far (ty_ne HNe.out HB3.out.hT (by decide)).symm hH0) (fun hH1 => ?_)
              try simp only [Act.put, List.setIfInBounds_toArray, List.set_cons_zero, List.set_cons_succ]
              refine wpAnyH_done (by kernel_rfl) ?_ _
              clear hK hH0 hH1
              go_wp2
              go_roundw
              case rel => exact ⟨k + 1, _, _, by have := Hlt.out; omega, by go_num, HB4⟩
              case measure => simp [intOf]; omega

            · have hkp : k = p.length := by omega
              subst hkp
              have hll2 : ¬ ((p.length : Int) < (p.length : Int)) := by omega
              obtain ⟨SB, cS, rfl, hSX⟩ := HB.out.done (n := n) (on := getU (W.onL (nexts p))) hn1
              have HSX := Lib.hid hSX
              have hOr : RdU w4 (some ⟨og, 0, none⟩) (W.onL (nexts p)) := by obtain ⟨A9, c9, e9, h9⟩ := OwnU.rd HOo.out; injection e9 with e9; rw [e9]; exact h9
              have Hs0 := cutSolve_calls n A (some ⟨b, 0, none⟩) (some ⟨og, 0, none⟩) p (W.onL (nexts p)) cap p.length oc w4 wr T SB FB R cS want 0 _ _ hSX HA4.out HR4.out hOr Hol.out (onL_lt _) HP.out H1.out
              rw [Hol.out] at Hs0
              have Hs := Lib.hid Hs0
              clear hSX hOr Hs0 hlt hk
              go_wp2_with (go_at_call 80; refine Hs.out.mono ?_; rintro e w9 ⟨⟨vv, rfl⟩, t, F, B, hX, hC⟩; have HX := Lib.hid hX; have HC := Lib.hid hC; clear hX hC)
              go_ret3
              exact .inr ⟨H0.out, H1.out, T, SB, FB, R, b, cS, t, F, B, _, rfl, HX.out.base_ HW4.out, HC.out, by rw [Hle.out]; exact (HO4.out.below HX.out.bel).base_ (by have := HW1.out.size; omega)⟩
    · have h2 : want >>> n ≠ 0 := fun e => h1 (hz.1 e)
      have q : (((want >>> n : Nat) : Int) != 0) = true := by rw [bne_iff_ne]; omega
      clear hz h1 h2
      generalize want >>> n = x at *
      go_enter Try.func64, Try.ntmps64
      go_wp2_with (go_at_call 18; refine Hway.out.mono ?_; rintro e w1 ⟨b, rfl, hR, hW⟩; have HW1 := Lib.hid hW; clear hW hR)
      go_ret3
      exact .inl ⟨4, by decide, rfl, HW1.out⟩
  · exact (build_bad (n : Int) A p cap want w hA hm hmc h0).mono fun e w' h => .inl h
end Go.Proofs.Ytadmmciiahdmcaa
