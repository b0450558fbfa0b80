/- slices.ContainsFunc with span.In's closure; the state of span.In. -/
import Derived.Test.YtadmmciiahdmcaaSpD
import Derived.Test.YtadmmciiahdmcaaSpF
import Derived.Test.YtadmmciiahdmcaaBlkC
import Derived.Test.YtadmmciiahdmcaaTurnG
import Derived.Test.YtadmmciiahdmcaaHaveB
namespace Go.Proofs.Ytadmmciiahdmcaa
set_option maxRecDepth 100000
open Go.RowKit

def badS (s : Sp) : Bool := !decide (0 ≤ s.1 ∧ s.1 ≤ s.2 ∧ s.2 ≤ 255)
set_option maxHeartbeats 400000 in
theorem closureS_calls (s : Sp) (w : World) : Calls Try.prog 60 #[spanV s.1 s.2] w fun e w' => e = .returned (.bool (badS s)) ∧ Below w.heap.size w w' := by
  obtain ⟨lo, hi⟩ := s
  have hz : (w.alloc (.cells #[.int .i64 lo, .int .i64 hi] 65)).heap.size = w.heap.size + 1 := by simp
  have Hwa := Lib.hid ((Below.refl w.heap.size w).alloc (Nat.le_refl _) (.cells #[.int .i64 lo, .int .i64 hi] 65))
  dsimp only
  by_cases h : isSp lo hi
  · have Hc := Lib.hid (fun w => is_yes lo hi w h)
    have hb : badS (lo, hi) = false := by unfold badS; unfold isSp at h; simp only [decide_eq_true h, Bool.not_true]
    rw [hb]
    unfold spanV at Hc ⊢
    clear h hb
    go_enter Try.func60, Try.ntmps60
    go_wp2_with (go_at_call 61; refine (Hc.out _).mono ?_; rintro e w2 ⟨rfl, hW⟩; have HW2 := Lib.hid (Hwa.out.trans (hW.mono (by simp))); clear hW)
    go_ret
    exact ⟨rfl, HW2.out⟩
  · have Hc := Lib.hid (fun w => is_no lo hi w h)
    have hb : badS (lo, hi) = true := by unfold badS; unfold isSp at h; simp only [decide_eq_false h, Bool.not_false]
    rw [hb]
    unfold spanV at Hc ⊢
    clear h hb
    go_enter Try.func60, Try.ntmps60
    go_wp2_with (go_at_call 61; refine (Hc.out _).mono ?_; rintro e w2 ⟨rfl, hW⟩; have HW2 := Lib.hid (Hwa.out.trans (hW.mono (by simp))); clear hW)
    go_ret
    exact ⟨rfl, HW2.out⟩

/-- slices.IndexFunc with that closure. -/
def IdxEndS (l : List Sp) (w : World) (e : Ending) (w' : World) : Prop :=
  Below w.heap.size w w' ∧ ∃ n : Int, e = .returned (.int .i64 n) ∧ ((n = -1 ∧ ∀ x ∈ l, badS x = false) ∨ (0 ≤ n ∧ ∃ x ∈ l, badS x = true))
set_option maxHeartbeats 1000000 in
theorem indexS_calls (A : Option Addr) (l : List Sp) (cap : Nat) (w : World) (hA : RdS w A l) (hm : l.length ≤ maxLen) :
    Calls Try.prog 74 #[.slice A l.length cap, .func (.func 60) #[] #[]] w (IdxEndS l w) := by
  unfold maxLen at hm
  have HA := Lib.hid hA; clear hA
  go_enter Try.func74, Try.ntmps74
  go_wp2
  go_loopw [8] (fun i wr => ∃ k : Nat, k ≤ l.length ∧ i = .int .i64 k ∧ Hid (∀ x ∈ l.take k, badS x = false) ∧ Hid (Below w.heap.size w wr)) (fun i _ => l.length - (intOf i).toNat)
  case atStart => exact ⟨0, Nat.zero_le _, rfl, Lib.hid (fun x hx => by simp at hx), Lib.hid (Below.refl _ _)⟩
  case round =>
    obtain ⟨k, hk, rfl, hP, hW⟩ := hrel
    by_cases hlt : k < l.length
    · obtain ⟨b, off, rfl, hb, c0, c1⟩ := RdS.at2 (Rd.below HA.out hW.out) hlt
      have hmem := List.getElem_mem hlt
      have hg := gS_get hlt
      have Hmem := Lib.hid hmem
      have Hst := Lib.hid (take_all_succ (p := fun x => badS x = false) hlt hP.out)
      rw [hg] at c0 c1
      clear hmem hP hg
      have HW := Lib.hid hW.out
      clear hW
      generalize l[k] = x at *
      have Hc := Lib.hid (fun w => closureS_calls x w)
      obtain ⟨x1, x2⟩ := x
      dsimp only at c0 c1
      unfold spanV at Hc
      dsimp only at Hc
      cases hx : badS (x1, x2)
      · have Hx := Lib.hid hx
        rw [hx] at Hc
        clear hx
        go_wp2_with (go_at_call 60; refine (Hc.out _).mono ?_; rintro e w2 ⟨rfl, hW⟩; have HW2 := Lib.hid (HW.out.trans (hW.mono HW.out.size)); clear hW)
        go_roundw
        case rel => exact ⟨k + 1, by omega, by go_num, Lib.hid (Hst.out Hx.out), HW2⟩
        case measure => simp [intOf]; omega
      · have Hx := Lib.hid hx
        rw [hx] at Hc
        clear hx
        go_wp2_with (go_at_call 60; refine (Hc.out _).mono ?_; rintro e w2 ⟨rfl, hW⟩; have HW2 := Lib.hid (HW.out.trans (hW.mono HW.out.size)); clear hW)
        go_ret
        exact ⟨HW2.out, k, rfl, .inr ⟨by omega, _, Hmem.out, Hx.out⟩⟩
    · have HW := Lib.hid hW.out
      clear hW
      go_wp2
      go_ret
      have : k = l.length := by omega
      subst this
      have := hP.out
      rw [List.take_length] at this
      exact ⟨HW.out, -1, rfl, .inl ⟨rfl, this⟩⟩
set_option maxHeartbeats 400000 in
theorem containsS_calls (A : Option Addr) (l : List Sp) (cap : Nat) (w : World) (hA : RdS w A l) (hm : l.length ≤ maxLen) :
    Calls Try.prog 59 #[.slice A l.length cap, .func (.func 60) #[] #[]] w fun e w' => e = .returned (.bool (l.any badS)) ∧ Below w.heap.size w w' := by
  have HA := Lib.hid hA; clear hA
  go_enter Try.func59, Try.ntmps59
  go_wp2_with fail
  refine (indexS_calls A l cap w HA.out hm).mono ?_
  rintro e w' ⟨hW, n, rfl, h⟩
  have HW := Lib.hid hW
  clear hW
  rcases h with ⟨rfl, h⟩ | ⟨h0, x, hx, hb⟩
  · have Ha := Lib.hid (show l.any badS = false by rw [List.any_eq_false]; intro x hx; rw [h x hx]; decide)
    clear h hm
    go_wp2
    go_ret
    exact ⟨ret_bool Ha.out.symm, HW.out⟩
  · have Ha := Lib.hid (show l.any badS = true by rw [List.any_eq_true]; exact ⟨x, hx, hb⟩)
    clear hx hb hm
    go_wp2
    go_ret
    exact ⟨ret_bool (by rw [Ha.out]; try (simp; try omega)), HW.out⟩
theorem anyS_ok {l : List Sp} (h : l.any badS = false) : ∀ s ∈ l, spOk s := fun s hs => by
  rw [List.any_eq_false] at h
  have := h s hs
  unfold badS at this
  unfold spOk
  simpa using this
theorem infoSpans : (Try.prog.info? 60).map (fun i => (i.zero, i.size, i.bytes)) = some (some (.slice none 0 0), 1, 24) := by kernel_rfl
/-- 'make([][]api.Span, n)'. -/
theorem wpList_makeS {w : World} {ops : Array Oper} {rest : List Oper} {o : Oper} {a : Act} {Q : Exit → Act → World → Prop} (hg : o.guard = none) (lo c : Operand) (hop : o.op = Op.makeSlice 61 lo c)
    (base n : Nat) (hl : a.eval lo = .int .i64 (n : Int)) (hc : a.eval c = .int .i64 (n : Int)) (hn : n < 1000000) (hbase : base ≤ w.heap.size)
    (h : ∀ w', OwnV w' base 60 (.slice (some ⟨w.heap.size, 0, none⟩) n n) (List.replicate n (.slice none 0 0)) → w.grownBy w' none → wpList Try.prog ops Q rest (a.put o.dst (.slice (some ⟨w.heap.size, 0, none⟩) n n)) w') : wpList Try.prog ops Q (o :: rest) a w := by
  obtain ⟨i, hi, hz0, hz1, hz2⟩ := info_parts infoSpans
  refine wpList_make_full w hg lo c 61 hop base 60 i (.slice none 0 0) 1 Try.underlying61 hi hz0 hz1 .i64 .i64 n n n hl hc rfl rfl (by rw [hz2]; omega) (by unfold maxLen; omega) hbase fun w' h1 h2 => ?_
  refine h w' ?_ h2
  have e : (madeCells (Value.slice none 0 0).cells (n * 1)).toList = (List.replicate n (Value.slice none 0 0)).flatMap oneV := by
    rw [show (Value.slice none 0 0).cells = #[.slice none 0 0] from rfl, Nat.mul_one, toList_madeCells_one]
    rw [oneV_flat]
  rw [e] at h1
  unfold OwnV Own
  rw [List.length_replicate]
  exact h1
/-- In the middle of span.In. -/
structure GS (w wx : World) (T SB m : Nat) (R C : Nat → Nat) (F : FnS) (b : Bool) : Prop where
  st : ST wx T SB m R C F b
  bel : Below w.heap.size w wx
  loT : w.heap.size ≤ T
  loS : w.heap.size ≤ SB
  loR : ∀ i, i < m → F i ≠ [] → w.heap.size ≤ R i
/-- Block K is none of the place's. -/
structure FarS (wx : World) (T SB m : Nat) (R : Nat → Nat) (F : FnS) (K : Nat) : Prop where
  lt : K < wx.heap.size
  nT : K ≠ T
  nS : K ≠ SB
  nR : ∀ i, i < m → F i ≠ [] → K ≠ R i
theorem ST.start {w : World} {base SB m : Nat} (hown : OwnV w base 60 (.slice (some ⟨SB, 0, none⟩) m m) (List.replicate m (.slice none 0 0))) : ST (w.alloc (.cells #[.slice (some ⟨SB, 0, none⟩) m m, .bool false] 101)) w.heap.size SB m (fun _ => 0) (fun _ => 0) (fun _ => []) false := by
  rcases hown.2 with ⟨h0, _⟩ | ⟨b, cap, cur, e, h1, h2, h3, h4, h5, h6⟩
  · cases h0
  · injection e with e1 e2 e3
    injection e1 with e1
    injection e1 with e1
    subst e1 e3
    rw [List.length_replicate, oneV_flat] at h6
    have hc : cur.toList = List.replicate m (.slice none 0 0) := by
      rw [← h6, Nat.mul_one, List.take_of_length_le (by rw [Array.length_toList, h5]; omega)]
    refine ⟨heap_alloc_new w _, ((Below.refl _ _).alloc (Nat.le_refl _) _ |>.block _ (lt_P h2)).trans ?_, fun i _ h => absurd rfl h, fun i k _ _ h => absurd rfl h⟩
    rw [h2, ← Array.toArray_toList (xs := cur), hc]
    congr 3
    refine List.ext_getElem (by simp) fun i h1 h2 => ?_
    simp [rvS]
section
variable {w wx wy : World} {T SB m : Nat} {R C R' C' : Nat → Nat} {F F' : FnS} {b b' : Bool} {K : Nat}
theorem GS.below (h : GS w wx T SB m R C F b) (hb : Below wx.heap.size wx wy) : GS w wy T SB m R C F b := ⟨h.st.below hb, h.bel.trans (hb.mono h.bel.size), h.loT, h.loS, h.loR⟩
theorem GS.setT (h : GS w wx T SB m R C F b) (b' : Bool) : GS w (wx.setCell ⟨T, 1, none⟩ (.bool b')) T SB m R C F b' := ⟨h.st.setT b', h.bel.setCell (p := ⟨T, 1, none⟩) h.loT _, h.loT, h.loS, h.loR⟩
theorem GS.come (h : GS w wx T SB m R C F b) (hs : ST wy T SB m R' C' F' b') (hf : FrS T SB m R F wx wy) (hr : ∀ i, i < m → F' i ≠ [] → (F i ≠ [] ∧ R' i = R i) ∨ wx.heap.size ≤ R' i) : GS w wy T SB m R' C' F' b' :=
  ⟨hs, hf.below h.bel h.bel.size h.loT h.loS h.loR, h.loT, h.loS, fun i hi hF => by
    rcases hr i hi hF with ⟨h1, h2⟩ | h1
    · rw [h2]; exact h.loR i hi h1
    · exact Nat.le_trans h.bel.size h1⟩
theorem ST.far (h : ST wx T SB m R C F b) (hK : FarS wx T SB m R F K) (i : Nat) (u : Value) : ST (wx.setCell ⟨K, i, none⟩ u) T SB m R C F b :=
  ⟨(Below.heap_setCell _ _ _ _ hK.nT.symm).trans h.hT, (Below.heap_setCell _ _ _ _ hK.nS.symm).trans h.hS, fun i hi hF => (h.hR i hi hF).blk (Below.heap_setCell _ _ _ _ (hK.nR i hi hF).symm), h.inj⟩
theorem GS.far (h : GS w wx T SB m R C F b) (hK : FarS wx T SB m R F K) (hb : w.heap.size ≤ K) (i : Nat) (u : Value) : GS w (wx.setCell ⟨K, i, none⟩ u) T SB m R C F b := ⟨h.st.far hK i u, h.bel.setCell (p := ⟨K, i, none⟩) hb _, h.loT, h.loS, h.loR⟩
theorem FarS.new (h : ST wx T SB m R C F b) (hK : wx.heap.size ≤ K) (hl : K < wy.heap.size) : FarS wy T SB m R F K :=
  ⟨hl, by have := h.ltT; omega, by have := h.ltS; omega, fun i hi hF => by have := h.ltR hi hF; omega⟩
theorem FarS.mono (h : FarS wx T SB m R F K) (hs : wx.heap.size ≤ wy.heap.size) : FarS wy T SB m R F K := ⟨Nat.lt_of_lt_of_le h.lt hs, h.nT, h.nS, h.nR⟩
theorem FarS.come (h : FarS wx T SB m R F K) (hf : FrS T SB m R F wx wy) (hr : ∀ i, i < m → F' i ≠ [] → (F i ≠ [] ∧ R' i = R i) ∨ wx.heap.size ≤ R' i) : FarS wy T SB m R' F' K ∧ wy.heap[K]? = wx.heap[K]? :=
  ⟨⟨Nat.lt_of_lt_of_le h.lt hf.size, h.nT, h.nS, fun i hi hF => by
    rcases hr i hi hF with ⟨h1, h2⟩ | h1
    · rw [h2]; exact h.nR i hi h1
    · have := h.lt; omega⟩, hf.block K h.lt h.nT h.nS h.nR⟩
/-- A span of v is stored. -/
theorem GS.put2 {g P d : Nat} {v : List Sp} {cs : Array Value} (h : GS w wx T SB m R C F b) (hr : RowS wx g v) (hg : FarS wx T SB m R F g) (hne : P ≠ g) (hb : w.heap.size ≤ g) (hbx : wx.heap[P]? = some (.cells cs 25 (0, 0))) (hd : d < v.length) (y : Sp) :
    GS w ((wx.setCell ⟨g, d * 2, none⟩ (.int .i64 y.1)).setCell ⟨g, d * 2 + 1, none⟩ (.int .i64 y.2)) T SB m R C F b ∧ RowS ((wx.setCell ⟨g, d * 2, none⟩ (.int .i64 y.1)).setCell ⟨g, d * 2 + 1, none⟩ (.int .i64 y.2)) g (v.set d y) ∧
      FarS ((wx.setCell ⟨g, d * 2, none⟩ (.int .i64 y.1)).setCell ⟨g, d * 2 + 1, none⟩ (.int .i64 y.2)) T SB m R F g ∧ ((wx.setCell ⟨g, d * 2, none⟩ (.int .i64 y.1)).setCell ⟨g, d * 2 + 1, none⟩ (.int .i64 y.2)).heap[P]? = some (.cells cs 25 (0, 0)) ∧
      ((wx.setCell ⟨g, d * 2, none⟩ (.int .i64 y.1)).setCell ⟨g, d * 2 + 1, none⟩ (.int .i64 y.2)).heap.size = wx.heap.size := by
  have h1 : (wx.setCell ⟨g, d * 2, none⟩ (.int .i64 y.1)).heap.size = wx.heap.size := by simp [World.setCell]
  have h2 : ((wx.setCell ⟨g, d * 2, none⟩ (.int .i64 y.1)).setCell ⟨g, d * 2 + 1, none⟩ (.int .i64 y.2)).heap.size = wx.heap.size := by simp [World.setCell]
  have hg1 := hg.mono (wy := wx.setCell ⟨g, d * 2, none⟩ (.int .i64 y.1)) (by omega)
  exact ⟨(h.far hg hb _ _).far hg1 hb _ _, hr.set2 hd y, hg.mono (by omega), (Below.heap_setCell _ _ _ _ hne).trans ((Below.heap_setCell _ _ _ _ hne).trans hbx), h2⟩
theorem GS.put3 {g P d : Nat} {v : List Sp} {cs : Array Value} (h : GS w wx T SB m R C F b) (hr : RowS wx g v) (hg : FarS wx T SB m R F g) (hP : FarS wx T SB m R F P) (hne : P ≠ g) (hb : w.heap.size ≤ g) (hbx : wx.heap[P]? = some (.cells cs 25 (0, 0))) (hd : d < v.length) (y : Sp) (o : Obj) :
    GS w (((wx.setCell ⟨g, d * 2, none⟩ (.int .i64 y.1)).setCell ⟨g, d * 2 + 1, none⟩ (.int .i64 y.2)).alloc o) T SB m R C F b ∧ RowS (((wx.setCell ⟨g, d * 2, none⟩ (.int .i64 y.1)).setCell ⟨g, d * 2 + 1, none⟩ (.int .i64 y.2)).alloc o) g (v.set d y) ∧
      FarS (((wx.setCell ⟨g, d * 2, none⟩ (.int .i64 y.1)).setCell ⟨g, d * 2 + 1, none⟩ (.int .i64 y.2)).alloc o) T SB m R F g ∧ FarS (((wx.setCell ⟨g, d * 2, none⟩ (.int .i64 y.1)).setCell ⟨g, d * 2 + 1, none⟩ (.int .i64 y.2)).alloc o) T SB m R F P ∧ FarS (((wx.setCell ⟨g, d * 2, none⟩ (.int .i64 y.1)).setCell ⟨g, d * 2 + 1, none⟩ (.int .i64 y.2)).alloc o) T SB m R F wx.heap.size ∧
      (((wx.setCell ⟨g, d * 2, none⟩ (.int .i64 y.1)).setCell ⟨g, d * 2 + 1, none⟩ (.int .i64 y.2)).alloc o).heap[P]? = some (.cells cs 25 (0, 0)) ∧ (((wx.setCell ⟨g, d * 2, none⟩ (.int .i64 y.1)).setCell ⟨g, d * 2 + 1, none⟩ (.int .i64 y.2)).alloc o).heap[wx.heap.size]? = some o := by
  obtain ⟨k1, k2, k3, k4, k5⟩ := h.put2 hr hg hne hb hbx hd y
  have hz : (((wx.setCell ⟨g, d * 2, none⟩ (.int .i64 y.1)).setCell ⟨g, d * 2 + 1, none⟩ (.int .i64 y.2)).alloc o).heap.size = wx.heap.size + 1 := by simp [World.setCell]
  have hba := (Below.refl ((wx.setCell ⟨g, d * 2, none⟩ (.int .i64 y.1)).setCell ⟨g, d * 2 + 1, none⟩ (.int .i64 y.2)).heap.size _).alloc (Nat.le_refl _) o
  refine ⟨k1.below hba, k2.blk (hba.block _ k3.lt), k3.mono (by omega), hP.mono (by omega), FarS.new h.st (Nat.le_refl _) (by omega), (hba.block _ (lt_P k4)).trans k4, ?_⟩
  have := heap_alloc_new ((wx.setCell ⟨g, d * 2, none⟩ (.int .i64 y.1)).setCell ⟨g, d * 2 + 1, none⟩ (.int .i64 y.2)) o
  rw [k5] at this
  exact this
end
/-- One come within block k. -/
theorem PasS.one {n : Nat} {p : List Blk} {h0 : List Sp} {F0 F F' : FnS} {b b' : Bool} {k j : Nat} {v : List Sp} (h : PasS n p h0 F0 F b k) (h1 : 1 ≤ n) (hv : v.length = n) (hc : ComeR n p.length F j v F' b b') (hcl : F' = F → ClosS p F' k) : PasS n p h0 F0 F' b' (k + 1) := by
  obtain ⟨q1, q2⟩ := h.come h1 hv hc
  cases b'
  · exact q1.done (hcl (q2 rfl).1)
  · exact q1.turned
/-- Two. -/
theorem PasS.two {n : Nat} {p : List Blk} {h0 : List Sp} {F0 F F1 F2 : FnS} {b b1 b2 : Bool} {k j j' : Nat} {v v' : List Sp} (h : PasS n p h0 F0 F b k) (h1 : 1 ≤ n) (hv : v.length = n) (hc : ComeR n p.length F j v F1 b b1) (hv' : v'.length = n) (hc' : ComeR n p.length F1 j' v' F2 b1 b2) (hcl : F1 = F → F2 = F → ClosS p F2 k) : PasS n p h0 F0 F2 b2 (k + 1) := by
  obtain ⟨q1, q2⟩ := h.come h1 hv hc
  obtain ⟨q3, q4⟩ := q1.come h1 hv' hc'
  cases b2
  · obtain ⟨e1, e2⟩ := q4 rfl
    obtain ⟨e3, _⟩ := q2 e2
    exact q3.done (hcl e3 (e1.trans e3))
  · exact q3.turned
theorem leS.ne {n : Nat} {v r : List Sp} (h : leS v r) (h1 : 1 ≤ n) (hv : v.length = n) : r ≠ [] := by
  intro e; have := h.1; rw [e, hv] at this; simp at this; omega
/-- How span.In ends where it may. -/
def InEndS (n : Nat) (p : List Blk) (h0 : List Sp) (w : World) (e : Ending) (w' : World) : Prop :=
  ∃ T SB R C F b, e = .returned (.tuple #[.slice (some ⟨SB, 0, none⟩) p.length p.length, .int .i64 0]) ∧ SolS n p h0 F ∧ ST w' T SB p.length R C F b ∧ Below w.heap.size w w'
set_option maxHeartbeats 2000000 in
theorem spIn_bad (vars : Int) (A B : Option Addr) (p : List Blk) (h0 : List Sp) (cap capB : Nat) (w : World) (hA : RdBk w A p) (hB : RdS w B h0) (hm : p.length ≤ maxLen) (hmc : smallB p) (hm' : h0.length ≤ maxLen) (h : ¬ (pkErr vars p = 0 ∧ (h0.length : Int) = vars ∧ h0.any badS = false)) :
    Calls Try.prog 34 #[.int .i64 vars, .slice A p.length cap, .slice B h0.length capB] w fun e w' => (∃ x, x ≠ 0 ∧ e = .returned (.tuple #[.slice none 0 0, .int .i64 x])) ∧ Below w.heap.size w w' := by
  have HB := Lib.hid hB
  have Hc := Lib.hid (blkCheck_calls vars A p cap w hA hm hmc)
  have Hk := Lib.hid (fun w hB => containsS_calls B h0 capB w hB hm')
  clear hA hB
  by_cases h1 : pkErr vars p = 0
  · rw [h1] at Hc
    by_cases h2 : (h0.length : Int) = vars
    · have q : ((h0.length : Int) != vars) = false := by simpa using h2
      have h3 : h0.any badS = true := by
        cases hb : h0.any badS with
        | true => rfl
        | false => exact absurd ⟨h1, h2, hb⟩ h
      rw [h3] at Hk
      clear h h1 h2 h3
      go_enter Try.func34, Try.ntmps34
      go_wp2_with (first
        | (go_at_call 38; refine Hc.out.mono ?_; rintro e w1 ⟨rfl, hW⟩; have HW1 := Lib.hid hW; clear hW)
        | (go_at_call 59; refine (Hk.out _ (Rd.below HB.out HW1.out)).mono ?_; rintro e w2 ⟨rfl, hW⟩; have HW2 := Lib.hid (HW1.out.trans (hW.mono HW1.out.size)); clear hW))
      go_ret2
      exact ⟨⟨4, by decide, rfl⟩, HW2.out⟩
    · have q : ((h0.length : Int) != vars) = true := by rw [bne_iff_ne]; exact h2
      clear h h1 h2
      go_enter Try.func34, Try.ntmps34
      go_wp2_with (go_at_call 38; refine Hc.out.mono ?_; rintro e w1 ⟨rfl, hW⟩; have HW1 := Lib.hid hW; clear hW)
      go_ret2
      exact ⟨⟨3, by decide, rfl⟩, HW1.out⟩
  · clear h
    generalize pkErr vars p = er at *
    have q : (er != 0) = true := by rw [bne_iff_ne]; exact h1
    go_enter Try.func34, Try.ntmps34
    go_wp2_with (go_at_call 38; refine Hc.out.mono ?_; rintro e w1 ⟨rfl, hW⟩; have HW1 := Lib.hid hW; clear hW)
    go_ret2
    exact ⟨⟨er, h1, rfl⟩, HW1.out⟩
end Go.Proofs.Ytadmmciiahdmcaa
