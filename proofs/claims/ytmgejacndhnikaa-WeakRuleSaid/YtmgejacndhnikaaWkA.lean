/- (*weak.terms).put walked (written by wktree.py). -/
import Derived.Test.YtmgejacndhnikaaWkP
import Derived.Deep.RegionHeld3
namespace Go.Proofs.Ytmgejacndhnikaa
set_option maxRecDepth 100000
open Go.RowKit Go.Maps

theorem zero_intW (w : World) : (zeroValue 3).run Try.prog w = .ok (.int .i64 0) w := by
  obtain ⟨i, hi, h0, h1, h2⟩ := info_parts infoInt
  simp [zeroValue, typeInfo, hi, h0]
theorem wp_lookOk_run {P : Program} {o : Oper} {a : Act} {w : World} {K : Act → World → Prop} {Q : Exit → Act → World → Prop} (t : TypeId) (m x : Operand) (ho : o.op = Op.lookup t m x true)
    {mv xv v : Value} (hm : a.eval m = mv) (hx : a.eval x = xv) (hrun : (Instr.lookup t mv xv true).run P w = .ok v w) (h : K (a.put o.dst v) w) : o.wp P a w K Q := by
  unfold Oper.wp
  simp [execOp, ho, hm, hx, hrun, Result.andThen]
  exact h
theorem wp_put_run {P : Program} {o : Oper} {a : Act} {w : World} {K : Act → World → Prop} {Q : Exit → Act → World → Prop} (t : TypeId) (m x v : Operand) (ho : o.op = Op.mapUpdate t m x v)
    {mv xv vv : Value} {w' : World} (hm : a.eval m = mv) (hx : a.eval x = xv) (hv : a.eval v = vv) (hrun : (Instr.mapUpdate t mv xv vv).run P w = .ok () w') (h : K (a.put o.dst undef) w') : o.wp P a w K Q := by
  unfold Oper.wp
  simp [execOp, ho, hm, hx, hv, hrun, Result.andThen]
  exact h
/-- The state of weak.Ahead: block T holds the list and the map M. -/
structure WT (w : World) (T M : Nat) (v6 : Value) (ks : List Term) : Prop where
  hT : w.heap[T]? = some (.cells #[v6, .map (some M)] 136 (0, 0))
  rt : OwnT w (T + 1) v6 ks
  mp : OwnM Term.agg w 62 M ks.length (knownF ks)
  tM : M < T
/-- In put: the term lies in block G; the list's row is v6, the cell of T still says vc. -/
structure PT (w : World) (T M G : Nat) (vc v6 : Value) (ks : List Term) (f : Term → Option Value) (n : Nat) (x : Term) : Prop where
  hT : w.heap[T]? = some (.cells #[vc, .map (some M)] 136 (0, 0))
  rt : OwnT w (T + 1) v6 ks
  mp : OwnM Term.agg w 62 M n f
  hx : w.heap[G]? = some (.cells x.cells.toArray 62 (0, 0))
  gT : G ≠ T
  gM : G ≠ M
  tM : M < T
  n6 : v6.ownBlock ≠ some G
/-- What put leaves as it was. -/
structure PK (w w' : World) (T M : Nat) (v6 : Value) : Prop where
  ints : ∀ base v l, T + 1 ≤ base → OwnI w base 3 v l → OwnI w' base 3 v l
  keep : ∀ b, b < w.heap.size → b ≠ T → b ≠ M → v6.ownBlock ≠ some b → w'.heap[b]? = w.heap[b]?
  bel : ∀ B W0, B ≤ M → B ≤ w.heap.size → Below B W0 w → Below B W0 w'
  size : w.heap.size ≤ w'.heap.size
  old : M < w.heap.size ∧ T < w.heap.size
section
variable {w w' w'' : World} {T M G n : Nat} {vc v6 : Value} {ks : List Term} {f : Term → Option Value} {x : Term}
theorem lt_of_heap {w : World} {k : Nat} {o : Obj} (h : w.heap[k]? = some o) : k < w.heap.size := (Array.getElem?_eq_some_iff.1 h).1
theorem PT.drew (h : PT w T M G vc v6 ks f n x) : PT w.drew T M G vc v6 ks f n x := ⟨h.hT, h.rt, h.mp, h.hx, h.gT, h.gM, h.tM, h.n6⟩
theorem PT.tlt (h : PT w T M G vc v6 ks f n x) : T < w.heap.size := lt_of_heap h.hT
theorem PT.cx (h : PT w T M G vc v6 ks f n x) (j : Nat) : w.cell? ⟨G, j, none⟩ = x.cells[j]? := by
  rw [cell_of_row w G j _ _ _ h.hx, List.getElem?_toArray]
theorem PT.c0 (h : PT w T M G vc v6 ks f n x) : w.cell? ⟨T, 0, none⟩ = some vc := by rw [cell_of_row w T 0 _ _ _ h.hT]; rfl
theorem PT.c1 (h : PT w T M G vc v6 ks f n x) : w.cell? ⟨T, 1, none⟩ = some (.map (some M)) := by rw [cell_of_row w T 1 _ _ _ h.hT]; rfl
theorem PT.fz (h : PT w T M G vc v6 ks f n x) : w.frozen? ⟨T, 0, none⟩ = false := by simp [World.frozen?, h.hT]
theorem PT.at4 (h : PT w T M G vc v6 ks f n x) : w.cell? ⟨G, 0, none⟩ = some (.int .i64 x.op) ∧ w.cell? ⟨G, 1, none⟩ = some (.int .i64 x.a) ∧ w.cell? ⟨G, 2, none⟩ = some (.int .i64 x.b) ∧ w.cell? ⟨G, 3, none⟩ = some (.int .i64 x.val) :=
  ⟨h.cx 0, h.cx 1, h.cx 2, h.cx 3⟩
theorem PT.at5 (h : PT w T M G vc v6 ks f n x) : w.cell? ⟨T, 1, none⟩ = some (.map (some M)) ∧ w.cell? ⟨G, 0, none⟩ = some (.int .i64 x.op) ∧ w.cell? ⟨G, 1, none⟩ = some (.int .i64 x.a) ∧ w.cell? ⟨G, 2, none⟩ = some (.int .i64 x.b) ∧ w.cell? ⟨G, 3, none⟩ = some (.int .i64 x.val) :=
  ⟨h.c1, h.at4⟩
theorem PT.start (h : WT w T M v6 ks) (x : Term) : PT (w.alloc (.cells #[.int .i64 x.op, .int .i64 x.a, .int .i64 x.b, .int .i64 x.val] 62)) T M w.heap.size v6 v6 ks (knownF ks) ks.length x := by
  have ht := lt_of_heap h.hT
  refine ⟨((World.grownBy_alloc w _ none).block T ht (by simp)).trans h.hT, h.rt.alloc _, h.mp.alloc _, heap_alloc_new w _, by omega, by have := h.tM; omega, h.tM, fun e => by have := (own_lt h.rt _ e).2; omega⟩
theorem PT.putm (h : PT w T M G vc v6 ks f n x) {f' : Term → Option Value} {n' : Nat} (hm : OwnM Term.agg w' 62 M n' f') (hg : w.grownBy w' (some M)) : PT w' T M G vc v6 ks f' n' x :=
  ⟨(hg.block T h.tlt (fun e => by injection e with e; have := h.tM; omega)).trans h.hT, h.rt.kept hg (Or.inr (fun e => by have := (own_lt h.rt _ e).1; have := h.tM; omega)), hm, (hg.block G (lt_of_heap h.hx) (fun e => by injection e with e; exact h.gM e)).trans h.hx, h.gT, h.gM, h.tM, h.n6⟩
theorem PT.alloc (h : PT w T M G vc v6 ks f n x) (o : Obj) : PT (w.alloc o) T M G vc v6 ks f n x :=
  ⟨((World.grownBy_alloc w o none).block T h.tlt (by simp)).trans h.hT, h.rt.alloc o, h.mp.alloc o, ((World.grownBy_alloc w o none).block G (lt_of_heap h.hx) (by simp)).trans h.hx, h.gT, h.gM, h.tM, h.n6⟩
theorem PT.appT (h : PT w T M G vc v6 ks f n x) {v' : Value} {y : Term} (hown : OwnT w' (T + 1) v' (ks ++ [y])) (hg : w.grownBy w' v6.ownBlock) (hat : v'.ownBlock = v6.ownBlock ∨ v'.ownBlock = some w.heap.size) : PT w' T M G vc v' (ks ++ [y]) f n x :=
  ⟨(hg.block T h.tlt (fun e => by have := (own_lt h.rt _ e.symm).1; omega)).trans h.hT, hown, h.mp.kept hg (fun e => by have := (own_lt h.rt _ e.symm).1; have := h.tM; omega), (hg.block G (lt_of_heap h.hx) (fun e => h.n6 e.symm)).trans h.hx, h.gT, h.gM, h.tM, by
    rcases hat with e | e
    · rw [e]; exact h.n6
    · rw [e]; intro e2; injection e2 with e2; have := lt_of_heap h.hx; omega⟩
theorem PT.setT (h : PT w T M G vc v6 ks f n x) : PT (w.setCell ⟨T, 0, none⟩ v6) T M G v6 v6 ks f n x :=
  have hg := grown_setCell w T 0 v6
  ⟨by rw [heap_setCell_ w T 0 v6 _ _ h.hT]; rfl, h.rt.kept hg (Or.inr (fun e => by have := (own_lt h.rt _ e).1; omega)), h.mp.kept hg (fun e => by injection e with e; have := h.tM; omega), (hg.block G (lt_of_heap h.hx) (fun e => by injection e with e; exact h.gT e)).trans h.hx, h.gT, h.gM, h.tM, h.n6⟩
theorem PT.wt (h : PT w T M G v6 v6 ks f n x) (hn : n = ks.length) (hf : knownF ks = f) : WT w T M v6 ks := ⟨h.hT, h.rt, by rw [hf, ← hn]; exact h.mp, h.tM⟩
theorem PK.drew (h : PK w w' T M v6) : PK w w'.drew T M v6 := ⟨h.ints, h.keep, fun B W0 h1 h2 h3 => (h.bel B W0 h1 h2 h3).drew, h.size, h.old⟩
theorem PK.step {row : Option Nat} (h : PK w w' T M v6) (hg : w'.grownBy w'' row) (h1 : ∀ k, row = some k → M ≤ k) (h2 : ∀ k, row = some k → k = T ∨ k = M ∨ v6.ownBlock = some k ∨ w.heap.size ≤ k)
    (h3 : ∀ v l, OwnI w' (T + 1) 3 v l → v.ownBlock = none ∨ v.ownBlock ≠ row) : PK w w'' T M v6 :=
  ⟨fun base v l hb hv => (h.ints base v l hb hv).kept hg (h3 v l (Own.base_ (h.ints base v l hb hv) hb)), fun b hb n1 n2 n3 => (hg.block b (Nat.lt_of_lt_of_le hb h.size) (fun e => by
    rcases h2 b e.symm with h | h | h | h
    · exact n1 h
    · exact n2 h
    · exact n3 h
    · omega)).trans (h.keep b hb n1 n2 n3), fun B W0 hB hs hb => (h.bel B W0 hB hs hb).grown hg (by have := h.size; omega) (fun k e => by have := h1 k e; omega), Nat.le_trans h.size hg.size, h.old⟩
theorem PK.start (h : WT w T M v6 ks) (x : Term) : PK w (w.alloc (.cells #[.int .i64 x.op, .int .i64 x.a, .int .i64 x.b, .int .i64 x.val] 62)) T M v6 := by
  have h0 : PK w w T M v6 := ⟨fun _ _ _ _ h => h, fun _ _ _ _ _ => rfl, fun _ _ _ _ h => h, Nat.le_refl _, by have := lt_of_heap h.hT; have := h.tM; omega, lt_of_heap h.hT⟩
  exact h0.step (World.grownBy_alloc w _ none) (fun k e => by cases e) (fun k e => by cases e) (fun v l hv => by
    rcases e : v.ownBlock with _ | k
    · exact .inl rfl
    · exact .inr (by simp))
theorem PK.app (h : PK w w' T M v6) (hP : PT w' T M G vc v6 ks f n x) (hg : w'.grownBy w'' v6.ownBlock) : PK w w'' T M v6 :=
  h.step hg (fun k e => by have := (own_lt hP.rt k e).1; have := hP.tM; omega) (fun k e => .inr (.inr (.inl e))) (fun v l hv => own_apart hv hP.rt (by decide))
end
def PutEnd (w : World) (T M : Nat) (v6 : Value) (ks : List Term) (x : Term) (e : Ending) (w' : World) : Prop :=
  ∃ v', e = .returned (.int .i64 (idxK ks x : Nat)) ∧ WT w' T M v' (insK ks x) ∧ PK w w' T M v6
set_option maxRecDepth 100000 in
set_option maxHeartbeats 8000000 in
theorem wkput_calls (w : World) (T M : Nat) (v6 : Value) (ks : List Term) (x : Term) (h : WT w T M v6 ks) (hx : x.inI) (hl : ks.length ≤ 60) :
    Calls Try.prog 73 #[.pointer (some ⟨T, 0, none⟩), x.agg] w (PutEnd w T M v6 ks x) := by
  obtain ⟨l, hk⟩ := keyOfT x hx
  have Hk := Lib.hid hk
  obtain ⟨op, xa, xb, xv⟩ := x
  have HP0 := Lib.hid (PT.start h ⟨op, xa, xb, xv⟩)
  have HK0 := Lib.hid (PK.start h ⟨op, xa, xb, xv⟩)
  unfold Term.agg at Hk ⊢
  dsimp only at Hk ⊢
  clear h hx hk
  go_enter Try.func73, Try.ntmps73
  go_wp2
  change Hid (PT ((w.alloc (.cells #[.int .i64 op, .int .i64 xa, .int .i64 xb, .int .i64 xv] 62))) T M w.heap.size v6 v6 ks (knownF ks) ks.length ⟨op, xa, xb, xv⟩) at HP0
  change Hid (PK w ((w.alloc (.cells #[.int .i64 op, .int .i64 xa, .int .i64 xb, .int .i64 xv] 62))) T M v6) at HK0
  generalize ((w.alloc (.cells #[.int .i64 op, .int .i64 xa, .int .i64 xb, .int .i64 xv] 62))) = wa at *
  generalize w.heap.size = G at *
  have Hlk := Lib.hid (OwnM.look_ok HP0.out.drew.mp keyedT Try.underlying134 (zero_intW _) (a := ⟨op, xa, xb, xv⟩) (show keyOf _ _ (Term.agg ⟨op, xa, xb, xv⟩) = some l from Hk.out))
  refine wp_region_held_drew (S := fun w' => w'.cell? ⟨T, 1, none⟩ = some (.map (some M)) ∧ w'.cell? ⟨G, 0, none⟩ = some (.int .i64 op) ∧ w'.cell? ⟨G, 1, none⟩ = some (.int .i64 xa) ∧ w'.cell? ⟨G, 2, none⟩ = some (.int .i64 xb) ∧ w'.cell? ⟨G, 3, none⟩ = some (.int .i64 xv)) (by kernel_rfl) HP0.out.drew.at5 (fun hH0 => ?_)
  have HP1 := Lib.hid HP0.out.drew
  have HK1 := Lib.hid HK0.out.drew
  clear HP0 HK0
  by_cases hm : (⟨op, xa, xb, xv⟩ : Term) ∈ ks
  · rw [knownF_yes hm] at Hlk
    have Hix := Lib.hid (idxK_yes hm)
    have Hins := Lib.hid (insK_yes hm)
    clear hm
    generalize wa.drew = w1 at *
    generalize ks.idxOf (⟨op, xa, xb, xv⟩ : Term) = ix at *
    refine wpAnyH_take (i := 0) (oi := { dst := some 8, op := Go.Op.move (Go.Operand.tmp 0), type := 133, pos := "weak.go:25", after := #[], guard := none }) rfl (by kernel_rfl) (by kernel_rfl) (by kernel_rfl) (fun _ _ _ h => h) (Or.inl ⟨by rfl, fun w hw => by (go_simp; try with_reducible rfl)⟩) (by assumption) ?_
    try simp only [Act.put, List.setIfInBounds_toArray, List.set_cons_zero, List.set_cons_succ]
    refine wpAnyH_take (i := 1) (oi := { dst := some 9, op := Go.Op.nilCheck (Go.Operand.tmp 8), type := 0, pos := "weak.go:25", after := #[{ on := 0, ground := Go.Ground.data }], guard := none }) rfl (by kernel_rfl) (by kernel_rfl) (by kernel_rfl) (fun _ _ _ h => h) (Or.inl ⟨by rfl, fun w hw => by (go_simp; try with_reducible rfl)⟩) (by assumption) ?_
    try simp only [Act.put, List.setIfInBounds_toArray, List.set_cons_zero, List.set_cons_succ]
    refine wpAnyH_take (i := 2) (oi := { dst := some 10, op := Go.Op.fieldAddr 136 (Go.Operand.tmp 9) 1, type := 0, pos := "weak.go:25", after := #[{ on := 1, ground := Go.Ground.data }], guard := none }) rfl (by kernel_rfl) (by kernel_rfl) (by kernel_rfl) (fun _ _ _ h => h) (Or.inl ⟨by rfl, fun w hw => by (go_simp; try with_reducible rfl)⟩) (by assumption) ?_
    try simp only [Act.put, List.setIfInBounds_toArray, List.set_cons_zero, List.set_cons_succ]
    refine wpAnyH_take (i := 3) (oi := { dst := some 11, op := Go.Op.load 134 (Go.Operand.tmp 10), type := 134, pos := "weak.go:25", after := #[{ on := 2, ground := Go.Ground.data }], guard := none }) rfl (by kernel_rfl) (by kernel_rfl) (by kernel_rfl) (fun _ _ _ h => h) (Or.inl ⟨by rfl, fun w hw => by (obtain ⟨p0, p1, p2, p3, p4⟩ := hw; go_simp; try with_reducible rfl)⟩) (by assumption) ?_
    try simp only [Act.put, List.setIfInBounds_toArray, List.set_cons_zero, List.set_cons_succ]
    refine wpAnyH_take (i := 4) (oi := { dst := some 12, op := Go.Op.load 62 (Go.Operand.tmp 3), type := 62, pos := "weak.go:25", after := #[], guard := none }) rfl (by kernel_rfl) (by kernel_rfl) (by kernel_rfl) (fun _ _ _ h => h) (Or.inl ⟨by rfl, fun w hw => by (obtain ⟨p0, p1, p2, p3, p4⟩ := hw; go_simp; try with_reducible rfl)⟩) (by assumption) ?_
    try simp only [Act.put, List.setIfInBounds_toArray, List.set_cons_zero, List.set_cons_succ]
    refine wpAnyH_ready (rs := [5]) (by kernel_rfl) (by simp) ?_
    refine AllReadyH.cons (o := { dst := some 13, op := Go.Op.lookup 134 (Go.Operand.tmp 11) (Go.Operand.tmp 12) true, type := 177, pos := "weak.go:25", after := #[{ on := 3, ground := Go.Ground.data }, { on := 4, ground := Go.Ground.data }], guard := none }) rfl (fun K hK => ?_) AllReadyH.nil
    rw [if_pos (by rfl)]
    refine wp_lookOk_run _ _ _ rfl rfl rfl Hlk.out ?_
    refine hK.out _ _ hH0 (fun hH1 => ?_)
    clear hK hH0
    have hH0 := hH1
    clear hH1
    try simp only [Act.put, List.setIfInBounds_toArray, List.set_cons_zero, List.set_cons_succ]
    refine wpAnyH_take (i := 6) (oi := { dst := some 7, op := Go.Op.move (Go.Operand.tmp 13), type := 177, pos := "weak.go:25", after := #[{ on := 5, ground := Go.Ground.data }], guard := none }) rfl (by kernel_rfl) (by kernel_rfl) (by kernel_rfl) (fun _ _ _ h => h) (Or.inl ⟨by rfl, fun w hw => by (go_simp; try with_reducible rfl)⟩) (by assumption) ?_
    try simp only [Act.put, List.setIfInBounds_toArray, List.set_cons_zero, List.set_cons_succ]
    refine wpAnyH_take (i := 7) (oi := { dst := some 14, op := Go.Op.extract (Go.Operand.tmp 7) 0, type := 3, pos := "weak.go:25", after := #[{ on := 6, ground := Go.Ground.data }], guard := none }) rfl (by kernel_rfl) (by kernel_rfl) (by kernel_rfl) (fun _ _ _ h => h) (Or.inl ⟨by rfl, fun w hw => by (go_simp; try with_reducible rfl)⟩) (by assumption) ?_
    try simp only [Act.put, List.setIfInBounds_toArray, List.set_cons_zero, List.set_cons_succ]
    refine wpAnyH_take (i := 8) (oi := { dst := some 15, op := Go.Op.extract (Go.Operand.tmp 7) 1, type := 4, pos := "weak.go:25", after := #[{ on := 6, ground := Go.Ground.data }, { on := 9, ground := Go.Ground.gcOnly Go.Departure.lateStores }], guard := none }) rfl (by kernel_rfl) (by kernel_rfl) (by kernel_rfl) (fun _ _ _ h => h) (Or.inl ⟨by rfl, fun w hw => by (go_simp; try with_reducible rfl)⟩) (by assumption) ?_
    try simp only [Act.put, List.setIfInBounds_toArray, List.set_cons_zero, List.set_cons_succ]
    refine wpAnyH_take (i := 9) (oi := { dst := some 5, op := Go.Op.assign (Go.Operand.tmp 14), type := 3, pos := "weak.go:25", after := #[{ on := 7, ground := Go.Ground.data }, { on := 0, ground := Go.Ground.phase }, { on := 1, ground := Go.Ground.phase }, { on := 2, ground := Go.Ground.phase }, { on := 3, ground := Go.Ground.phase }, { on := 4, ground := Go.Ground.phase }, { on := 5, ground := Go.Ground.phase }, { on := 6, ground := Go.Ground.phase }, { on := 7, ground := Go.Ground.phase }, { on := 8, ground := Go.Ground.textOnly Go.Departure.lateStores }], guard := none }) rfl (by kernel_rfl) (by kernel_rfl) (by kernel_rfl) (fun _ _ _ h => h) (Or.inl ⟨by rfl, fun w hw => by (go_simp; try with_reducible rfl)⟩) (by assumption) ?_
    try simp only [Act.put, List.setIfInBounds_toArray, List.set_cons_zero, List.set_cons_succ]
    refine wpAnyH_take (i := 10) (oi := { dst := some 6, op := Go.Op.assign (Go.Operand.tmp 15), type := 4, pos := "weak.go:25", after := #[{ on := 8, ground := Go.Ground.data }, { on := 9, ground := Go.Ground.chain }, { on := 0, ground := Go.Ground.phase }, { on := 1, ground := Go.Ground.phase }, { on := 2, ground := Go.Ground.phase }, { on := 3, ground := Go.Ground.phase }, { on := 4, ground := Go.Ground.phase }, { on := 5, ground := Go.Ground.phase }, { on := 6, ground := Go.Ground.phase }, { on := 7, ground := Go.Ground.phase }, { on := 8, ground := Go.Ground.phase }, { on := 9, ground := Go.Ground.phase }], guard := none }) rfl (by kernel_rfl) (by kernel_rfl) (by kernel_rfl) (fun _ _ _ h => h) (Or.inl ⟨by rfl, fun w hw => by (go_simp; try with_reducible rfl)⟩) (by assumption) ?_
    try simp only [Act.put, List.setIfInBounds_toArray, List.set_cons_zero, List.set_cons_succ]
    refine wpAnyH_done (by kernel_rfl) ?_ _
    clear hH0
    go_wp2
    go_ret
    exact ⟨v6, by rw [Hix.out]; rfl, by rw [Hins.out]; exact HP1.out.wt rfl rfl, HK1.out⟩
  · rw [knownF_no hm] at Hlk
    have Hix := Lib.hid (idxK_no hm)
    have Hins := Lib.hid (insK_no hm)
    have Hkn := Lib.hid (knownF_new hm)
    clear hm
    generalize wa.drew = w1 at *
    refine wpAnyH_take (i := 0) (oi := { dst := some 8, op := Go.Op.move (Go.Operand.tmp 0), type := 133, pos := "weak.go:25", after := #[], guard := none }) rfl (by kernel_rfl) (by kernel_rfl) (by kernel_rfl) (fun _ _ _ h => h) (Or.inl ⟨by rfl, fun w hw => by (go_simp; try with_reducible rfl)⟩) (by assumption) ?_
    try simp only [Act.put, List.setIfInBounds_toArray, List.set_cons_zero, List.set_cons_succ]
    refine wpAnyH_take (i := 1) (oi := { dst := some 9, op := Go.Op.nilCheck (Go.Operand.tmp 8), type := 0, pos := "weak.go:25", after := #[{ on := 0, ground := Go.Ground.data }], guard := none }) rfl (by kernel_rfl) (by kernel_rfl) (by kernel_rfl) (fun _ _ _ h => h) (Or.inl ⟨by rfl, fun w hw => by (go_simp; try with_reducible rfl)⟩) (by assumption) ?_
    try simp only [Act.put, List.setIfInBounds_toArray, List.set_cons_zero, List.set_cons_succ]
    refine wpAnyH_take (i := 2) (oi := { dst := some 10, op := Go.Op.fieldAddr 136 (Go.Operand.tmp 9) 1, type := 0, pos := "weak.go:25", after := #[{ on := 1, ground := Go.Ground.data }], guard := none }) rfl (by kernel_rfl) (by kernel_rfl) (by kernel_rfl) (fun _ _ _ h => h) (Or.inl ⟨by rfl, fun w hw => by (go_simp; try with_reducible rfl)⟩) (by assumption) ?_
    try simp only [Act.put, List.setIfInBounds_toArray, List.set_cons_zero, List.set_cons_succ]
    refine wpAnyH_take (i := 3) (oi := { dst := some 11, op := Go.Op.load 134 (Go.Operand.tmp 10), type := 134, pos := "weak.go:25", after := #[{ on := 2, ground := Go.Ground.data }], guard := none }) rfl (by kernel_rfl) (by kernel_rfl) (by kernel_rfl) (fun _ _ _ h => h) (Or.inl ⟨by rfl, fun w hw => by (obtain ⟨p0, p1, p2, p3, p4⟩ := hw; go_simp; try with_reducible rfl)⟩) (by assumption) ?_
    try simp only [Act.put, List.setIfInBounds_toArray, List.set_cons_zero, List.set_cons_succ]
    refine wpAnyH_take (i := 4) (oi := { dst := some 12, op := Go.Op.load 62 (Go.Operand.tmp 3), type := 62, pos := "weak.go:25", after := #[], guard := none }) rfl (by kernel_rfl) (by kernel_rfl) (by kernel_rfl) (fun _ _ _ h => h) (Or.inl ⟨by rfl, fun w hw => by (obtain ⟨p0, p1, p2, p3, p4⟩ := hw; go_simp; try with_reducible rfl)⟩) (by assumption) ?_
    try simp only [Act.put, List.setIfInBounds_toArray, List.set_cons_zero, List.set_cons_succ]
    refine wpAnyH_ready (rs := [5]) (by kernel_rfl) (by simp) ?_
    refine AllReadyH.cons (o := { dst := some 13, op := Go.Op.lookup 134 (Go.Operand.tmp 11) (Go.Operand.tmp 12) true, type := 177, pos := "weak.go:25", after := #[{ on := 3, ground := Go.Ground.data }, { on := 4, ground := Go.Ground.data }], guard := none }) rfl (fun K hK => ?_) AllReadyH.nil
    rw [if_pos (by rfl)]
    refine wp_lookOk_run _ _ _ rfl rfl rfl Hlk.out ?_
    refine hK.out _ _ hH0 (fun hH1 => ?_)
    clear hK hH0
    have hH0 := hH1
    clear hH1
    try simp only [Act.put, List.setIfInBounds_toArray, List.set_cons_zero, List.set_cons_succ]
    refine wpAnyH_take (i := 6) (oi := { dst := some 7, op := Go.Op.move (Go.Operand.tmp 13), type := 177, pos := "weak.go:25", after := #[{ on := 5, ground := Go.Ground.data }], guard := none }) rfl (by kernel_rfl) (by kernel_rfl) (by kernel_rfl) (fun _ _ _ h => h) (Or.inl ⟨by rfl, fun w hw => by (go_simp; try with_reducible rfl)⟩) (by assumption) ?_
    try simp only [Act.put, List.setIfInBounds_toArray, List.set_cons_zero, List.set_cons_succ]
    refine wpAnyH_take (i := 7) (oi := { dst := some 14, op := Go.Op.extract (Go.Operand.tmp 7) 0, type := 3, pos := "weak.go:25", after := #[{ on := 6, ground := Go.Ground.data }], guard := none }) rfl (by kernel_rfl) (by kernel_rfl) (by kernel_rfl) (fun _ _ _ h => h) (Or.inl ⟨by rfl, fun w hw => by (go_simp; try with_reducible rfl)⟩) (by assumption) ?_
    try simp only [Act.put, List.setIfInBounds_toArray, List.set_cons_zero, List.set_cons_succ]
    refine wpAnyH_take (i := 8) (oi := { dst := some 15, op := Go.Op.extract (Go.Operand.tmp 7) 1, type := 4, pos := "weak.go:25", after := #[{ on := 6, ground := Go.Ground.data }, { on := 9, ground := Go.Ground.gcOnly Go.Departure.lateStores }], guard := none }) rfl (by kernel_rfl) (by kernel_rfl) (by kernel_rfl) (fun _ _ _ h => h) (Or.inl ⟨by rfl, fun w hw => by (go_simp; try with_reducible rfl)⟩) (by assumption) ?_
    try simp only [Act.put, List.setIfInBounds_toArray, List.set_cons_zero, List.set_cons_succ]
    refine wpAnyH_take (i := 9) (oi := { dst := some 5, op := Go.Op.assign (Go.Operand.tmp 14), type := 3, pos := "weak.go:25", after := #[{ on := 7, ground := Go.Ground.data }, { on := 0, ground := Go.Ground.phase }, { on := 1, ground := Go.Ground.phase }, { on := 2, ground := Go.Ground.phase }, { on := 3, ground := Go.Ground.phase }, { on := 4, ground := Go.Ground.phase }, { on := 5, ground := Go.Ground.phase }, { on := 6, ground := Go.Ground.phase }, { on := 7, ground := Go.Ground.phase }, { on := 8, ground := Go.Ground.textOnly Go.Departure.lateStores }], guard := none }) rfl (by kernel_rfl) (by kernel_rfl) (by kernel_rfl) (fun _ _ _ h => h) (Or.inl ⟨by rfl, fun w hw => by (go_simp; try with_reducible rfl)⟩) (by assumption) ?_
    try simp only [Act.put, List.setIfInBounds_toArray, List.set_cons_zero, List.set_cons_succ]
    refine wpAnyH_take (i := 10) (oi := { dst := some 6, op := Go.Op.assign (Go.Operand.tmp 15), type := 4, pos := "weak.go:25", after := #[{ on := 8, ground := Go.Ground.data }, { on := 9, ground := Go.Ground.chain }, { on := 0, ground := Go.Ground.phase }, { on := 1, ground := Go.Ground.phase }, { on := 2, ground := Go.Ground.phase }, { on := 3, ground := Go.Ground.phase }, { on := 4, ground := Go.Ground.phase }, { on := 5, ground := Go.Ground.phase }, { on := 6, ground := Go.Ground.phase }, { on := 7, ground := Go.Ground.phase }, { on := 8, ground := Go.Ground.phase }, { on := 9, ground := Go.Ground.phase }], guard := none }) rfl (by kernel_rfl) (by kernel_rfl) (by kernel_rfl) (fun _ _ _ h => h) (Or.inl ⟨by rfl, fun w hw => by (go_simp; try with_reducible rfl)⟩) (by assumption) ?_
    try simp only [Act.put, List.setIfInBounds_toArray, List.set_cons_zero, List.set_cons_succ]
    refine wpAnyH_done (by kernel_rfl) ?_ _
    clear hH0
    have hkc := HP1.out.c0
    have hrd := OwnT.rd HP1.out.rt
    obtain ⟨A6, c6, rfl, -⟩ := hrd
    go_wp2
    obtain ⟨w2, hrun, hmp2, hg2⟩ := OwnM.put HP1.out.drew.mp keyedT aggT_inj Try.underlying134 (by unfold maxLen; omega) (a := ⟨op, xa, xb, xv⟩) (show keyOf _ _ (Term.agg ⟨op, xa, xb, xv⟩) = some l from Hk.out) (.int .i64 (ks.length : Nat))
    have HP2 := Lib.hid (HP1.out.drew.putm hmp2 hg2)
    have HK2 := Lib.hid (HK1.out.drew.step hg2 (fun k e => by injection e with e; omega) (fun k e => by injection e with e; exact .inr (.inl e.symm)) (fun v l h => .inr (fun e => by have := (own_lt h _ e).1; have := HP1.out.tM; omega)))
    refine wp_region_held_drew (S := fun w' => w'.cell? ⟨T, 1, none⟩ = some (.map (some M)) ∧ w'.cell? ⟨G, 0, none⟩ = some (.int .i64 op) ∧ w'.cell? ⟨G, 1, none⟩ = some (.int .i64 xa) ∧ w'.cell? ⟨G, 2, none⟩ = some (.int .i64 xb) ∧ w'.cell? ⟨G, 3, none⟩ = some (.int .i64 xv)) (by kernel_rfl) HP1.out.drew.at5 (fun hH0 => ?_)
    clear HP1 HK1 hmp2 hg2 hkc
    generalize w1.drew = w1 at *
    refine wpAnyH_take (i := 0) (oi := { dst := some 23, op := Go.Op.move (Go.Operand.tmp 0), type := 133, pos := "weak.go:28", after := #[], guard := none }) rfl (by kernel_rfl) (by kernel_rfl) (by kernel_rfl) (fun _ _ _ h => h) (Or.inl ⟨by rfl, fun w hw => by (go_simp; try with_reducible rfl)⟩) (by assumption) ?_
    try simp only [Act.put, List.setIfInBounds_toArray, List.set_cons_zero, List.set_cons_succ]
    refine wpAnyH_take (i := 1) (oi := { dst := some 24, op := Go.Op.nilCheck (Go.Operand.tmp 23), type := 0, pos := "weak.go:28", after := #[{ on := 0, ground := Go.Ground.data }], guard := none }) rfl (by kernel_rfl) (by kernel_rfl) (by kernel_rfl) (fun _ _ _ h => h) (Or.inl ⟨by rfl, fun w hw => by (go_simp; try with_reducible rfl)⟩) (by assumption) ?_
    try simp only [Act.put, List.setIfInBounds_toArray, List.set_cons_zero, List.set_cons_succ]
    refine wpAnyH_take (i := 2) (oi := { dst := some 25, op := Go.Op.fieldAddr 136 (Go.Operand.tmp 24) 1, type := 0, pos := "weak.go:28", after := #[{ on := 1, ground := Go.Ground.data }], guard := none }) rfl (by kernel_rfl) (by kernel_rfl) (by kernel_rfl) (fun _ _ _ h => h) (Or.inl ⟨by rfl, fun w hw => by (go_simp; try with_reducible rfl)⟩) (by assumption) ?_
    try simp only [Act.put, List.setIfInBounds_toArray, List.set_cons_zero, List.set_cons_succ]
    refine wpAnyH_take (i := 3) (oi := { dst := some 26, op := Go.Op.load 134 (Go.Operand.tmp 25), type := 134, pos := "weak.go:28", after := #[{ on := 2, ground := Go.Ground.data }], guard := none }) rfl (by kernel_rfl) (by kernel_rfl) (by kernel_rfl) (fun _ _ _ h => h) (Or.inl ⟨by rfl, fun w hw => by (obtain ⟨p0, p1, p2, p3, p4⟩ := hw; go_simp; try with_reducible rfl)⟩) (by assumption) ?_
    try simp only [Act.put, List.setIfInBounds_toArray, List.set_cons_zero, List.set_cons_succ]
    refine wpAnyH_take (i := 4) (oi := { dst := some 27, op := Go.Op.load 62 (Go.Operand.tmp 3), type := 62, pos := "weak.go:28", after := #[], guard := none }) rfl (by kernel_rfl) (by kernel_rfl) (by kernel_rfl) (fun _ _ _ h => h) (Or.inl ⟨by rfl, fun w hw => by (obtain ⟨p0, p1, p2, p3, p4⟩ := hw; go_simp; try with_reducible rfl)⟩) (by assumption) ?_
    try simp only [Act.put, List.setIfInBounds_toArray, List.set_cons_zero, List.set_cons_succ]
    refine wpAnyH_take (i := 5) (oi := { dst := some 28, op := Go.Op.move (Go.Operand.tmp 5), type := 3, pos := "weak.go:28", after := #[], guard := none }) rfl (by kernel_rfl) (by kernel_rfl) (by kernel_rfl) (fun _ _ _ h => h) (Or.inl ⟨by rfl, fun w hw => by (go_simp; try with_reducible rfl)⟩) (by assumption) ?_
    try simp only [Act.put, List.setIfInBounds_toArray, List.set_cons_zero, List.set_cons_succ]
    refine wpAnyH_ready (rs := [6]) (by kernel_rfl) (by simp) ?_
    refine AllReadyH.cons (o := { dst := none, op := Go.Op.mapUpdate 134 (Go.Operand.tmp 26) (Go.Operand.tmp 27) (Go.Operand.tmp 28), type := 0, pos := "weak.go:28", after := #[{ on := 3, ground := Go.Ground.data }, { on := 4, ground := Go.Ground.data }, { on := 5, ground := Go.Ground.data }, { on := 0, ground := Go.Ground.phase }, { on := 1, ground := Go.Ground.phase }, { on := 2, ground := Go.Ground.phase }, { on := 3, ground := Go.Ground.phase }, { on := 4, ground := Go.Ground.phase }, { on := 5, ground := Go.Ground.phase }], guard := none }) rfl (fun K hK => ?_) AllReadyH.nil
    rw [if_pos (by rfl)]
    refine wp_put_run _ _ _ _ rfl rfl rfl rfl hrun ?_
    refine hK.out _ _ HP2.out.at5 (fun hH1 => ?_)
    clear hK hH0
    have hH0 := hH1
    clear hH1
    try simp only [Act.put]
    refine wpAnyH_done (by kernel_rfl) ?_ _
    clear hH0
    go_wp2
    have HP3 := Lib.hid HP2.out.drew
    have HK3 := Lib.hid HK2.out.drew
    refine wp_region_held_drew (S := fun w' => w'.cell? ⟨G, 0, none⟩ = some (.int .i64 op) ∧ w'.cell? ⟨G, 1, none⟩ = some (.int .i64 xa) ∧ w'.cell? ⟨G, 2, none⟩ = some (.int .i64 xb) ∧ w'.cell? ⟨G, 3, none⟩ = some (.int .i64 xv)) (by kernel_rfl) HP2.out.drew.at4 (fun hH0 => ?_)
    clear HP2 HK2 hrun
    obtain ⟨v6, Hv6⟩ : ∃ v6, Hid (Value.slice A6 ks.length c6 = v6) := ⟨_, Lib.hid rfl⟩
    rw [Hv6.out] at HP3 HK3 ⊢
    generalize w2.drew = w3 at *
    refine wpAnyH_take (i := 0) (oi := { dst := some 29, op := Go.Op.move (Go.Operand.tmp 0), type := 133, pos := "weak.go:29", after := #[], guard := none }) rfl (by kernel_rfl) (by kernel_rfl) (by kernel_rfl) (fun _ _ _ h => h) (Or.inl ⟨by rfl, fun w hw => by (go_simp; try with_reducible rfl)⟩) (by assumption) ?_
    try simp only [Act.put, List.setIfInBounds_toArray, List.set_cons_zero, List.set_cons_succ]
    refine wpAnyH_take (i := 1) (oi := { dst := some 30, op := Go.Op.move (Go.Operand.tmp 0), type := 133, pos := "weak.go:29", after := #[], guard := none }) rfl (by kernel_rfl) (by kernel_rfl) (by kernel_rfl) (fun _ _ _ h => h) (Or.inl ⟨by rfl, fun w hw => by (go_simp; try with_reducible rfl)⟩) (by assumption) ?_
    try simp only [Act.put, List.setIfInBounds_toArray, List.set_cons_zero, List.set_cons_succ]
    refine wpAnyH_take (i := 2) (oi := { dst := some 31, op := Go.Op.nilCheck (Go.Operand.tmp 30), type := 0, pos := "weak.go:29", after := #[{ on := 1, ground := Go.Ground.data }], guard := none }) rfl (by kernel_rfl) (by kernel_rfl) (by kernel_rfl) (fun _ _ _ h => h) (Or.inl ⟨by rfl, fun w hw => by (go_simp; try with_reducible rfl)⟩) (by assumption) ?_
    try simp only [Act.put, List.setIfInBounds_toArray, List.set_cons_zero, List.set_cons_succ]
    refine wpAnyH_take (i := 3) (oi := { dst := some 32, op := Go.Op.fieldAddr 136 (Go.Operand.tmp 31) 0, type := 0, pos := "weak.go:29", after := #[{ on := 2, ground := Go.Ground.data }], guard := none }) rfl (by kernel_rfl) (by kernel_rfl) (by kernel_rfl) (fun _ _ _ h => h) (Or.inl ⟨by rfl, fun w hw => by (go_simp; try with_reducible rfl)⟩) (by assumption) ?_
    try simp only [Act.put, List.setIfInBounds_toArray, List.set_cons_zero, List.set_cons_succ]
    refine wpAnyH_take (i := 5) (oi := { dst := some 34, op := Go.Op.load 62 (Go.Operand.tmp 3), type := 62, pos := "weak.go:29", after := #[], guard := none }) rfl (by kernel_rfl) (by kernel_rfl) (by kernel_rfl) (fun _ _ _ h => h) (Or.inl ⟨by rfl, fun w hw => by (obtain ⟨p0, p1, p2, p3⟩ := hw; go_simp; try with_reducible rfl)⟩) (by assumption) ?_
    try simp only [Act.put, List.setIfInBounds_toArray, List.set_cons_zero, List.set_cons_succ]
    refine wpAnyH_ready (rs := [4, 6]) (by kernel_rfl) (by simp) ?_
    refine AllReadyH.cons (o := { dst := some 33, op := Go.Op.load 49 (Go.Operand.tmp 32), type := 49, pos := "weak.go:29", after := #[{ on := 3, ground := Go.Ground.data }], guard := none }) rfl (fun K hK => ?_) ?_
    · have c9 := HP3.out.c0
      go_simp
      clear c9
      refine hK.out _ _ hH0 (fun hH1 => ?_)
      clear hK hH0
      have hH0 := hH1
      clear hH1
      try simp only [Act.put, List.setIfInBounds_toArray, List.set_cons_zero, List.set_cons_succ]
      refine wpAnyH_ready (rs := [6]) (by kernel_rfl) (by simp) ?_
      refine AllReadyH.cons (o := { dst := some 35, op := Go.Op.buildSlice 49 1 #[(0, Go.Operand.tmp 34)], type := 49, pos := "weak.go:29", after := #[{ on := 5, ground := Go.Ground.data }], guard := none }) rfl (fun K hK => ?_) AllReadyH.nil
      go_simp
      have HP4 := Lib.hid (HP3.out.alloc (.cells #[.int .i64 op, .int .i64 xa, .int .i64 xb, .int .i64 xv] 62))
      have HK4 := Lib.hid (HK3.out.step (World.grownBy_alloc w3 (.cells #[.int .i64 op, .int .i64 xa, .int .i64 xb, .int .i64 xv] 62) none) (fun k e => by cases e) (fun k e => by cases e) (fun v l _ => by rcases e : v.ownBlock with _ | k <;> first | exact .inl rfl | exact .inr (by simp)))
      have HN4 : Hid (∀ j, j < 4 → (w3.alloc (.cells #[.int .i64 op, .int .i64 xa, .int .i64 xb, .int .i64 xv] 62)).cell? ⟨w3.heap.size, j, none⟩ = (Term.cells ⟨op, xa, xb, xv⟩)[j]?) := Lib.hid (fun j _ => cellT_new w3 ⟨op, xa, xb, xv⟩ _ _ _ rfl rfl j)
      refine hK.out _ _ HP4.out.at4 (fun hH1 => ?_)
      generalize w3.alloc (.cells #[.int .i64 op, .int .i64 xa, .int .i64 xb, .int .i64 xv] 62) = w4 at *
      generalize w3.heap.size = s4 at *
      clear hK hH0
      have hH0 := hH1
      clear hH1
      try simp only [Act.put, List.setIfInBounds_toArray, List.set_cons_zero, List.set_cons_succ]
      refine wpAnyH_ready (rs := [7]) (by kernel_rfl) (by simp) ?_
      refine AllReadyH.cons (o := { dst := some 36, op := Go.Op.call { callee := Go.Callee.builtin Go.Builtin.append, args := #[Go.Operand.tmp 33, Go.Operand.tmp 35], argTypes := #[49, 49] }, type := 49, pos := "weak.go:29", after := #[{ on := 4, ground := Go.Ground.data }, { on := 6, ground := Go.Ground.data }], guard := none }) rfl (fun K hK => ?_) AllReadyH.nil
      obtain ⟨v7, w5, hrun, hown, hgrow, hat⟩ := run_app1 (P := Try.prog) (w := w4) 49 49 Term.cells 4 32 62 (Term.mk 0 0 0 0).agg Try.underlying49 infoTerm rfl (by decide) termCells_len termCells_one (T + 1) v6 ks ⟨op, xa, xb, xv⟩ HP4.out.rt s4 1 HN4.out (by unfold maxLen; omega) (by omega) (by have := HP4.out.tlt; omega)
      obtain ⟨B3, d3, e3, _⟩ := OwnT.rd hown
      rw [List.length_append, List.length_singleton] at e3
      subst e3
      rw [if_pos (by rfl)]
      refine wp_app_run 49 _ _ rfl rfl rfl hrun ?_
      have HK5 := Lib.hid (HK4.out.app HP4.out hgrow)
      have HP5 := Lib.hid (HP4.out.appT hown hgrow hat)
      refine hK.out _ _ HP5.out.at4 (fun hH1 => ?_)
      clear hrun hown hgrow hat
      clear hK hH0
      have hH0 := hH1
      clear hH1
      try simp only [Act.put, List.setIfInBounds_toArray, List.set_cons_zero, List.set_cons_succ]
      refine wpAnyH_take (i := 8) (oi := { dst := some 37, op := Go.Op.nilCheck (Go.Operand.tmp 29), type := 0, pos := "weak.go:29", after := #[{ on := 0, ground := Go.Ground.data }, { on := 0, ground := Go.Ground.phase }, { on := 1, ground := Go.Ground.phase }, { on := 2, ground := Go.Ground.phase }, { on := 3, ground := Go.Ground.phase }, { on := 4, ground := Go.Ground.phase }, { on := 5, ground := Go.Ground.phase }, { on := 6, ground := Go.Ground.phase }, { on := 7, ground := Go.Ground.phase }], guard := none }) rfl (by kernel_rfl) (by kernel_rfl) (by kernel_rfl) (fun _ _ _ h => h) (Or.inl ⟨by rfl, fun w hw => by (go_simp; try with_reducible rfl)⟩) (by assumption) ?_
      try simp only [Act.put, List.setIfInBounds_toArray, List.set_cons_zero, List.set_cons_succ]
      refine wpAnyH_take (i := 9) (oi := { dst := some 38, op := Go.Op.fieldAddr 136 (Go.Operand.tmp 37) 0, type := 0, pos := "weak.go:29", after := #[{ on := 8, ground := Go.Ground.data }, { on := 0, ground := Go.Ground.phase }, { on := 1, ground := Go.Ground.phase }, { on := 2, ground := Go.Ground.phase }, { on := 3, ground := Go.Ground.phase }, { on := 4, ground := Go.Ground.phase }, { on := 5, ground := Go.Ground.phase }, { on := 6, ground := Go.Ground.phase }, { on := 7, ground := Go.Ground.phase }], guard := none }) rfl (by kernel_rfl) (by kernel_rfl) (by kernel_rfl) (fun _ _ _ h => h) (Or.inl ⟨by rfl, fun w hw => by (go_simp; try with_reducible rfl)⟩) (by assumption) ?_
      try simp only [Act.put, List.setIfInBounds_toArray, List.set_cons_zero, List.set_cons_succ]
      refine wpAnyH_ready (rs := [10]) (by kernel_rfl) (by simp) ?_
      refine AllReadyH.cons (o := { dst := none, op := Go.Op.store 49 (Go.Operand.tmp 38) (Go.Operand.tmp 36), type := 0, pos := "weak.go:29", after := #[{ on := 9, ground := Go.Ground.data }, { on := 7, ground := Go.Ground.data }, { on := 7, ground := Go.Ground.chain }, { on := 0, ground := Go.Ground.phase }, { on := 1, ground := Go.Ground.phase }, { on := 2, ground := Go.Ground.phase }, { on := 3, ground := Go.Ground.phase }, { on := 4, ground := Go.Ground.phase }, { on := 5, ground := Go.Ground.phase }, { on := 6, ground := Go.Ground.phase }, { on := 7, ground := Go.Ground.phase }], guard := none }) rfl (fun K hK => ?_) AllReadyH.nil
      have c9 := HP5.out.c0
      have f9 := HP5.out.fz
      go_simp
      clear c9 f9
      have HP6 := Lib.hid HP5.out.setT
      have HK6 := Lib.hid (HK5.out.step (grown_setCell w5 T 0 (.slice B3 (ks.length + 1) d3)) (fun k e => by injection e with e; have := HP5.out.tM; omega) (fun k e => by injection e with e; exact .inl e.symm) (fun v l h => .inr (fun e => by have := (own_lt h _ e).1; omega)))
      refine hK.out _ _ HP6.out.at4 (fun hH1 => ?_)
      clear hK hH0
      have hH0 := hH1
      clear hH1
      try simp only [Act.put, List.setIfInBounds_toArray, List.set_cons_zero, List.set_cons_succ]
      refine wpAnyH_done (by kernel_rfl) ?_ _
      clear hH0
      go_wp2
      go_ret
      exact ⟨_, by rw [Hix.out]; rfl, by rw [Hins.out]; exact HP6.out.wt (by simp) Hkn.out, by rw [Hv6.out]; exact HK6.out⟩
    refine AllReadyH.cons (o := { dst := some 35, op := Go.Op.buildSlice 49 1 #[(0, Go.Operand.tmp 34)], type := 49, pos := "weak.go:29", after := #[{ on := 5, ground := Go.Ground.data }], guard := none }) rfl (fun K hK => ?_) AllReadyH.nil
    go_simp
    have HP4 := Lib.hid (HP3.out.alloc (.cells #[.int .i64 op, .int .i64 xa, .int .i64 xb, .int .i64 xv] 62))
    have HK4 := Lib.hid (HK3.out.step (World.grownBy_alloc w3 (.cells #[.int .i64 op, .int .i64 xa, .int .i64 xb, .int .i64 xv] 62) none) (fun k e => by cases e) (fun k e => by cases e) (fun v l _ => by rcases e : v.ownBlock with _ | k <;> first | exact .inl rfl | exact .inr (by simp)))
    have HN4 : Hid (∀ j, j < 4 → (w3.alloc (.cells #[.int .i64 op, .int .i64 xa, .int .i64 xb, .int .i64 xv] 62)).cell? ⟨w3.heap.size, j, none⟩ = (Term.cells ⟨op, xa, xb, xv⟩)[j]?) := Lib.hid (fun j _ => cellT_new w3 ⟨op, xa, xb, xv⟩ _ _ _ rfl rfl j)
    refine hK.out _ _ HP4.out.at4 (fun hH1 => ?_)
    generalize w3.alloc (.cells #[.int .i64 op, .int .i64 xa, .int .i64 xb, .int .i64 xv] 62) = w4 at *
    generalize w3.heap.size = s4 at *
    clear hK hH0
    have hH0 := hH1
    clear hH1
    try simp only [Act.put, List.setIfInBounds_toArray, List.set_cons_zero, List.set_cons_succ]
    refine wpAnyH_ready (rs := [4]) (by kernel_rfl) (by simp) ?_
    refine AllReadyH.cons (o := { dst := some 33, op := Go.Op.load 49 (Go.Operand.tmp 32), type := 49, pos := "weak.go:29", after := #[{ on := 3, ground := Go.Ground.data }], guard := none }) rfl (fun K hK => ?_) AllReadyH.nil
    have c9 := HP4.out.c0
    go_simp
    clear c9
    refine hK.out _ _ hH0 (fun hH1 => ?_)
    clear hK hH0
    have hH0 := hH1
    clear hH1
    try simp only [Act.put, List.setIfInBounds_toArray, List.set_cons_zero, List.set_cons_succ]
    refine wpAnyH_ready (rs := [7]) (by kernel_rfl) (by simp) ?_
    refine AllReadyH.cons (o := { dst := some 36, op := Go.Op.call { callee := Go.Callee.builtin Go.Builtin.append, args := #[Go.Operand.tmp 33, Go.Operand.tmp 35], argTypes := #[49, 49] }, type := 49, pos := "weak.go:29", after := #[{ on := 4, ground := Go.Ground.data }, { on := 6, ground := Go.Ground.data }], guard := none }) rfl (fun K hK => ?_) AllReadyH.nil
    obtain ⟨v7, w5, hrun, hown, hgrow, hat⟩ := run_app1 (P := Try.prog) (w := w4) 49 49 Term.cells 4 32 62 (Term.mk 0 0 0 0).agg Try.underlying49 infoTerm rfl (by decide) termCells_len termCells_one (T + 1) v6 ks ⟨op, xa, xb, xv⟩ HP4.out.rt s4 1 HN4.out (by unfold maxLen; omega) (by omega) (by have := HP4.out.tlt; omega)
    obtain ⟨B3, d3, e3, _⟩ := OwnT.rd hown
    rw [List.length_append, List.length_singleton] at e3
    subst e3
    rw [if_pos (by rfl)]
    refine wp_app_run 49 _ _ rfl rfl rfl hrun ?_
    have HK5 := Lib.hid (HK4.out.app HP4.out hgrow)
    have HP5 := Lib.hid (HP4.out.appT hown hgrow hat)
    refine hK.out _ _ HP5.out.at4 (fun hH1 => ?_)
    clear hrun hown hgrow hat
    clear hK hH0
    have hH0 := hH1
    clear hH1
    try simp only [Act.put, List.setIfInBounds_toArray, List.set_cons_zero, List.set_cons_succ]
    refine wpAnyH_take (i := 8) (oi := { dst := some 37, op := Go.Op.nilCheck (Go.Operand.tmp 29), type := 0, pos := "weak.go:29", after := #[{ on := 0, ground := Go.Ground.data }, { on := 0, ground := Go.Ground.phase }, { on := 1, ground := Go.Ground.phase }, { on := 2, ground := Go.Ground.phase }, { on := 3, ground := Go.Ground.phase }, { on := 4, ground := Go.Ground.phase }, { on := 5, ground := Go.Ground.phase }, { on := 6, ground := Go.Ground.phase }, { on := 7, ground := Go.Ground.phase }], guard := none }) rfl (by kernel_rfl) (by kernel_rfl) (by kernel_rfl) (fun _ _ _ h => h) (Or.inl ⟨by rfl, fun w hw => by (go_simp; try with_reducible rfl)⟩) (by assumption) ?_
    try simp only [Act.put, List.setIfInBounds_toArray, List.set_cons_zero, List.set_cons_succ]
    refine wpAnyH_take (i := 9) (oi := { dst := some 38, op := Go.Op.fieldAddr 136 (Go.Operand.tmp 37) 0, type := 0, pos := "weak.go:29", after := #[{ on := 8, ground := Go.Ground.data }, { on := 0, ground := Go.Ground.phase }, { on := 1, ground := Go.Ground.phase }, { on := 2, ground := Go.Ground.phase }, { on := 3, ground := Go.Ground.phase }, { on := 4, ground := Go.Ground.phase }, { on := 5, ground := Go.Ground.phase }, { on := 6, ground := Go.Ground.phase }, { on := 7, ground := Go.Ground.phase }], guard := none }) rfl (by kernel_rfl) (by kernel_rfl) (by kernel_rfl) (fun _ _ _ h => h) (Or.inl ⟨by rfl, fun w hw => by (go_simp; try with_reducible rfl)⟩) (by assumption) ?_
    try simp only [Act.put, List.setIfInBounds_toArray, List.set_cons_zero, List.set_cons_succ]
    refine wpAnyH_ready (rs := [10]) (by kernel_rfl) (by simp) ?_
    refine AllReadyH.cons (o := { dst := none, op := Go.Op.store 49 (Go.Operand.tmp 38) (Go.Operand.tmp 36), type := 0, pos := "weak.go:29", after := #[{ on := 9, ground := Go.Ground.data }, { on := 7, ground := Go.Ground.data }, { on := 7, ground := Go.Ground.chain }, { on := 0, ground := Go.Ground.phase }, { on := 1, ground := Go.Ground.phase }, { on := 2, ground := Go.Ground.phase }, { on := 3, ground := Go.Ground.phase }, { on := 4, ground := Go.Ground.phase }, { on := 5, ground := Go.Ground.phase }, { on := 6, ground := Go.Ground.phase }, { on := 7, ground := Go.Ground.phase }], guard := none }) rfl (fun K hK => ?_) AllReadyH.nil
    have c9 := HP5.out.c0
    have f9 := HP5.out.fz
    go_simp
    clear c9 f9
    have HP6 := Lib.hid HP5.out.setT
    have HK6 := Lib.hid (HK5.out.step (grown_setCell w5 T 0 (.slice B3 (ks.length + 1) d3)) (fun k e => by injection e with e; have := HP5.out.tM; omega) (fun k e => by injection e with e; exact .inl e.symm) (fun v l h => .inr (fun e => by have := (own_lt h _ e).1; omega)))
    refine hK.out _ _ HP6.out.at4 (fun hH1 => ?_)
    clear hK hH0
    have hH0 := hH1
    clear hH1
    try simp only [Act.put, List.setIfInBounds_toArray, List.set_cons_zero, List.set_cons_succ]
    refine wpAnyH_done (by kernel_rfl) ?_ _
    clear hH0
    go_wp2
    go_ret
    exact ⟨_, by rw [Hix.out]; rfl, by rw [Hins.out]; exact HP6.out.wt (by simp) Hkn.out, by rw [Hv6.out]; exact HK6.out⟩
end Go.Proofs.Ytmgejacndhnikaa
