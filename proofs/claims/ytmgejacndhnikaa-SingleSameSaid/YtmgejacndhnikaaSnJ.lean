/- SingleSame: the namer's walk, whole; how its state begins. -/
import Derived.Test.YtmgejacndhnikaaSnE
namespace Go.Proofs.Ytmgejacndhnikaa
set_option maxRecDepth 100000
open Go.RowKit

theorem nwalk_calls {E : NE} {R : Nat → Prop} {D : Nat → Nat → Prop} (hG : Gr E R D) {w0 : World} {H : Hdr} (hH : HdX w0 H E) {T g : Nat} : ∀ (f : Nat) (st : NS) (base : Nat → Nat) (nin : Nat → List Int) (own : Int → Nat) (l : Int) (i : Nat), Inv E R D st base nin own → undN E st < f → R i → l ∈ fromAt E i → Come E st l i →
      ∀ (w : World) (o : Nat → Nat × Nat) (rs : List RS) (A : Option Addr) (c : Nat), NmX w0 w H T g o rs st.many st.done nulV [] none → rs.map RS.sg = st.out → RdI w A (srcOf E st l) →
        Calls Try.prog 60 #[.pointer (some ⟨T, 0, none⟩), .int .i64 l, .int .i64 (i : Nat), .slice A (srcOf E st l).length c] w (WalkE w0 H T g (walkN E f l i (srcOf E st l) st) (fun k => st.done.testBit k = true) rs)
  | 0, _, _, _, _, _, _, _, h, _, _, _ => absurd h (Nat.not_lt_zero _)
  | f + 1, st, base, nin, own, l, i, h, hu, hR, hm, hc => fun w o rs A c hS hrs hA => by
    by_cases hd : st.done.testBit i = true
    · have := again_calls hG h hd hm hc hH hS hrs (A := A) (c := c) hA (fun k => st.done.testBit k = true)
      rw [walkN, if_pos hd]
      exact this
    · exact first_calls hG hH (nwalk_calls hG hH f) h hu (by simpa using hd) hR hm hc hS hrs hA
/-- A Single that is zero. -/
def rs0 : RS := ⟨nulV, [], nulV, [], 0, 0, 0, nulV, []⟩
theorem infoSg : (Try.prog.info? 114).map (fun i => (i.zero, i.size, i.bytes)) = some (some (.agg #[.slice none 0 0, .slice none 0 0, .int .i64 0, .int .i64 0, .int .i64 0, .slice none 0 0]), 6, 96) := by kernel_rfl
theorem Sgl.zero (w : World) (o : Nat → Nat × Nat) (B k : Nat) : Sgl w o B k rs0 :=
  ⟨Own.nil_ _ _ _, fun b hb => (by cases hb), fun m j hj => (by simp [rs0] at hj), Own.nil_ _ _ _, fun b hb => (by cases hb), Own.nil_ _ _ _, fun b hb => (by cases hb)⟩
/-- The namer's box and its row of Singles are new. -/
theorem NmX.made {w0 w : World} {H : Hdr} {T g many : Nat} (hbel : Below w0.heap.size w0 w) (hlo : w0.heap.size ≤ T ∧ w0.heap.size ≤ g) (hne : T ≠ g)
    (tc : w.heap[T]? = some (.cells #[H.pv, H.nx, H.fm, H.jv, .int .i64 (H.vars : Nat), .int .i64 (many : Nat), .int .u32 ((0 : Nat) : Int), .slice (some ⟨g, 0, none⟩) H.n H.n] 110 (0, 0)))
    (gc : w.heap[g]? = some (.cells ((List.replicate H.n rs0).flatMap RS.cells).toArray 114 (0, 0))) : ∃ o, NmX w0 w H T g o (List.replicate H.n rs0) many 0 nulV [] none :=
  ⟨fun b => if b = T then (0, 0) else (0, 1), hbel, hlo, tc, gc, ⟨if_pos rfl, if_neg (fun e => hne e.symm)⟩, List.length_replicate, (fun k r hr _ => by
    rw [List.getElem?_replicate] at hr
    split at hr
    · injection hr with hr
      subst hr
      exact Sgl.zero _ _ _ _
    · cases hr), Own.nil_ _ _ _, fun b hb => (by cases hb)⟩
theorem flatRS_all {x x' : RS} : ∀ {rs : List RS} {i : Nat}, rs[i]? = some x → (rs.set i x').flatMap RS.cells = ((((((rs.flatMap RS.cells).set (i * 6) x'.jv).set (i * 6 + 1) x'.cv).set (i * 6 + 2) (.int .i64 x'.test)).set (i * 6 + 3) (.int .i64 x'.thn)).set (i * 6 + 4) (.int .i64 x'.els)).set (i * 6 + 5) x'.lv
  | [], _, h => by simp at h
  | y :: r, 0, h => by
    simp [RS.cells]
  | y :: r, i + 1, h => by
    have ih := flatRS_all (x := x) (x' := x') (rs := r) (i := i) (by simpa using h)
    have e : (i + 1) * 6 = i * 6 + 1 + 1 + 1 + 1 + 1 + 1 := by omega
    rw [List.set_cons_succ, List.flatMap_cons, ih, List.flatMap_cons, e]
    simp [RS.cells]
/-- out[i] = a Single without steps: its six cells, and a row of names of its own. -/
theorem NmX.put6 {w0 w w' : World} {H : Hdr} {T g : Nat} {o : Nat → Nat × Nat} {rs : List RS} {many done : Nat} {nv : Value} {ns : List Int} (h : NmX w0 w H T g o rs many done nv ns none) {i : Nat} {x : RS} (hx : rs[i]? = some x) (hb : Below w.heap.size w w') {lv : Value} {last : List Int} (hO : OwnI w' w.heap.size 3 lv last) (t a e : Int) :
    ∃ o', (∀ b, b < w.heap.size → o' b = o b) ∧ NmX w0 ((((((w'.setCell ⟨g, i * 6, none⟩ nulV).setCell ⟨g, i * 6 + 1, none⟩ nulV).setCell ⟨g, i * 6 + 2, none⟩ (.int .i64 t)).setCell ⟨g, i * 6 + 3, none⟩ (.int .i64 a)).setCell ⟨g, i * 6 + 4, none⟩ (.int .i64 e)).setCell ⟨g, i * 6 + 5, none⟩ lv) H T g o' (rs.set i ⟨nulV, [], nulV, [], t, a, e, lv, last⟩) many done nv ns none := by
  have hoS : ∀ b, b < w.heap.size → (fun b => if w.heap.size ≤ b then (i + 1, 2) else o b) b = o b := fun b hb => by
    show (if w.heap.size ≤ b then _ else _) = _
    rw [if_neg (by omega)]
  have h1 := ((h.retag (o' := fun b => if w.heap.size ≤ b then (i + 1, 2) else o b) hoS).below hb)
  refine ⟨_, hoS, ?_⟩
  have hk : ∀ b, b ≠ g → ((((((w'.setCell ⟨g, i * 6, none⟩ nulV).setCell ⟨g, i * 6 + 1, none⟩ nulV).setCell ⟨g, i * 6 + 2, none⟩ (.int .i64 t)).setCell ⟨g, i * 6 + 3, none⟩ (.int .i64 a)).setCell ⟨g, i * 6 + 4, none⟩ (.int .i64 e)).setCell ⟨g, i * 6 + 5, none⟩ lv).heap[b]? = w'.heap[b]? := fun b hb => by
    rw [Below.heap_setCell _ _ _ _ (by exact hb), Below.heap_setCell _ _ _ _ (by exact hb), Below.heap_setCell _ _ _ _ (by exact hb), Below.heap_setCell _ _ _ _ (by exact hb), Below.heap_setCell _ _ _ _ (by exact hb), Below.heap_setCell _ _ _ _ (by exact hb)]
  have hkeep : ∀ k r, Sgl w' (fun b => if w.heap.size ≤ b then (i + 1, 2) else o b) w0.heap.size k r → Sgl ((((((w'.setCell ⟨g, i * 6, none⟩ nulV).setCell ⟨g, i * 6 + 1, none⟩ nulV).setCell ⟨g, i * 6 + 2, none⟩ (.int .i64 t)).setCell ⟨g, i * 6 + 3, none⟩ (.int .i64 a)).setCell ⟨g, i * 6 + 4, none⟩ (.int .i64 e)).setCell ⟨g, i * 6 + 5, none⟩ lv) (fun b => if w.heap.size ≤ b then (i + 1, 2) else o b) w0.heap.size k r := fun k r hs =>
    hs.keep fun b _ ho => hk b (fun e => by subst e; rw [h1.tg.2] at ho; simp at ho)
  have hlo := h1.lo.2
  refine ⟨(((((h1.bel.setCell (p := ⟨g, i * 6, none⟩) hlo _).setCell (p := ⟨g, i * 6 + 1, none⟩) hlo _).setCell (p := ⟨g, i * 6 + 2, none⟩) hlo _).setCell (p := ⟨g, i * 6 + 3, none⟩) hlo _).setCell (p := ⟨g, i * 6 + 4, none⟩) hlo _).setCell (p := ⟨g, i * 6 + 5, none⟩) hlo _, h1.lo,
    (hk T (fun e => by have h2 := h1.tg.1; have h3 := h1.tg.2; rw [e] at h2; rw [h2] at h3; simp at h3)).trans h1.tc, ?_, h1.tg, by rw [List.length_set]; exact h1.len, fun k r hr _ => ?_, Own.same h1.nm fun b hb => hk b (fun e => by have := h1.no b hb; rw [e, h1.tg.2] at this; simp at this), h1.no⟩
  · have g1 := heapSetCell w' g (i * 6) nulV _ _ h1.gc
    have g2 := heapSetCell _ g (i * 6 + 1) nulV _ _ g1
    have g3 := heapSetCell _ g (i * 6 + 2) (.int .i64 t) _ _ g2
    have g4 := heapSetCell _ g (i * 6 + 3) (.int .i64 a) _ _ g3
    have g5 := heapSetCell _ g (i * 6 + 4) (.int .i64 e) _ _ g4
    have g6 := heapSetCell _ g (i * 6 + 5) lv _ _ g5
    rw [g6, flatRS_all hx]
    simp
  · by_cases ek : i = k
    · subst ek
      rw [List.getElem?_set_self (List.getElem?_eq_some_iff.1 hx).1] at hr
      injection hr with hr
      subst hr
      refine hkeep _ _ ⟨Own.nil_ _ _ _, fun b hb => (by cases hb), fun m j hj => (by simp at hj), Own.nil_ _ _ _, fun b hb => (by cases hb), Own.base_ hO h.bel.size, fun b hb => ?_⟩
      show (if w.heap.size ≤ b then _ else _) = _
      rw [if_pos (own_lt' hO b hb).1]
    · rw [List.getElem?_set_ne ek] at hr
      exact hkeep _ _ (h1.at_ k r hr (by simp))
theorem z6_cells : (Value.agg #[.slice none 0 0, .slice none 0 0, .int .i64 0, .int .i64 0, .int .i64 0, .slice none 0 0]).cells = rs0.cells.toArray := rfl
theorem made_sg (n : Nat) : (madeCells (Value.agg #[.slice none 0 0, .slice none 0 0, .int .i64 0, .int .i64 0, .int .i64 0, .slice none 0 0]).cells (n * 6)).toList = (List.replicate n rs0).flatMap RS.cells := by
  rw [z6_cells]
  apply List.ext_getElem?
  intro j
  rcases Nat.lt_or_ge j (n * 6) with hj | hj
  · have hk : j / 6 < n := Nat.div_lt_of_lt_mul (by rw [Nat.mul_comm]; exact hj)
    have hm := Nat.mod_lt j (show 0 < 6 by decide)
    have hjm : j = j / 6 * 6 + j % 6 := by rw [Nat.mul_comm]; exact (Nat.div_add_mod j 6).symm
    have e := flatMap_get rsCells_len (List.replicate n rs0) (j / 6) rs0 (by rw [List.getElem?_replicate, if_pos hk]) (j % 6) hm
    rw [← hjm] at e
    rw [e]
    have e2 : (madeCells rs0.cells.toArray (n * 6)).toList[j]? = some (rs0.cells.toArray[j % 6]!) := by
      simp [madeCells, hj]
      rfl
    rw [e2]
    generalize j % 6 = m at *
    match m, hm with
    | 0, _ => rfl
    | 1, _ => rfl
    | 2, _ => rfl
    | 3, _ => rfl
    | 4, _ => rfl
    | 5, _ => rfl
  · rw [List.getElem?_eq_none (by rw [Array.length_toList, size_madeCells]; exact hj), List.getElem?_eq_none (by rw [flatMap_len rsCells_len, List.length_replicate]; exact hj)]
/-- 'make([]api.Single, n)'. -/
theorem wpList_makeSg {w : World} {ops : Array Oper} {rest : List Oper} {o : Oper} {a : Act} {Q : Exit → Act → World → Prop} (hg : o.guard = none) (lo c : Operand) (hop : o.op = Op.makeSlice 39 lo c)
    (n : Nat) (hl : a.eval lo = .int .i64 (n : Int)) (hc : a.eval c = .int .i64 (n : Int)) (hn : n ≤ 8)
    (h : ∀ w', w'.heap[w.heap.size]? = some (.cells ((List.replicate n rs0).flatMap RS.cells).toArray 114 (0, 0)) → Below w.heap.size w w' → wpList Try.prog ops Q rest (a.put o.dst (.slice (some ⟨w.heap.size, 0, none⟩) n n)) w') : wpList Try.prog ops Q (o :: rest) a w := by
  obtain ⟨i, hi, hz0, hz1, hz2⟩ := info_parts infoSg
  refine wpList_make_full w hg lo c 39 hop w.heap.size 114 i _ 6 Try.underlying39 hi hz0 hz1 .i64 .i64 n n n hl hc rfl rfl (by rw [hz2]; omega) (by unfold maxLen; omega) (Nat.le_refl _) fun w' h1 h2 => ?_
  refine h w' ?_ ((Below.refl _ _).grown h2 (Nat.le_refl _) (fun k hk => by cases hk))
  rw [made_sg n] at h1
  rcases h1.2 with ⟨h0, _⟩ | ⟨g, cap, cur, h0, hb, hh, hn', hm, hs, ht⟩
  · cases h0
  · simp only [Value.slice.injEq, Option.some.injEq, Addr.mk.injEq, and_true, true_and] at h0
    obtain ⟨rfl, rfl⟩ := h0
    rw [hh, ← ht, ← hs, ← Array.length_toList, List.take_length]
theorem NmX.g6 {w0 w : World} {H : Hdr} {T g : Nat} {o : Nat → Nat × Nat} {rs : List RS} {many done : Nat} {nv : Value} {ns : List Int} {X : Option Nat} (h : NmX w0 w H T g o rs many done nv ns X) {i : Nat} (hi : i < rs.length) : ∃ v0 v1 v2 v3 v4 v5, w.cell? ⟨g, i * 6, none⟩ = some v0 ∧ w.cell? ⟨g, i * 6 + 1, none⟩ = some v1 ∧ w.cell? ⟨g, i * 6 + 2, none⟩ = some v2 ∧ w.cell? ⟨g, i * 6 + 3, none⟩ = some v3 ∧ w.cell? ⟨g, i * 6 + 4, none⟩ = some v4 ∧ w.cell? ⟨g, i * 6 + 5, none⟩ = some v5 ∧ ∀ j, w.frozen? ⟨g, j, none⟩ = false := by
  have key : ∀ j, j < 6 → w.cell? ⟨g, i * 6 + j, none⟩ = (rs[i]).cells[j]? := fun j hj => by
    rw [cell_h h.gc, List.getElem?_toArray]
    exact flatMap_get rsCells_len rs i _ (List.getElem?_eq_getElem hi) j hj
  exact ⟨_, _, _, _, _, _, key 0 (by decide), key 1 (by decide), key 2 (by decide), key 3 (by decide), key 4 (by decide), key 5 (by decide), fz_h h.gc⟩
end Go.Proofs.Ytmgejacndhnikaa
