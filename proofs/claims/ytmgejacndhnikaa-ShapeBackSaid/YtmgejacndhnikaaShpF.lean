/- The blocks that shape.Flat lays down, on the heap. -/
import Derived.Test.YtmgejacndhnikaaShpE
import Derived.Test.YtmgejacndhnikaaOwnBk
namespace Go.Proofs.Ytmgejacndhnikaa
set_option maxRecDepth 100000
open Go.RowKit

theorem flat_off {α : Type} {f : α → List Value} {size base E E' : Nat} {w : World} {v : Value} {l : List α} (h : Own f size w base E v l) {T : Nat} {cs : Array Value} (hT : w.heap[T]? = some (.cells cs E' (0, 0))) (hE : E ≠ E') : v.ownBlock ≠ some T := by
  rcases h.2 with ⟨rfl, _⟩ | ⟨g, cap, cur, rfl, _, hh, _⟩
  · intro e; cases e
  · intro e
    have e : some g = some T := e
    injection e with e
    subst e
    rw [hh] at hT
    injection hT with hT
    injection hT with _ h2 _
    exact hE h2
theorem flat_two {α β : Type} {f : α → List Value} {f' : β → List Value} {size size' base base' E E' : Nat} {w : World} {v v' : Value} {l : List α} {l' : List β} (h : Own f size w base E v l) (h' : Own f' size' w base' E' v' l') (hE : E ≠ E') : v.ownBlock = none ∨ v.ownBlock ≠ v'.ownBlock := by
  rcases h'.2 with ⟨rfl, _⟩ | ⟨g, cap, cur, rfl, _, hh, _⟩
  · rcases h.2 with ⟨rfl, _⟩ | ⟨g, cap, cur, rfl, _, hh, _⟩
    · exact .inl rfl
    · exact .inr (fun e => by cases e)
  · exact .inr (flat_off h hh hE)
theorem own_heap {α : Type} {f : α → List Value} {size base E g n cap : Nat} {w : World} {l : List α} (h : Own f size w base E (.slice (some ⟨g, 0, none⟩) n cap) l) : ∃ cur, w.heap[g]? = some (.cells cur E (0, 0)) := by
  rcases h.2 with ⟨h0, _⟩ | ⟨g', cap', cur, h0, _, hh, _⟩
  · cases h0
  · simp only [Value.slice.injEq, Option.some.injEq, Addr.mk.injEq, and_true] at h0
    obtain ⟨rfl, -⟩ := h0
    exact ⟨cur, hh⟩
theorem flatRB_set {j : Nat} (hj : j < 4) {u : Value} {x' : RB} : ∀ {raws : List RB} {i : Nat} {x : RB}, raws[i]? = some x → x'.cells = x.cells.set j u → (raws.set i x').flatMap RB.cells = (raws.flatMap RB.cells).set (i * 4 + j) u
  | [], _, _, h, _ => by simp at h
  | y :: r, 0, x, h, hc => by
    have e : y = x := by simpa using h
    subst e
    have hl : j < y.cells.length := by rw [rbCells_len]; exact hj
    rw [List.set_cons_zero, List.flatMap_cons, List.flatMap_cons, hc, Nat.zero_mul, Nat.zero_add, List.set_append_left _ _ hl]
  | y :: r, i + 1, x, h, hc => by
    have ih := flatRB_set hj (raws := r) (i := i) (by simpa using h) hc
    rw [List.set_cons_succ, List.flatMap_cons, List.flatMap_cons, ih, List.set_append_right _ _ (by rw [rbCells_len]; omega), rbCells_len]
    congr 2
    omega
structure FS (w0 w : World) (T g cap : Nat) (raws : List RB) (l : List Blk) : Prop where
  bel : Below w0.heap.size w0 w
  lo : w0.heap.size ≤ T
  tc : w.heap[T]? = some (.cells #[.slice (some ⟨g, 0, none⟩) l.length cap] 142 (0, 0))
  own : Own RB.cells 4 w w0.heap.size 85 (.slice (some ⟨g, 0, none⟩) l.length cap) raws
  len : raws.length = l.length
  at_ : ∀ (k : Nat) (x : RB) (b : Blk), raws[k]? = some x → l[k]? = some b → x.t = b.test ∧ x.h = b.thn ∧ x.e = b.els ∧ OwnSt w w0.heap.size 87 x.v b.code
  two : ∀ (j k : Nat) (x y : RB), raws[j]? = some x → raws[k]? = some y → j ≠ k → ∀ h, x.v.ownBlock = some h → y.v.ownBlock ≠ some h
/-- Copies of shapes stay. -/
structure FrS (w w' : World) : Prop where
  size : w.heap.size ≤ w'.heap.size
  shp : ∀ (k : Nat) (cs : Array Value), w.heap[k]? = some (.cells cs 59 (0, 0)) → w'.heap[k]? = some (.cells cs 59 (0, 0))
theorem FrS.refl (w : World) : FrS w w := ⟨Nat.le_refl _, fun _ _ h => h⟩
theorem FrS.trans {a w w' : World} (h : FrS a w) (k : FrS w w') : FrS a w' := ⟨Nat.le_trans h.size k.size, fun i cs hi => k.shp i cs (h.shp i cs hi)⟩
theorem FrS.alloc {a w : World} (h : FrS a w) (o : Obj) : FrS a (w.alloc o) := h.trans ⟨by simp, fun k cs hk => (Below.heap_alloc _ _ _ (lt_h hk)).trans hk⟩
theorem FrS.drew {a w : World} (h : FrS a w) : FrS a w.drew := ⟨h.size, h.shp⟩
theorem FrS.set {a w : World} (h : FrS a w) {p : Addr} {u : Value} {cs : Array Value} {E : Nat} (hT : w.heap[p.block]? = some (.cells cs E (0, 0))) (hE : E ≠ 59) : FrS a (w.setCell p u) :=
  h.trans ⟨by simp [World.setCell], fun k _ hk => (Below.heap_setCell w p u k (fun e => by
    subst e
    rw [hT] at hk
    injection hk with hk
    injection hk with _ h2 _
    exact hE h2)).trans hk⟩
theorem FrS.grown {α : Type} {f : α → List Value} {size base E : Nat} {a w w' : World} {v : Value} {l : List α} (h : FrS a w) (hO : Own f size w base E v l) (hE : E ≠ 59) (hg : w.grownBy w' v.ownBlock) : FrS a w' :=
  h.trans ⟨hg.size, fun k _ hk => (hg.block k (lt_h hk) (fun e => flat_off hO hk hE e.symm)).trans hk⟩
section
variable {w0 w w' : World} {T g cap : Nat} {raws : List RB} {l : List Blk}
theorem FS.alloc (h : FS w0 w T g cap raws l) (o : Obj) : FS w0 (w.alloc o) T g cap raws l :=
  ⟨h.bel.alloc h.bel.size o, h.lo, (Below.heap_alloc _ _ _ (lt_h h.tc)).trans h.tc, h.own.alloc o, h.len, fun k x b hx hb => by
    obtain ⟨e1, e2, e3, e4⟩ := h.at_ k x b hx hb
    exact ⟨e1, e2, e3, Own.alloc e4 o⟩, h.two⟩
theorem FS.drew (h : FS w0 w T g cap raws l) : FS w0 w.drew T g cap raws l := ⟨h.bel.drew, h.lo, h.tc, h.own, h.len, h.at_, h.two⟩
theorem FS.gT (h : FS w0 w T g cap raws l) : T ≠ g := fun e => by
  obtain ⟨cur, hc⟩ := own_heap h.own
  have := h.tc
  rw [e, hc] at this
  injection this with this
  injection this with _ h2 _
  exact absurd h2 (by decide)
theorem FS.glo (h : FS w0 w T g cap raws l) : w0.heap.size ≤ g ∧ g < w.heap.size := own_lt' h.own g rfl
/-- A store into a block's test, then or else. -/
theorem FS.store (h : FS w0 w T g cap raws l) {i j : Nat} {u : Value} {x x' : RB} {b b' : Blk} (hx : raws[i]? = some x) (hb : l[i]? = some b) (hj : j < 4) (hc : x'.cells = x.cells.set j u) (hv : x'.v = x.v) (hcode : b'.code = b.code) (e : x'.t = b'.test ∧ x'.h = b'.thn ∧ x'.e = b'.els) :
    FS w0 (w.setCell ⟨g, i * 4 + j, none⟩ u) T g cap (raws.set i x') (l.set i b') := by
  have hi : i < raws.length := (List.getElem?_eq_some_iff.1 hx).1
  have hil : i < l.length := (List.getElem?_eq_some_iff.1 hb).1
  obtain ⟨cur, hcur⟩ := own_heap h.own
  have hown := h.own
  unfold Own at hown
  rw [h.len] at hown
  have hst := (World.ownsRow.stored hown (i * 4 + j) u).1
  have far : ∀ (v : Value) (c : List Step), OwnSt w w0.heap.size 87 v c → OwnSt (w.setCell ⟨g, i * 4 + j, none⟩ u) w0.heap.size 87 v c := fun v c hO => Own.far (p := ⟨g, i * 4 + j, none⟩) hO (flat_off hO hcur (by decide)) u
  refine ⟨h.bel.setCell (p := ⟨g, i * 4 + j, none⟩) h.glo.1 u, h.lo, ?_, ?_, by rw [List.length_set, List.length_set]; exact h.len, fun k y c hy hk => ?_, fun a k y z hy hz hne => ?_⟩
  · rw [List.length_set]; exact (Below.heap_setCell w ⟨g, i * 4 + j, none⟩ u T h.gT).trans h.tc
  · unfold Own
    rw [List.length_set, List.length_set, h.len, flatRB_set hj hx hc]
    exact hst
  · by_cases ek : i = k
    · subst ek
      rw [List.getElem?_set_self hi] at hy
      rw [List.getElem?_set_self hil] at hk
      injection hy with hy
      injection hk with hk
      subst hy hk
      obtain ⟨_, _, _, q⟩ := h.at_ i x b hx hb
      exact ⟨e.1, e.2.1, e.2.2, by rw [hv, hcode]; exact far _ _ q⟩
    · rw [List.getElem?_set_ne ek] at hy hk
      obtain ⟨q1, q2, q3, q4⟩ := h.at_ k y c hy hk
      exact ⟨q1, q2, q3, far _ _ q4⟩
  · have back : ∀ (k : Nat) (y : RB), (raws.set i x')[k]? = some y → ∃ y0, raws[k]? = some y0 ∧ y0.v = y.v := fun k y hy => by
      by_cases ek : i = k
      · subst ek
        rw [List.getElem?_set_self hi] at hy
        injection hy with hy
        subst hy
        exact ⟨x, hx, hv.symm⟩
      · rw [List.getElem?_set_ne ek] at hy
        exact ⟨y, hy, rfl⟩
    obtain ⟨y0, hy0, ey⟩ := back a y hy
    obtain ⟨z0, hz0, ez⟩ := back k z hz
    intro hh he
    rw [← ey] at he
    rw [← ez]
    exact h.two a k y0 z0 hy0 hz0 hne hh he
/-- Steps go behind a block's. -/
theorem FS.code (h : FS w0 w T g cap raws l) {i : Nat} {x : RB} {b : Blk} (hx : raws[i]? = some x) (hb : l[i]? = some b) {v' : Value} {c : List Step} (hO : OwnSt w' w0.heap.size 87 v' c) (hg : w.grownBy w' x.v.ownBlock) (hat : v'.ownBlock = x.v.ownBlock ∨ v'.ownBlock = some w.heap.size ∨ v'.ownBlock = none) (hv1 : v'.oneCell' = true) :
    FS w0 (w'.setCell ⟨g, i * 4, none⟩ v') T g cap (raws.set i ⟨v', x.t, x.h, x.e, hv1⟩) (l.set i { b with code := c }) := by
  have hi : i < raws.length := (List.getElem?_eq_some_iff.1 hx).1
  have hil : i < l.length := (List.getElem?_eq_some_iff.1 hb).1
  obtain ⟨qx1, qx2, qx3, hOx⟩ := h.at_ i x b hx hb
  obtain ⟨cur, hcur⟩ := own_heap h.own
  have hTo := flat_off hOx h.tc (by decide)
  have hGo := flat_off hOx hcur (by decide)
  have hcur' := (hg.block g (lt_h hcur) (fun e => hGo e.symm)).trans hcur
  have htc' := (hg.block T (lt_h h.tc) (fun e => hTo e.symm)).trans h.tc
  have hown : Own RB.cells 4 w' w0.heap.size 85 (.slice (some ⟨g, 0, none⟩) l.length cap) raws := h.own.kept hg (flat_two h.own hOx (by decide))
  unfold Own at hown
  rw [h.len] at hown
  have hst := (World.ownsRow.stored hown (i * 4) v').1
  have far : ∀ (v : Value) (c : List Step), OwnSt w' w0.heap.size 87 v c → OwnSt (w'.setCell ⟨g, i * 4, none⟩ v') w0.heap.size 87 v c := fun v c hO => Own.far (p := ⟨g, i * 4, none⟩) hO (flat_off hO hcur' (by decide)) v'
  have hbel : Below w0.heap.size w0 w' := h.bel.grown hg h.bel.size (fun k e => (own_lt' hOx k e).1)
  refine ⟨hbel.setCell (p := ⟨g, i * 4, none⟩) h.glo.1 v', h.lo, ?_, ?_, by rw [List.length_set, List.length_set]; exact h.len, fun k y d hy hk => ?_, fun a k y z hy hz hne hh he => ?_⟩
  · rw [List.length_set]; exact (Below.heap_setCell w' ⟨g, i * 4, none⟩ v' T h.gT).trans htc'
  · unfold Own
    rw [List.length_set, List.length_set, h.len]
    have := flatRB_set (j := 0) (by decide) (u := v') (x' := ⟨v', x.t, x.h, x.e, hv1⟩) hx rfl
    rw [Nat.add_zero] at this
    rw [this]
    exact hst
  · by_cases ek : i = k
    · subst ek
      rw [List.getElem?_set_self hi] at hy
      rw [List.getElem?_set_self hil] at hk
      injection hy with hy
      injection hk with hk
      subst hy hk
      exact ⟨qx1, qx2, qx3, far _ _ hO⟩
    · rw [List.getElem?_set_ne ek] at hy hk
      obtain ⟨q1, q2, q3, q4⟩ := h.at_ k y d hy hk
      refine ⟨q1, q2, q3, far _ _ (Own.kept q4 hg ?_)⟩
      match e : y.v.ownBlock with
      | none => exact .inl rfl
      | some m => exact .inr (fun e2 => h.two i k x y hx hy ek m e2.symm e)
  · have fresh : ∀ (k : Nat) (y : RB), raws[k]? = some y → k ≠ i → y.v.ownBlock ≠ v'.ownBlock ∨ y.v.ownBlock = none := fun k y hy hk => by
      obtain ⟨q1, q2, q3, q4⟩ := h.at_ k y _ hy (List.getElem?_eq_getElem (by have := (List.getElem?_eq_some_iff.1 hy).1; have := h.len; omega))
      match e : y.v.ownBlock with
      | none => exact .inr rfl
      | some m =>
        left
        rcases hat with e2 | e2 | e2
        · rw [e2]; exact fun e3 => h.two k i y x hy hx hk m e e3.symm
        · rw [e2]; intro e3; have e3 : m = w.heap.size := by injection e3
          have := (own_lt' q4 m e).2; omega
        · rw [e2]; exact fun e3 => by cases e3
    by_cases ea : i = a
    · subst ea
      rw [List.getElem?_set_self hi] at hy
      rw [List.getElem?_set_ne hne] at hz
      injection hy with hy
      subst hy
      have he : v'.ownBlock = some hh := he
      rcases fresh k z hz (fun e => hne e.symm) with q | q
      · rw [he] at q; exact q
      · rw [q]; exact fun e => by cases e
    · rw [List.getElem?_set_ne ea] at hy
      by_cases ek : i = k
      · subst ek
        rw [List.getElem?_set_self hi] at hz
        injection hz with hz
        subst hz
        show v'.ownBlock ≠ some hh
        rcases fresh a y hy (fun e => ea e.symm) with q | q
        · rw [he] at q; exact fun e => q e.symm
        · rw [q] at he; cases he
      · rw [List.getElem?_set_ne ek] at hz
        exact h.two a k y z hy hz hne hh he
/-- f.p = append(f.p, b) -/
theorem FS.put (h : FS w0 w T g cap raws l) (b : Blk) (hbc : b.code = []) {v' : Value} (hO : Own RB.cells 4 w' w0.heap.size 85 v' (raws ++ [⟨.slice none 0 0, b.test, b.thn, b.els, rfl⟩])) (hg : w.grownBy w' (some g)) :
    ∃ g' cap', v' = .slice (some ⟨g', 0, none⟩) (l.length + 1) cap' ∧ FS w0 (w'.setCell ⟨T, 0, none⟩ v') T g' cap' (raws ++ [⟨.slice none 0 0, b.test, b.thn, b.els, rfl⟩]) (l ++ [b]) := by
  obtain ⟨g', cap', e, -, -, -, -⟩ := Own.some_ hO (by simp)
  have e : v' = .slice (some ⟨g', 0, none⟩) (l.length + 1) cap' := by rw [e, List.length_append, h.len]; rfl
  subst e
  refine ⟨g', cap', rfl, ?_⟩
  obtain ⟨cur', hcur'⟩ := own_heap hO
  have htc' := (hg.block T (lt_h h.tc) (fun e => h.gT (by injection e))).trans h.tc
  have hbel : Below w0.heap.size w0 w' := h.bel.grown hg h.bel.size (fun k e => by have e : some g = some k := e; injection e with e; have := h.glo.1; omega)
  obtain ⟨cur, hcur⟩ := own_heap h.own
  have far : ∀ (v : Value) (c : List Step), OwnSt w' w0.heap.size 87 v c → OwnSt (w'.setCell ⟨T, 0, none⟩ (.slice (some ⟨g', 0, none⟩) (l.length + 1) cap')) w0.heap.size 87 v c := fun v c hO => Own.far (p := ⟨T, 0, none⟩) hO (flat_off hO htc' (by decide)) _
  refine ⟨hbel.setCell (p := ⟨T, 0, none⟩) h.lo _, h.lo, ?_, ?_, by rw [List.length_append, List.length_append, h.len]; rfl, fun k y d hy hk => ?_, fun a k y z hy hz hne hh he => ?_⟩
  · rw [List.length_append, List.length_singleton]
    exact heapSetCell w' T 0 _ _ _ htc'
  · rw [List.length_append, List.length_singleton]
    exact Own.far (p := ⟨T, 0, none⟩) hO (flat_off hO htc' (by decide)) _
  · rcases Nat.lt_or_ge k raws.length with hk1 | hk1
    · rw [List.getElem?_append_left hk1] at hy
      rw [List.getElem?_append_left (by rw [← h.len]; exact hk1)] at hk
      obtain ⟨q1, q2, q3, q4⟩ := h.at_ k y d hy hk
      exact ⟨q1, q2, q3, far _ _ (Own.kept q4 hg (.inr (flat_off q4 hcur (by decide))))⟩
    · rw [List.getElem?_append_right hk1] at hy
      rw [List.getElem?_append_right (by rw [← h.len]; exact hk1)] at hk
      match e : k - raws.length, hy with
      | 0, hy =>
        rw [show k - l.length = 0 by rw [← h.len]; exact e] at hk
        simp at hy hk
        subst hy hk
        exact ⟨rfl, rfl, rfl, by rw [hbc]; exact Own.nil_ _ _ _⟩
      | n + 1, hy => simp at hy
  · have old : ∀ (k : Nat) (y : RB), (raws ++ [(⟨.slice none 0 0, b.test, b.thn, b.els, rfl⟩ : RB)])[k]? = some y → raws[k]? = some y ∨ y.v = .slice none 0 0 := fun k y hy => by
      rcases Nat.lt_or_ge k raws.length with hk1 | hk1
      · rw [List.getElem?_append_left hk1] at hy; exact .inl hy
      · rw [List.getElem?_append_right hk1] at hy
        match e : k - raws.length, hy with
        | 0, hy => simp at hy; subst hy; exact .inr rfl
        | n + 1, hy => simp at hy
    rcases old a y hy with hy | hy
    · rcases old k z hz with hz | hz
      · exact h.two a k y z hy hz hne hh he
      · rw [hz]; exact fun e => by cases e
    · rw [hy] at he; cases he
end
end Go.Proofs.Ytmgejacndhnikaa
