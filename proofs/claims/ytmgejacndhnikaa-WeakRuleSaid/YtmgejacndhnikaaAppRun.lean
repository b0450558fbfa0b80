/- append of one element, as a run; two rows of the call's own beside a map. -/
import Derived.Test.YtmgejacndhnikaaTermOwn
import Derived.Test.YtmgejacndhnikaaMapF
import Derived.Test.YtmgejacndhnikaaKeyT
import Derived.Maps.AppendAt
namespace Go.Proofs.Ytmgejacndhnikaa
set_option maxRecDepth 100000
open Go.RowKit

theorem run_app1 {P : Program} {w : World} (t ty : TypeId) {α : Type} (f : α → List Value) (size bytes E : Nat) (z : Value) (hu : P.underlying t = some (.slice E)) (hinfo : (P.info? E).map (fun i => (i.zero, i.size, i.bytes)) = some (some z, size, bytes))
    (hzs : z.cells.size = size) (hsz : 0 < size) (hf : ∀ x, (f x).length = size) (h1 : ∀ x, ∀ u ∈ f x, u.oneCell' = true)
    (base : Nat) (v : Value) (l : List α) (y : α) (hown : Own f size w base E v l) (S c : Nat)
    (hnew : ∀ j, j < size → w.cell? ⟨S, j, none⟩ = (f y)[j]?) (hlen : l.length + 1 ≤ maxLen) (hb : (l.length + 1) * bytes ≤ 140737488355328) (hbase : base ≤ w.heap.size) :
    ∃ v' w', (Builtin.append_ #[t, t] ty #[v, .slice (some ⟨S, 0, none⟩) 1 c]).run P w = .ok v' w' ∧ Own f size w' base E v' (l ++ [y]) ∧ w.grownBy w' v.ownBlock ∧ (v'.ownBlock = v.ownBlock ∨ v'.ownBlock = some w.heap.size) := by
  obtain ⟨i, hi, hz0, hz1, hz2⟩ := info_parts hinfo
  obtain ⟨v', w', hr, h2, h3, _, h5⟩ := run_append_own_at (P := P) w base t ty E i z size bytes hu hi hz0 hz1 hz2 hzs hsz v l.length (l.flatMap f) hown ⟨S, 0, none⟩ 1 c (f y) (by rw [hf, Nat.one_mul]) (by
    intro j u hj
    have hlt : j < size := by rw [← hf y]; exact (List.getElem?_eq_some_iff.1 hj).1
    rw [← hj, ← hnew j hlt]
    congr 1
    unfold Addr.add
    by_cases h0 : j = 0 <;> simp [h0]) (h1 y) hlen hb hbase
  refine ⟨v', w', hr, ?_, h3, h5⟩
  unfold Own
  rw [List.length_append, List.flatMap_append, List.flatMap_cons, List.flatMap_nil, List.append_nil]
  exact h2
/-- 'append' at the operation, its run given. -/
theorem wp_app_run {P : Program} {o : Oper} {a : Act} {w : World} {K : Act → World → Prop} {Q : Exit → Act → World → Prop} (t : TypeId) (s x : Operand) (ho : o.op = .call { callee := .builtin .append, args := #[s, x], argTypes := #[t, t] })
    {v x' v' : Value} {w' : World} (hs : a.eval s = v) (hx : a.eval x = x') (hrun : (Builtin.append_ #[t, t] o.type #[v, x']).run P w = .ok v' w') (h : K (a.put o.dst v') w') : o.wp P a w K Q := by
  unfold Oper.wp
  simp [execOp, ho, resolve, invoke, builtin, hs, hx, hrun, Result.andThen]
  exact h
theorem own_lt {α : Type} {f : α → List Value} {size base E : Nat} {w : World} {v : Value} {l : List α} (h : Own f size w base E v l) : ∀ g, v.ownBlock = some g → base ≤ g ∧ g < w.heap.size := fun g hg => World.ownsRow.lt h g hg
theorem cell_grown {w w' : World} {row : Option Nat} (hg : w.grownBy w' row) (b j : Nat) (hb : b < w.heap.size) (hne : some b ≠ row) : w'.cell? ⟨b, j, none⟩ = w.cell? ⟨b, j, none⟩ := World.cell?_of_block (hg.block b hb hne)
/-- Rows of different elements lie apart. -/
theorem own_apart {α β : Type} {f : α → List Value} {f' : β → List Value} {size size' base base' E E' : Nat} {w : World} {v v' : Value} {l : List α} {l' : List β} (h : Own f size w base E v l) (h' : Own f' size' w base' E' v' l') (hE : E ≠ E') : v.ownBlock = none ∨ v.ownBlock ≠ v'.ownBlock := by
  rcases h.2 with ⟨rfl, _⟩ | ⟨g, cap, cur, rfl, _, hh, _⟩
  · exact Or.inl rfl
  · rcases h'.2 with ⟨rfl, _⟩ | ⟨g', cap', cur', rfl, _, hh', _⟩
    · exact Or.inr (fun e => by cases e)
    · refine Or.inr fun e => ?_
      have e : some g = some g' := e
      injection e with e
      subst e
      rw [hh] at hh'
      injection hh' with hh'
      injection hh' with _ h2 _
      exact hE h2

/-- The rows of value.numbers beside its map (block M): fs, ks; and the four cells of a term at g. -/
structure Two (w : World) (W0 : World) (M n : Nat) (v5 v6 : Value) (fs : List Int) (ks : List Term) (f : Term → Option Value) (g : Nat) (y : Term) : Prop where
  ri : OwnI w (M + 1) 3 v5 fs
  rt : OwnT w (M + 1) v6 ks
  mp : OwnM Term.agg w 62 M n f
  bl : Below W0.heap.size W0 w
  hM : W0.heap.size ≤ M
  hg : g < w.heap.size ∧ M < g
  n5 : v5.ownBlock ≠ some g
  n6 : v6.ownBlock ≠ some g
  hh : w.heap[g]? = some (.cells y.cells.toArray 62 (0, 0))
section
variable {w W0 : World} {M n : Nat} {v5 v6 : Value} {fs : List Int} {ks : List Term} {f : Term → Option Value} {g : Nat} {y : Term}
theorem Two.drew (h : Two w W0 M n v5 v6 fs ks f g y) : Two w.drew W0 M n v5 v6 fs ks f g y := ⟨h.ri, h.rt, h.mp, h.bl.drew, h.hM, h.hg, h.n5, h.n6, h.hh⟩
theorem Two.alloc (h : Two w W0 M n v5 v6 fs ks f g y) (o : Obj) : Two (w.alloc o) W0 M n v5 v6 fs ks f g y :=
  ⟨h.ri.alloc o, h.rt.alloc o, h.mp.alloc o, h.bl.alloc h.bl.size o, h.hM, ⟨by simp; have := h.hg.1; omega, h.hg.2⟩, h.n5, h.n6, ((World.grownBy_alloc w o none).block g h.hg.1 (by simp)).trans h.hh⟩
theorem Two.appI (h : Two w W0 M n v5 v6 fs ks f g y) {w' : World} {v' : Value} {x : Int} (hown : OwnI w' (M + 1) 3 v' (fs ++ [x])) (hgrow : w.grownBy w' v5.ownBlock) (hat : v'.ownBlock = v5.ownBlock ∨ v'.ownBlock = some w.heap.size) :
    Two w' W0 M n v' v6 (fs ++ [x]) ks f g y := by
  refine ⟨hown, h.rt.kept hgrow (own_apart h.rt h.ri (by decide)), h.mp.kept hgrow (fun e => ?_), h.bl.grown hgrow h.bl.size (fun k hk => ?_), h.hM, ⟨Nat.lt_of_lt_of_le h.hg.1 hgrow.size, h.hg.2⟩, ?_, h.n6, (hgrow.block g h.hg.1 (fun e => h.n5 e.symm)).trans h.hh⟩
  · have := own_lt h.ri M e.symm; omega
  · have := own_lt h.ri k hk; have := h.hM; omega
  · rcases hat with e | e
    · rw [e]; exact h.n5
    · rw [e]; intro e2; injection e2 with e2; have := h.hg.1; omega
theorem Two.appT (h : Two w W0 M n v5 v6 fs ks f g y) {w' : World} {v' : Value} {x : Term} (hown : OwnT w' (M + 1) v' (ks ++ [x])) (hgrow : w.grownBy w' v6.ownBlock) (hat : v'.ownBlock = v6.ownBlock ∨ v'.ownBlock = some w.heap.size) :
    Two w' W0 M n v5 v' fs (ks ++ [x]) f g y := by
  refine ⟨h.ri.kept hgrow (own_apart h.ri h.rt (by decide)), hown, h.mp.kept hgrow (fun e => ?_), h.bl.grown hgrow h.bl.size (fun k hk => ?_), h.hM, ⟨Nat.lt_of_lt_of_le h.hg.1 hgrow.size, h.hg.2⟩, h.n5, ?_, (hgrow.block g h.hg.1 (fun e => h.n6 e.symm)).trans h.hh⟩
  · have := own_lt h.rt M e.symm; omega
  · have := own_lt h.rt k hk; have := h.hM; omega
  · rcases hat with e | e
    · rw [e]; exact h.n6
    · rw [e]; intro e2; injection e2 with e2; have := h.hg.1; omega
theorem Two.cs (h : Two w W0 M n v5 v6 fs ks f g y) (j : Nat) : w.cell? ⟨g, j, none⟩ = y.cells[j]? := by
  rw [cell_of_row w g j _ _ _ h.hh, List.getElem?_toArray]
theorem Two.fz (h : Two w W0 M n v5 v6 fs ks f g y) (j : Nat) : w.frozen? ⟨g, j, none⟩ = false := by
  simp [World.frozen?, h.hh]
theorem grown_setRow (w : World) (g : Nat) (cs : Array Value) : w.grownBy (w.setRow g cs) (some g) := ⟨rfl, rfl, rfl, by simp [World.setRow], fun i _ hne => setRow_other w g i cs (fun e => hne (by rw [e]))⟩
/-- Another thing lies in the term's block. -/
theorem Two.turn (h : Two w W0 M n v5 v6 fs ks f g y) {w' : World} {y' : Term} (hg : w.grownBy w' (some g)) (hh : w'.heap[g]? = some (.cells y'.cells.toArray 62 (0, 0))) : Two w' W0 M n v5 v6 fs ks f g y' :=
  ⟨h.ri.kept hg (Or.inr h.n5), h.rt.kept hg (Or.inr h.n6), h.mp.kept hg (fun e => by injection e with e; have := h.hg.2; omega), h.bl.grown hg h.bl.size (fun k hk => by injection hk with hk; have := h.hM; have := h.hg.2; omega), h.hM, ⟨Nat.lt_of_lt_of_le h.hg.1 hg.size, h.hg.2⟩, h.n5, h.n6, hh⟩
theorem Two.setRow (h : Two w W0 M n v5 v6 fs ks f g y) (y' : Term) : Two (w.setRow g y'.cells.toArray) W0 M n v5 v6 fs ks f g y' :=
  h.turn (grown_setRow w g _) (setRow_heap w g _ _ _ _ h.hh)
theorem heap_setCell_ (w : World) (g j : Nat) (v : Value) (cs : Array Value) (E : Nat) (h : w.heap[g]? = some (.cells cs E (0, 0))) : (w.setCell ⟨g, j, none⟩ v).heap[g]? = some (.cells (cs.setIfInBounds j v) E (0, 0)) := by
  obtain ⟨hlt, hv⟩ := Array.getElem?_eq_some_iff.1 h
  unfold World.setCell
  rw [Array.getElem?_eq_getElem (by simpa using hlt), Array.getElem_modify]
  simp [hv]
theorem grown_setCell (w : World) (g j : Nat) (v : Value) : w.grownBy (w.setCell ⟨g, j, none⟩ v) (some g) := ⟨rfl, rfl, rfl, by simp [World.setCell], fun i _ hne => Below.heap_setCell w ⟨g, j, none⟩ v i (fun e => hne (by rw [e]))⟩
theorem Two.set12 (h : Two w W0 M n v5 v6 fs ks f g y) (a b : Int) : Two ((w.setCell ⟨g, 1, none⟩ (.int .i64 a)).setCell ⟨g, 2, none⟩ (.int .i64 b)) W0 M n v5 v6 fs ks f g ⟨y.op, a, b, y.val⟩ :=
  (h.turn (y' := ⟨y.op, a, y.b, y.val⟩) (grown_setCell w g 1 _) (heap_setCell_ w g 1 _ _ _ h.hh)).turn (grown_setCell _ g 2 _) (heap_setCell_ _ g 2 _ _ _ (heap_setCell_ w g 1 _ _ _ h.hh))
/-- The map is written. -/
theorem Two.put (h : Two w W0 M n v5 v6 fs ks f g y) {w' : World} {f' : Term → Option Value} {n' : Nat} (hm : OwnM Term.agg w' 62 M n' f') (hg : w.grownBy w' (some M)) : Two w' W0 M n' v5 v6 fs ks f' g y :=
  ⟨h.ri.kept hg (Or.inr (fun e => by have := (own_lt h.ri _ e).1; omega)), h.rt.kept hg (Or.inr (fun e => by have := (own_lt h.rt _ e).1; omega)), hm, h.bl.grown hg h.bl.size (fun k hk => by injection hk with hk; have := h.hM; omega), h.hM, ⟨Nat.lt_of_lt_of_le h.hg.1 hg.size, h.hg.2⟩, h.n5, h.n6, (hg.block g h.hg.1 (fun e => by injection e with e; have := h.hg.2; omega)).trans h.hh⟩
theorem Two.at4 (h : Two w W0 M n v5 v6 fs ks f g y) : w.cell? ⟨g, 0, none⟩ = some (.int .i64 y.op) ∧ w.cell? ⟨g, 1, none⟩ = some (.int .i64 y.a) ∧ w.cell? ⟨g, 2, none⟩ = some (.int .i64 y.b) ∧ w.cell? ⟨g, 3, none⟩ = some (.int .i64 y.val) :=
  ⟨h.cs 0, h.cs 1, h.cs 2, h.cs 3⟩
/-- A new block's cells, and that no row of the call's is it. -/
structure Nb (w : World) (s : Nat) (cs : List Value) (v5 v6 : Value) : Prop where
  lt : s < w.heap.size
  cs : ∀ j, j < cs.length → w.cell? ⟨s, j, none⟩ = cs[j]?
  n5 : v5.ownBlock ≠ some s
  n6 : v6.ownBlock ≠ some s
theorem Nb.new (h : Two w W0 M n v5 v6 fs ks f g y) (cs : List Value) (E : Nat) : Nb (w.alloc (.cells cs.toArray E)) w.heap.size cs v5 v6 :=
  ⟨by simp, fun j hj => by
    rw [cell_new w cs.toArray E w.heap.size rfl, List.getElem?_toArray], fun e => by have := (own_lt h.ri _ e).2; omega, fun e => by have := (own_lt h.rt _ e).2; omega⟩
theorem Nb.grown {s : Nat} {cs : List Value} {w' : World} {row : Option Nat} (h : Nb w s cs v5 v6) (hg : w.grownBy w' row) (hne : row ≠ some s) {v5' v6' : Value} (h5 : v5'.ownBlock = v5.ownBlock ∨ v5'.ownBlock = some w.heap.size) (h6 : v6'.ownBlock = v6.ownBlock ∨ v6'.ownBlock = some w.heap.size) : Nb w' s cs v5' v6' :=
  ⟨Nat.lt_of_lt_of_le h.lt hg.size, fun j hj => by rw [← h.cs j hj]; exact cell_grown hg s j h.lt (fun e => hne e.symm), by
    rcases h5 with e | e
    · rw [e]; exact h.n5
    · rw [e]; intro e2; injection e2 with e2; have := h.lt; omega, by
    rcases h6 with e | e
    · rw [e]; exact h.n6
    · rw [e]; intro e2; injection e2 with e2; have := h.lt; omega⟩
end
end Go.Proofs.Ytmgejacndhnikaa
