/- A queue of ints: none or two are appended at once; stores elsewhere. -/
import Derived.Test.YtmgejacndhnikaaQueue
import Derived.Maps.AppendAt
import Derived.Deep.Upon
namespace Go.Proofs.Ytmgejacndhnikaa
open Go.RowKit

theorem OwnQ.far {w : World} {base : Nat} {v : Value} {l : List Int} (h : OwnQ w base v l) {p : Addr} (hp : p.block < base) (u : Value) : OwnQ (w.setCell p u) base v l := by
  obtain ⟨A, cap, e, h1, h2, h3, h4⟩ := h
  refine ⟨A, cap, e, h1, h2, h3, fun hc => ?_⟩
  obtain ⟨g, off, cur, hA, hg, hh, hs, hk⟩ := h4 hc
  exact ⟨g, off, cur, hA, hg, (Below.heap_setCell w p u g (by omega)).trans hh, hs, hk⟩
/-- 'queue = append(queue, nothing...)': nothing happens. -/
theorem wpList_appQ0 {w : World} {ops : Array Oper} {rest : List Oper} {o : Oper} {a : Act} {Q : Exit → Act → World → Prop} (hgd : o.guard = none) (s x : Operand)
    (ho : o.op = .call { callee := .builtin .append, args := #[s, x], argTypes := #[23, 23] })
    (base n cap : Nat) (A' : Option Addr) (l : List Int) (hs : a.eval s = .slice A' n cap) (hown : OwnQ w base (.slice A' n cap) l) (hl : 0 < l.length) (A : Option Addr) (c : Nat) (hx : a.eval x = .slice A 0 c) (hlen : l.length < 1000000)
    (h : wpList Try.prog ops Q rest (a.put o.dst (.slice A' n cap)) w) : wpList Try.prog ops Q (o :: rest) a w := by
  obtain ⟨i, hi, hz0, hz1, hz2⟩ := info_parts infoInt
  obtain ⟨A2, cap2, e, h1, h2, h3, h4⟩ := id hown
  injection e with e1 e2 e3
  subst e1 e2 e3
  cases A with
  | none =>
    have hrun := run_append_nothing (P := Try.prog) w 23 23 o.type 3 i Try.underlying23 hi A' l.length cap h1 _ (Src.ofNil w Try.underlying23 c)
    refine wpList_plain hgd fun K hK => ?_
    unfold Oper.wp
    simp [execOp, ho, resolve, invoke, builtin, hs, hx, hrun, Result.andThen]
    exact hK _ _ h
  | some ad =>
    obtain ⟨g, off, cur, rfl, hg, hh, hsz, hk⟩ := h4 (by omega)
    have hcell : ∀ j, w.cell? ⟨g, j, none⟩ = cur[j]? := fun j => cell_of_row w g j cur _ _ hh
    refine wpList_append_arg w hgd s x 23 ho 3 i (.int .i64 0) 1 8 Try.underlying23 hi hz0 hz1 hz2 rfl (by decide) g off l.length cap (l.map (Value.int .i64)) hs (by simp) (fun j u hj => ?_)
      ad 0 c [] hx rfl (fun j u hj => by simp at hj) (fun u hu => by simp at hu) (fun hroom j hj => by simp at hj) (by unfold maxLen; omega) (by omega) (fun _ => h) (fun hx => by omega)
    rw [hcell]
    rw [List.getElem?_map] at hj
    obtain ⟨y, hy, rfl⟩ := Option.map_eq_some_iff.1 hj
    exact hk j y hy
theorem own_belowC {α : Type} {f : α → List Value} {size E C base : Nat} {g n c : Nat} {l : List α} {w w' : World} (h : Own f size w base E (.slice (some ⟨g, 0, none⟩) n c) l) (hg : g < C) (hb : Below C w w') : Own f size w' base E (.slice (some ⟨g, 0, none⟩) n c) l := by
  refine ⟨h.1, ?_⟩
  rcases h.2 with h0 | ⟨g', cap, cur, h1, h2, h3, h4⟩
  · exact .inl h0
  · have h1' := h1
    injection h1' with e1
    injection e1 with e1
    injection e1 with e1
    exact .inr ⟨g', cap, cur, h1, h2, (hb.block g' (by omega)).trans h3, h4⟩
/-- 'queue = append(queue, y, z)'. -/
theorem wpList_appQ2 {w : World} {ops : Array Oper} {rest : List Oper} {o : Oper} {a : Act} {Q : Exit → Act → World → Prop} (hgd : o.guard = none) (s x : Operand)
    (ho : o.op = .call { callee := .builtin .append, args := #[s, x], argTypes := #[23, 23] })
    (base : Nat) (v : Value) (l : List Int) (y z : Int) (hs : a.eval s = v) (hown : OwnQ w base v l) (hl : 0 < l.length) (A : Option Addr) (c : Nat) (hx : a.eval x = .slice A 2 c)
    (hR : RdI w A [y, z]) (hlen : l.length < 1000000) (hbase : base ≤ w.heap.size)
    (h : ∀ v' w', OwnQ w' base v' (l ++ [y, z]) → Below base w w' → w.heap.size ≤ w'.heap.size → wpList Try.prog ops Q rest (a.put o.dst v') w') : wpList Try.prog ops Q (o :: rest) a w := by
  obtain ⟨i, hi, hz0, hz1, hz2⟩ := info_parts infoInt
  obtain ⟨A', cap, e, h1, h2, h3, h4⟩ := id hown
  subst e
  obtain ⟨b9, o9, rfl, hb9, d0⟩ := RdI.at1 hR (k := 0) (by simp)
  obtain ⟨b8, o8, e8, _, d1⟩ := RdI.at1 hR (k := 1) (by simp)
  injection e8 with e8; injection e8 with e8a e8b
  subst e8a e8b
  simp only [Nat.add_zero, List.getElem_cons_zero, List.getElem_cons_succ] at d0 d1
  have hnews : ∀ j u, [Value.int .i64 y, Value.int .i64 z][j]? = some u → w.cell? ((⟨b9, o9, none⟩ : Addr).add j) = some u := fun j u hj => by
    match j, hj with
    | 0, hj => simp at hj; subst hj; simpa [Addr.add] using d0
    | 1, hj => simp at hj; subst hj; simpa [Addr.add] using d1
    | j + 2, hj => simp at hj
  have hone : ∀ u ∈ [Value.int .i64 y, Value.int .i64 z], u.oneCell' = true := by intro u hu; simp at hu; rcases hu with rfl | rfl <;> rfl
  have grows : ∀ v' w', w'.ownsRow w.heap.size 3 1 v' (l.length + 2) (l.map (Value.int .i64) ++ [Value.int .i64 y, Value.int .i64 z]) → w.grownBy w' none → wpList Try.prog ops Q rest (a.put o.dst v') w' := fun v' w' hr hg => by
    refine h v' w' (OwnQ.of_own (Own.base_ (l := l ++ [y, z]) (base := w.heap.size) ?_ hbase)) ((Below.refl _ _).grown hg hbase (fun k hk => by cases hk)) hg.size
    unfold Own
    rw [List.length_append, intsMap, List.map_append]
    exact hr
  obtain ⟨g, off, cur, rfl, hg, hh, hsz, hk⟩ := h4 (by omega)
  have hcell : ∀ j, w.cell? ⟨g, j, none⟩ = cur[j]? := fun j => cell_of_row w g j cur _ _ hh
  refine wpList_append_arg w hgd s x 23 ho 3 i (.int .i64 0) 1 8 Try.underlying23 hi hz0 hz1 hz2 rfl (by decide) g off l.length cap (l.map (Value.int .i64)) hs (by simp) (fun j u hj => ?_)
    ⟨b9, o9, none⟩ 2 c [.int .i64 y, .int .i64 z] hx rfl hnews hone (fun hroom j hj => ?_) (by unfold maxLen; omega) (by omega) (fun hroom => ?_) (fun _ => grows)
  · rw [hcell]
    rw [List.getElem?_map] at hj
    obtain ⟨x, hx, rfl⟩ := Option.map_eq_some_iff.1 hj
    exact hk j x hx
  · have hj2 : j < 2 := by simpa using hj
    rw [hcell]
    refine ⟨by rw [Array.getElem?_eq_getElem (by omega)]; rfl, by simp [World.frozen?, hh]⟩
  · have hset : w.setCells g (off + l.length * 1) [.int .i64 y, .int .i64 z] = (w.setCell ⟨g, off + l.length, none⟩ (.int .i64 y)).setCell ⟨g, off + l.length + 1, none⟩ (.int .i64 z) := by
      rw [Nat.mul_one]; rfl
    rw [hset]
    refine h _ _ ⟨some ⟨g, off, none⟩, cap, by simp, by simp; omega, h2, (fun hn => by cases hn), fun _ => ⟨g, off, (cur.setIfInBounds (off + l.length) (.int .i64 y)).setIfInBounds (off + l.length + 1) (.int .i64 z), rfl, hg, ?_, by simp; omega, fun k x hx => ?_⟩⟩ ?_ (by simp [World.setCell])
    · simp [World.setCell, Array.getElem?_modify, hh]
    · rw [List.getElem?_append] at hx
      split at hx
      · rename_i hlt
        rw [Array.getElem?_setIfInBounds_ne (by omega), Array.getElem?_setIfInBounds_ne (by omega)]
        exact hk k x hx
      · rename_i hge
        have hk2 := (List.getElem?_eq_some_iff.1 hx).1
        simp at hk2
        by_cases e : k = l.length
        · subst e
          simp at hx
          subst hx
          rw [Array.getElem?_setIfInBounds_ne (by omega), Array.getElem?_setIfInBounds_self_of_lt (by omega)]
        · have e2 : k = l.length + 1 := by omega
          subst e2
          simp at hx
          subst hx
          rw [show off + (l.length + 1) = off + l.length + 1 by omega, Array.getElem?_setIfInBounds_self_of_lt (by simp; omega)]
    · exact ((Below.refl _ _).setCell hg _).setCell hg _
end Go.Proofs.Ytmgejacndhnikaa
