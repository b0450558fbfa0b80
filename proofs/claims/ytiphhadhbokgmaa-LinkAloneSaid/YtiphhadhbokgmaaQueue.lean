/- A queue of ints: a slice of the call's own that is cut at its head and appended to. -/
import Derived.Test.YtiphhadhbokgmaaOwn
namespace Go.Proofs.Ytiphhadhbokgmaa
open Go.RowKit

def OwnQ (w : World) (base : Nat) (v : Value) (l : List Int) : Prop :=
  ∃ A cap, v = .slice A l.length cap ∧ l.length ≤ cap ∧ cap ≤ maxLen ∧ (A = none → cap = 0) ∧
    (0 < cap → ∃ g off cur, A = some ⟨g, off, none⟩ ∧ base ≤ g ∧ w.heap[g]? = some (.cells cur 3 (0, 0)) ∧ off + cap ≤ cur.size ∧ ∀ (k : Nat) (x : Int), l[k]? = some x → cur[off + k]? = some (.int .i64 x))

theorem lt_of_heap {w : World} {g : Nat} {o : Obj} (h : w.heap[g]? = some o) : g < w.heap.size := by
  rcases Nat.lt_or_ge g w.heap.size with hl | hl
  · exact hl
  · rw [Array.getElem?_eq_none hl] at h; cases h
theorem intsMap (l : List Int) : l.flatMap intCells = l.map (Value.int .i64) := by
  induction l with
  | nil => rfl
  | cons x r ih => rw [List.flatMap_cons, ih]; rfl
theorem OwnQ.of_own {w : World} {base : Nat} {v : Value} {l : List Int} (h : OwnI w base 3 v l) : OwnQ w base v l := by
  rcases h.2 with ⟨rfl, h0⟩ | ⟨g, cap, cur, rfl, hb, hh, hn, hm, hs, ht⟩
  · exact ⟨none, 0, by rw [h0], by omega, by simp [maxLen], fun _ => rfl, fun h => by omega⟩
  · refine ⟨some ⟨g, 0, none⟩, cap, rfl, hn, hm, (fun h => by cases h), fun _ => ⟨g, 0, cur, rfl, hb, hh, by omega, fun k x hx => ?_⟩⟩
    have hk : k < l.length := (List.getElem?_eq_some_iff.1 hx).1
    have e : (l.map (Value.int .i64))[k]? = some (.int .i64 x) := by rw [List.getElem?_map, hx]; rfl
    rw [← intsMap, ← ht, List.getElem?_take_of_lt (by omega)] at e
    rw [Nat.zero_add, ← Array.getElem?_toList]
    exact e
theorem OwnQ.below {w w' : World} {base : Nat} {v : Value} {l : List Int} (h : OwnQ w base v l) (hb : Below w.heap.size w w') : OwnQ w' base v l := by
  obtain ⟨A, cap, e, h1, h2, h3, h4⟩ := h
  refine ⟨A, cap, e, h1, h2, h3, fun hc => ?_⟩
  obtain ⟨g, off, cur, hA, hg, hh, hs, hk⟩ := h4 hc
  exact ⟨g, off, cur, hA, hg, (hb.block g (lt_of_heap hh)).trans hh, hs, hk⟩
theorem OwnQ.alloc {w : World} {base : Nat} {v : Value} {l : List Int} (h : OwnQ w base v l) (o : Obj) : OwnQ (w.alloc o) base v l := h.below ((Below.refl _ _).alloc (Nat.le_refl _) o)
theorem OwnQ.drewN {w : World} {base : Nat} {v : Value} {l : List Int} (h : OwnQ w base v l) (n : Nat) : OwnQ (w.drewN n) base v l := h
theorem OwnQ.form {w : World} {base : Nat} {v : Value} {l : List Int} (h : OwnQ w base v l) : ∃ A cap, v = .slice A l.length cap ∧ l.length ≤ cap ∧ cap ≤ maxLen := by
  obtain ⟨A, cap, e, h1, h2, _⟩ := h
  exact ⟨A, cap, e, h1, h2⟩
theorem OwnQ.cells {w : World} {base n cap : Nat} {A : Option Addr} {l : List Int} (h : OwnQ w base (.slice A n cap) l) (hl : 0 < l.length) :
    ∃ g off, A = some ⟨g, off, none⟩ ∧ base ≤ g ∧ g < w.heap.size ∧ ∀ (k : Nat) (_hk : k < l.length), w.cell? ⟨g, off + k, none⟩ = some (.int .i64 l[k]) := by
  obtain ⟨A', cap', e, h1, h2, h3, h4⟩ := h
  injection e with e1 e2 e3
  subst e1 e3
  obtain ⟨g, off, cur, hA, hg, hh, hs, hk⟩ := h4 (by omega)
  exact ⟨g, off, hA, hg, lt_of_heap hh, fun k hlt => by rw [cell_of_row w g _ cur _ _ hh]; exact hk k _ (List.getElem?_eq_getElem hlt)⟩
/-- The queue without its first. -/
theorem OwnQ.tail {w : World} {base cap : Nat} {g off : Nat} {x : Int} {r : List Int} (h : OwnQ w base (.slice (some ⟨g, off, none⟩) (r.length + 1) cap) (x :: r)) :
    OwnQ w base (.slice (if cap = 1 then some ⟨g, off, none⟩ else some ⟨g, off + 1, none⟩) r.length (cap - 1)) r := by
  obtain ⟨A', cap', e, h1, h2, h3, h4⟩ := h
  injection e with e1 e2 e3
  subst e1 e3
  simp only [List.length_cons] at h1
  refine ⟨_, _, rfl, by omega, by omega, (fun hn => by split at hn <;> cases hn), fun hc => ?_⟩
  obtain ⟨g', off', cur, hA, hg, hh, hs, hk⟩ := h4 (by omega)
  cases hA
  refine ⟨g, off + 1, cur, by rw [if_neg (by omega)], hg, hh, by omega, fun k y hy => ?_⟩
  rw [show off + 1 + k = off + (k + 1) by omega]
  exact hk (k + 1) y (by simpa using hy)

/-- 'queue = append(queue, y)'. -/
theorem wpList_appQ {w : World} {ops : Array Oper} {rest : List Oper} {o : Oper} {a : Act} {Q : Exit → Act → World → Prop} (hgd : o.guard = none) (s x : Operand)
    (ho : o.op = .call { callee := .builtin .append, args := #[s, x], argTypes := #[23, 23] })
    (base : Nat) (v : Value) (l : List Int) (y : Int) (hs : a.eval s = v) (hown : OwnQ w base v l) (S c : Nat) (hx : a.eval x = .slice (some ⟨S, 0, none⟩) 1 c)
    (hnew : w.cell? ⟨S, 0, none⟩ = some (.int .i64 y)) (hlen : l.length < 1000000) (hbase : base ≤ w.heap.size)
    (h : ∀ v' w', OwnQ w' base v' (l ++ [y]) → Below base w w' → w.heap.size ≤ w'.heap.size → wpList Try.prog ops Q rest (a.put o.dst v') w') : wpList Try.prog ops Q (o :: rest) a w := by
  obtain ⟨i, hi, hz0, hz1, hz2⟩ := info_parts infoInt
  obtain ⟨A, cap, e, h1, h2, h3, h4⟩ := hown
  subst e
  have hnews : ∀ j u, [Value.int .i64 y][j]? = some u → w.cell? ((⟨S, 0, none⟩ : Addr).add j) = some u := fun j u hj => by
    match j, hj with
    | 0, hj => simp at hj; subst hj; simpa [Addr.add] using hnew
    | j + 1, hj => simp at hj
  have hone : ∀ u ∈ [Value.int .i64 y], u.oneCell' = true := by intro u hu; simp at hu; subst hu; rfl
  have grows : ∀ v' w', w'.ownsRow w.heap.size 3 1 v' (l.length + 1) (l.map (Value.int .i64) ++ [Value.int .i64 y]) → w.grownBy w' none → wpList Try.prog ops Q rest (a.put o.dst v') w' := fun v' w' hr hg => by
    refine h v' w' (OwnQ.of_own (Own.base_ (l := l ++ [y]) (base := w.heap.size) ?_ hbase)) ((Below.refl _ _).grown hg hbase (fun k hk => by cases hk)) hg.size
    unfold Own
    rw [List.length_append, intsMap, List.map_append]
    exact hr
  by_cases hc : 0 < cap
  · obtain ⟨g, off, cur, rfl, hg, hh, hsz, hk⟩ := h4 hc
    have hcell : ∀ j, w.cell? ⟨g, j, none⟩ = cur[j]? := fun j => cell_of_row w g j cur _ _ hh
    refine wpList_append_arg w hgd s x 23 ho 3 i (.int .i64 0) 1 8 Try.underlying23 hi hz0 hz1 hz2 rfl (by decide) g off l.length cap (l.map (Value.int .i64)) hs (by simp) (fun j u hj => ?_)
      ⟨S, 0, none⟩ 1 c [.int .i64 y] hx rfl hnews hone (fun hroom j hj => ?_) (by unfold maxLen; omega) (by omega) (fun hroom => ?_) (fun _ => grows)
    · rw [hcell]
      rw [List.getElem?_map] at hj
      obtain ⟨x, hx, rfl⟩ := Option.map_eq_some_iff.1 hj
      exact hk j x hx
    · have hj0 : j = 0 := by simpa using hj
      subst hj0
      rw [hcell]
      refine ⟨by rw [Array.getElem?_eq_getElem (by omega)]; rfl, by simp [World.frozen?, hh]⟩
    · have hset : w.setCells g (off + l.length * 1) [.int .i64 y] = w.setCell ⟨g, off + l.length, none⟩ (.int .i64 y) := by
        rw [Nat.mul_one]; rfl
      rw [hset]
      refine h _ _ ⟨some ⟨g, off, none⟩, cap, by simp, by simp; omega, h2, (fun hn => by cases hn), fun _ => ⟨g, off, cur.setIfInBounds (off + l.length) (.int .i64 y), rfl, hg, ?_, by simp; omega, fun k x hx => ?_⟩⟩ ?_ (by simp [World.setCell])
      · simp [World.setCell, Array.getElem?_modify, hh]
      · rw [List.getElem?_append] at hx
        split at hx
        · rename_i hlt
          rw [Array.getElem?_setIfInBounds_ne (by omega)]
          exact hk k x hx
        · rename_i hge
          have : k = l.length := by
            have := (List.getElem?_eq_some_iff.1 hx).1
            simp at this; omega
          subst this
          simp at hx
          subst hx
          rw [Array.getElem?_setIfInBounds_self_of_lt (by omega)]
      · exact (Below.refl _ _).setCell hg _
  · have hl0 : l = [] := List.eq_nil_of_length_eq_zero (by omega)
    have hc0 : cap = 0 := by omega
    subst hl0 hc0
    refine wpList_append_grows w hgd s x 23 ho 3 i (.int .i64 0) 1 8 Try.underlying23 hi hz0 hz1 hz2 rfl (by decide) A 0 0 [] hs (fun _ => ⟨rfl, rfl⟩) rfl (fun b _ j u hj => by simp at hj)
      ⟨S, 0, none⟩ 1 c [.int .i64 y] hx rfl hnews hone (by omega) (by unfold maxLen; omega) (by omega) (fun v' w' => grows v' w')
end Go.Proofs.Ytiphhadhbokgmaa
