/- append of a whole slice to a row of the call's own, as a run. Program-independent. -/
import Derived.Test.YtmgejacndhnikaaLib
import Derived.Maps.AppendAt
import Derived.Deep.Upon
namespace Go.Proofs.Ytmgejacndhnikaa
open Go.RowKit

theorem run_appN {P : Program} {w : World} (t ty : TypeId) {α : Type} (f : α → List Value) (size bytes E : Nat) (z : Value) (hu : P.underlying t = some (.slice E)) (hinfo : (P.info? E).map (fun i => (i.zero, i.size, i.bytes)) = some (some z, size, bytes))
    (hzs : z.cells.size = size) (hsz : 0 < size) (hf : ∀ x, (f x).length = size) (h1 : ∀ x, ∀ u ∈ f x, u.oneCell' = true)
    (base : Nat) (v : Value) (l : List α) (hown : Own f size w base E v l) (A : Option Addr) (m : List α) (c : Nat) (hA : Rd f size w A m)
    (hlen : l.length + m.length ≤ maxLen) (hb : (l.length + m.length) * bytes ≤ 140737488355328) (hbase : base ≤ w.heap.size) :
    ∃ v' w', (Builtin.append_ #[t, t] ty #[v, .slice A m.length c]).run P w = .ok v' w' ∧ Own f size w' base E v' (l ++ m) ∧ w.grownBy w' v.ownBlock ∧ (v'.ownBlock = v.ownBlock ∨ v'.ownBlock = some w.heap.size) := by
  obtain ⟨i, hi, hz0, hz1, hz2⟩ := info_parts hinfo
  have key : ∀ (a : Addr), A = some a → ∃ v' w', (Builtin.append_ #[t, t] ty #[v, .slice A m.length c]).run P w = .ok v' w' ∧ Own f size w' base E v' (l ++ m) ∧ w.grownBy w' v.ownBlock ∧ (v'.ownBlock = v.ownBlock ∨ v'.ownBlock = some w.heap.size) := by
    rintro ⟨b, off, spot⟩ rfl
    obtain ⟨v', w', hr, h2, h3, _, h5⟩ := run_append_own_at (P := P) w base t ty E i z size bytes hu hi hz0 hz1 hz2 hzs hsz v l.length (l.flatMap f) hown ⟨b, off, spot⟩ m.length c (m.flatMap f) (flatMap_len hf m) (by
      intro j u hj
      have hlt : j < m.length * size := by rw [← flatMap_len hf]; exact (List.getElem?_eq_some_iff.1 hj).1
      have hk : j / size < m.length := Nat.div_lt_of_lt_mul (by rw [Nat.mul_comm]; exact hlt)
      have hjm : j = j / size * size + j % size := by rw [Nat.mul_comm]; exact (Nat.div_add_mod j size).symm
      have hm := Nat.mod_lt j hsz
      obtain ⟨b', off', e, hbl, hc⟩ := hA (Nat.lt_of_le_of_lt (Nat.zero_le _) hk)
      injection e with e
      injection e with e1 e2 e3
      subst e1 e2 e3
      have hg := List.getElem?_eq_getElem hk
      have e1 := hc (j / size) _ hg (j % size) hm
      have e2 := flatMap_get hf m (j / size) _ hg (j % size) hm
      rw [← hjm] at e2
      rw [show off + j / size * size + j % size = off + j by omega] at e1
      rw [show ((⟨b, off, none⟩ : Addr).add j) = ⟨b, off + j, none⟩ by unfold Addr.add; by_cases h0 : j = 0 <;> simp [h0]]
      rw [e1, ← e2, hj]) (fun u hu => by
        obtain ⟨y, _, hy⟩ := List.mem_flatMap.1 hu
        exact h1 y u hy) hlen hb hbase
    refine ⟨v', w', hr, ?_, h3, h5⟩
    unfold Own
    rw [List.length_append, List.flatMap_append]
    exact h2
  cases A with
  | some a => exact key a rfl
  | none =>
    have : m = [] := by
      by_cases hm : 0 < m.length
      · obtain ⟨_, _, e, _⟩ := hA hm; cases e
      · exact List.eq_nil_of_length_eq_zero (by omega)
    subst this
    have hform : ∃ base sLen sCap, v = .slice base sLen sCap ∧ sLen ≤ sCap := by
      rcases hown.2 with ⟨rfl, h0⟩ | ⟨g, cap, cur, rfl, _, _, hnc, _⟩
      · exact ⟨_, _, _, rfl, Nat.le_refl _⟩
      · exact ⟨_, _, _, rfl, hnc⟩
    obtain ⟨bb, sL, sC, rfl, hle⟩ := hform
    refine ⟨_, w, run_append_nothing w t t ty E i hu hi bb sL sC hle _ (Src.ofNil w hu c), by rw [List.append_nil]; exact hown, ⟨rfl, rfl, rfl, Nat.le_refl _, fun _ _ _ => rfl⟩, Or.inl rfl⟩
/-- 'append' at the operation, its run given. -/
theorem wp_app_run {P : Program} {o : Oper} {a : Act} {w : World} {K : Act → World → Prop} {Q : Exit → Act → World → Prop} (t : TypeId) (s x : Operand) (ho : o.op = .call { callee := .builtin .append, args := #[s, x], argTypes := #[t, t] })
    {v x' v' : Value} {w' : World} (hs : a.eval s = v) (hx : a.eval x = x') (hrun : (Builtin.append_ #[t, t] o.type #[v, x']).run P w = .ok v' w') (h : K (a.put o.dst v') w') : o.wp P a w K Q := by
  unfold Oper.wp
  simp [execOp, ho, resolve, invoke, builtin, hs, hx, hrun, Result.andThen]
  exact h
theorem wpList_app_run {P : Program} {ops : Array Oper} {rest : List Oper} {o : Oper} {a : Act} {w : World} {Q : Exit → Act → World → Prop} (hgd : o.guard = none) (t : TypeId) (s x : Operand) (ho : o.op = .call { callee := .builtin .append, args := #[s, x], argTypes := #[t, t] })
    {v x' v' : Value} {w' : World} (hs : a.eval s = v) (hx : a.eval x = x') (hrun : (Builtin.append_ #[t, t] o.type #[v, x']).run P w = .ok v' w') (h : wpList P ops Q rest (a.put o.dst v') w') : wpList P ops Q (o :: rest) a w :=
  wpList_plain hgd fun _ hK => wp_app_run t s x ho hs hx hrun (hK _ _ h)
theorem wpList_app_run2 {P : Program} {ops : Array Oper} {rest : List Oper} {o : Oper} {a : Act} {w : World} {Q : Exit → Act → World → Prop} (hgd : o.guard = none) (t u : TypeId) (s x : Operand) (ho : o.op = .call { callee := .builtin .append, args := #[s, x], argTypes := #[t, u] })
    {v x' v' : Value} {w' : World} (hs : a.eval s = v) (hx : a.eval x = x') (hrun : (Builtin.append_ #[t, u] o.type #[v, x']).run P w = .ok v' w') (h : wpList P ops Q rest (a.put o.dst v') w') : wpList P ops Q (o :: rest) a w :=
  wpList_plain hgd fun _ hK => by
    unfold Oper.wp
    simp [execOp, ho, resolve, invoke, builtin, hs, hx, hrun, Result.andThen]
    exact hK _ _ h
/-- A composite literal of a slice: a row of the call's own. -/
theorem own_new {α : Type} (f : α → List Value) (size E : Nat) (hf : ∀ x, (f x).length = size) (w : World) (base : Nat) (hbase : base ≤ w.heap.size) (l : List α) (hl : l.length ≤ maxLen) : Own f size (w.alloc (.cells (l.flatMap f).toArray E)) base E (.slice (some ⟨w.heap.size, 0, none⟩) l.length l.length) l :=
  ⟨flatMap_len hf l, .inr ⟨w.heap.size, l.length, _, rfl, hbase, heap_alloc_new w _, Nat.le_refl _, hl, by rw [List.size_toArray]; exact flatMap_len hf l, by rw [← flatMap_len hf l]; exact List.take_length⟩⟩
end Go.Proofs.Ytmgejacndhnikaa
