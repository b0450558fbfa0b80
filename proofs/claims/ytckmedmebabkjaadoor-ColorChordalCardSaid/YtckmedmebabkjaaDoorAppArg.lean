/- append to a slice that is full: a new row. Program-independent. -/
import Derived.Test.YtckmedmebabkjaaDoorLib
import Derived.ArgAppend
namespace Go.Proofs.YtckmedmebabkjaaDoor
open Go.RowKit
theorem Addr.add_ (b off j : Nat) : ((⟨b, off, none⟩ : Addr).add j) = ⟨b, off + j, none⟩ := by unfold Addr.add; by_cases h0 : j = 0 <;> simp [h0]
section
variable {P : Program} {w : World}
/-- append(x, y), x full: y's cells lie in a block of their own. -/
theorem wpList_appFull {ops : Array Oper} {rest : List Oper} {o : Oper} {a : Act} {Q : Exit → Act → World → Prop} (hgd : o.guard = none) (s x : Operand) (t : TypeId)
    (ho : o.op = .call { callee := .builtin .append, args := #[s, x], argTypes := #[t, t] })
    {α : Type} (f : α → List Value) (size bytes E : Nat) (z : Value) (hu : P.underlying t = some (.slice E)) (hinfo : (P.info? E).map (fun i => (i.zero, i.size, i.bytes)) = some (some z, size, bytes))
    (hzs : z.cells.size = size) (hsz : 0 < size) (hf : ∀ x, (f x).length = size) (h1 : ∀ x, ∀ u ∈ f x, u.oneCell' = true)
    (A : Option Addr) (l : List α) (y : α) (hl : 0 < l.length) (hs : a.eval s = .slice A l.length l.length) (hr : Rd f size w A l) (S c : Nat) (hx : a.eval x = .slice (some ⟨S, 0, none⟩) 1 c)
    (hnew : ∀ j, j < size → w.cell? ⟨S, j, none⟩ = (f y)[j]?) (hlen : l.length + 1 ≤ maxLen) (hb : (l.length + 1) * bytes ≤ 140737488355328)
    (h : ∀ v' w', Own f size w' w.heap.size E v' (l ++ [y]) → w.grownBy w' none → wpList P ops Q rest (a.put o.dst v') w') : wpList P ops Q (o :: rest) a w := by
  obtain ⟨i, hi, hz0, hz1, hz2⟩ := info_parts hinfo
  obtain ⟨b, off, rfl, hbl, hc⟩ := hr hl
  refine wpList_append_arg w hgd s x t ho E i z size bytes hu hi hz0 hz1 hz2 hzs hsz b off l.length l.length (l.flatMap f) hs (flatMap_len hf l) ?_ ⟨S, 0, none⟩ 1 c (f y) hx (by rw [hf, Nat.one_mul]) ?_ (h1 y) (by omega) hlen hb (by omega) ?_
  · intro j u hj
    have hlt : j < l.length * size := by rw [← flatMap_len hf]; exact (List.getElem?_eq_some_iff.1 hj).1
    have hk : j / size < l.length := Nat.div_lt_of_lt_mul (by rw [Nat.mul_comm]; exact hlt)
    have hjm : j = j / size * size + j % size := by rw [Nat.mul_comm]; exact (Nat.div_add_mod j size).symm
    have hm := Nat.mod_lt j hsz
    have hg := List.getElem?_eq_getElem hk
    have e1 := hc (j / size) _ hg (j % size) hm
    have e2 := flatMap_get hf l (j / size) _ hg (j % size) hm
    rw [← hjm] at e2
    rw [show off + j / size * size + j % size = off + j by omega] at e1
    rw [e1, ← e2, hj]
  · intro j u hj
    have hlt : j < size := by rw [← hf y]; exact (List.getElem?_eq_some_iff.1 hj).1
    rw [← hj, ← hnew j hlt, Addr.add_, Nat.zero_add]
  · intro _ v' w' h2 h3
    refine h v' w' ?_ h3
    unfold Own
    rw [List.length_append, List.flatMap_append, List.flatMap_cons, List.flatMap_nil, List.append_nil]
    exact h2
end
end Go.Proofs.YtckmedmebabkjaaDoor
