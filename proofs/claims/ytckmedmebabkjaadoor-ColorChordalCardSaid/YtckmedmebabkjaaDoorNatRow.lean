/- Slices of ints that are naturals. -/
import Derived.Test.YtckmedmebabkjaaDoorOwn
import Derived.Test.YtckmedmebabkjaaDoorAppArg
namespace Go.Proofs.YtckmedmebabkjaaDoor
open Go.RowKit
def natCells (c : Nat) : List Value := [.int .i64 (c : Int)]
abbrev RdC (w : World) (A : Option Addr) (l : List Nat) : Prop := Rd natCells 1 w A l
abbrev OwnC (w : World) (base E : Nat) (v : Value) (l : List Nat) : Prop := Own natCells 1 w base E v l
theorem RdC.at1 {w : World} {A : Option Addr} {l : List Nat} (h : RdC w A l) {k : Nat} (hk : k < l.length) :
    ∃ b off, A = some ⟨b, off, none⟩ ∧ b < w.heap.size ∧ w.cell? ⟨b, off + k, none⟩ = some (.int .i64 (l[k] : Nat)) := by
  obtain ⟨b, off, h1, h2, h3⟩ := h.at_ hk
  refine ⟨b, off, h1, h2, ?_⟩
  have := h3 0 (by omega)
  simpa [natCells] using this
theorem natCells_len (x : Nat) : (natCells x).length = 1 := rfl
theorem natCells_one (x : Nat) : ∀ u ∈ natCells x, u.oneCell' = true := by intro u hu; simp [natCells] at hu; subst hu; rfl
theorem infoN : (Tryd.prog.info? 3).map (fun i => (i.zero, i.size, i.bytes)) = some (some (.int .i64 0), 1, 8) := by kernel_rfl
theorem RdC.toI {w : World} {A : Option Addr} {l : List Nat} (h : RdC w A l) : RdI w A (l.map fun (c : Nat) => (c : Int)) := fun hn => by
  rw [List.length_map] at hn
  obtain ⟨b, off, h1, h2, h3⟩ := h hn
  refine ⟨b, off, h1, h2, fun k x hx j hj => ?_⟩
  rw [List.getElem?_map, Option.map_eq_some_iff] at hx
  obtain ⟨c, hc, rfl⟩ := hx
  exact h3 k c hc j hj
/-- 'append(x, c)', x full. -/
theorem wpList_appFullC {w : World} {ops : Array Oper} {rest : List Oper} {o : Oper} {a : Act} {Q : Exit → Act → World → Prop} (hgd : o.guard = none) (s x : Operand)
    (ho : o.op = .call { callee := .builtin .append, args := #[s, x], argTypes := #[23, 23] })
    (A : Option Addr) (l : List Nat) (y : Nat) (hl : 0 < l.length) (hs : a.eval s = .slice A l.length l.length) (hr : RdC w A l) (S c : Nat) (hx : a.eval x = .slice (some ⟨S, 0, none⟩) 1 c)
    (hnew : w.cell? ⟨S, 0, none⟩ = some (.int .i64 (y : Int))) (hlen : l.length < 1000000)
    (h : ∀ v' w', OwnC w' w.heap.size 3 v' (l ++ [y]) → w.grownBy w' none → wpList Tryd.prog ops Q rest (a.put o.dst v') w') : wpList Tryd.prog ops Q (o :: rest) a w :=
  wpList_appFull hgd s x 23 ho natCells 1 8 3 (.int .i64 0) Tryd.underlying23 infoN rfl (by decide) natCells_len natCells_one A l y hl hs hr S c hx
    (fun j hj => by have : j = 0 := by omega
                    subst this; rw [hnew]; rfl) (by unfold maxLen; omega) (by omega) h
theorem wpList_appC {w : World} {ops : Array Oper} {rest : List Oper} {o : Oper} {a : Act} {Q : Exit → Act → World → Prop} (hgd : o.guard = none) (s x : Operand)
    (ho : o.op = .call { callee := .builtin .append, args := #[s, x], argTypes := #[23, 23] })
    (base : Nat) (v : Value) (l : List Nat) (y : Nat) (hs : a.eval s = v) (hown : OwnC w base 3 v l) (S c : Nat) (hx : a.eval x = .slice (some ⟨S, 0, none⟩) 1 c)
    (hnew : w.cell? ⟨S, 0, none⟩ = some (.int .i64 (y : Int))) (hlen : l.length < 1000000) (hbase : base ≤ w.heap.size)
    (h : ∀ v' w', OwnC w' base 3 v' (l ++ [y]) → w.grownBy w' v.ownBlock → wpList Tryd.prog ops Q rest (a.put o.dst v') w') : wpList Tryd.prog ops Q (o :: rest) a w :=
  wpList_app1 hgd s x 23 ho natCells 1 8 3 (.int .i64 0) Tryd.underlying23 infoN rfl (by decide) natCells_len natCells_one base v l y hs hown S c hx
    (fun j hj => by have : j = 0 := by omega
                    subst this; rw [hnew]; rfl) (by unfold maxLen; omega) (by omega) hbase h
theorem OwnC.rd {w : World} {base : Nat} {v : Value} {l : List Nat} (h : OwnC w base 3 v l) : ∃ A cap, v = .slice A l.length cap ∧ RdC w A l :=
  let ⟨A, cap, h1, h2, _⟩ := h.form natCells_len
  ⟨A, cap, h1, h2⟩
end Go.Proofs.YtckmedmebabkjaaDoor
