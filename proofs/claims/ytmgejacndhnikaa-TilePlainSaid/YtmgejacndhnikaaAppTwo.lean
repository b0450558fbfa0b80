/- append of one int to a row while another row of the call's own stays. -/
import Derived.Test.YtmgejacndhnikaaOwn
import Derived.Test.YtmgejacndhnikaaAppN
namespace Go.Proofs.Ytmgejacndhnikaa
open Go.RowKit
theorem apart_symm {a b : Option Nat} (h : a = none ∨ a ≠ b) : b = none ∨ b ≠ a := by
  cases b with
  | none => exact .inl rfl
  | some k =>
    refine .inr fun e => ?_
    rcases h with h | h
    · rw [h] at e; cases e
    · exact h e.symm
theorem Own.blk_lt {α : Type} {f : α → List Value} {size base E : Nat} {w : World} {v : Value} {l : List α} (h : Own f size w base E v l) {k : Nat} (hk : v.ownBlock = some k) : k < w.heap.size := (World.ownsRow.lt h k hk).2
/-- 'out = append(out, y)' for ints; a row v2 of other cells stays, and lies elsewhere. -/
theorem wpList_appI2 {β : Type} {w : World} {ops : Array Oper} {rest : List Oper} {o : Oper} {a : Act} {Q : Exit → Act → World → Prop} (hgd : o.guard = none) (s x : Operand)
    (ho : o.op = .call { callee := .builtin .append, args := #[s, x], argTypes := #[23, 23] })
    (base : Nat) (v : Value) (l : List Int) (y : Int) (hs : a.eval s = v) (hown : OwnI w base 3 v l) (S c : Nat) (hx : a.eval x = .slice (some ⟨S, 0, none⟩) 1 c)
    {g : β → List Value} {size2 base2 E2 : Nat} (v2 : Value) (l2 : List β) (hown2 : Own g size2 w base2 E2 v2 l2) (hd : v2.ownBlock = none ∨ v2.ownBlock ≠ v.ownBlock)
    (hR : RdI w (some ⟨S, 0, none⟩) [y]) (hlen : l.length < 1000000) (hbase : base ≤ w.heap.size)
    (h : ∀ v' w', OwnI w' base 3 v' (l ++ [y]) → Own g size2 w' base2 E2 v2 l2 → (v2.ownBlock = none ∨ v2.ownBlock ≠ v'.ownBlock) → w.grownBy w' v.ownBlock → wpList Try.prog ops Q rest (a.put o.dst v') w') : wpList Try.prog ops Q (o :: rest) a w := by
  obtain ⟨v', w', hrun, hO, hg, hat⟩ := run_appN (P := Try.prog) 23 o.type intCells 1 8 3 (.int .i64 0) Try.underlying23 infoInt rfl (by decide) intCells_len intCells_one base v l hown (some ⟨S, 0, none⟩) [y] c hR (by simp [maxLen]; omega) (by simp; omega) hbase
  refine wpList_app_run hgd 23 s x ho hs hx hrun (h v' w' hO (hown2.kept hg hd) ?_ hg)
  rcases hd with hd | hd
  · exact .inl hd
  rcases hat with hat | hat
  · exact .inr (by rw [hat]; exact hd)
  · cases hb : v2.ownBlock with
    | none => exact .inl rfl
    | some k =>
      refine .inr ?_
      rw [hat]
      intro e
      injection e with e
      have := hown2.blk_lt hb
      omega
end Go.Proofs.Ytmgejacndhnikaa
