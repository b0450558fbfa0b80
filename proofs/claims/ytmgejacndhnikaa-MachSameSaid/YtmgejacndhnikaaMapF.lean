/- A map that the call has made, as a function of its keys. -/
import Derived.Test.YtmgejacndhnikaaLib
import Derived.Test.YtmgejacndhnikaaRows
import Derived.Maps.OwnOps
import Derived.Maps.OwnSet
import Derived.Maps.Views
namespace Go.Proofs.Ytmgejacndhnikaa
set_option maxRecDepth 100000
open Go.RowKit Go.Maps

def heldE (v : Value) : Option (DataW Value × List MemPlace) := some (.held v, [])
/-- Block b of w is a map of at most n entries that has, at the key enc a, f a. -/
def OwnM {α : Type} (enc : α → Value) (w : World) (k : TypeId) (b n : Nat) (f : α → Option Value) : Prop :=
  ∃ D, IsMap D ∧ w.ownsMap Try.prog k heldE b n D ∧ ∀ a l, keyOf Try.prog k (enc a) = some l → has D l = (f a).isSome ∧ ∀ v, f a = some v → ∀ z, D.atKey l z = .held v
section
variable {α : Type} {enc : α → Value} {w : World} {k e t : TypeId} {b n : Nat} {f : α → Option Value}
theorem OwnM.made (enc : α → Value) (w : World) (k : TypeId) : OwnM enc (w.alloc (.map #[] 0)) k w.heap.size 0 (fun _ => none) :=
  ⟨.map [], isMap_empty, World.ownsMap_made w _ k heldE, fun a l _ => ⟨rfl, fun v h => by cases h⟩⟩
theorem OwnM.kept {w' : World} {row : Option Nat} (h : OwnM enc w k b n f) (hg : w.grownBy w' row) (hne : some b ≠ row) : OwnM enc w' k b n f :=
  let ⟨D, h1, h2, h3⟩ := h; ⟨D, h1, h2.kept hg hne, h3⟩
theorem OwnM.alloc (h : OwnM enc w k b n f) (o : Obj) : OwnM enc (w.alloc o) k b n f := let ⟨D, h1, h2, h3⟩ := h; ⟨D, h1, h2.alloc o, h3⟩
theorem OwnM.drew (h : OwnM enc w k b n f) : OwnM enc w.drew k b n f := h
theorem OwnM.drewN (h : OwnM enc w k b n f) (m : Nat) : OwnM enc (w.drewN m) k b n f := h
theorem OwnM.mono (h : OwnM enc w k b n f) {m : Nat} (hm : n ≤ m) : OwnM enc w k b m f := let ⟨D, h1, h2, h3⟩ := h; ⟨D, h1, h2.mono hm, h3⟩
theorem OwnM.lt (h : OwnM enc w k b n f) : b < w.heap.size := let ⟨_, _, h2, _⟩ := h; h2.lt
theorem OwnM.setCell (h : OwnM enc w k b n f) {p : Addr} (hp : p.block ≠ b) (v : Value) : OwnM enc (w.setCell p v) k b n f :=
  h.kept (row := some p.block) ⟨rfl, rfl, rfl, by simp [World.setCell], fun i _ hne => Below.heap_setCell w p v i (fun e => hne (by rw [e]))⟩ (fun e => hp (by injection e with e; exact e.symm))
/-- 'v, ok := m[k]' -/
theorem OwnM.look_ok (h : OwnM enc w k b n f) (K : Keyed Try.prog k) (ht : Try.prog.underlying t = some (.map k e)) {z : Value} (hz : (zeroValue e).run Try.prog w = .ok z w) {a : α} {l : Lit} (hk : keyOf Try.prog k (enc a) = some l) :
    (Instr.lookup t (.map (some b)) (enc a) true).run Try.prog w = .ok (.tuple #[(f a).getD z, .bool (f a).isSome]) w := by
  obtain ⟨D, h1, h2, h3⟩ := h
  obtain ⟨v, ps, hrun, hv⟩ := h2.look_ok K ht hz (zd := .held z) (zp := []) rfl hk
  obtain ⟨g1, g2⟩ := h3 a l hk
  rw [hrun, g1]
  cases hf : f a with
  | none =>
    rw [hf] at g1
    rw [atKey_of_not_has g1] at hv
    unfold heldE at hv
    injection hv with hv
    injection hv with hv _
    injection hv with hv
    rw [hv]; rfl
  | some u =>
    rw [g2 u hf] at hv
    unfold heldE at hv
    injection hv with hv
    injection hv with hv _
    injection hv with hv
    rw [hv]; rfl
/-- 'm[k]' -/
theorem OwnM.look (h : OwnM enc w k b n f) (K : Keyed Try.prog k) (ht : Try.prog.underlying t = some (.map k e)) {z : Value} (hz : (zeroValue e).run Try.prog w = .ok z w) {a : α} {l : Lit} (hk : keyOf Try.prog k (enc a) = some l) :
    (Instr.lookup t (.map (some b)) (enc a) false).run Try.prog w = .ok ((f a).getD z) w := by
  obtain ⟨D, h1, h2, h3⟩ := h
  obtain ⟨v, ps, hrun, hv⟩ := h2.lookup K ht hz (zd := .held z) (zp := []) rfl hk
  obtain ⟨g1, g2⟩ := h3 a l hk
  rw [hrun]
  cases hf : f a with
  | none =>
    rw [hf] at g1
    rw [atKey_of_not_has g1] at hv
    unfold heldE at hv
    injection hv with hv
    injection hv with hv _
    injection hv with hv
    rw [hv]; rfl
  | some u =>
    rw [g2 u hf] at hv
    unfold heldE at hv
    injection hv with hv
    injection hv with hv _
    injection hv with hv
    rw [hv]; rfl
open Classical in
noncomputable def putM (f : α → Option Value) (a : α) (v : Value) : α → Option Value := fun x => if x = a then some v else f x
theorem putM_same (f : α → Option Value) (a : α) (v : Value) : putM f a v a = some v := if_pos rfl
theorem putM_other (f : α → Option Value) {a x : α} (v : Value) (h : x ≠ a) : putM f a v x = f x := if_neg h
/-- 'm[k] = v' -/
theorem OwnM.put (h : OwnM enc w k b n f) (K : Keyed Try.prog k) (hinj : ∀ x y, enc x = enc y → x = y) (ht : Try.prog.underlying t = some (.map k e)) (hn : n < maxLen) {a : α} {l : Lit} (hk : keyOf Try.prog k (enc a) = some l) (v : Value) :
    ∃ w', (Instr.mapUpdate t (.map (some b)) (enc a) v).run Try.prog w = .ok () w' ∧ OwnM enc w' k b (n + 1) (putM f a v) ∧ w.grownBy w' (some b) := by
  obtain ⟨D, h1, h2, h3⟩ := h
  obtain ⟨w', hrun, r1, r2⟩ := h2.update K ht hn (val := v) (d := .held v) (ps := []) hk rfl
  refine ⟨w', hrun, ⟨D.put l (.held v), h1.put _ _, r1, fun x l' hx => ?_⟩, r2⟩
  unfold putM
  by_cases e : x = a
  · subst e
    rw [hk] at hx
    injection hx with hx
    subst hx
    rw [if_pos rfl]
    refine ⟨has_put_same h1 (K.key hk) _, fun u hu z => ?_⟩
    injection hu with hu
    rw [atKey_put_same h1 (K.key hk), hu]
  · rw [if_neg e]
    have hne : l' ≠ l := fun e' => e (hinj _ _ (K.inj hx (e' ▸ hk)))
    obtain ⟨g1, g2⟩ := h3 x l' hx
    exact ⟨by rw [has_put_other hne]; exact g1, fun u hu z => by rw [atKey_put_other hne]; exact g2 u hu z⟩
theorem wpList_lookOk {ops : Array Oper} {rest : List Oper} {o : Oper} {a : Act} {Q : Exit → Act → World → Prop} (hg : o.guard = none) (m x : Operand) (t : TypeId) (hop : o.op = Op.lookup t m x true)
    (K : Keyed Try.prog k) (ht : Try.prog.underlying t = some (.map k e)) {z : Value} (hz : (zeroValue e).run Try.prog w = .ok z w) (hm : a.eval m = .map (some b)) (hown : OwnM enc w k b n f) (y : α) {l : Lit} (hx : a.eval x = enc y) (hk : keyOf Try.prog k (enc y) = some l)
    (h : wpList Try.prog ops Q rest (a.put o.dst (.tuple #[(f y).getD z, .bool (f y).isSome])) w) : wpList Try.prog ops Q (o :: rest) a w := by
  refine wpList_plain hg fun K' hK' => ?_
  have hrun := hown.look_ok K ht hz hk
  unfold Oper.wp
  simp [execOp, hop, hm, hx, hrun, Result.andThen]
  exact hK' _ _ h
theorem wpList_put {ops : Array Oper} {rest : List Oper} {o : Oper} {a : Act} {Q : Exit → Act → World → Prop} (hg : o.guard = none) (m x v : Operand) (t : TypeId) (hop : o.op = Op.mapUpdate t m x v)
    (K : Keyed Try.prog k) (hinj : ∀ x y, enc x = enc y → x = y) (ht : Try.prog.underlying t = some (.map k e)) (hm : a.eval m = .map (some b)) (hown : OwnM enc w k b n f) (hn : n < maxLen) (y : α) (val : Value) {l : Lit} (hx : a.eval x = enc y) (hv : a.eval v = val) (hk : keyOf Try.prog k (enc y) = some l)
    (h : ∀ w', OwnM enc w' k b (n + 1) (putM f y val) → w.grownBy w' (some b) → wpList Try.prog ops Q rest (a.put o.dst undef) w') : wpList Try.prog ops Q (o :: rest) a w := by
  refine wpList_plain hg fun K' hK' => ?_
  obtain ⟨w', hrun, r1, r2⟩ := hown.put K hinj ht hn hk val
  unfold Oper.wp
  simp [execOp, hop, hm, hx, hv, hrun, Result.andThen]
  exact hK' _ _ (h w' r1 r2)
end
end Go.Proofs.Ytmgejacndhnikaa
