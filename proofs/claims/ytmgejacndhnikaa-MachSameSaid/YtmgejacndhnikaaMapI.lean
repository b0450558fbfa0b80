/- A map that the call has made, as a function of its keys. -/
import Derived.Test.YtmgejacndhnikaaLib
import Derived.Test.YtmgejacndhnikaaRows
import Derived.Maps.OwnOps
import Derived.Maps.OwnSet
import Derived.Maps.Views
import Derived.Maps.RangeWalk
namespace Go.Proofs.Ytmgejacndhnikaa
set_option maxRecDepth 100000
open Go.RowKit Go.Maps

def heldE (v : Value) : Option (DataW Value × List MemPlace) := some (.held v, [])
/-- Block b of w is a map of at most n entries that has, at the key enc a, f a. -/
def OwnM {α : Type} (enc : α → Value) (w : World) (k : TypeId) (b n : Nat) (f : α → Option Value) : Prop :=
  ∃ D, IsMap D ∧ w.ownsMap Try.prog k heldE b n D ∧ ∀ a l, keyOf Try.prog k (enc a) = some l → has D l = (f a).isSome ∧ ∀ v, f a = some v → ∀ z, D.atKey l z = .held v
section
variable {α : Type} {enc : α → Value} {w : World} {k e t : TypeId} {b n : Nat} {f : α → Option Value}
theorem OwnM.made (enc : α → Value) (w : World) (k : TypeId) : OwnM enc (w.alloc (.map #[] 0)) k w.heap.size 0 (fun _ => none) :=
  ⟨.map [], isMap_empty, World.ownsMap_made w _ k heldE, fun a l _ => ⟨rfl, fun v h => by cases h⟩⟩
theorem OwnM.kept {w' : World} {row : Option Nat} (h : OwnM enc w k b n f) (hg : w.grownBy w' row) (hne : some b ≠ row) : OwnM enc w' k b n f :=
  let ⟨D, h1, h2, h3⟩ := h; ⟨D, h1, h2.kept hg hne, h3⟩
theorem OwnM.alloc (h : OwnM enc w k b n f) (o : Obj) : OwnM enc (w.alloc o) k b n f := let ⟨D, h1, h2, h3⟩ := h; ⟨D, h1, h2.alloc o, h3⟩
theorem OwnM.drew (h : OwnM enc w k b n f) : OwnM enc w.drew k b n f := h
theorem OwnM.drewN (h : OwnM enc w k b n f) (m : Nat) : OwnM enc (w.drewN m) k b n f := h
theorem OwnM.mono (h : OwnM enc w k b n f) {m : Nat} (hm : n ≤ m) : OwnM enc w k b m f := let ⟨D, h1, h2, h3⟩ := h; ⟨D, h1, h2.mono hm, h3⟩
theorem OwnM.lt (h : OwnM enc w k b n f) : b < w.heap.size := let ⟨_, _, h2, _⟩ := h; h2.lt
theorem OwnM.setCell (h : OwnM enc w k b n f) {p : Addr} (hp : p.block ≠ b) (v : Value) : OwnM enc (w.setCell p v) k b n f :=
  h.kept (row := some p.block) ⟨rfl, rfl, rfl, by simp [World.setCell], fun i _ hne => Below.heap_setCell w p v i (fun e => hne (by rw [e]))⟩ (fun e => hp (by injection e with e; exact e.symm))
/-- 'v, ok := m[k]' -/
theorem OwnM.look_ok (h : OwnM enc w k b n f) (K : Keyed Try.prog k) (ht : Try.prog.underlying t = some (.map k e)) {z : Value} (hz : (zeroValue e).run Try.prog w = .ok z w) {a : α} {l : Lit} (hk : keyOf Try.prog k (enc a) = some l) :
    (Instr.lookup t (.map (some b)) (enc a) true).run Try.prog w = .ok (.tuple #[(f a).getD z, .bool (f a).isSome]) w := by
  obtain ⟨D, h1, h2, h3⟩ := h
  obtain ⟨v, ps, hrun, hv⟩ := h2.look_ok K ht hz (zd := .held z) (zp := []) rfl hk
  obtain ⟨g1, g2⟩ := h3 a l hk
  rw [hrun, g1]
  cases hf : f a with
  | none =>
    rw [hf] at g1
    rw [atKey_of_not_has g1] at hv
    unfold heldE at hv
    injection hv with hv
    injection hv with hv _
    injection hv with hv
    rw [hv]; rfl
  | some u =>
    rw [g2 u hf] at hv
    unfold heldE at hv
    injection hv with hv
    injection hv with hv _
    injection hv with hv
    rw [hv]; rfl
/-- 'm[k]' -/
theorem OwnM.look (h : OwnM enc w k b n f) (K : Keyed Try.prog k) (ht : Try.prog.underlying t = some (.map k e)) {z : Value} (hz : (zeroValue e).run Try.prog w = .ok z w) {a : α} {l : Lit} (hk : keyOf Try.prog k (enc a) = some l) :
    (Instr.lookup t (.map (some b)) (enc a) false).run Try.prog w = .ok ((f a).getD z) w := by
  obtain ⟨D, h1, h2, h3⟩ := h
  obtain ⟨v, ps, hrun, hv⟩ := h2.lookup K ht hz (zd := .held z) (zp := []) rfl hk
  obtain ⟨g1, g2⟩ := h3 a l hk
  rw [hrun]
  cases hf : f a with
  | none =>
    rw [hf] at g1
    rw [atKey_of_not_has g1] at hv
    unfold heldE at hv
    injection hv with hv
    injection hv with hv _
    injection hv with hv
    rw [hv]; rfl
  | some u =>
    rw [g2 u hf] at hv
    unfold heldE at hv
    injection hv with hv
    injection hv with hv _
    injection hv with hv
    rw [hv]; rfl
open Classical in
noncomputable def putM (f : α → Option Value) (a : α) (v : Value) : α → Option Value := fun x => if x = a then some v else f x
theorem putM_same (f : α → Option Value) (a : α) (v : Value) : putM f a v a = some v := if_pos rfl
theorem putM_other (f : α → Option Value) {a x : α} (v : Value) (h : x ≠ a) : putM f a v x = f x := if_neg h
/-- 'm[k] = v' -/
theorem OwnM.put (h : OwnM enc w k b n f) (K : Keyed Try.prog k) (hinj : ∀ x y, enc x = enc y → x = y) (ht : Try.prog.underlying t = some (.map k e)) (hn : n < maxLen) {a : α} {l : Lit} (hk : keyOf Try.prog k (enc a) = some l) (v : Value) :
    ∃ w', (Instr.mapUpdate t (.map (some b)) (enc a) v).run Try.prog w = .ok () w' ∧ OwnM enc w' k b (n + 1) (putM f a v) ∧ w.grownBy w' (some b) := by
  obtain ⟨D, h1, h2, h3⟩ := h
  obtain ⟨w', hrun, r1, r2⟩ := h2.update K ht hn (val := v) (d := .held v) (ps := []) hk rfl
  refine ⟨w', hrun, ⟨D.put l (.held v), h1.put _ _, r1, fun x l' hx => ?_⟩, r2⟩
  unfold putM
  by_cases e : x = a
  · subst e
    rw [hk] at hx
    injection hx with hx
    subst hx
    rw [if_pos rfl]
    refine ⟨has_put_same h1 (K.key hk) _, fun u hu z => ?_⟩
    injection hu with hu
    rw [atKey_put_same h1 (K.key hk), hu]
  · rw [if_neg e]
    have hne : l' ≠ l := fun e' => e (hinj _ _ (K.inj hx (e' ▸ hk)))
    obtain ⟨g1, g2⟩ := h3 x l' hx
    exact ⟨by rw [has_put_other hne]; exact g1, fun u hu z => by rw [atKey_put_other hne]; exact g2 u hu z⟩
theorem wpList_lookOk {ops : Array Oper} {rest : List Oper} {o : Oper} {a : Act} {Q : Exit → Act → World → Prop} (hg : o.guard = none) (m x : Operand) (t : TypeId) (hop : o.op = Op.lookup t m x true)
    (K : Keyed Try.prog k) (ht : Try.prog.underlying t = some (.map k e)) {z : Value} (hz : (zeroValue e).run Try.prog w = .ok z w) (hm : a.eval m = .map (some b)) (hown : OwnM enc w k b n f) (y : α) {l : Lit} (hx : a.eval x = enc y) (hk : keyOf Try.prog k (enc y) = some l)
    (h : wpList Try.prog ops Q rest (a.put o.dst (.tuple #[(f y).getD z, .bool (f y).isSome])) w) : wpList Try.prog ops Q (o :: rest) a w := by
  refine wpList_plain hg fun K' hK' => ?_
  have hrun := hown.look_ok K ht hz hk
  unfold Oper.wp
  simp [execOp, hop, hm, hx, hrun, Result.andThen]
  exact hK' _ _ h
theorem wpList_put {ops : Array Oper} {rest : List Oper} {o : Oper} {a : Act} {Q : Exit → Act → World → Prop} (hg : o.guard = none) (m x v : Operand) (t : TypeId) (hop : o.op = Op.mapUpdate t m x v)
    (K : Keyed Try.prog k) (hinj : ∀ x y, enc x = enc y → x = y) (ht : Try.prog.underlying t = some (.map k e)) (hm : a.eval m = .map (some b)) (hown : OwnM enc w k b n f) (hn : n < maxLen) (y : α) (val : Value) {l : Lit} (hx : a.eval x = enc y) (hv : a.eval v = val) (hk : keyOf Try.prog k (enc y) = some l)
    (h : ∀ w', OwnM enc w' k b (n + 1) (putM f y val) → w.grownBy w' (some b) → wpList Try.prog ops Q rest (a.put o.dst undef) w') : wpList Try.prog ops Q (o :: rest) a w := by
  refine wpList_plain hg fun K' hK' => ?_
  obtain ⟨w', hrun, r1, r2⟩ := hown.put K hinj ht hn hk val
  unfold Oper.wp
  simp [execOp, hop, hm, hx, hv, hrun, Result.andThen]
  exact hK' _ _ (h w' r1 r2)
end
end Go.Proofs.Ytmgejacndhnikaa
namespace Go.Proofs.Ytmgejacndhnikaa
set_option maxRecDepth 100000
open Go.RowKit Go.Maps
open Go.WideElems (Fit rd rg pl rd_key rd_val rg_of other_key)

def in64 (x : Int) : Prop := -9223372036854775808 ≤ x ∧ x ≤ 9223372036854775807
def encI (x : Int) : Value := .int .i64 x
theorem encI_inj (x y : Int) (h : encI x = encI y) : x = y := by unfold encI at h; injection h
theorem wfI {x : Int} (h : in64 x) : (Lit.int .i64 x).wf = true := by
  have h1 : IntKind.i64.min = -9223372036854775808 := rfl
  have h2 : IntKind.i64.max = 9223372036854775807 := rfl
  unfold in64 at h
  simp only [Lit.wf, Bool.and_eq_true, decide_eq_true_eq]
  omega
theorem keyedI : Keyed Try.prog 3 := int_keyed Try.underlying3
theorem keyI {x : Int} (h : in64 x) : keyOf Try.prog 3 (encI x) = some (.int .i64 x) := keyOf_int_mk Try.underlying3 (wfI h)
theorem keyI_inv {v : Value} {kl : Lit} (h : keyOf Try.prog 3 v = some kl) : ∃ x : Int, in64 x ∧ v = encI x ∧ kl = .int .i64 x := by
  obtain ⟨x, rfl, rfl, hw⟩ := keyOf_int_inv Try.underlying3 h
  have h1 : IntKind.i64.min = -9223372036854775808 := rfl
  have h2 : IntKind.i64.max = 9223372036854775807 := rfl
  simp only [Lit.wf, Bool.and_eq_true, decide_eq_true_eq] at hw
  exact ⟨x, ⟨by omega, by omega⟩, rfl, rfl⟩
/-- A range over a map that is f, under way: left says which keys are still to come. -/
structure RngI (w : World) (b r : Nat) (f : Int → Option Value) (left : Int → Prop) (cnt : Nat) : Prop where
  ex : ∃ (D : DataW Value) (lf : Lit → Bool) (n : Nat), w.ranges Try.prog 3 heldE b r n D lf cnt ∧ (∀ x, in64 x → (lf (.int .i64 x) = true ↔ left x)) ∧ ∀ x, in64 x → ∀ v, f x = some v → ∀ z, D.atKey (.int .i64 x) z = .held v
  sub : ∀ x, left x → in64 x ∧ ∃ v, f x = some v
section
variable {w : World} {b r n cnt : Nat} {f : Int → Option Value} {left : Int → Prop} {ops : Array Oper} {rest : List Oper} {o : Oper} {a : Act} {Q : Exit → Act → World → Prop}
theorem RngI.kept {w' : World} {row : Option Nat} (h : RngI w b r f left cnt) (hg : w.grownBy w' row) (h1 : some b ≠ row) (h2 : some r ≠ row) : RngI w' b r f left cnt := by
  obtain ⟨⟨D, lf, n, a1, a2, a3⟩, hs⟩ := h
  exact ⟨⟨D, lf, n, a1.kept hg h1 h2, a2, a3⟩, hs⟩
theorem RngI.drewN (h : RngI w b r f left cnt) (n : Nat) : RngI (w.drewN n) b r f left cnt := ⟨h.ex, h.sub⟩
theorem RngI.drew (h : RngI w b r f left cnt) : RngI w.drew b r f left cnt := ⟨h.ex, h.sub⟩
theorem RngI.alloc (h : RngI w b r f left cnt) (o : Obj) : RngI (w.alloc o) b r f left cnt := h.kept (World.grownBy_alloc w o none) (by simp) (by simp)
theorem RngI.lt (h : RngI w b r f left cnt) : r < w.heap.size := by obtain ⟨⟨D, lf, n, a1, _⟩, _⟩ := h; exact a1.lt
theorem RngI.left_eq (h : RngI w b r f left cnt) : w.rangeLeft b r = cnt := by obtain ⟨⟨D, lf, n, a1, _⟩, _⟩ := h; exact a1.left_eq
theorem wpList_rangeI {t e : TypeId} (hg : o.guard = none) (m : Operand) (ht : Try.prog.underlying t = some (.map 3 e)) (hop : o.op = Op.range t m) (hm : a.eval m = .map (some b)) (hown : OwnM encI w 3 b n f)
    (h : ∀ w' cnt, RngI w' b w.heap.size f (fun x => in64 x ∧ ∃ v, f x = some v) cnt → w.grownBy w' none → w'.heap.size = w.heap.size + 1 → wpList Try.prog ops Q rest (a.put o.dst (.pointer (some ⟨w.heap.size, 0, none⟩))) w') : wpList Try.prog ops Q (o :: rest) a w := by
  obtain ⟨D, h1, h2, h3⟩ := hown
  refine wpList_range_own w hg m _ hop _ _ keyedI ht heldE b n D hm h2 (fun w' r1 r2 r3 => h w' _ ⟨⟨D, _, n, r1, fun x hx => ?_, fun x hx v hv z => ?_⟩, fun _ h => h⟩ r2 r3)
  · rw [(h3 x _ (keyI hx)).1, Option.isSome_iff_exists]
    exact ⟨fun h => ⟨hx, h⟩, fun h => h.2⟩
  · exact (h3 x _ (keyI hx)).2 v hv z
theorem wpList_nextI (hg : o.guard = none) (it : Operand) (hop : o.op = Op.next it false) (hit : a.eval it = .pointer (some ⟨r, 0, none⟩)) (h : RngI w b r f left cnt)
    (hDone : (∀ x, ¬ left x) → wpList Try.prog ops Q rest (a.put o.dst (.tuple #[.bool false])) w)
    (hMore : ∀ (x : Int) (c : Value) (w' : World) (cnt' : Nat), left x → f x = some c → RngI w' b r f (fun z => left z ∧ z ≠ x) cnt' → cnt' < cnt → w.grownBy w' (some r) → w'.heap.size = w.heap.size →
      (Instr.entry (.pointer (some ⟨r, 0, none⟩))).run Try.prog w' = .ok (.tuple #[.int .i64 x, c]) w' → wpList Try.prog ops Q rest (a.put o.dst (.tuple #[.bool true, .int .i64 x, c])) w') : wpList Try.prog ops Q (o :: rest) a w := by
  obtain ⟨⟨D, lf, n, h1, h2, h3⟩, hs⟩ := h
  refine wpList_next_ranges w hg it hop _ keyedI heldE encI (fun c : Value => c) (fun key kl hk => by obtain ⟨x, _, e, _⟩ := keyI_inv hk; exact ⟨x, e⟩) (fun v _ _ => ⟨v, rfl⟩) b r n D lf cnt hit h1 (fun _ hl => hDone fun x hx => ?_) (fun x c kl y w' cnt' hk hl hv hat hr hlt hgr hsz hen => ?_)
  · have := (h2 x (hs x hx).1).2 hx
    rw [hl] at this; cases this
  · obtain ⟨z, hz, ez, rfl⟩ := keyI_inv hk
    obtain rfl := encI_inj _ _ ez
    have hlx := (h2 x hz).1 hl
    obtain ⟨v, hfv⟩ := (hs x hlx).2
    have hvc : v = c := by
      have e1 := h3 x hz v hfv (.lit (.bool true))
      rw [hat (.lit (.bool true))] at e1
      unfold heldE at hv
      injection hv with hv
      rw [← hv] at e1
      injection e1 with e1
      exact e1.symm
    subst hvc
    refine hMore x v w' cnt' hlx hfv ⟨⟨D, _, n, hr, fun u hu => ?_, h3⟩, fun u hu => hs u hu.1⟩ hlt hgr hsz hen
    simp only [Bool.and_eq_true, Bool.not_eq_true']
    rw [h2 u hu]
    refine and_congr Iff.rfl ?_
    constructor
    · intro h e
      subst e
      rw [WideAt.sameKey_self (keyedI.key (keyI hz))] at h; cases h
    · intro h
      exact sameKey_ne (fun e => h (by injection e))
end
end Go.Proofs.Ytmgejacndhnikaa
