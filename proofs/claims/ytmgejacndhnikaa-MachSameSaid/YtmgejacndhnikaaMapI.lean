/- Maps with ints as keys that the call has made; a range over one. -/
import Derived.Test.YtmgejacndhnikaaMapF
import Derived.Maps.RangeWalk
namespace Go.Proofs.Ytmgejacndhnikaa
set_option maxRecDepth 100000
open Go.RowKit Go.Maps
open Go.WideElems (Fit rd rg pl rd_key rd_val rg_of other_key)

def in64 (x : Int) : Prop := -9223372036854775808 ≤ x ∧ x ≤ 9223372036854775807
def encI (x : Int) : Value := .int .i64 x
theorem encI_inj (x y : Int) (h : encI x = encI y) : x = y := by unfold encI at h; injection h
theorem wfI {x : Int} (h : in64 x) : (Lit.int .i64 x).wf = true := by
  have h1 : IntKind.i64.min = -9223372036854775808 := rfl
  have h2 : IntKind.i64.max = 9223372036854775807 := rfl
  unfold in64 at h
  simp only [Lit.wf, Bool.and_eq_true, decide_eq_true_eq]
  omega
theorem keyedI : Keyed Try.prog 3 := int_keyed Try.underlying3
theorem keyI {x : Int} (h : in64 x) : keyOf Try.prog 3 (encI x) = some (.int .i64 x) := keyOf_int_mk Try.underlying3 (wfI h)
theorem keyI_inv {v : Value} {kl : Lit} (h : keyOf Try.prog 3 v = some kl) : ∃ x : Int, in64 x ∧ v = encI x ∧ kl = .int .i64 x := by
  obtain ⟨x, rfl, rfl, hw⟩ := keyOf_int_inv Try.underlying3 h
  have h1 : IntKind.i64.min = -9223372036854775808 := rfl
  have h2 : IntKind.i64.max = 9223372036854775807 := rfl
  simp only [Lit.wf, Bool.and_eq_true, decide_eq_true_eq] at hw
  exact ⟨x, ⟨by omega, by omega⟩, rfl, rfl⟩
/-- A range over a map that is f, under way: left says which keys are still to come. -/
structure RngI (w : World) (b r : Nat) (f : Int → Option Value) (left : Int → Prop) (cnt : Nat) : Prop where
  ex : ∃ (D : DataW Value) (lf : Lit → Bool) (n : Nat), w.ranges Try.prog 3 heldE b r n D lf cnt ∧ (∀ x, in64 x → (lf (.int .i64 x) = true ↔ left x)) ∧ ∀ x, in64 x → ∀ v, f x = some v → ∀ z, D.atKey (.int .i64 x) z = .held v
  sub : ∀ x, left x → in64 x ∧ ∃ v, f x = some v
section
variable {w : World} {b r n cnt : Nat} {f : Int → Option Value} {left : Int → Prop} {ops : Array Oper} {rest : List Oper} {o : Oper} {a : Act} {Q : Exit → Act → World → Prop}
theorem RngI.kept {w' : World} {row : Option Nat} (h : RngI w b r f left cnt) (hg : w.grownBy w' row) (h1 : some b ≠ row) (h2 : some r ≠ row) : RngI w' b r f left cnt := by
  obtain ⟨⟨D, lf, n, a1, a2, a3⟩, hs⟩ := h
  exact ⟨⟨D, lf, n, a1.kept hg h1 h2, a2, a3⟩, hs⟩
theorem RngI.drewN (h : RngI w b r f left cnt) (n : Nat) : RngI (w.drewN n) b r f left cnt := ⟨h.ex, h.sub⟩
theorem RngI.drew (h : RngI w b r f left cnt) : RngI w.drew b r f left cnt := ⟨h.ex, h.sub⟩
theorem RngI.alloc (h : RngI w b r f left cnt) (o : Obj) : RngI (w.alloc o) b r f left cnt := h.kept (World.grownBy_alloc w o none) (by simp) (by simp)
theorem RngI.lt (h : RngI w b r f left cnt) : r < w.heap.size := by obtain ⟨⟨D, lf, n, a1, _⟩, _⟩ := h; exact a1.lt
theorem RngI.left_eq (h : RngI w b r f left cnt) : w.rangeLeft b r = cnt := by obtain ⟨⟨D, lf, n, a1, _⟩, _⟩ := h; exact a1.left_eq
theorem wpList_rangeI {t e : TypeId} (hg : o.guard = none) (m : Operand) (ht : Try.prog.underlying t = some (.map 3 e)) (hop : o.op = Op.range t m) (hm : a.eval m = .map (some b)) (hown : OwnM encI w 3 b n f)
    (h : ∀ w' cnt, RngI w' b w.heap.size f (fun x => in64 x ∧ ∃ v, f x = some v) cnt → w.grownBy w' none → w'.heap.size = w.heap.size + 1 → wpList Try.prog ops Q rest (a.put o.dst (.pointer (some ⟨w.heap.size, 0, none⟩))) w') : wpList Try.prog ops Q (o :: rest) a w := by
  obtain ⟨D, h1, h2, h3⟩ := hown
  refine wpList_range_own w hg m _ hop _ _ keyedI ht heldE b n D hm h2 (fun w' r1 r2 r3 => h w' _ ⟨⟨D, _, n, r1, fun x hx => ?_, fun x hx v hv z => ?_⟩, fun _ h => h⟩ r2 r3)
  · rw [(h3 x _ (keyI hx)).1, Option.isSome_iff_exists]
    exact ⟨fun h => ⟨hx, h⟩, fun h => h.2⟩
  · exact (h3 x _ (keyI hx)).2 v hv z
theorem wpList_nextI (hg : o.guard = none) (it : Operand) (hop : o.op = Op.next it false) (hit : a.eval it = .pointer (some ⟨r, 0, none⟩)) (h : RngI w b r f left cnt)
    (hDone : (∀ x, ¬ left x) → wpList Try.prog ops Q rest (a.put o.dst (.tuple #[.bool false])) w)
    (hMore : ∀ (x : Int) (c : Value) (w' : World) (cnt' : Nat), left x → f x = some c → RngI w' b r f (fun z => left z ∧ z ≠ x) cnt' → cnt' < cnt → w.grownBy w' (some r) → w'.heap.size = w.heap.size →
      (Instr.entry (.pointer (some ⟨r, 0, none⟩))).run Try.prog w' = .ok (.tuple #[.int .i64 x, c]) w' → wpList Try.prog ops Q rest (a.put o.dst (.tuple #[.bool true, .int .i64 x, c])) w') : wpList Try.prog ops Q (o :: rest) a w := by
  obtain ⟨⟨D, lf, n, h1, h2, h3⟩, hs⟩ := h
  refine wpList_next_ranges w hg it hop _ keyedI heldE encI (fun c : Value => c) (fun key kl hk => by obtain ⟨x, _, e, _⟩ := keyI_inv hk; exact ⟨x, e⟩) (fun v _ _ => ⟨v, rfl⟩) b r n D lf cnt hit h1 (fun _ hl => hDone fun x hx => ?_) (fun x c kl y w' cnt' hk hl hv hat hr hlt hgr hsz hen => ?_)
  · have := (h2 x (hs x hx).1).2 hx
    rw [hl] at this; cases this
  · obtain ⟨z, hz, ez, rfl⟩ := keyI_inv hk
    obtain rfl := encI_inj _ _ ez
    have hlx := (h2 x hz).1 hl
    obtain ⟨v, hfv⟩ := (hs x hlx).2
    have hvc : v = c := by
      have e1 := h3 x hz v hfv (.lit (.bool true))
      rw [hat (.lit (.bool true))] at e1
      unfold heldE at hv
      injection hv with hv
      rw [← hv] at e1
      injection e1 with e1
      exact e1.symm
    subst hvc
    refine hMore x v w' cnt' hlx hfv ⟨⟨D, _, n, hr, fun u hu => ?_, h3⟩, fun u hu => hs u hu.1⟩ hlt hgr hsz hen
    simp only [Bool.and_eq_true, Bool.not_eq_true']
    rw [h2 u hu]
    refine and_congr Iff.rfl ?_
    constructor
    · intro h e
      subst e
      rw [WideAt.sameKey_self (keyedI.key (keyI hz))] at h; cases h
    · intro h
      exact sameKey_ne (fun e => h (by injection e))
end
end Go.Proofs.Ytmgejacndhnikaa
