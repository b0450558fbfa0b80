/- A region that draws, in a round of a range over a function: by the walk that serves anywhere. Program-independent. -/
import Derived.Test.YtmgejacndhnikaaLib
import Derived.RangeFuncNested
import Derived.RangeFuncBound
import Derived.RangeFuncCalls
import Derived.RangeFuncLeaves
import Derived.RangeFuncBox
import Derived.OrdersIn
import Derived.OrdersHeld
import Derived.Deep.RegionHeld
namespace Go.Proofs.Ytmgejacndhnikaa
open Go.RowKit

/-- A number below n. -/
abbrev Ix (n : Nat) := { i : Nat // i < n }
/-- The last k numbers below n, the greatest first. -/
def backN (n k : Nat) : List Nat := (List.range k).map fun j => n - 1 - j
theorem backN_succ (n k : Nat) : backN n (k + 1) = backN n k ++ [n - 1 - k] := by simp [backN, List.range_succ]
theorem backN_len (n k : Nat) : (backN n k).length = k := by simp [backN]
/-- What has come in order, and one more. -/
theorem back_snoc {n : Nat} {pre : List (Ix n)} {x : Ix n} (h : (pre ++ [x]).map (·.1) = backN n (pre ++ [x]).length) : pre.map (·.1) = backN n pre.length ∧ x.1 = n - 1 - pre.length := by
  rw [List.length_append, List.length_singleton, backN_succ, List.map_append] at h
  obtain ⟨h1, h2⟩ := List.append_inj' h rfl
  exact ⟨h1, by simpa using h2⟩
/-- Rd, in blocks below n₀. -/
def RdB {α : Type} (n₀ : Nat) (f : α → List Value) (size : Nat) (w : World) (A : Option Addr) (l : List α) : Prop := Rd f size w A l ∧ ∀ p : Addr, A = some p → 0 < l.length → p.block < n₀
theorem RdB.of {α : Type} {f : α → List Value} {size : Nat} {w : World} {A : Option Addr} {l : List α} (h : Rd f size w A l) : RdB w.heap.size f size w A l :=
  ⟨h, fun p hp hl => by obtain ⟨b, off, e, hb, _⟩ := h hl; rw [hp] at e; injection e with e; subst e; exact hb⟩
theorem RdB.below {α : Type} {n₀ : Nat} {f : α → List Value} {size : Nat} {w w' : World} {A : Option Addr} {l : List α} (h : RdB n₀ f size w A l) (hb : Below n₀ w w') : RdB n₀ f size w' A l :=
  ⟨fun hl => by
    obtain ⟨b, off, e, hb', hc⟩ := h.1 hl
    have hlt := h.2 _ e hl
    exact ⟨b, off, e, Nat.lt_of_lt_of_le hb' hb.size, fun k x hx j hj => (hb.cell (p := ⟨b, off + k * size + j, none⟩) hlt).trans (hc k x hx j hj)⟩, h.2⟩

section
variable {P : Program} {ops : Array Oper} {Q : Exit → Act → World → Prop} {md : Region.Mode} {n l : Nat}
theorem wpOpIn_of_wp {i : Nat} {K : Act → World → Prop} {a : Act} {w : World} (hd : ∀ o, ops[i]? = some o → ∀ c, o.op ≠ .defer c) (hL : ¬ LetsOut Q) (h : wpOp P ops Q i K a w) : wpOpIn (Fence.wide.inRound l) n P ops Q i K a w := by
  unfold wpOp at h
  unfold wpOpIn
  split
  · rename_i ho; simpa [ho] using h
  · rename_i o ho
    simp only [ho] at h
    split
    · rename_i hw
      simp only [hw, if_true] at h
      rcases h with h | ⟨_, h⟩
      · unfold Oper.wp at h
        unfold Oper.wpIn
        refine ⟨fun _ _ => trivial, ?_⟩
        rw [Oper.semAt_eq _ _ _ (hd o ho)]
        generalize (execOp a.eval o).run P w = r at *
        cases r with
        | ok x w' =>
          cases x <;> simp only [Oper.uponIn, Oper.upon] at h ⊢ <;>
            first
              | exact h
              | exact ⟨fun hh => (by cases hh), ((callsIn_wide.2 h).inRound l).mono (fun e w'' he => by cases e <;> exact he)⟩
              | exact ⟨fun hh => (by cases hh), fun c cs _ => let ⟨v, w', r, s⟩ := h c cs; ⟨v, w', r, stepsIn_wide.2 s⟩⟩
        | halt x w' => cases x <;> simp only [Oper.uponIn, Oper.upon] at h ⊢ <;> exact h
      · exact absurd h hL
    · rename_i hw
      simp only [hw] at h
      exact ⟨fun _ _ => trivial, h⟩
theorem wpAnyIn_of_wpAny (hd : ∀ (i : Nat) (o : Oper), ops[i]? = some o → ∀ c, o.op ≠ .defer c) (hL : ¬ LetsOut Q) : ∀ (fuel : Nat) (listed : Array Bool) (a : Act) (w : World), wpAny P md ops Q fuel listed a w → wpAnyIn (Fence.wide.inRound l) n P md ops Q fuel listed a w
  | 0, _, _, _, h => h
  | fuel + 1, _, _, _, h => ⟨h.1, fun i hi => wpOpIn_of_wp (hd i) hL (wpOp_mono (fun a' w' h' => wpAnyIn_of_wpAny hd hL fuel _ a' w' h') (h.2 i hi))⟩
def noDefer (o : Oper) : Bool := match o.op with | .defer _ => false | _ => true
theorem noDefer_all (h : ops.toList.all noDefer = true) : ∀ (i : Nat) (o : Oper), ops[i]? = some o → ∀ c, o.op ≠ .defer c := fun i o ho c e => by
  have hm : o ∈ ops.toList := by
    rw [← Array.getElem?_toList] at ho
    exact List.mem_of_getElem? ho
  have := (List.all_eq_true.1 h) o hm
  unfold noDefer at this
  rw [e] at this
  cases this
/-- 'wp_region_held_drew' in a round. -/
theorem wpIn_region_held_drew {S : World → Prop} {id : Nat} {a : Act} {w : World} (hm : P.follows .mixedOrders = true) (hd : ops.toList.all noDefer = true) (hL : ¬ LetsOut Q) (hS : S w.drew)
    (h : S w.drew → wpAnyH P .any ops Q S ops.size (Array.replicate ops.size false) a w.drew) : (Code.region id ops true).wpIn (Fence.wide.inRound l) n P Q a w :=
  wpIn_region_any hm (wpAnyIn_of_wpAny (noDefer_all hd) hL _ _ _ _ (wpAny_of_held _ _ _ _ (h hS)))
end
section
variable {P : Program} {Q : Exit → Act → World → Prop} {a : Act} {w : World}
/-- A function's contract from its body, where the body holds a range over a function. -/
theorem calls_of_marks {f : FuncId} {fn : Func} {c : Code} {args : Array Value} {R : Ending → World → Prop} (hf : P.funcs[f]? = some fn) (hb : fn.body = some c)
    (h : c.wp P (bodyPostM Fence.wide 3 P fn R) { tmps := args ++ Array.replicate (fn.ntmps - args.size) undef, defers := [] } w) : Calls P f args w R :=
  callsIn_wide.1 (callsIn_of_wp_marks (F := Fence.wide) (n := 3) hf hb trivial (wpIn_wide.2 h))
/-- Its way out with one mark. -/
theorem marks_one {fn : Func} {tmps : Array Value} {R : Ending → World → Prop} {D : Nat} (hK : w.heap[D]? = some (.deferred (some [])))
    (h : ∃ v, (results fn tmps).run P (w.putObj D (.deferred none)) = .ok v (w.putObj D (.deferred none)) ∧ R (.returned v) (w.putObj D (.deferred none))) :
    LeavesInM Fence.wide 3 P fn tmps R [{ target := .collected D, args := #[] }] .returning w :=
  ⟨by simp, .inl ⟨_, _, rfl, run_takeDeferred hK, h⟩⟩
/-- What a round keeps: whatever lies below n₀, and the iterator's own box. -/
def KpB (n₀ Bs : Nat) (W W' : World) : Prop := Below n₀ W W' ∧ ∀ v, W.cell? ⟨Bs, 0, none⟩ = some v → W'.cell? ⟨Bs, 0, none⟩ = some v
theorem kpB_t {n₀ Bs : Nat} {A B C : World} (h : KpB n₀ Bs A B) (k : KpB n₀ Bs B C) : KpB n₀ Bs A C := ⟨h.1.trans k.1, fun v hv => k.2 v (h.2 v hv)⟩
theorem kpB_b {n₀ Bs N : Nat} (hn : n₀ ≤ N) (W : World) (l : Nat) (o o' : Obj) (hl : N ≤ l) (ho : W.heap[l]? = some o) (hc : o.isCells = false) (_ : o.isWalk = false) : KpB n₀ Bs W (W.putObj l o') :=
  ⟨(Below.refl n₀ W).grown (grownBy_putObj' W l o') (by have := (Array.getElem?_eq_some_iff.1 ho).1; omega) (fun k e => by cases e; omega), fun v hv => cell_kept hv (grownBy_putObj' W l o') (fun r e => by cases e; exact ⟨o, ho, hc⟩)⟩
/-- A range over a function, outermost. -/
theorem wp_rangeFunc {α : Type} {g : Operand} {ps : Array Tmp} {assign body : Code} {gf : Nat} {lb : Array Value} (hg : a.eval g = .func (.func gf) #[] lb) (eg : ∀ args w, (callFunc gf args).run P w = .ok (.enter gf args) w)
    {encs : α → Array Value} {n₀ Bs : Nat} {S Sp : List α → Prop} {N : Nat} (hseq : SeqStopsK Fence.wide 2 P gf lb encs (KpB n₀ Bs) S Sp N w) (hn : n₀ ≤ w.heap.size) (hps : ∀ x, (encs x).size = ps.size)
    (I : List α → World → Prop) (Ix : Code → List α → World → Prop) (hI : OwnFrom w.heap.size I) (hIx : ∀ c, OwnFrom w.heap.size (Ix c)) (h0 : I [] w) (Ax : α → Act → World → Prop) (hAx : ∀ x a', OwnFrom w.heap.size (fun (_ : Unit) W => Ax x a' W))
    (hassign : ∀ (l : Nat) (pre : List α) (x : α) (W : World) (K : Act → World → Prop), I pre W → (∀ a' W', KeepsFrom w.heap.size W W' → KpB n₀ Bs W W' → I pre W' → Ax x a' W' → K a' W') →
      assign.wpIn (Fence.wide.inRound l) 1 P (Exit.then K (fun _ _ _ => False)) { tmps := (ps.zip (encs x)).foldl (fun t (p, v) => t.setIfInBounds p v) a.tmps, defers := [] } W)
    (hbody : ∀ (l : Nat) (pre : List α) (x : α) (a' : Act) (W : World), w.heap.size ≤ l → I pre W → Ax x a' W → pre.length < N → body.wpIn (Fence.wide.inRound l) 1 P (ownPostG w.heap.size (KpB n₀ Bs) I Ix (pre ++ [x]) W) a' W)
    (hdone : ∀ (D : Nat) (xs : List α) (W : World), w.heap.size ≤ D → S xs → I xs W → W.heap[D]? = some (.deferred (some [])) → Q .normal { a with defers := { target := .collected D, args := #[] } :: a.defers } W)
    (hstop : ∀ (D : Nat) (c : Code) (pre : List α) (W : World), w.heap.size ≤ D → Sp pre → Ix c pre W → W.heap[D]? = some (.deferred (some [])) → c.wp P Q { a with defers := { target := .collected D, args := #[] } :: a.defers } W) :
    (Code.rangeFunc g ps assign body).wp P Q a w :=
  (wpIn_wide (n := 3)).1 (wpIn_rangeFunc_ownH (F := Fence.wide) (n := 3) rfl (by decide) hg trivial eg hseq kpB_t (kpB_b hn) (Below.refl _ _) hps I Ix hI hIx h0 Ax hAx hassign (fun l pre x a' W h1 _ h2 h3 h4 => hbody l pre x a' W h1 h2 h3 h4) hdone (fun D c pre W h1 h2 h3 h4 => wpIn_wide.2 (hstop D c pre W h1 h2 h3 h4)))
/-- What is said of cells alone abides the turns of the law's own blocks. -/
theorem own_from {α : Type} {f : α → List Value} {size base E : Nat} {v : Value} {l : List α} {W W' : World} {row : Option Nat} (h : Own f size W base E v l) (hg : W.grownBy W' row) (hr : ∀ r, row = some r → ∃ o : Obj, W.heap[r]? = some o ∧ o.isCells = false) : Own f size W' base E v l := by
  refine h.kept hg ?_
  cases hv : v.ownBlock with
  | none => exact Or.inl rfl
  | some k =>
    refine Or.inr fun e => ?_
    obtain ⟨o, ho, hc⟩ := hr k e.symm
    rcases h.2 with ⟨rfl, h0⟩ | ⟨g, cap, cur, rfl, hb, hh, hn, hm, hs, ht⟩
    · cases hv
    · have : some g = some k := hv
      injection this with this
      subst this
      rw [hh] at ho
      injection ho with ho
      subst ho
      cases hc
end
end Go.Proofs.Ytmgejacndhnikaa
