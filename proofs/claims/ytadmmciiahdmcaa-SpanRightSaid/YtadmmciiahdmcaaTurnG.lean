/- Rows of slices, general part of TurnA and WayA (for a seat without the ways' references). -/
import Derived.Test.YtadmmciiahdmcaaOwn
namespace Go.Proofs.Ytadmmciiahdmcaa
set_option maxRecDepth 100000
open Go.RowKit

/-- The slice of slices at A reads as ls. -/
def RdN (w : World) (A : Option Addr) (ls : List (List Int)) : Prop :=
  0 < ls.length → ∃ b off, A = some ⟨b, off, none⟩ ∧ b < w.heap.size ∧
    ∀ (k : Nat) (l : List Int), ls[k]? = some l → ∃ A' cap', w.cell? ⟨b, off + k, none⟩ = some (.slice A' l.length cap') ∧ RdI w A' l
theorem RdN.below {w w' : World} {A : Option Addr} {ls : List (List Int)} (h : RdN w A ls) (hb : Below w.heap.size w w') : RdN w' A ls := fun hn => by
  obtain ⟨b, off, e, hlt, hc⟩ := h hn
  refine ⟨b, off, e, by have := hb.size; omega, fun k l hk => ?_⟩
  obtain ⟨A', cap', h1, h2⟩ := hc k l hk
  exact ⟨A', cap', (hb.cell (p := ⟨b, off + k, none⟩) hlt).trans h1, Rd.below h2 hb⟩
theorem RdN.at_ {w : World} {A : Option Addr} {ls : List (List Int)} (h : RdN w A ls) {k : Nat} (hk : k < ls.length) :
    ∃ b off A' cap', A = some ⟨b, off, none⟩ ∧ b < w.heap.size ∧ w.cell? ⟨b, off + k, none⟩ = some (.slice A' ls[k].length cap') ∧ RdI w A' ls[k] := by
  obtain ⟨b, off, e, hlt, hc⟩ := h (by omega)
  obtain ⟨A', cap', h1, h2⟩ := hc k _ (List.getElem?_eq_getElem hk)
  exact ⟨b, off, A', cap', e, hlt, h1, h2⟩

/-- A row of whatever values: each a cell. -/
abbrev oneV (v : Value) : List Value := [v]
abbrev OwnV (w : World) (base E : Nat) (v : Value) (l : List Value) : Prop := Own oneV 1 w base E v l
theorem oneV_flat (l : List Value) : l.flatMap oneV = l := by
  induction l with
  | nil => rfl
  | cons x r ih => rw [List.flatMap_cons, ih]; rfl
theorem infoInts : (Try.prog.info? 23).map (fun i => (i.zero, i.size, i.bytes)) = some (some (.slice none 0 0), 1, 24) := by kernel_rfl
/-- 'make([][]int, n)'. -/
theorem wpList_makeN {w : World} {ops : Array Oper} {rest : List Oper} {o : Oper} {a : Act} {Q : Exit → Act → World → Prop} (hg : o.guard = none) (lo c : Operand) (hop : o.op = Op.makeSlice 33 lo c)
    (base n : Nat) (hl : a.eval lo = .int .i64 (n : Int)) (hc : a.eval c = .int .i64 (n : Int)) (hn : n < 1000000) (hbase : base ≤ w.heap.size)
    (h : ∀ w', OwnV w' base 23 (.slice (some ⟨w.heap.size, 0, none⟩) n n) (List.replicate n (.slice none 0 0)) → w.grownBy w' none → wpList Try.prog ops Q rest (a.put o.dst (.slice (some ⟨w.heap.size, 0, none⟩) n n)) w') : wpList Try.prog ops Q (o :: rest) a w := by
  obtain ⟨i, hi, hz0, hz1, hz2⟩ := info_parts infoInts
  refine wpList_make_full w hg lo c 33 hop base 23 i (.slice none 0 0) 1 Try.underlying33 hi hz0 hz1 .i64 .i64 n n n hl hc rfl rfl (by rw [hz2]; omega) (by unfold maxLen; omega) hbase fun w' h1 h2 => ?_
  refine h w' ?_ h2
  have e : (madeCells (Value.slice none 0 0).cells (n * 1)).toList = (List.replicate n (Value.slice none 0 0)).flatMap oneV := by
    rw [show (Value.slice none 0 0).cells = #[.slice none 0 0] from rfl, Nat.mul_one, toList_madeCells_one]
    rw [oneV_flat]
  rw [e] at h1
  unfold OwnV Own
  rw [List.length_replicate]
  exact h1
theorem OwnV.at2 {w : World} {base n c E : Nat} {A : Option Addr} {l : List Value} (h : OwnV w base E (.slice A n c) l) (hl : 0 < l.length) :
    ∃ g, A = some ⟨g, 0, none⟩ ∧ base ≤ g ∧ g < w.heap.size ∧ (∀ j, w.frozen? ⟨g, j, none⟩ = false) ∧ ∀ k (_hk : k < l.length), w.cell? ⟨g, k, none⟩ = some l[k] := by
  obtain ⟨g, cap, e, h1, h2, h3, h4⟩ := h.some_ hl
  injection e with e1 e2 e3
  subst e1 e2 e3
  refine ⟨g, rfl, h1, h2, h4, fun k hk => ?_⟩
  have := Own.cell_ (f := oneV) (size := 1) (fun _ => rfl) h hk (j := 0) (by decide)
  simpa using this
theorem OwnV.set_ {w : World} {base g cap n E : Nat} {l : List Value} (h : OwnV w base E (.slice (some ⟨g, 0, none⟩) n cap) l) {k : Nat} (y : Value) :
    OwnV (w.setCell ⟨g, k, none⟩ y) base E (.slice (some ⟨g, 0, none⟩) n cap) (l.set k y) := by
  have hn : n = l.length := by
    rcases h.2 with ⟨h0, _⟩ | ⟨_, _, _, h0, _⟩
    · cases h0
    · injection h0
  subst hn
  have h1 := World.ownsRow.stored (w := w) (base := base) (e := E) (size := 1) (g := g) (cap := cap) (n := l.length) (xs := l.flatMap oneV) h k y
  unfold OwnV Own
  rw [oneV_flat] at h1 ⊢
  rw [List.length_set]
  exact h1.1
theorem grown_set (w : World) (g k : Nat) (v : Value) : w.grownBy (w.setCell ⟨g, k, none⟩ v) (some g) :=
  ⟨rfl, rfl, rfl, by simp [World.setCell], fun i _ hne => Below.heap_setCell w ⟨g, k, none⟩ v i (fun e => hne (by rw [e]))⟩
/-- What reads on where one block alone turned. -/
theorem Rd.grown {α : Type} {f : α → List Value} {size : Nat} {w w' : World} {A : Option Addr} {l : List α} {g : Nat} (h : Rd f size w A l) (hg : w.grownBy w' (some g)) (hne : ∀ p, A = some p → p.block ≠ g) : Rd f size w' A l := fun hn => by
  obtain ⟨b, off, e, hb, hc⟩ := h hn
  refine ⟨b, off, e, by have := hg.size; omega, fun k x hx j hj => ?_⟩
  rw [← hc k x hx j hj]
  have := hg.block b hb (fun h => hne _ e (by injection h))
  simp only [World.cell?, this]

theorem own_far {w : World} {B E base : Nat} {v : Value} {l : List Int} (h : OwnI w B E v l) (hb : base < B) : some base ≠ v.ownBlock := by
  rcases h.2 with ⟨rfl, _⟩ | ⟨g, cap, cur, rfl, hg, _⟩
  · intro e; cases e
  · intro e
    have e : some base = some g := e
    injection e with e
    omega
end Go.Proofs.Ytadmmciiahdmcaa
