/- The element types' rows of this translation's table, and append at ints. -/
import Derived.Test.YtmgejacndhnikaaRows
import Derived.Test.YtmgejacndhnikaaLib
import Derived.Test.YtmgejacndhnikaaAppN
import Derived.Lib.SliceRun
namespace Go.Proofs.Ytmgejacndhnikaa
open Go.RowKit
theorem infoInt : (Try.prog.info? 3).map (fun i => (i.zero, i.size, i.bytes)) = some (some (.int .i64 0), 1, 8) := by kernel_rfl
theorem intCells_len (x : Int) : (intCells x).length = 1 := rfl
theorem intCells_one (x : Int) : ∀ u ∈ intCells x, u.oneCell' = true := by intro u hu; simp [intCells] at hu; subst hu; rfl

/-- 'out = append(out, y)' for ints, as the translation has it: y alone in a new block. -/
theorem wpList_appI {w : World} {ops : Array Oper} {rest : List Oper} {o : Oper} {a : Act} {Q : Exit → Act → World → Prop} (hgd : o.guard = none) (s x : Operand)
    (ho : o.op = .call { callee := .builtin .append, args := #[s, x], argTypes := #[23, 23] })
    (base : Nat) (v : Value) (l : List Int) (y : Int) (hs : a.eval s = v) (hown : OwnI w base 3 v l) (S c : Nat) (hx : a.eval x = .slice (some ⟨S, 0, none⟩) 1 c)
    (hnew : w.cell? ⟨S, 0, none⟩ = some (.int .i64 y)) (hlen : l.length < 1000000) (hbase : base ≤ w.heap.size)
    (h : ∀ v' w', OwnI w' base 3 v' (l ++ [y]) → w.grownBy w' v.ownBlock → wpList Try.prog ops Q rest (a.put o.dst v') w') : wpList Try.prog ops Q (o :: rest) a w :=
  wpList_app1 hgd s x 23 ho intCells 1 8 3 (.int .i64 0) Try.underlying23 infoInt rfl (by decide) intCells_len intCells_one base v l y hs hown S c hx
    (fun j hj => by have : j = 0 := by omega
                    subst this; rw [hnew]; rfl) (by unfold maxLen; omega) (by omega) hbase h

/-- 'make([]int, n)'. -/
theorem wpList_makeI {w : World} {ops : Array Oper} {rest : List Oper} {o : Oper} {a : Act} {Q : Exit → Act → World → Prop} (hg : o.guard = none) (lo c : Operand) (hop : o.op = Op.makeSlice 23 lo c)
    (base n : Nat) (hl : a.eval lo = .int .i64 (n : Int)) (hc : a.eval c = .int .i64 (n : Int)) (hn : n < 1000000) (hbase : base ≤ w.heap.size)
    (h : ∀ w', OwnI w' base 3 (.slice (some ⟨w.heap.size, 0, none⟩) n n) (List.replicate n 0) → w.grownBy w' none → wpList Try.prog ops Q rest (a.put o.dst (.slice (some ⟨w.heap.size, 0, none⟩) n n)) w') : wpList Try.prog ops Q (o :: rest) a w := by
  obtain ⟨i, hi, hz0, hz1, hz2⟩ := info_parts infoInt
  refine wpList_make_full w hg lo c 23 hop base 3 i (.int .i64 0) 1 Try.underlying23 hi hz0 hz1 .i64 .i64 n n n hl hc rfl rfl (by rw [hz2]; omega) (by unfold maxLen; omega) hbase fun w' h1 h2 => ?_
  refine h w' ?_ h2
  have e : (madeCells (Value.int .i64 0).cells (n * 1)).toList = (List.replicate n (0 : Int)).flatMap intCells := by
    rw [show (Value.int .i64 0).cells = #[.int .i64 0] from rfl, Nat.mul_one, toList_madeCells_one]
    clear h1 h2 hl hc h
    induction n with
    | zero => rfl
    | succ n ih => rw [List.replicate_succ, List.replicate_succ, List.flatMap_cons, ← ih (by omega)]; rfl
  rw [e] at h1
  unfold OwnI Own
  rw [List.length_replicate]
  exact h1

/-- A row of ints: its head, each cell, none frozen. -/
theorem OwnI.at_ {w : World} {base : Nat} {v : Value} {l : List Int} (h : OwnI w base 3 v l) (hl : 0 < l.length) :
    ∃ g cap, v = .slice (some ⟨g, 0, none⟩) l.length cap ∧ base ≤ g ∧ g < w.heap.size ∧ l.length ≤ cap ∧ (∀ j, w.frozen? ⟨g, j, none⟩ = false) ∧ ∀ k (hk : k < l.length), w.cell? ⟨g, k, none⟩ = some (.int .i64 (l[k]'hk)) := by
  obtain ⟨g, cap, rfl, h1, h2, h3, h4⟩ := h.some_ hl
  refine ⟨g, cap, rfl, h1, h2, h3, h4, fun k hk => ?_⟩
  have := h.cell_ intCells_len hk (j := 0) (by decide)
  simpa [intCells] using this
theorem OwnI.at2 {w : World} {base n c : Nat} {A : Option Addr} {l : List Int} (h : OwnI w base 3 (.slice A n c) l) (hl : 0 < l.length) :
    ∃ g, A = some ⟨g, 0, none⟩ ∧ base ≤ g ∧ g < w.heap.size ∧ l.length ≤ c ∧ (∀ j, w.frozen? ⟨g, j, none⟩ = false) ∧ ∀ k (_hk : k < l.length), w.cell? ⟨g, k, none⟩ = some (.int .i64 l[k]) := by
  obtain ⟨g, cap, e, h1, h2, h3, h4, h5⟩ := h.at_ hl
  injection e with e1 e2 e3
  subst e1 e3
  exact ⟨g, rfl, h1, h2, h3, h4, h5⟩
theorem OwnI.rd {w : World} {base : Nat} {v : Value} {l : List Int} (h : OwnI w base 3 v l) : ∃ A cap, v = .slice A l.length cap ∧ RdI w A l :=
  let ⟨A, cap, h1, h2, _⟩ := h.form intCells_len
  ⟨A, cap, h1, h2⟩
/-- A slice literal of ints. -/
theorem OwnI.lit (w : World) (l : List Int) (base : Nat) (hb : base ≤ w.heap.size) (hl : l.length ≤ maxLen) : OwnI (w.alloc (.cells (l.map (.int .i64)).toArray 3)) base 3 (.slice (some ⟨w.heap.size, 0, none⟩) l.length l.length) l := by
  have h := World.ownsRow_lit (base := base) (e := 3) (size := 1) w (l.map (.int .i64)).toArray l.length hb hl (by simp)
  have e : l.flatMap intCells = l.map (Value.int .i64) := by
    induction l with
    | nil => rfl
    | cons x r ih => rw [List.flatMap_cons, ih (by simp at hl; omega) (World.ownsRow_lit w _ _ hb (by simp at hl; omega) (by simp))]; rfl
  unfold OwnI Own
  rw [e]
  simpa using h
/-- l[k] = y -/
theorem OwnI.set_ {w : World} {base g cap n : Nat} {l : List Int} (h : OwnI w base 3 (.slice (some ⟨g, 0, none⟩) n cap) l) {k : Nat} (_hk : k < l.length) (y : Int) :
    OwnI (w.setCell ⟨g, k, none⟩ (.int .i64 y)) base 3 (.slice (some ⟨g, 0, none⟩) n cap) (l.set k y) := by
  have hn : n = l.length := by
    rcases h.2 with ⟨h0, _⟩ | ⟨_, _, _, h0, _⟩
    · cases h0
    · injection h0
  subst hn
  have e : ∀ l : List Int, l.flatMap intCells = l.map (Value.int .i64) := fun l => by
    induction l with
    | nil => rfl
    | cons x r ih => rw [List.flatMap_cons, ih]; rfl
  have h1 := World.ownsRow.stored (w := w) (base := base) (e := 3) (size := 1) (g := g) (cap := cap) (n := l.length) (xs := l.flatMap intCells) h k (.int .i64 y)
  unfold OwnI Own
  rw [e] at h1 ⊢
  rw [List.length_set, List.map_set]
  exact h1.1
end Go.Proofs.Ytmgejacndhnikaa
namespace Go.Proofs.Ytmgejacndhnikaa
open Go.RowKit

set_option maxRecDepth 100000 in
set_option maxHeartbeats 1000000 in
theorem cloneI_calls (A : Option Addr) (l : List Int) (cap : Nat) (w : World) (hA : RdI w A l) (h1 : 1 ≤ l.length) (h16 : l.length ≤ 1000) :
    Calls Try.prog 59 #[.slice A l.length cap] w fun e w' => ∃ v, e = .returned v ∧ OwnI w' w.heap.size 3 v l ∧ Below w.heap.size w w' := by
  have HA := Lib.hid hA
  obtain ⟨b, off, rfl, hb, -⟩ := hA (by omega)
  clear hA
  have HE := Lib.hid (own_new intCells 1 3 intCells_len w w.heap.size (Nat.le_refl _) [] (by simp [maxLen]))
  have HR := Lib.hid (Rd.below HA.out ((Below.refl w.heap.size w).alloc (Nat.le_refl _) (.cells #[] 3)))
  obtain ⟨v3, w3, hrun, hO3, hg3, -⟩ := run_appN (P := Try.prog) 23 23 intCells 1 8 3 (.int .i64 0) Try.underlying23 infoInt rfl (by decide) intCells_len intCells_one w.heap.size _ [] HE.out _ l cap HR.out (by simp [maxLen]; omega) (by simp; omega) (by simp)
  rw [List.nil_append] at hO3
  have HO3 := Lib.hid hO3
  have HW3 := Lib.hid (((Below.refl w.heap.size w).alloc (Nat.le_refl _) (.cells #[] 3)).grown hg3 (by simp) (fun k e => by have e : some w.heap.size = some k := e; injection e with e; omega))
  have Hrun := Lib.hid hrun
  clear hO3 hg3 hrun
  have q22 : ∀ (w : World) (a : Option Addr) (n c n' c' : Nat), (binOp .eql 23 (.slice a n c) (.slice none n' c')).run Try.prog w = .ok (.bool a.isNone) w := fun w a n c n' c' => Lib.run_eql_slice_nil w _ _ a n c n' c' Try.underlying23
  go_enter Try.func59, Try.ntmps59
  go_wp2_with (at_builtin; refine wpList_app_run rfl 23 _ _ rfl rfl rfl Hrun.out ?_)
  go_ret
  exact ⟨_, rfl, HO3.out, HW3.out⟩
end Go.Proofs.Ytmgejacndhnikaa
namespace Go.Proofs.Ytmgejacndhnikaa
set_option maxRecDepth 100000
open Go.RowKit

/-- The slice of slices at A reads as ls. -/
def RdN (w : World) (A : Option Addr) (ls : List (List Int)) : Prop :=
  0 < ls.length → ∃ b off, A = some ⟨b, off, none⟩ ∧ b < w.heap.size ∧
    ∀ (k : Nat) (l : List Int), ls[k]? = some l → ∃ A' cap', w.cell? ⟨b, off + k, none⟩ = some (.slice A' l.length cap') ∧ RdI w A' l
theorem RdN.below {w w' : World} {A : Option Addr} {ls : List (List Int)} (h : RdN w A ls) (hb : Below w.heap.size w w') : RdN w' A ls := fun hn => by
  obtain ⟨b, off, e, hlt, hc⟩ := h hn
  refine ⟨b, off, e, by have := hb.size; omega, fun k l hk => ?_⟩
  obtain ⟨A', cap', h1, h2⟩ := hc k l hk
  exact ⟨A', cap', (hb.cell (p := ⟨b, off + k, none⟩) hlt).trans h1, Rd.below h2 hb⟩
theorem RdN.at_ {w : World} {A : Option Addr} {ls : List (List Int)} (h : RdN w A ls) {k : Nat} (hk : k < ls.length) :
    ∃ b off A' cap', A = some ⟨b, off, none⟩ ∧ b < w.heap.size ∧ w.cell? ⟨b, off + k, none⟩ = some (.slice A' ls[k].length cap') ∧ RdI w A' ls[k] := by
  obtain ⟨b, off, e, hlt, hc⟩ := h (by omega)
  obtain ⟨A', cap', h1, h2⟩ := hc k _ (List.getElem?_eq_getElem hk)
  exact ⟨b, off, A', cap', e, hlt, h1, h2⟩

/-- A row of whatever values: each a cell. -/
abbrev oneV (v : Value) : List Value := [v]
abbrev OwnV (w : World) (base E : Nat) (v : Value) (l : List Value) : Prop := Own oneV 1 w base E v l
theorem oneV_flat (l : List Value) : l.flatMap oneV = l := by
  induction l with
  | nil => rfl
  | cons x r ih => rw [List.flatMap_cons, ih]; rfl
theorem infoInts : (Try.prog.info? 23).map (fun i => (i.zero, i.size, i.bytes)) = some (some (.slice none 0 0), 1, 24) := by kernel_rfl
/-- 'make([][]int, n)'. -/
theorem wpList_makeN {w : World} {ops : Array Oper} {rest : List Oper} {o : Oper} {a : Act} {Q : Exit → Act → World → Prop} (hg : o.guard = none) (lo c : Operand) (hop : o.op = Op.makeSlice 97 lo c)
    (base n : Nat) (hl : a.eval lo = .int .i64 (n : Int)) (hc : a.eval c = .int .i64 (n : Int)) (hn : n < 1000000) (hbase : base ≤ w.heap.size)
    (h : ∀ w', OwnV w' base 23 (.slice (some ⟨w.heap.size, 0, none⟩) n n) (List.replicate n (.slice none 0 0)) → w.grownBy w' none → wpList Try.prog ops Q rest (a.put o.dst (.slice (some ⟨w.heap.size, 0, none⟩) n n)) w') : wpList Try.prog ops Q (o :: rest) a w := by
  obtain ⟨i, hi, hz0, hz1, hz2⟩ := info_parts infoInts
  refine wpList_make_full w hg lo c 97 hop base 23 i (.slice none 0 0) 1 Try.underlying97 hi hz0 hz1 .i64 .i64 n n n hl hc rfl rfl (by rw [hz2]; omega) (by unfold maxLen; omega) hbase fun w' h1 h2 => ?_
  refine h w' ?_ h2
  have e : (madeCells (Value.slice none 0 0).cells (n * 1)).toList = (List.replicate n (Value.slice none 0 0)).flatMap oneV := by
    rw [show (Value.slice none 0 0).cells = #[.slice none 0 0] from rfl, Nat.mul_one, toList_madeCells_one]
    rw [oneV_flat]
  rw [e] at h1
  unfold OwnV Own
  rw [List.length_replicate]
  exact h1
theorem OwnV.at2 {w : World} {base n c E : Nat} {A : Option Addr} {l : List Value} (h : OwnV w base E (.slice A n c) l) (hl : 0 < l.length) :
    ∃ g, A = some ⟨g, 0, none⟩ ∧ base ≤ g ∧ g < w.heap.size ∧ (∀ j, w.frozen? ⟨g, j, none⟩ = false) ∧ ∀ k (_hk : k < l.length), w.cell? ⟨g, k, none⟩ = some l[k] := by
  obtain ⟨g, cap, e, h1, h2, h3, h4⟩ := h.some_ hl
  injection e with e1 e2 e3
  subst e1 e2 e3
  refine ⟨g, rfl, h1, h2, h4, fun k hk => ?_⟩
  have := Own.cell_ (f := oneV) (size := 1) (fun _ => rfl) h hk (j := 0) (by decide)
  simpa using this
theorem OwnV.set_ {w : World} {base g cap n E : Nat} {l : List Value} (h : OwnV w base E (.slice (some ⟨g, 0, none⟩) n cap) l) {k : Nat} (y : Value) :
    OwnV (w.setCell ⟨g, k, none⟩ y) base E (.slice (some ⟨g, 0, none⟩) n cap) (l.set k y) := by
  have hn : n = l.length := by
    rcases h.2 with ⟨h0, _⟩ | ⟨_, _, _, h0, _⟩
    · cases h0
    · injection h0
  subst hn
  have h1 := World.ownsRow.stored (w := w) (base := base) (e := E) (size := 1) (g := g) (cap := cap) (n := l.length) (xs := l.flatMap oneV) h k y
  unfold OwnV Own
  rw [oneV_flat] at h1 ⊢
  rw [List.length_set]
  exact h1.1
theorem grown_set (w : World) (g k : Nat) (v : Value) : w.grownBy (w.setCell ⟨g, k, none⟩ v) (some g) :=
  ⟨rfl, rfl, rfl, by simp [World.setCell], fun i _ hne => Below.heap_setCell w ⟨g, k, none⟩ v i (fun e => hne (by rw [e]))⟩
/-- What reads on where one block alone turned. -/
theorem Rd.grown {α : Type} {f : α → List Value} {size : Nat} {w w' : World} {A : Option Addr} {l : List α} {g : Nat} (h : Rd f size w A l) (hg : w.grownBy w' (some g)) (hne : ∀ p, A = some p → p.block ≠ g) : Rd f size w' A l := fun hn => by
  obtain ⟨b, off, e, hb, hc⟩ := h hn
  refine ⟨b, off, e, by have := hg.size; omega, fun k x hx j hj => ?_⟩
  rw [← hc k x hx j hj]
  have := hg.block b hb (fun h => hne _ e (by injection h))
  simp only [World.cell?, this]

theorem own_far {w : World} {B E base : Nat} {v : Value} {l : List Int} (h : OwnI w B E v l) (hb : base < B) : some base ≠ v.ownBlock := by
  rcases h.2 with ⟨rfl, _⟩ | ⟨g, cap, cur, rfl, hg, _⟩
  · intro e; cases e
  · intro e
    have e : some base = some g := e
    injection e with e
    omega
end Go.Proofs.Ytmgejacndhnikaa
