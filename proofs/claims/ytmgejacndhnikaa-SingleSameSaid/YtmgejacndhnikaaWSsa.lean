/- Of the ways: checks, what is reached, what hangs on what; in a namespace of its own, beside the blocks' names (put together by wfam.py). -/
import Derived.Test.YtmgejacndhnikaaTurnG
import Derived.Test.YtmgejacndhnikaaInside
import Derived.BigGuardPart
import Derived.Outline
import Derived.Test.YtmgejacndhnikaaLib
import Derived.Laws.BitsAllLaws
import Derived.Laws.BitsLemmas
import Derived.Deep.LoopGhost
import Derived.BigQuiet
import Derived.Deep.QuietTactic
import Derived.Test.YtmgejacndhnikaaRow
import Derived.StillTailTactics
import Derived.Deep.CutRange
import Derived.Deep.DeepCutAuto
import Derived.Test.YtmgejacndhnikaaAppN
import Derived.Lib.AppendZeros
import Derived.Maps.AppendAt
set_option maxRecDepth 100000
namespace Go.Proofs.Ytmgejacndhnikaa.W
open Go.RowKit

/-- The slice of slices at A reads as ls. -/
def RdN (w : World) (A : Option Addr) (ls : List (List Int)) : Prop :=
  0 < ls.length → ∃ b off, A = some ⟨b, off, none⟩ ∧ b < w.heap.size ∧
    ∀ (k : Nat) (l : List Int), ls[k]? = some l → ∃ A' cap', w.cell? ⟨b, off + k, none⟩ = some (.slice A' l.length cap') ∧ RdI w A' l
theorem RdN.below {w w' : World} {A : Option Addr} {ls : List (List Int)} (h : RdN w A ls) (hb : Below w.heap.size w w') : RdN w' A ls := fun hn => by
  obtain ⟨b, off, e, hlt, hc⟩ := h hn
  refine ⟨b, off, e, by have := hb.size; omega, fun k l hk => ?_⟩
  obtain ⟨A', cap', h1, h2⟩ := hc k l hk
  exact ⟨A', cap', (hb.cell (p := ⟨b, off + k, none⟩) hlt).trans h1, Rd.below h2 hb⟩
theorem RdN.at_ {w : World} {A : Option Addr} {ls : List (List Int)} (h : RdN w A ls) {k : Nat} (hk : k < ls.length) :
    ∃ b off A' cap', A = some ⟨b, off, none⟩ ∧ b < w.heap.size ∧ w.cell? ⟨b, off + k, none⟩ = some (.slice A' ls[k].length cap') ∧ RdI w A' ls[k] := by
  obtain ⟨b, off, e, hlt, hc⟩ := h (by omega)
  obtain ⟨A', cap', h1, h2⟩ := hc k _ (List.getElem?_eq_getElem hk)
  exact ⟨b, off, A', cap', e, hlt, h1, h2⟩

def wErr1 (n : Nat) (l : List Int) : Int := if 3 < l.length then 1 else if insideB n l then 0 else 2
def wErrs (n : Nat) : List (List Int) → Int
  | [] => 0
  | l :: r => if wErr1 n l = 0 then wErrs n r else wErr1 n l
def wayErr (ls : List (List Int)) : Int := if ls.length = 0 ∨ 8 < ls.length then 1 else wErrs ls.length ls
theorem wErrs_drop {n : Nat} {l : List (List Int)} {k : Nat} {E : Int} (hk : k < l.length) (h0 : wErrs n (l.drop k) = E) :
    (∀ e, wErr1 n l[k] = e → e ≠ 0 → E = e) ∧ (wErr1 n l[k] = 0 → wErrs n (l.drop (k + 1)) = E) := by
  rw [List.drop_eq_getElem_cons hk, show ∀ t r, wErrs n (t :: r) = if wErr1 n t = 0 then wErrs n r else wErr1 n t from fun _ _ => rfl] at h0
  constructor
  · intro e he hne; rw [if_neg (by rw [he]; exact hne)] at h0; rw [← h0, he]
  · intro h; rw [if_pos h] at h0; exact h0
theorem wErr1_1 {n : Nat} {l : List Int} (h : 3 < l.length) : wErr1 n l = 1 := by unfold wErr1; rw [if_pos h]
theorem wErr1_2 {n : Nat} {l : List Int} (h : ¬ 3 < l.length) (h' : insideB n l = false) : wErr1 n l = 2 := by unfold wErr1; rw [if_neg h, h']; rfl
theorem wErr1_0 {n : Nat} {l : List Int} (h : ¬ 3 < l.length) (h' : insideB n l = true) : wErr1 n l = 0 := by unfold wErr1; rw [if_neg h, h']; rfl

/-- The closure of way.Check: out of 0 .. n - 1? -/
def outB (n : Int) (x : Int) : Bool := decide (x < 0 ∨ n ≤ x)
theorem take_all_succ {α : Type} {p : α → Prop} {l : List α} {k : Nat} (hk : k < l.length) (h : ∀ x ∈ l.take k, p x) (h' : p l[k]) : ∀ x ∈ l.take (k + 1), p x := by
  rw [List.take_succ_eq_append_getElem hk]
  intro x hx
  rcases List.mem_append.1 hx with h1 | h1
  · exact h x h1
  · simp at h1; subst h1; exact h'
def OutEnd (n : Nat) (l : List Int) (w : World) (e : Ending) (w' : World) : Prop :=
  w' = w ∧ ∃ m : Int, e = .returned (.int .i64 m) ∧ ((m = -1 ∧ ∀ x ∈ l, outB n x = false) ∨ (0 ≤ m ∧ ∃ x ∈ l, outB n x = true))
/-- What a valid way is. -/
theorem wayErr_ok {ls : List (List Int)} (h : wayErr ls = 0) : 1 ≤ ls.length ∧ ls.length ≤ 8 ∧ ∀ l ∈ ls, l.length ≤ 3 ∧ ∀ x ∈ l, 0 ≤ x ∧ x < ls.length := by
  unfold wayErr at h
  by_cases h1 : ls.length = 0 ∨ 8 < ls.length
  · rw [if_pos h1] at h; exact absurd h (by decide)
  rw [if_neg h1] at h
  refine ⟨by omega, by omega, ?_⟩
  generalize ls.length = n at *
  clear h1
  induction ls with
  | nil => simp
  | cons l r ih =>
    rw [show wErrs n (l :: r) = if wErr1 n l = 0 then wErrs n r else wErr1 n l from rfl] at h
    by_cases h0 : wErr1 n l = 0
    · rw [if_pos h0] at h
      intro m hm
      rcases List.mem_cons.1 hm with rfl | hm
      · unfold wErr1 at h0
        by_cases h3 : 3 < m.length
        · rw [if_pos h3] at h0; exact absurd h0 (by decide)
        · rw [if_neg h3] at h0
          refine ⟨by omega, fun x hx => ?_⟩
          cases hin : insideB n m
          · rw [hin] at h0; exact absurd h0 (by decide)
          · unfold insideB at hin
            rw [List.all_eq_true] at hin
            exact of_decide_eq_true (hin x hx)
      · exact ih h m hm
    · rw [if_neg h0] at h; exact absurd h h0
end Go.Proofs.Ytmgejacndhnikaa.W
namespace Go.Proofs.Ytmgejacndhnikaa.W
open Go.RowKit

def OwnQ (w : World) (base : Nat) (v : Value) (l : List Int) : Prop :=
  ∃ A cap, v = .slice A l.length cap ∧ l.length ≤ cap ∧ cap ≤ maxLen ∧ (A = none → cap = 0) ∧
    (0 < cap → ∃ g off cur, A = some ⟨g, off, none⟩ ∧ base ≤ g ∧ w.heap[g]? = some (.cells cur 3 (0, 0)) ∧ off + cap ≤ cur.size ∧ ∀ (k : Nat) (x : Int), l[k]? = some x → cur[off + k]? = some (.int .i64 x))

theorem lt_of_heap {w : World} {g : Nat} {o : Obj} (h : w.heap[g]? = some o) : g < w.heap.size := by
  rcases Nat.lt_or_ge g w.heap.size with hl | hl
  · exact hl
  · rw [Array.getElem?_eq_none hl] at h; cases h
theorem intsMap (l : List Int) : l.flatMap intCells = l.map (Value.int .i64) := by
  induction l with
  | nil => rfl
  | cons x r ih => rw [List.flatMap_cons, ih]; rfl
theorem OwnQ.of_own {w : World} {base : Nat} {v : Value} {l : List Int} (h : OwnI w base 3 v l) : OwnQ w base v l := by
  rcases h.2 with ⟨rfl, h0⟩ | ⟨g, cap, cur, rfl, hb, hh, hn, hm, hs, ht⟩
  · exact ⟨none, 0, by rw [h0], by omega, by simp [maxLen], fun _ => rfl, fun h => by omega⟩
  · refine ⟨some ⟨g, 0, none⟩, cap, rfl, hn, hm, (fun h => by cases h), fun _ => ⟨g, 0, cur, rfl, hb, hh, by omega, fun k x hx => ?_⟩⟩
    have hk : k < l.length := (List.getElem?_eq_some_iff.1 hx).1
    have e : (l.map (Value.int .i64))[k]? = some (.int .i64 x) := by rw [List.getElem?_map, hx]; rfl
    rw [← intsMap, ← ht, List.getElem?_take_of_lt (by omega)] at e
    rw [Nat.zero_add, ← Array.getElem?_toList]
    exact e
theorem OwnQ.below {w w' : World} {base : Nat} {v : Value} {l : List Int} (h : OwnQ w base v l) (hb : Below w.heap.size w w') : OwnQ w' base v l := by
  obtain ⟨A, cap, e, h1, h2, h3, h4⟩ := h
  refine ⟨A, cap, e, h1, h2, h3, fun hc => ?_⟩
  obtain ⟨g, off, cur, hA, hg, hh, hs, hk⟩ := h4 hc
  exact ⟨g, off, cur, hA, hg, (hb.block g (lt_of_heap hh)).trans hh, hs, hk⟩
theorem OwnQ.alloc {w : World} {base : Nat} {v : Value} {l : List Int} (h : OwnQ w base v l) (o : Obj) : OwnQ (w.alloc o) base v l := h.below ((Below.refl _ _).alloc (Nat.le_refl _) o)
theorem OwnQ.drewN {w : World} {base : Nat} {v : Value} {l : List Int} (h : OwnQ w base v l) (n : Nat) : OwnQ (w.drewN n) base v l := h
theorem OwnQ.form {w : World} {base : Nat} {v : Value} {l : List Int} (h : OwnQ w base v l) : ∃ A cap, v = .slice A l.length cap ∧ l.length ≤ cap ∧ cap ≤ maxLen := by
  obtain ⟨A, cap, e, h1, h2, _⟩ := h
  exact ⟨A, cap, e, h1, h2⟩
theorem OwnQ.cells {w : World} {base n cap : Nat} {A : Option Addr} {l : List Int} (h : OwnQ w base (.slice A n cap) l) (hl : 0 < l.length) :
    ∃ g off, A = some ⟨g, off, none⟩ ∧ base ≤ g ∧ g < w.heap.size ∧ ∀ (k : Nat) (_hk : k < l.length), w.cell? ⟨g, off + k, none⟩ = some (.int .i64 l[k]) := by
  obtain ⟨A', cap', e, h1, h2, h3, h4⟩ := h
  injection e with e1 e2 e3
  subst e1 e3
  obtain ⟨g, off, cur, hA, hg, hh, hs, hk⟩ := h4 (by omega)
  exact ⟨g, off, hA, hg, lt_of_heap hh, fun k hlt => by rw [cell_of_row w g _ cur _ _ hh]; exact hk k _ (List.getElem?_eq_getElem hlt)⟩
/-- The queue without its first. -/
theorem OwnQ.tail {w : World} {base cap : Nat} {g off : Nat} {x : Int} {r : List Int} (h : OwnQ w base (.slice (some ⟨g, off, none⟩) (r.length + 1) cap) (x :: r)) :
    OwnQ w base (.slice (if cap = 1 then some ⟨g, off, none⟩ else some ⟨g, off + 1, none⟩) r.length (cap - 1)) r := by
  obtain ⟨A', cap', e, h1, h2, h3, h4⟩ := h
  injection e with e1 e2 e3
  subst e1 e3
  simp only [List.length_cons] at h1
  refine ⟨_, _, rfl, by omega, by omega, (fun hn => by split at hn <;> cases hn), fun hc => ?_⟩
  obtain ⟨g', off', cur, hA, hg, hh, hs, hk⟩ := h4 (by omega)
  cases hA
  refine ⟨g, off + 1, cur, by rw [if_neg (by omega)], hg, hh, by omega, fun k y hy => ?_⟩
  rw [show off + 1 + k = off + (k + 1) by omega]
  exact hk (k + 1) y (by simpa using hy)

/-- 'queue = append(queue, y)'. -/
theorem wpList_appQ {w : World} {ops : Array Oper} {rest : List Oper} {o : Oper} {a : Act} {Q : Exit → Act → World → Prop} (hgd : o.guard = none) (s x : Operand)
    (ho : o.op = .call { callee := .builtin .append, args := #[s, x], argTypes := #[23, 23] })
    (base : Nat) (v : Value) (l : List Int) (y : Int) (hs : a.eval s = v) (hown : OwnQ w base v l) (S c : Nat) (hx : a.eval x = .slice (some ⟨S, 0, none⟩) 1 c)
    (hnew : w.cell? ⟨S, 0, none⟩ = some (.int .i64 y)) (hlen : l.length < 1000000) (hbase : base ≤ w.heap.size)
    (h : ∀ v' w', OwnQ w' base v' (l ++ [y]) → Below base w w' → w.heap.size ≤ w'.heap.size → wpList Try.prog ops Q rest (a.put o.dst v') w') : wpList Try.prog ops Q (o :: rest) a w := by
  obtain ⟨i, hi, hz0, hz1, hz2⟩ := info_parts infoInt
  obtain ⟨A, cap, e, h1, h2, h3, h4⟩ := hown
  subst e
  have hnews : ∀ j u, [Value.int .i64 y][j]? = some u → w.cell? ((⟨S, 0, none⟩ : Addr).add j) = some u := fun j u hj => by
    match j, hj with
    | 0, hj => simp at hj; subst hj; simpa [Addr.add] using hnew
    | j + 1, hj => simp at hj
  have hone : ∀ u ∈ [Value.int .i64 y], u.oneCell' = true := by intro u hu; simp at hu; subst hu; rfl
  have grows : ∀ v' w', w'.ownsRow w.heap.size 3 1 v' (l.length + 1) (l.map (Value.int .i64) ++ [Value.int .i64 y]) → w.grownBy w' none → wpList Try.prog ops Q rest (a.put o.dst v') w' := fun v' w' hr hg => by
    refine h v' w' (OwnQ.of_own (Own.base_ (l := l ++ [y]) (base := w.heap.size) ?_ hbase)) ((Below.refl _ _).grown hg hbase (fun k hk => by cases hk)) hg.size
    unfold Own
    rw [List.length_append, intsMap, List.map_append]
    exact hr
  by_cases hc : 0 < cap
  · obtain ⟨g, off, cur, rfl, hg, hh, hsz, hk⟩ := h4 hc
    have hcell : ∀ j, w.cell? ⟨g, j, none⟩ = cur[j]? := fun j => cell_of_row w g j cur _ _ hh
    refine wpList_append_arg w hgd s x 23 ho 3 i (.int .i64 0) 1 8 Try.underlying23 hi hz0 hz1 hz2 rfl (by decide) g off l.length cap (l.map (Value.int .i64)) hs (by simp) (fun j u hj => ?_)
      ⟨S, 0, none⟩ 1 c [.int .i64 y] hx rfl hnews hone (fun hroom j hj => ?_) (by unfold maxLen; omega) (by omega) (fun hroom => ?_) (fun _ => grows)
    · rw [hcell]
      rw [List.getElem?_map] at hj
      obtain ⟨x, hx, rfl⟩ := Option.map_eq_some_iff.1 hj
      exact hk j x hx
    · have hj0 : j = 0 := by simpa using hj
      subst hj0
      rw [hcell]
      refine ⟨by rw [Array.getElem?_eq_getElem (by omega)]; rfl, by simp [World.frozen?, hh]⟩
    · have hset : w.setCells g (off + l.length * 1) [.int .i64 y] = w.setCell ⟨g, off + l.length, none⟩ (.int .i64 y) := by
        rw [Nat.mul_one]; rfl
      rw [hset]
      refine h _ _ ⟨some ⟨g, off, none⟩, cap, by simp, by simp; omega, h2, (fun hn => by cases hn), fun _ => ⟨g, off, cur.setIfInBounds (off + l.length) (.int .i64 y), rfl, hg, ?_, by simp; omega, fun k x hx => ?_⟩⟩ ?_ (by simp [World.setCell])
      · simp [World.setCell, Array.getElem?_modify, hh]
      · rw [List.getElem?_append] at hx
        split at hx
        · rename_i hlt
          rw [Array.getElem?_setIfInBounds_ne (by omega)]
          exact hk k x hx
        · rename_i hge
          have : k = l.length := by
            have := (List.getElem?_eq_some_iff.1 hx).1
            simp at this; omega
          subst this
          simp at hx
          subst hx
          rw [Array.getElem?_setIfInBounds_self_of_lt (by omega)]
      · exact (Below.refl _ _).setCell hg _
  · have hl0 : l = [] := List.eq_nil_of_length_eq_zero (by omega)
    have hc0 : cap = 0 := by omega
    subst hl0 hc0
    refine wpList_append_grows w hgd s x 23 ho 3 i (.int .i64 0) 1 8 Try.underlying23 hi hz0 hz1 hz2 rfl (by decide) A 0 0 [] hs (fun _ => ⟨rfl, rfl⟩) rfl (fun b _ j u hj => by simp at hj)
      ⟨S, 0, none⟩ 1 c [.int .i64 y] hx rfl hnews hone (by omega) (by unfold maxLen; omega) (by omega) (fun v' w' => grows v' w')
end Go.Proofs.Ytmgejacndhnikaa.W
namespace Go.Proofs.Ytmgejacndhnikaa.W
open Go.RowKit

theorem pow_u32 (j : Nat) (h : j < 32) : (2 : Int) ^ j % 4294967296 = ((2 ^ j : Nat) : Int) := by
  have h1 : 2 ^ j < 2 ^ 32 := Nat.pow_lt_pow_right (by decide) h
  have e : ((2 : Int) ^ j) = ((2 ^ j : Nat) : Int) := by rw [Int.natCast_pow]; rfl
  rw [e]
  have h2 : ((2 ^ j : Nat) : Int) < 4294967296 := by
    have : ((2 ^ j : Nat) : Int) < ((2 ^ 32 : Nat) : Int) := by exact_mod_cast h1
    simpa using this
  exact Int.emod_eq_of_lt (Int.natCast_nonneg _) h2
theorem ofInt_u32 (a : Nat) (ha : a < 4294967296) : (BitVec.ofInt 32 (a : Int)).toNat = a := by
  rw [BitVec.ofInt_natCast, BitVec.toNat_ofNat]; exact Nat.mod_eq_of_lt ha
theorem and_u32 (a b : Nat) (ha : a < 4294967296) (hb : b < 4294967296) : bits .and .u32 (a : Int) (b : Int) = ((a &&& b : Nat) : Int) := by
  have hx : a &&& b < 2 ^ 32 := Nat.and_lt_two_pow _ (by omega)
  show IntKind.u32.wrap ((BitVec.ofInt 32 (a : Int) &&& BitVec.ofInt 32 (b : Int)).toNat : Int) = _
  rw [BitVec.toNat_and, ofInt_u32 a ha, ofInt_u32 b hb, IntKind.wrap_u32]
  omega
theorem or_u32 (a b : Nat) (ha : a < 4294967296) (hb : b < 4294967296) : bits .or .u32 (a : Int) (b : Int) = ((a ||| b : Nat) : Int) := by
  have hx : a ||| b < 2 ^ 32 := Nat.or_lt_two_pow (by omega) (by omega)
  show IntKind.u32.wrap ((BitVec.ofInt 32 (a : Int) ||| BitVec.ofInt 32 (b : Int)).toNat : Int) = _
  rw [BitVec.toNat_or, ofInt_u32 a ha, ofInt_u32 b hb, IntKind.wrap_u32]
  omega
theorem shr_u32 (a j : Nat) : (a : Int) / 2 ^ j = ((a >>> j : Nat) : Int) := by
  rw [Nat.shiftRight_eq_div_pow, Int.natCast_ediv, Int.natCast_pow]; rfl
theorem testBit_and_one (a j : Nat) : ((a >>> j) &&& 1 == 0) = !a.testBit j := by
  have h : a.testBit j = (1 &&& a >>> j != 0) := rfl
  rw [h, Nat.and_comm, bne, Bool.not_not]
/-- 's >> j & 1 == 0' -/
theorem test_u32 (s j : Nat) (hs : s < 4294967296) : (bits .and .u32 ((s : Int) / 2 ^ j) 1 == 0) = !s.testBit j := by
  rw [shr_u32, show (1 : Int) = ((1 : Nat) : Int) from rfl, and_u32 _ _ (Nat.lt_of_le_of_lt (Nat.shiftRight_le _ _) hs) (by decide)]
  rw [← testBit_and_one]
  rw [Bool.eq_iff_iff, beq_iff_eq, beq_iff_eq]
  omega
theorem testBit_pow (j k : Nat) : (2 ^ j).testBit k = decide (j = k) := Nat.testBit_two_pow
theorem set_bit (s j k : Nat) : (s ||| 2 ^ j).testBit k = (s.testBit k || decide (j = k)) := by rw [Nat.testBit_or, testBit_pow]
/-- A set of numbers below n as a word. -/
theorem lt_pow_of_bits {s n : Nat} (h : ∀ k, s.testBit k = true → k < n) : s < 2 ^ n := by
  apply Nat.lt_pow_two_of_testBit
  intro i hi
  cases hb : s.testBit i
  · rfl
  · exact absurd (h i hb) (by omega)
theorem bit_lt {s n k : Nat} (h : s < 2 ^ n) (hb : s.testBit k = true) : k < n := by
  rcases Nat.lt_or_ge k n with h1 | h1
  · exact h1
  · rw [Nat.testBit_lt_two_pow (Nat.lt_of_lt_of_le h (Nat.pow_le_pow_right (by decide) h1))] at hb; cases hb
theorem set_ext {s t : Nat} (h : ∀ k, s.testBit k = t.testBit k) : s = t := Nat.eq_of_testBit_eq h
/-- How many of the numbers below 8 a set has. -/
def cnt8 (s : Nat) : Nat := ((List.range 8).filter fun k => s.testBit k).length
theorem cnt8_le (s : Nat) : cnt8 s ≤ 8 := by
  unfold cnt8
  have := List.length_filter_le (fun k => s.testBit k) (List.range 8)
  simpa using this
theorem cnt8_set {s j : Nat} (hj : j < 8) (h : s.testBit j = false) : cnt8 (s ||| 2 ^ j) = cnt8 s + 1 := by
  have key : ∀ l : List Nat, l.Nodup → ((l.filter fun k => (s ||| 2 ^ j).testBit k).length = (l.filter fun k => s.testBit k).length + if j ∈ l then 1 else 0) := fun l => by
    induction l with
    | nil => intro _; rfl
    | cons a l ih =>
      intro hn
      rw [List.nodup_cons] at hn
      have ih := ih hn.2
      rw [List.filter_cons, List.filter_cons, set_bit]
      by_cases e : j = a
      · subst e
        rw [h]
        simp only [decide_true, Bool.or_true, if_true, Bool.false_eq_true, if_false, List.length_cons, List.mem_cons, true_or]
        rw [ih, if_neg hn.1]
      · rw [decide_eq_false e, Bool.or_false]
        have hm : (j ∈ a :: l) ↔ j ∈ l := by simp [e]
        cases s.testBit a
        · simp only [Bool.false_eq_true, if_false]
          rw [ih]; simp [e]
        · simp only [if_true, List.length_cons]
          rw [ih]; simp [e]; omega
  have := key (List.range 8) List.nodup_range
  unfold cnt8
  rw [this, if_pos (by simpa using hj)]
end Go.Proofs.Ytmgejacndhnikaa.W
namespace Go.Proofs.Ytmgejacndhnikaa.W
open Go.RowKit

theorem fits_calls (n : Nat) (s : Nat) (w : World) (hn : n < 32) :
    Calls Try.prog 45 #[.int .i64 n, .int .u32 s] w fun e w' => e = .returned (.bool (decide (s < 2 ^ n))) ∧ w' = w := by
  have p1 := pow_u32 n hn
  have p2 : decide ((s : Int) < ((2 ^ n : Nat) : Int)) = decide (s < 2 ^ n) := by rw [decide_eq_decide]; omega
  rw [Int.natCast_pow, show ((2 : Nat) : Int) = 2 from rfl] at p1 p2
  have p4 : (n : Int) % 18446744073709551616 = n := by omega
  generalize decide (s < 2 ^ n) = d at *
  go_enter Try.func45, Try.ntmps45
  go_wp2
  all_goals first | (exfalso; omega) | (go_ret; exact ⟨rfl, rfl⟩)

end Go.Proofs.Ytmgejacndhnikaa.W
namespace Go.Proofs.Ytmgejacndhnikaa.W
open Go.RowKit

theorem and_pow_ne (s i : Nat) : ((s &&& 2 ^ i) != 0) = s.testBit i := by
  have h : ∀ k, (s &&& 2 ^ i).testBit k = (s.testBit k && decide (i = k)) := fun k => by rw [Nat.testBit_and, testBit_pow]
  cases hb : s.testBit i
  · have : s &&& 2 ^ i = 0 := set_ext fun k => by
      rw [h, Nat.zero_testBit]
      by_cases e : i = k
      · subst e; rw [hb]; rfl
      · rw [decide_eq_false e, Bool.and_false]
    rw [this]; rfl
  · have h1 := h i
    rw [hb, decide_eq_true rfl] at h1
    rw [bne_iff_ne]
    intro e
    rw [e, Nat.zero_testBit] at h1
    cases h1
set_option maxHeartbeats 400000 in
theorem bit_calls (s i : Nat) (w : World) (hs : s < 4294967296) (hi : i < 32) :
    Calls Try.prog 51 #[.int .u32 s, .int .i64 i] w fun e w' => e = .returned (.bool (s.testBit i)) ∧ w' = w := by
  have p1 := pow_u32 i hi
  have p2 := and_u32 s (2 ^ i) hs (Nat.lt_of_lt_of_le (Nat.pow_lt_pow_right (by decide) hi) (by decide))
  have p3 : (((s &&& 2 ^ i : Nat) : Int) != 0) = s.testBit i := by
    rw [← and_pow_ne]
    rw [Bool.eq_iff_iff]; simp
  rw [Int.natCast_pow, show ((2 : Nat) : Int) = 2 from rfl] at p1 p2
  generalize s &&& 2 ^ i = x at *
  have p4 : (i : Int) % 18446744073709551616 = i := by omega
  go_enter Try.func51, Try.ntmps51
  go_wp2
  all_goals first | (exfalso; omega) | (go_ret; exact ⟨rfl, rfl⟩)
end Go.Proofs.Ytmgejacndhnikaa.W
namespace Go.Proofs.Ytmgejacndhnikaa.W
open Go.RowKit

theorem cnt8_mono_lt {s t : Nat} (h : ∀ k, s.testBit k = true → t.testBit k = true) (hne : s ≠ t) (ht : t < 256) : cnt8 s < cnt8 t := by
  have key : ∀ l : List Nat, (l.filter fun k => s.testBit k).length ≤ (l.filter fun k => t.testBit k).length ∧ ((∃ k ∈ l, s.testBit k = false ∧ t.testBit k = true) → (l.filter fun k => s.testBit k).length < (l.filter fun k => t.testBit k).length) := fun l => by
    induction l with
    | nil => exact ⟨Nat.le_refl _, by rintro ⟨k, hk, _⟩; cases hk⟩
    | cons a l ih =>
      rw [List.filter_cons, List.filter_cons]
      cases hs : s.testBit a
      · cases ht : t.testBit a
        · simp only [Bool.false_eq_true, if_false]
          refine ⟨ih.1, ?_⟩
          rintro ⟨k, hk, h1, h2⟩
          rcases List.mem_cons.1 hk with rfl | hk
          · rw [ht] at h2; cases h2
          · exact ih.2 ⟨k, hk, h1, h2⟩
        · simp only [Bool.false_eq_true, if_false, if_true, List.length_cons]
          exact ⟨by omega, fun _ => by omega⟩
      · rw [h a hs]
        simp only [if_true, List.length_cons]
        refine ⟨by omega, ?_⟩
        rintro ⟨k, hk, h1, h2⟩
        rcases List.mem_cons.1 hk with rfl | hk
        · rw [hs] at h1; cases h1
        · have := ih.2 ⟨k, hk, h1, h2⟩; omega
  refine (key (List.range 8)).2 ?_
  apply Classical.byContradiction
  intro hn
  refine hne (set_ext fun k => ?_)
  cases hs : s.testBit k
  · cases htk : t.testBit k
    · rfl
    · exact absurd ⟨k, by have := bit_lt (n := 8) ht htk; simpa using this, hs, htk⟩ hn
  · rw [h k hs]
end Go.Proofs.Ytmgejacndhnikaa.W
namespace Go.Proofs.Ytmgejacndhnikaa.W
open Go.RowKit

open Classical in
noncomputable def setTo (p : Nat → Prop) : Nat → Nat
  | 0 => 0
  | k + 1 => if p k then setTo p k ||| 2 ^ k else setTo p k
theorem setTo_bit (p : Nat → Prop) (n k : Nat) : (setTo p n).testBit k = true ↔ k < n ∧ p k := by
  induction n with
  | zero => simp [setTo]
  | succ n ih =>
    unfold setTo
    split
    · rename_i h
      rw [set_bit, Bool.or_eq_true, ih, decide_eq_true_eq]
      constructor
      · rintro (⟨h1, h2⟩ | rfl)
        · exact ⟨by omega, h2⟩
        · exact ⟨by omega, h⟩
      · rintro ⟨h1, h2⟩
        by_cases e : n = k
        · exact Or.inr e
        · exact Or.inl ⟨by omega, h2⟩
    · rename_i h
      rw [ih]
      constructor
      · rintro ⟨h1, h2⟩; exact ⟨by omega, h2⟩
      · rintro ⟨h1, h2⟩
        refine ⟨?_, h2⟩
        rcases Nat.lt_or_ge k n with h3 | h3
        · exact h3
        · have : k = n := by omega
          subst this; exact absurd h2 h
noncomputable def setN (p : Nat → Prop) : Nat := setTo p 8
theorem setN_bit (p : Nat → Prop) (k : Nat) : (setN p).testBit k = true ↔ k < 8 ∧ p k := setTo_bit p 8 k
theorem setN_ext {s : Nat} {p : Nat → Prop} (h : ∀ k, s.testBit k = true ↔ (k < 8 ∧ p k)) : s = setN p := set_ext fun k => by
  rw [Bool.eq_iff_iff, h, setN_bit]
theorem setN_congr {p q : Nat → Prop} (h : ∀ k, k < 8 → (p k ↔ q k)) : setN p = setN q := setN_ext fun k => by
  rw [setN_bit]; constructor
  · rintro ⟨h1, h2⟩; exact ⟨h1, (h k h1).1 h2⟩
  · rintro ⟨h1, h2⟩; exact ⟨h1, (h k h1).2 h2⟩
theorem setN_lt (p : Nat → Prop) : setN p < 256 := lt_pow_of_bits (n := 8) fun k h => ((setN_bit p k).1 h).1
theorem setN_false {p : Nat → Prop} (h : ∀ k, k < 8 → ¬ p k) : setN p = 0 := set_ext fun k => by
  rw [Bool.eq_iff_iff, setN_bit, Nat.zero_testBit]
  constructor
  · rintro ⟨h1, h2⟩; exact absurd h2 (h k h1)
  · intro h; cases h

end Go.Proofs.Ytmgejacndhnikaa.W
namespace Go.Proofs.Ytmgejacndhnikaa.W
open Go.RowKit

/-- a without b. -/
noncomputable def andN (a b : Nat) : Nat := setTo (fun i => a.testBit i = true ∧ b.testBit i = false) 32
theorem andN_bit {a : Nat} (b : Nat) (ha : a < 4294967296) (i : Nat) : (andN a b).testBit i = (a.testBit i && !b.testBit i) := by
  rw [Bool.eq_iff_iff]
  unfold andN
  rw [setTo_bit, Bool.and_eq_true, Bool.not_eq_true']
  exact ⟨fun h => h.2, fun h => ⟨bit_lt (n := 32) ha h.1, h⟩⟩
theorem andN_lt (a b : Nat) : andN a b < 4294967296 := lt_pow_of_bits (n := 32) fun _ hk => ((setTo_bit _ _ _).1 hk).1
theorem andN_u32 (a b : Nat) (ha : a < 4294967296) (hb : b < 4294967296) : bits .andNot .u32 (a : Int) (b : Int) = ((andN a b : Nat) : Int) := by
  show IntKind.u32.wrap ((BitVec.ofInt 32 (a : Int) &&& ~~~ BitVec.ofInt 32 (b : Int)).toNat : Int) = _
  have e : (BitVec.ofInt 32 (a : Int) &&& ~~~ BitVec.ofInt 32 (b : Int)).toNat = andN a b := by
    refine set_ext fun i => ?_
    rw [BitVec.testBit_toNat, BitVec.getLsbD_and, BitVec.getLsbD_not, andN_bit b ha]
    rw [← BitVec.testBit_toNat, ← BitVec.testBit_toNat, ofInt_u32 a ha, ofInt_u32 b hb]
    by_cases hi : i < 32
    · simp [hi]
    · have h1 : a.testBit i = false := by
        cases h : a.testBit i
        · rfl
        · exact absurd (bit_lt (n := 32) ha h) hi
      simp [h1]
  rw [e, IntKind.wrap_u32]
  have := andN_lt a b
  omega
end Go.Proofs.Ytmgejacndhnikaa.W
namespace Go.Proofs.Ytmgejacndhnikaa.W
open Go.RowKit

/-- One goes from a to b, which is not wo. -/
def Edge (ls : List (List Int)) (wo : Int) (a b : Nat) : Prop := ∃ l, ls[a]? = some l ∧ (b : Int) ∈ l ∧ (b : Int) ≠ wo
def WalkN (ls : List (List Int)) (wo : Int) : Nat → Nat → Nat → Prop
  | 0, a, b => a = b
  | n + 1, a, b => ∃ c, WalkN ls wo n a c ∧ Edge ls wo c b
def Comes_ (ls : List (List Int)) (wo : Int) (a b : Nat) : Prop := ∃ n, WalkN ls wo n a b
theorem Comes_.refl (ls : List (List Int)) (wo : Int) (a : Nat) : Comes_ ls wo a a := ⟨0, rfl⟩
theorem Comes_.step {ls : List (List Int)} {wo : Int} {a b c : Nat} (h : Comes_ ls wo a b) (e : Edge ls wo b c) : Comes_ ls wo a c := let ⟨n, h⟩ := h; ⟨n + 1, b, h, e⟩
theorem Comes_.closed {ls : List (List Int)} {wo : Int} {a : Nat} {p : Nat → Prop} (h0 : p a) (hs : ∀ b c, p b → Edge ls wo b c → p c) : ∀ b, Comes_ ls wo a b → p b := by
  rintro b ⟨n, h⟩
  induction n generalizing b with
  | zero => have h : a = b := h
            subst h; exact h0
  | succ n ih => obtain ⟨c, hc, he⟩ := h; exact hs c b (ih c hc) he
theorem Comes_.trans {ls : List (List Int)} {wo : Int} {a b c : Nat} (h : Comes_ ls wo a b) (k : Comes_ ls wo b c) : Comes_ ls wo a c :=
  Comes_.closed (p := fun x => Comes_ ls wo a x) h (fun _ _ hb he => hb.step he) c k
def Valid (ls : List (List Int)) : Prop := ∀ l ∈ ls, l.length ≤ 3 ∧ ∀ x ∈ l, 0 ≤ x ∧ x < ls.length
theorem Edge.lt {ls : List (List Int)} {wo : Int} {a b : Nat} (hv : Valid ls) (h : Edge ls wo a b) : a < ls.length ∧ b < ls.length := by
  obtain ⟨l, h1, h2, _⟩ := h
  refine ⟨(List.getElem?_eq_some_iff.1 h1).1, ?_⟩
  have := (hv l (List.mem_of_getElem? h1)).2 b h2
  omega

/-- The set s has just the nodes to which one comes from a. -/
def IsFrom (ls : List (List Int)) (wo : Int) (a : Nat) (s : Nat) : Prop := ∀ b, s.testBit b = true ↔ ((a : Int) ≠ wo ∧ Comes_ ls wo a b)

/-- What the loop keeps: the set s, the queue q. -/
structure Fr (ls : List (List Int)) (wo : Int) (a : Nat) (s : Nat) (q : List Int) : Prop where
  start : s.testBit a = true
  comes : ∀ b, s.testBit b = true → Comes_ ls wo a b
  low : ∀ b, s.testBit b = true → b < ls.length
  queue : ∀ x ∈ q, 0 ≤ x ∧ x < ls.length ∧ s.testBit x.toNat = true
  closed : ∀ b c, s.testBit b = true → (b : Int) ∉ q → Edge ls wo b c → s.testBit c = true
theorem Fr.fits {ls : List (List Int)} {wo : Int} {a s : Nat} {q : List Int} (h : Fr ls wo a s q) (h8 : ls.length ≤ 8) : s < 256 := by
  have := lt_pow_of_bits h.low
  exact Nat.lt_of_lt_of_le this (Nat.pow_le_pow_right (by decide) h8 : 2 ^ ls.length ≤ 2 ^ 8)
theorem Fr.first {ls : List (List Int)} {wo : Int} {a : Nat} (ha : a < ls.length) : Fr ls wo a (2 ^ a) [(a : Int)] := by
  have hb : ∀ b, (2 ^ a).testBit b = true → a = b := fun b h => by rw [testBit_pow] at h; exact of_decide_eq_true h
  refine ⟨by rw [testBit_pow]; simp, fun b h => by rw [← hb b h]; exact Comes_.refl _ _ _, fun b h => by rw [← hb b h]; exact ha, fun x hx => ?_, fun b c h hn _ => ?_⟩
  · simp at hx; subst hx
    exact ⟨by omega, by omega, by rw [Int.toNat_natCast, testBit_pow]; simp⟩
  · rw [← hb b h] at hn; simp at hn
theorem Fr.done {ls : List (List Int)} {wo : Int} {a s : Nat} (h : Fr ls wo a s []) (hne : (a : Int) ≠ wo) : IsFrom ls wo a s := fun b =>
  ⟨fun hb => ⟨hne, h.comes b hb⟩, fun ⟨_, hc⟩ => Comes_.closed (p := fun x => s.testBit x = true) h.start (fun b c hb he => h.closed b c hb (by simp) he) b hc⟩

/-- Within a round: the head q0 is under way, of its next nodes the first t are done. -/
structure Fi (ls : List (List Int)) (wo : Int) (a : Nat) (q0 : Nat) (l : List Int) (t : Nat) (s : Nat) (q : List Int) : Prop where
  fr : Fr ls wo a s q
  done : ∀ i (h : i < l.length), i < t → l[i] ≠ wo → s.testBit l[i].toNat = true
theorem Fi.skip {ls : List (List Int)} {wo : Int} {a q0 t s : Nat} {l q : List Int} (h : Fi ls wo a q0 l t s q) (ht : t < l.length) (hb : l[t] = wo ∨ s.testBit l[t].toNat = true) : Fi ls wo a q0 l (t + 1) s q :=
  ⟨h.fr, fun i hi hlt hne => by
    rcases Nat.lt_or_ge i t with h1 | h1
    · exact h.done i hi h1 hne
    · have : i = t := by omega
      subst this
      rcases hb with hb | hb
      · exact absurd hb hne
      · exact hb⟩
theorem Fi.push {ls : List (List Int)} {wo : Int} {a q0 t s j : Nat} {l q : List Int} (h : Fi ls wo a q0 l t s q) (ht : t < l.length) (hj : l[t] = (j : Int)) (hne : (j : Int) ≠ wo) (hlt : j < ls.length) (hl : ls[q0]? = some l) (hq0 : s.testBit q0 = true) :
    Fi ls wo a q0 l (t + 1) (s ||| 2 ^ j) (q ++ [(j : Int)]) := by
  have mono : ∀ b, s.testBit b = true → (s ||| 2 ^ j).testBit b = true := fun b hb => by rw [set_bit, hb]; rfl
  have hjt : (s ||| 2 ^ j).testBit j = true := by rw [set_bit]; simp
  have cases_ : ∀ b, (s ||| 2 ^ j).testBit b = true → s.testBit b = true ∨ j = b := fun b hb => by
    rw [set_bit, Bool.or_eq_true] at hb
    exact hb.imp id of_decide_eq_true
  have he : Edge ls wo q0 j := ⟨l, hl, by rw [← hj]; exact List.getElem_mem ht, hne⟩
  refine ⟨⟨mono _ h.fr.start, fun b hb => ?_, fun b hb => ?_, fun x hx => ?_, fun b c hb hn hbc => ?_⟩, fun i hi hit hne' => ?_⟩
  · rcases cases_ b hb with h1 | rfl
    · exact h.fr.comes b h1
    · exact (h.fr.comes q0 hq0).step he
  · rcases cases_ b hb with h1 | rfl
    · exact h.fr.low b h1
    · exact hlt
  · rcases List.mem_append.1 hx with h1 | h1
    · have := h.fr.queue x h1
      exact ⟨this.1, this.2.1, mono _ this.2.2⟩
    · simp at h1; subst h1
      exact ⟨by omega, by omega, by rw [Int.toNat_natCast]; exact hjt⟩
  · rcases cases_ b hb with h1 | rfl
    · exact mono c (h.fr.closed b c h1 (fun hm => hn (List.mem_append_left _ hm)) hbc)
    · exact absurd (List.mem_append_right _ (by simp)) hn
  · rcases Nat.lt_or_ge i t with h1 | h1
    · exact mono _ (h.done i hi h1 hne')
    · have : i = t := by omega
      subst this
      rw [hj, Int.toNat_natCast]; exact hjt
theorem Fi.finish {ls : List (List Int)} {wo : Int} {a q0 s : Nat} {l r : List Int} (h : Fi ls wo a q0 l l.length s ((q0 : Int) :: r)) (hl : ls[q0]? = some l) : Fr ls wo a s r := by
  refine ⟨h.fr.start, h.fr.comes, h.fr.low, fun x hx => h.fr.queue x (by simp [hx]), fun b c hb hn hbc => ?_⟩
  by_cases hbq : b = q0
  · subst hbq
    obtain ⟨l', h1, h2, h3⟩ := hbc
    rw [hl] at h1
    injection h1 with h1
    subst h1
    obtain ⟨i, hi, hc⟩ := List.getElem_of_mem h2
    have := h.done i hi hi (by rw [hc]; exact h3)
    rw [hc, Int.toNat_natCast] at this
    exact this
  · exact h.fr.closed b c hb (by simp; exact ⟨by omega, hn⟩) hbc
end Go.Proofs.Ytmgejacndhnikaa.W
namespace Go.Proofs.Ytmgejacndhnikaa.W
open Go.RowKit

/-- The weight of a queue and a set: what is still to come. -/
def wt (s : Nat) (n : Nat) : Nat := 2 * (8 - cnt8 s) + n

set_option maxHeartbeats 4000000 in
theorem from_calls (A : Option Addr) (ls : List (List Int)) (cap : Nat) (w : World) (i : Nat) (wo : Int) (hA : RdN w A ls) (h8 : ls.length ≤ 8) (hv : Valid ls) (hi : i < ls.length) :
    Calls Try.prog 55 #[.slice A ls.length cap, .int .i64 i, .int .i64 wo] w
      fun e w' => ∃ s : Nat, e = .returned (.int .u32 s) ∧ IsFrom ls wo i s ∧ s < 256 ∧ Below w.heap.size w w' := by
  have HA := Lib.hid hA; clear hA
  have HV := Lib.hid hv; clear hv
  by_cases hw : (i : Int) = wo
  · have hd : ((i : Int) == wo) = true := by simpa using hw
    have Hw := Lib.hid hw
    clear hw
    go_enter Try.func55, Try.ntmps55
    go_wp2
    go_ret
    exact ⟨0, rfl, fun b => by simp [Nat.zero_testBit]; intro h; exact absurd Hw.out h, by decide, Below.refl _ _⟩
  have hd : ((i : Int) == wo) = false := by simpa using hw
  have HF := Lib.hid (Fr.first (wo := wo) hi)
  have Hw := Lib.hid hw
  clear hw
  have hp := pow_u32 i (by omega)
  have hi32 : i < 32 := by omega
  go_enter Try.func55, Try.ntmps55
  go_wp2
  go_loopg [7, 8] 17 (fun g s7 s8 wr => ∃ (s : Nat) (q : List Int), s7 = .int .u32 s ∧ OwnQ wr w.heap.size s8 q ∧ Hid (Fr ls wo i s q) ∧ Below w.heap.size w wr ∧ wt s q.length ≤ g ∧ g ≤ 17)
  case atStart =>
    refine ⟨2 ^ i, [(i : Int)], by rw [hp], OwnQ.of_own (OwnI.lit w [(i : Int)] w.heap.size (Nat.le_refl _) (by simp [maxLen])), HF, ?_, by unfold wt; simp; omega, by omega⟩
    exact (Below.refl _ _).alloc (Nat.le_refl _) _
  case round =>
    clear hd hp
    obtain ⟨s, q, rfl, hown, hfr, hW, hwt, hg⟩ := hrel
    have hw1 := hW.size
    cases q with
    | nil =>
      obtain ⟨A', cap', rfl, h1, h2⟩ := hown.form
      clear hown
      go_wp2
      go_ret
      exact ⟨s, rfl, hfr.out.done Hw.out, hfr.out.fits h8, hW⟩
    | cons x r =>
      obtain ⟨A', cap', rfl, h1, h2⟩ := hown.form
      obtain ⟨g0, off0, rfl, hg0, hg1, hcells⟩ := OwnQ.cells hown (by simp)
      obtain ⟨x0, x1, x2⟩ := hfr.out.queue x (by simp)
      obtain ⟨q0, rfl⟩ := Int.eq_ofNat_of_zero_le x0
      have hq0 : q0 < ls.length := by omega
      have hl := Lib.hid (List.getElem?_eq_getElem hq0)
      rw [Int.toNat_natCast] at x2
      obtain ⟨b, off, A1, cap1, rfl, hb, c0, hR⟩ := RdN.at_ HA.out hq0
      have c0 : wr.cell? ⟨b, off + q0, none⟩ = _ := (hW.cell (p := ⟨b, off + q0, none⟩) hb).trans c0
      have d0 := hcells 0 (by simp)
      simp only [Nat.add_zero, List.getElem_cons_zero] at d0
      have hl3 := (HV.out _ (List.getElem_mem hq0)).1
      have Hin := Lib.hid ((HV.out _ (List.getElem_mem hq0)).2)
      have HR := Lib.hid hR
      have Hown := Lib.hid hown
      have Hx2 := Lib.hid x2
      clear hR hcells hown x0 x1 x2
      generalize ls[q0] = l at *
      have hlen := h1
      simp only [List.length_cons] at hlen
      have q1 : decide (0 < (r.length : Int) + 1) = true := decide_eq_true (by omega)
      go_wp2
      obtain ⟨wo1, rfl⟩ : ∃ wo1 : World, wo1 = wr := ⟨_, rfl⟩
      go_loopw [7, 8, 30] (fun s7 s8 i3 wr => ∃ (t s' : Nat) (q' : List Int), i3 = .int .i64 t ∧ t ≤ l.length ∧ s7 = .int .u32 s' ∧ OwnQ wr w.heap.size s8 ((q0 : Int) :: q') ∧ Hid (Fi ls wo i q0 l t s' ((q0 : Int) :: q')) ∧ s'.testBit q0 = true ∧ Below w.heap.size w wr ∧ wt s' (q'.length + 1) ≤ gk) (fun _ _ i3 _ => l.length - (intOf i3).toNat)
      case atStart => exact ⟨0, s, r, rfl, Nat.zero_le _, rfl, Hown.out, ⟨hfr.out, fun i hi hlt => by omega⟩, Hx2.out, hW, hwt⟩
      case round =>
        clear d0 Hown Hx2 hfr hW hwt hlen h1 q1
        obtain ⟨t, s', q', rfl, ht, rfl, hown, hfi, hbit, hW, hwt⟩ := hrel
        have Hbit := Lib.hid hbit
        clear hbit
        have hw2 := hW.size
        obtain ⟨A2, cap2, rfl, h1, h2⟩ := hown.form
        by_cases hlt : t < l.length
        · obtain ⟨b2, off2, rfl, hb2, c1⟩ := RdI.at1 (Rd.below HR.out hW) hlt
          obtain ⟨x0, x1⟩ := Hin.out _ (List.getElem_mem hlt)
          obtain ⟨j, hj⟩ := Int.eq_ofNat_of_zero_le x0
          have Hj := Lib.hid hj
          have hj8 : j < ls.length := by omega
          have hs32 : s' < 4294967296 := Nat.lt_trans (hfi.out.fr.fits h8) (by decide)
          have p1 := pow_u32 j (by omega)
          have p2 := or_u32 s' (2 ^ j) hs32 (Nat.lt_of_lt_of_le (Nat.pow_lt_pow_right (by decide) (by omega : j < 32)) (by decide))
          rw [Int.natCast_pow, show ((2 : Nat) : Int) = 2 from rfl] at p1 p2
          have p3 := test_u32 s' j hs32
          rw [hj] at c1
          clear hj x0 x1
          by_cases hne : (j : Int) = wo
          · have q1 : ((j : Int) != wo) = false := by simpa using hne
            have Hne := Lib.hid hne
            have Hown := Lib.hid hown
            clear hne hown p1 p2 p3
            go_wp2
            go_roundw
            case rel => exact ⟨t + 1, s', q', by go_num, by omega, rfl, Hown.out, hfi.out.skip hlt (Or.inl (Hj.out.trans Hne.out)), Hbit.out, hW, hwt⟩
            case measure => simp [intOf]; omega
          · have q1 : ((j : Int) != wo) = true := by simpa using hne
            have Hne := Lib.hid hne
            clear hne
            cases hb : s'.testBit j
            · have Hb := Lib.hid hb
              rw [hb] at p3
              clear hb
              have Hw := Lib.hid hwt
              have hq17 : q'.length < 20 := by unfold wt at hwt; omega
              clear hwt
              go_wp2_with (at_builtin; refine wpList_appQ rfl _ _ rfl w.heap.size _ _ (j : Int) rfl (hown.alloc _) _ _ rfl (cell_new _ _ _ _ (by simp) _) (by simp; omega) (by simp; omega) ?_; intro v' w3 hown' hB3 hge3)
              refine ⟨?_, ?measure⟩
              (repeat apply Exists.intro)
              refine ⟨?rel, rfl⟩
              case rel => exact ⟨t + 1, s' ||| 2 ^ j, q' ++ [(j : Int)], by go_num, by omega, rfl, hown', hfi.out.push hlt Hj.out Hne.out hj8 hl.out Hbit.out, by rw [set_bit, Hbit.out]; rfl, (hW.alloc hw2 _).trans hB3, by have := Hw.out; have := cnt8_set (by omega) Hb.out; have := cnt8_le (s' ||| 2 ^ j); unfold wt at *; simp; omega⟩
              case measure => simp [intOf]; omega
            · have Hb := Lib.hid hb
              rw [hb] at p3
              have Hown := Lib.hid hown
              clear hb hown p1 p2
              go_wp2
              go_roundw
              case rel => exact ⟨t + 1, s', q', by go_num, by omega, rfl, Hown.out, hfi.out.skip hlt (Or.inr (by rw [Hj.out, Int.toNat_natCast]; exact Hb.out)), Hbit.out, hW, hwt⟩
              case measure => simp [intOf]; omega
        · have : t = l.length := by omega
          subst this
          clear hlt ht
          obtain ⟨g2, off2, rfl, _, _, _⟩ := OwnQ.cells hown (by simp)
          have Ht := Lib.hid (OwnQ.tail hown)
          have Hwt := Lib.hid hwt
          clear hown hwt
          simp only [List.length_cons] at h1
          by_cases hc : cap2 = 1
          · rw [if_pos hc] at Ht
            have q1 : cap2 - 1 = 0 := by omega
            go_wp2
            all_goals first | (exfalso; omega) | skip
            go_roundg (wt s' q'.length)
            case measure => have := Hwt.out; unfold wt at *; omega
            case rel => exact ⟨s', q', rfl, by simpa [q1] using Ht.out, hfi.out.finish hl.out, hW, Nat.le_refl _, by have := Hwt.out; unfold wt at *; omega⟩
          · rw [if_neg hc] at Ht
            have q1 : ¬ cap2 - 1 = 0 := by omega
            go_wp2
            all_goals first | (exfalso; omega) | skip
            go_roundg (wt s' q'.length)
            case measure => have := Hwt.out; unfold wt at *; omega
            case rel => exact ⟨s', q', rfl, Ht.out, hfi.out.finish hl.out, hW, Nat.le_refl _, by have := Hwt.out; unfold wt at *; omega⟩
end Go.Proofs.Ytmgejacndhnikaa.W
namespace Go.Proofs.Ytmgejacndhnikaa.W
open Go.RowKit
def u32Cells (s : Nat) : List Value := [.int .u32 (s : Int)]
abbrev OwnU (w : World) (base E : Nat) (v : Value) (l : List Nat) : Prop := Own u32Cells 1 w base E v l
abbrev RdU (w : World) (A : Option Addr) (l : List Nat) : Prop := Rd u32Cells 1 w A l
theorem RdU.at1 {w : World} {A : Option Addr} {l : List Nat} (h : RdU w A l) {k : Nat} (hk : k < l.length) :
    ∃ b off, A = some ⟨b, off, none⟩ ∧ b < w.heap.size ∧ w.cell? ⟨b, off + k, none⟩ = some (.int .u32 (l[k] : Nat)) := by
  obtain ⟨b, off, h1, h2, h3⟩ := h.at_ hk
  refine ⟨b, off, h1, h2, ?_⟩
  have := h3 0 (by omega)
  simpa [u32Cells] using this
theorem infoU : (Try.prog.info? 24).map (fun i => (i.zero, i.size, i.bytes)) = some (some (.int .u32 0), 1, 4) := by kernel_rfl
theorem u32Cells_len (x : Nat) : (u32Cells x).length = 1 := rfl
theorem u32Cells_one (x : Nat) : ∀ u ∈ u32Cells x, u.oneCell' = true := by intro u hu; simp [u32Cells] at hu; subst hu; rfl

/-- 'out = append(out, y)' for ints, as the translation has it: y alone in a new block. -/
theorem wpList_appU {w : World} {ops : Array Oper} {rest : List Oper} {o : Oper} {a : Act} {Q : Exit → Act → World → Prop} (hgd : o.guard = none) (s x : Operand)
    (ho : o.op = .call { callee := .builtin .append, args := #[s, x], argTypes := #[100, 100] })
    (base : Nat) (v : Value) (l : List Nat) (y : Nat) (hs : a.eval s = v) (hown : OwnU w base 24 v l) (S c : Nat) (hx : a.eval x = .slice (some ⟨S, 0, none⟩) 1 c)
    (hnew : w.cell? ⟨S, 0, none⟩ = some (.int .u32 y)) (hlen : l.length < 1000000) (hbase : base ≤ w.heap.size)
    (h : ∀ v' w', OwnU w' base 24 v' (l ++ [y]) → w.grownBy w' v.ownBlock → wpList Try.prog ops Q rest (a.put o.dst v') w') : wpList Try.prog ops Q (o :: rest) a w :=
  wpList_app1 hgd s x 100 ho u32Cells 1 4 24 (.int .u32 0) Try.underlying100 infoU rfl (by decide) u32Cells_len u32Cells_one base v l y hs hown S c hx
    (fun j hj => by have : j = 0 := by omega
                    subst this; rw [hnew]; rfl) (by unfold maxLen; omega) (by omega) hbase h

/-- 'make([]int, n)'. -/
theorem wpList_makeU {w : World} {ops : Array Oper} {rest : List Oper} {o : Oper} {a : Act} {Q : Exit → Act → World → Prop} (hg : o.guard = none) (lo c : Operand) (hop : o.op = Op.makeSlice 100 lo c)
    (base n : Nat) (hl : a.eval lo = .int .i64 (n : Int)) (hc : a.eval c = .int .i64 (n : Int)) (hn : n < 1000000) (hbase : base ≤ w.heap.size)
    (h : ∀ w', OwnU w' base 24 (.slice (some ⟨w.heap.size, 0, none⟩) n n) (List.replicate n 0) → w.grownBy w' none → wpList Try.prog ops Q rest (a.put o.dst (.slice (some ⟨w.heap.size, 0, none⟩) n n)) w') : wpList Try.prog ops Q (o :: rest) a w := by
  obtain ⟨i, hi, hz0, hz1, hz2⟩ := info_parts infoU
  refine wpList_make_full w hg lo c 100 hop base 24 i (.int .u32 0) 1 Try.underlying100 hi hz0 hz1 .i64 .i64 n n n hl hc rfl rfl (by rw [hz2]; omega) (by unfold maxLen; omega) hbase fun w' h1 h2 => ?_
  refine h w' ?_ h2
  have e : (madeCells (Value.int .u32 0).cells (n * 1)).toList = (List.replicate n (0 : Nat)).flatMap u32Cells := by
    rw [show (Value.int .u32 0).cells = #[.int .u32 0] from rfl, Nat.mul_one, toList_madeCells_one]
    clear h1 h2 hl hc h
    induction n with
    | zero => rfl
    | succ n ih => rw [List.replicate_succ, List.replicate_succ, List.flatMap_cons, ← ih (by omega)]; rfl
  rw [e] at h1
  unfold OwnU Own
  rw [List.length_replicate]
  exact h1

/-- A row of ints: its head, each cell, none frozen. -/
theorem OwnU.at_ {w : World} {base : Nat} {v : Value} {l : List Nat} (h : OwnU w base 24 v l) (hl : 0 < l.length) :
    ∃ g cap, v = .slice (some ⟨g, 0, none⟩) l.length cap ∧ base ≤ g ∧ g < w.heap.size ∧ l.length ≤ cap ∧ (∀ j, w.frozen? ⟨g, j, none⟩ = false) ∧ ∀ k (hk : k < l.length), w.cell? ⟨g, k, none⟩ = some (.int .u32 (l[k]'hk : Nat)) := by
  obtain ⟨g, cap, rfl, h1, h2, h3, h4⟩ := h.some_ hl
  refine ⟨g, cap, rfl, h1, h2, h3, h4, fun k hk => ?_⟩
  have := h.cell_ u32Cells_len hk (j := 0) (by decide)
  simpa [u32Cells] using this
theorem OwnU.at2 {w : World} {base n c : Nat} {A : Option Addr} {l : List Nat} (h : OwnU w base 24 (.slice A n c) l) (hl : 0 < l.length) :
    ∃ g, A = some ⟨g, 0, none⟩ ∧ base ≤ g ∧ g < w.heap.size ∧ l.length ≤ c ∧ (∀ j, w.frozen? ⟨g, j, none⟩ = false) ∧ ∀ k (_hk : k < l.length), w.cell? ⟨g, k, none⟩ = some (.int .u32 (l[k] : Nat)) := by
  obtain ⟨g, cap, e, h1, h2, h3, h4, h5⟩ := h.at_ hl
  injection e with e1 e2 e3
  subst e1 e3
  exact ⟨g, rfl, h1, h2, h3, h4, h5⟩
theorem OwnU.rd {w : World} {base : Nat} {v : Value} {l : List Nat} (h : OwnU w base 24 v l) : ∃ A cap, v = .slice A l.length cap ∧ RdU w A l :=
  let ⟨A, cap, h1, h2, _⟩ := h.form u32Cells_len
  ⟨A, cap, h1, h2⟩
/-- A slice literal of ints. -/
theorem OwnU.lit (w : World) (l : List Nat) (base : Nat) (hb : base ≤ w.heap.size) (hl : l.length ≤ maxLen) : OwnU (w.alloc (.cells (l.map (fun s : Nat => Value.int .u32 s)).toArray 24)) base 24 (.slice (some ⟨w.heap.size, 0, none⟩) l.length l.length) l := by
  have h := World.ownsRow_lit (base := base) (e := 24) (size := 1) w (l.map (fun s : Nat => Value.int .u32 s)).toArray l.length hb hl (by simp)
  have e : l.flatMap u32Cells = l.map (fun s : Nat => Value.int .u32 s) := by
    induction l with
    | nil => rfl
    | cons x r ih => rw [List.flatMap_cons, ih (by simp at hl; omega) (World.ownsRow_lit w _ _ hb (by simp at hl; omega) (by simp))]; rfl
  unfold OwnU Own
  rw [e]
  simpa using h
/-- l[k] = y -/
theorem OwnU.set_ {w : World} {base g cap n : Nat} {l : List Nat} (h : OwnU w base 24 (.slice (some ⟨g, 0, none⟩) n cap) l) {k : Nat} (_hk : k < l.length) (y : Nat) :
    OwnU (w.setCell ⟨g, k, none⟩ (.int .u32 y)) base 24 (.slice (some ⟨g, 0, none⟩) n cap) (l.set k y) := by
  have hn : n = l.length := by
    rcases h.2 with ⟨h0, _⟩ | ⟨_, _, _, h0, _⟩
    · cases h0
    · injection h0
  subst hn
  have e : ∀ l : List Nat, l.flatMap u32Cells = l.map (fun s : Nat => Value.int .u32 s) := fun l => by
    induction l with
    | nil => rfl
    | cons x r ih => rw [List.flatMap_cons, ih]; rfl
  have h1 := World.ownsRow.stored (w := w) (base := base) (e := 24) (size := 1) (g := g) (cap := cap) (n := l.length) (xs := l.flatMap u32Cells) h k (.int .u32 y)
  unfold OwnU Own
  rw [e] at h1 ⊢
  rw [List.length_set, List.map_set]
  exact h1.1
end Go.Proofs.Ytmgejacndhnikaa.W
namespace Go.Proofs.Ytmgejacndhnikaa.W
open Go.RowKit

set_option maxHeartbeats 400000 in
theorem equalU_calls (A B : Option Addr) (a b : List Nat) (ca cb : Nat) (w : World) (hA : RdU w A a) (hB : RdU w B b) (ha : a.length < 1000000) :
    Calls Try.prog 117 #[.slice A a.length ca, .slice B b.length cb] w fun e w' => e = .returned (.bool (decide (a = b))) ∧ ∃ nq, w' = w.drewN nq := by
  have HA := Lib.hid hA; clear hA
  have HB := Lib.hid hB; clear hB
  by_cases hl : a.length = b.length
  case neg =>
    have q1 : ((a.length : Int) != (b.length : Int)) = true := by rw [bne_iff_ne]; omega
    have H := Lib.hid (show a ≠ b from fun h => hl (by rw [h]))
    clear hl
    go_enter Try.func117, Try.ntmps117
    go_wp2
    all_goals first | (exfalso; omega) | (go_ret; exact ⟨ret_bool (decide_eq_false H.out).symm, 0, rfl⟩)
  have q1 : ((a.length : Int) != (b.length : Int)) = false := by rw [bne_eq_false_iff_eq]; omega
  have Hl := Lib.hid hl
  clear hl
  go_enter Try.func117, Try.ntmps117
  go_wp2
  clear q1
  go_loopw [13] (fun i wr => ∃ k : Nat, k ≤ a.length ∧ i = .int .i64 k ∧ Hid (a.take k = b.take k) ∧ ∃ nq, wr = w.drewN nq) (fun i _ => a.length - (intOf i).toNat)
  case atStart => exact ⟨0, Nat.zero_le _, rfl, Lib.hid rfl, 0, rfl⟩
  case round =>
    obtain ⟨k, hk, rfl, hE, nq, rfl⟩ := hrel
    by_cases hlt : k < a.length
    · have hltb : k < b.length := by have := Hl.out; omega
      obtain ⟨b1, off1, rfl, hb1, c0⟩ := RdU.at1 HA.out hlt
      obtain ⟨b2, off2, rfl, hb2, c1⟩ := RdU.at1 HB.out hltb
      have k1 : ((k : Nat) : Int) < ((a.length : Nat) : Int) := by omega
      have k2 : ((k : Nat) : Int) < ((b.length : Nat) : Int) := by omega
      by_cases he : a[k] = b[k]
      · have q2 : ((a[k] : Nat) : Int) = ((b[k] : Nat) : Int) := by rw [he]
        have Hn : Hid (a.take (k + 1) = b.take (k + 1)) := by
          rw [List.take_succ_eq_append_getElem hlt, List.take_succ_eq_append_getElem hltb, hE.out, he]; exact Lib.hid rfl
        clear he hE
        generalize a[k] = x at *
        generalize b[k] = y at *
        go_wp2
        go_quiet (fail)
        go_wp2
        go_roundw
        case rel => exact ⟨k + 1, by omega, by go_num, Hn, _, rfl⟩
        case measure => simp [intOf]; omega
      · have q2 : (((a[k] : Nat) : Int) != ((b[k] : Nat) : Int)) = true := by rw [bne_iff_ne]; omega
        have Hn := Lib.hid (show a ≠ b from fun h => he (by simp [h]))
        clear he hE
        generalize a[k] = x at *
        generalize b[k] = y at *
        go_wp2
        go_quiet (fail)
        go_wp2
        go_ret
        exact ⟨ret_bool (decide_eq_false Hn.out).symm, _, World.drewN_drewN _ _ _⟩
    · go_wp2
      go_ret
      refine ⟨ret_bool ?_, _, rfl⟩
      have := hE.out
      have hl := Hl.out
      rw [List.take_of_length_le (by omega), List.take_of_length_le (by omega)] at this
      exact (decide_eq_true this).symm
end Go.Proofs.Ytmgejacndhnikaa.W
namespace Go.Proofs.Ytmgejacndhnikaa.W
open Go.RowKit

open Classical in
noncomputable def fromS (ls : List (List Int)) (wo : Int) (i : Nat) : Nat := setN fun b => (i : Int) ≠ wo ∧ Comes_ ls wo i b
theorem Comes_.lt {ls : List (List Int)} {wo : Int} {a b : Nat} (hv : Valid ls) (ha : a < ls.length) (h : Comes_ ls wo a b) : b < ls.length :=
  Comes_.closed (p := fun x => x < ls.length) ha (fun _ _ _ he => (he.lt hv).2) b h
theorem fromS_bit {ls : List (List Int)} {wo : Int} {i : Nat} (h8 : ls.length ≤ 8) (hv : Valid ls) (hi : i < ls.length) (b : Nat) : (fromS ls wo i).testBit b = true ↔ ((i : Int) ≠ wo ∧ Comes_ ls wo i b) := by
  unfold fromS
  rw [setN_bit]
  constructor
  · exact fun h => h.2
  · exact fun h => ⟨by have := h.2.lt hv hi; omega, h⟩
theorem fromS_lt (ls : List (List Int)) (wo : Int) (i : Nat) : fromS ls wo i < 256 := setN_lt _
theorem IsFrom.eq {ls : List (List Int)} {wo : Int} {i s : Nat} (h8 : ls.length ≤ 8) (hv : Valid ls) (hi : i < ls.length) (h : IsFrom ls wo i s) : s = fromS ls wo i := set_ext fun k => by
  rw [Bool.eq_iff_iff, h k, fromS_bit h8 hv hi]
theorem fromS_calls (A : Option Addr) (ls : List (List Int)) (cap : Nat) (w : World) (i : Nat) (wo : Int) (hA : RdN w A ls) (h8 : ls.length ≤ 8) (hv : Valid ls) (hi : i < ls.length) :
    Calls Try.prog 55 #[.slice A ls.length cap, .int .i64 i, .int .i64 wo] w
      fun e w' => e = .returned (.int .u32 (fromS ls wo i : Nat)) ∧ Below w.heap.size w w' := by
  refine (from_calls A ls cap w i wo hA h8 hv hi).mono ?_
  rintro e w' ⟨s, rfl, h1, h2, h3⟩
  rw [h1.eq h8 hv hi]
  exact ⟨rfl, h3⟩
theorem valid_of {ls : List (List Int)} (h : wayErr ls = 0) : 1 ≤ ls.length ∧ ls.length ≤ 8 ∧ Valid ls := wayErr_ok h
end Go.Proofs.Ytmgejacndhnikaa.W
namespace Go.Proofs.Ytmgejacndhnikaa.W
open Go.RowKit

theorem edge_mono {ls : List (List Int)} {wo : Int} {a b : Nat} (h : Edge ls wo a b) : Edge ls (-1) a b := let ⟨l, h1, h2, _⟩ := h; ⟨l, h1, h2, by omega⟩
theorem comes_mono {ls : List (List Int)} {wo : Int} {a b : Nat} (h : Comes_ ls wo a b) : Comes_ ls (-1) a b :=
  Comes_.closed (p := fun x => Comes_ ls (-1) a x) (Comes_.refl _ _ _) (fun _ _ hb he => hb.step (edge_mono he)) b h
abbrev Rch (ls : List (List Int)) (b : Nat) : Prop := Comes_ ls (-1) 0 b
/-- a is on each path from 0 to b, to which one comes. -/
def Dom (ls : List (List Int)) (a b : Nat) : Prop := Rch ls b ∧ (a = 0 ∨ ¬ Comes_ ls (a : Int) 0 b)
theorem Dom.reached {ls : List (List Int)} {a b : Nat} (h : Dom ls a b) : Rch ls a := by
  rcases h.2 with rfl | hn
  · exact Comes_.refl _ _ _
  · by_cases ha : Rch ls a
    · exact ha
    · exact absurd (Comes_.closed (p := fun x => Comes_ ls (a : Int) 0 x ∧ Rch ls x) ⟨Comes_.refl _ _ _, Comes_.refl _ _ _⟩ (fun x y hx he => by
        have hy : Rch ls y := hx.2.step he
        obtain ⟨l, h1, h2, _⟩ := he
        refine ⟨hx.1.step ⟨l, h1, h2, fun e => ?_⟩, hy⟩
        have : y = a := by omega
        subst this
        exact ha hy) b h.1).1 hn
theorem Dom.refl {ls : List (List Int)} {a : Nat} (h : Rch ls a) : Dom ls a a := ⟨h, by
  by_cases h0 : a = 0
  · exact Or.inl h0
  · refine Or.inr fun hc => ?_
    have := Comes_.closed (p := fun x => x ≠ a) (fun e => h0 e.symm) (fun _ y _ he => by
      obtain ⟨_, _, _, hne⟩ := he
      omega) a hc
    exact this rfl⟩
theorem Dom.zero {ls : List (List Int)} {b : Nat} (h : Rch ls b) : Dom ls 0 b := ⟨h, Or.inl rfl⟩
theorem Dom.back {ls : List (List Int)} {a i j : Nat} (hi : Rch ls i) (he : Edge ls (-1) i j) (h : Dom ls a j) : a = j ∨ Dom ls a i := by
  by_cases e : a = j
  · exact Or.inl e
  · refine Or.inr ⟨hi, ?_⟩
    rcases h.2 with h0 | hn
    · exact Or.inl h0
    · refine Or.inr fun hc => hn (hc.step ?_)
      obtain ⟨l, h1, h2, _⟩ := he
      exact ⟨l, h1, h2, by omega⟩
theorem dom_zero_only {ls : List (List Int)} {a : Nat} (h : Dom ls a 0) : a = 0 := by
  rcases h.2 with h | h
  · exact h
  · exact absurd (Comes_.refl _ _ _) h
theorem Rch.lt {ls : List (List Int)} (h1 : 1 ≤ ls.length) (hv : Valid ls) {b : Nat} (h : Rch ls b) : b < ls.length := Comes_.lt hv h1 h

noncomputable def domS (ls : List (List Int)) (j : Nat) : Nat := setN fun a => a < ls.length ∧ Dom ls a j
theorem domS_bit {ls : List (List Int)} (h1 : 1 ≤ ls.length) (h8 : ls.length ≤ 8) (hv : Valid ls) (j a : Nat) : (domS ls j).testBit a = true ↔ Dom ls a j := by
  unfold domS
  rw [setN_bit]
  constructor
  · exact fun h => h.2.2
  · exact fun h => by have := h.reached.lt h1 hv; exact ⟨by omega, this, h⟩
theorem domS_lt (ls : List (List Int)) (j : Nat) : domS ls j < 256 := setN_lt _
noncomputable def rulesL (ls : List (List Int)) : List Nat := (List.range ls.length).map (domS ls)
theorem rulesL_len (ls : List (List Int)) : (rulesL ls).length = ls.length := by simp [rulesL]
theorem rulesL_get (ls : List (List Int)) (i : Nat) (h : i < (rulesL ls).length) : (rulesL ls)[i] = domS ls i := by simp [rulesL]

/-- What the loops keep of the rows r. -/
structure Ru (ls : List (List Int)) (r : List Nat) : Prop where
  len : r.length = ls.length
  sub : ∀ j (h : j < r.length) a, r[j].testBit a = true → if j = 0 then a = 0 else Rch ls j ∧ Rch ls a
  sup : ∀ j (h : j < r.length) a, Dom ls a j → r[j].testBit a = true
def Fixd (r : List Nat) (i j : Nat) : Prop := ∀ (hi : i < r.length) (hj : j < r.length) a, r[j].testBit a = true → a = j ∨ r[i].testBit a = true
theorem Ru.lt {ls : List (List Int)} {r : List Nat} (h : Ru ls r) (h1 : 1 ≤ ls.length) (h8 : ls.length ≤ 8) (hv : Valid ls) (j : Nat) (hj : j < r.length) : r[j] < 256 :=
  lt_pow_of_bits (n := 8) fun k hk => by
    have := h.sub j hj k hk
    split at this
    · omega
    · have := this.2.lt h1 hv; omega
theorem Ru.done {ls : List (List Int)} {r : List Nat} (h : Ru ls r) (h1 : 1 ≤ ls.length) (h8 : ls.length ≤ 8) (hv : Valid ls) (hf : ∀ i j, Rch ls i → Edge ls (-1) i j → Fixd r i j) : r = rulesL ls := by
  refine List.ext_getElem (by rw [h.len, rulesL_len]) fun j hj hj' => ?_
  rw [rulesL_get]
  refine set_ext fun a => ?_
  rw [Bool.eq_iff_iff, domS_bit h1 h8 hv]
  refine ⟨fun hb => ?_, h.sup j hj a⟩
  have hs := h.sub j hj a hb
  by_cases h0 : j = 0
  · subst h0
    rw [if_pos rfl] at hs
    subst hs
    exact Dom.zero (Comes_.refl _ _ _)
  · rw [if_neg h0] at hs
    refine ⟨hs.1, ?_⟩
    by_cases ha : a = 0
    · exact Or.inl ha
    · refine Or.inr fun hc => ?_
      have := Comes_.closed (p := fun x => Rch ls x ∧ ∀ hx : x < r.length, ¬ r[x].testBit a = true) ⟨Comes_.refl _ _ _, fun hx hb => by
          have := h.sub 0 hx a hb
          rw [if_pos rfl] at this
          exact ha this⟩ (fun x y hx he => by
          have hem := edge_mono he
          refine ⟨hx.1.step hem, fun hy hb => ?_⟩
          have hxl : x < r.length := by rw [h.len]; exact (hem.lt hv).1
          rcases hf x y hx.1 hem hxl hy a hb with e | hb'
          · obtain ⟨_, _, _, hne⟩ := he
            omega
          · exact hx.2 hxl hb') j hc
      exact this.2 hj hb
theorem Ru.first {ls : List (List Int)} (h1 : 1 ≤ ls.length) (h8 : ls.length ≤ 8) (hv : Valid ls) (r : List Nat) (hl : r.length = ls.length) (h0 : ∀ h : 0 < r.length, r[0] = 1)
    (hr : ∀ j (h : j < r.length), 0 < j → r[j] = if (fromS ls (-1) 0).testBit j then fromS ls (-1) 0 else 0) : Ru ls r := by
  have hF : ∀ b, (fromS ls (-1) 0).testBit b = true ↔ Rch ls b := fun b => by
    rw [fromS_bit h8 hv h1]
    exact ⟨fun h => h.2, fun h => ⟨by omega, h⟩⟩
  refine ⟨hl, fun j hj a hb => ?_, fun j hj a hd => ?_⟩
  · split
    · rename_i e
      subst e
      rw [h0 hj, show (1 : Nat) = 2 ^ 0 from rfl, testBit_pow] at hb
      exact (of_decide_eq_true hb).symm
    · rename_i e
      rw [hr j hj (by omega)] at hb
      split at hb
      · rename_i hj
        exact ⟨(hF j).1 hj, (hF a).1 hb⟩
      · rw [Nat.zero_testBit] at hb; cases hb
  · by_cases e : j = 0
    · subst e
      have := dom_zero_only hd
      subst this
      rw [h0 hj]; rfl
    · rw [hr j hj (by omega), if_pos ((hF j).2 hd.1)]
      exact (hF a).2 hd.reached
def wtR (r : List Nat) : Nat := (r.map cnt8).sum
theorem wtR_set {r : List Nat} {j : Nat} (hj : j < r.length) (s : Nat) (h : cnt8 s < cnt8 r[j]) : wtR (r.set j s) < wtR r := by
  induction r generalizing j with
  | nil => simp at hj
  | cons a r ih =>
    cases j with
    | zero => simp [wtR] at h ⊢; exact h
    | succ j =>
      simp only [List.length_cons] at hj
      have := ih (j := j) (by omega) (by simpa using h)
      simp only [wtR, List.set_cons_succ, List.map_cons, List.sum_cons] at this ⊢
      omega
/-- One step at the edge from i to j. -/
theorem Ru.step {ls : List (List Int)} {r : List Nat} (h : Ru ls r) (h1 : 1 ≤ ls.length) (h8 : ls.length ≤ 8) (hv : Valid ls) {i j : Nat} (hi : i < r.length) (hj : j < r.length) (hr : Rch ls i) (he : Edge ls (-1) i j)
    (hne : r[j] &&& (r[i] ||| 2 ^ j) ≠ r[j]) : Ru ls (r.set j (r[j] &&& (r[i] ||| 2 ^ j))) ∧ wtR (r.set j (r[j] &&& (r[i] ||| 2 ^ j))) < wtR r := by
  have hsub : ∀ k, (r[j] &&& (r[i] ||| 2 ^ j)).testBit k = true → r[j].testBit k = true := fun k hk => by
    rw [Nat.testBit_and, Bool.and_eq_true] at hk; exact hk.1
  refine ⟨⟨by rw [List.length_set]; exact h.len, fun k hk a hb => ?_, fun k hk a hd => ?_⟩, wtR_set hj _ (cnt8_mono_lt hsub hne (h.lt h1 h8 hv j hj))⟩
  · rw [List.length_set] at hk
    rw [List.getElem_set] at hb
    by_cases e : j = k
    · subst e
      rw [if_pos rfl] at hb
      exact h.sub j hk a (hsub a hb)
    · rw [if_neg e] at hb
      exact h.sub k hk a hb
  · rw [List.length_set] at hk
    rw [List.getElem_set]
    by_cases e : j = k
    · subst e
      rw [if_pos rfl, Nat.testBit_and, Bool.and_eq_true]
      refine ⟨h.sup j hk a hd, ?_⟩
      rw [set_bit, Bool.or_eq_true]
      rcases hd.back hr he with rfl | hd'
      · exact Or.inr (decide_eq_true rfl)
      · exact Or.inl (h.sup i hi a hd')
    · rw [if_neg e]
      exact h.sup k hk a hd
theorem fixd_of {r : List Nat} {i j : Nat} (hi : i < r.length) (hj : j < r.length) (h : r[j] &&& (r[i] ||| 2 ^ j) = r[j]) : Fixd r i j := fun _ _ a hb => by
  rw [← h, Nat.testBit_and, Bool.and_eq_true, set_bit, Bool.or_eq_true, decide_eq_true_eq] at hb
  rcases hb.2 with h1 | h1
  · exact Or.inr h1
  · exact Or.inl h1.symm
end Go.Proofs.Ytmgejacndhnikaa.W
namespace Go.Proofs.Ytmgejacndhnikaa.W
open Go.RowKit

/-- In, in terms of elements. -/
theorem in_iff (a b : Nat) : (a ||| b == b) = true ↔ ∀ k, a.testBit k = true → b.testBit k = true := by
  rw [beq_iff_eq]
  constructor
  · intro h k hk
    have := congrArg (fun s => s.testBit k) h
    simp only [Nat.testBit_or, hk, Bool.true_or] at this
    exact this.symm
  · intro h
    refine set_ext fun k => ?_
    rw [Nat.testBit_or]
    cases ha : a.testBit k
    · rfl
    · rw [h k ha]; rfl

end Go.Proofs.Ytmgejacndhnikaa.W
namespace Go.Proofs.Ytmgejacndhnikaa.W
open Go.RowKit

theorem and_one01 (a : Nat) : (((a &&& 1 : Nat) : Int) == 1) = !(((a &&& 1 : Nat) : Int) == 0) := by
  have := @Nat.and_le_right a 1
  rcases (by omega : a &&& 1 = 0 ∨ a &&& 1 = 1) with h | h <;> rw [h] <;> rfl
/-- 's >> j & 1 == 1' -/
theorem test1_u32 (s j : Nat) (hs : s < 4294967296) : (bits .and .u32 ((s : Int) / 2 ^ j) 1 == 1) = s.testBit j := by
  have h := test_u32 s j hs
  rw [shr_u32, show (1 : Int) = ((1 : Nat) : Int) from rfl, and_u32 _ _ (Nat.lt_of_le_of_lt (Nat.shiftRight_le _ _) hs) (by decide)] at h ⊢
  rw [show ((1 : Nat) : Int) = 1 from rfl, and_one01, h, Bool.not_not]

/-- The rows at the start: up to k they are set. -/
noncomputable def rInit (ls : List (List Int)) (k : Nat) : List Nat := (List.range ls.length).map fun j => if j < k then (if (fromS ls (-1) 0).testBit j then fromS ls (-1) 0 else 0) else 0
theorem rInit_len (ls : List (List Int)) (k : Nat) : (rInit ls k).length = ls.length := by simp [rInit]
theorem rInit_get (ls : List (List Int)) (k j : Nat) (h : j < (rInit ls k).length) : (rInit ls k)[j] = if j < k then (if (fromS ls (-1) 0).testBit j then fromS ls (-1) 0 else 0) else 0 := by simp [rInit]
theorem rInit_zero (ls : List (List Int)) : rInit ls 0 = List.replicate ls.length 0 := by
  refine List.ext_getElem (by simp [rInit]) fun j h1 h2 => ?_
  rw [rInit_get]; simp
theorem rInit_yes {ls : List (List Int)} {k : Nat} (hb : (fromS ls (-1) 0).testBit k = true) : (rInit ls k).set k (fromS ls (-1) 0) = rInit ls (k + 1) := by
  refine List.ext_getElem (by simp [rInit]) fun j h1 h2 => ?_
  rw [List.getElem_set, rInit_get, rInit_get]
  by_cases e : k = j
  · subst e; rw [if_pos rfl, if_pos (by omega), if_pos hb]
  · rw [if_neg e]
    by_cases h : j < k
    · have h' : j < k + 1 := by omega
      rw [if_pos h, if_pos h']
    · rw [if_neg h, if_neg (by omega)]
theorem rInit_no {ls : List (List Int)} {k : Nat} (hb : (fromS ls (-1) 0).testBit k = false) : rInit ls k = rInit ls (k + 1) := by
  refine List.ext_getElem (by simp [rInit]) fun j h1 h2 => ?_
  rw [rInit_get, rInit_get]
  by_cases e : k = j
  · subst e; rw [if_neg (by omega), if_pos (by omega), hb]; rfl
  · by_cases h : j < k
    · have h' : j < k + 1 := by omega
      rw [if_pos h, if_pos h']
    · rw [if_neg h, if_neg (by omega)]
theorem rInit_ru {ls : List (List Int)} (h1 : 1 ≤ ls.length) (h8 : ls.length ≤ 8) (hv : Valid ls) : Ru ls ((rInit ls ls.length).set 0 1) :=
  Ru.first h1 h8 hv _ (by rw [List.length_set, rInit_len]) (fun _ => by rw [List.getElem_set_self]) (fun j h hj => by
    rw [List.length_set, rInit_len] at h
    rw [List.getElem_set, if_neg (by omega), rInit_get, if_pos h])

/-- Within a pass from the rows r0: now r; the nodes up to i are done, of node i the first t edges. -/
structure Rp (ls : List (List Int)) (r0 r : List Nat) (more : Bool) (i t : Nat) : Prop where
  ru : Ru ls r
  same : more = false → r = r0
  less : more = true → wtR r < wtR r0
  fixd : more = false → ∀ a b, a < i → Rch ls a → Edge ls (-1) a b → Fixd r a b
  here : more = false → ∀ l, ls[i]? = some l → ∀ k (h : k < l.length), k < t → Fixd r i l[k].toNat

theorem Rp.start {ls : List (List Int)} {r : List Nat} (h : Ru ls r) : Rp ls r r false 0 0 :=
  ⟨h, fun _ => rfl, (fun h => by cases h), fun _ a b h => by omega, fun _ l _ k _ h => by omega⟩
theorem Rp.skip {ls : List (List Int)} {r0 r : List Nat} {m : Bool} {i : Nat} (h : Rp ls r0 r m i 0) (hn : ¬ Rch ls i) : Rp ls r0 r m (i + 1) 0 :=
  ⟨h.ru, h.same, h.less, fun hm a b ha hr he => by
    rcases Nat.lt_or_ge a i with h1 | h1
    · exact h.fixd hm a b h1 hr he
    · have : a = i := by omega
      subst this
      exact absurd hr hn, fun _ l _ k _ h => by omega⟩
theorem Rp.keep {ls : List (List Int)} {r0 r : List Nat} {m : Bool} {i t j : Nat} {l : List Int} (h : Rp ls r0 r m i t) (hl : ls[i]? = some l) (ht : t < l.length) (hj : l[t] = (j : Int)) (hi : i < r.length) (hjl : j < r.length)
    (he : r[j] &&& (r[i] ||| 2 ^ j) = r[j]) : Rp ls r0 r m i (t + 1) :=
  ⟨h.ru, h.same, h.less, h.fixd, fun hm l' hl' k hk hlt => by
    rw [hl] at hl'
    injection hl' with hl'
    subst hl'
    rcases Nat.lt_or_ge k t with h1 | h1
    · exact h.here hm l hl k hk h1
    · have : k = t := by omega
      subst this
      rw [hj, Int.toNat_natCast]
      exact fixd_of hi hjl he⟩
theorem Rp.turn {ls : List (List Int)} {r0 r : List Nat} {m : Bool} {i t j : Nat} {l : List Int} (h : Rp ls r0 r m i t) (h1 : 1 ≤ ls.length) (h8 : ls.length ≤ 8) (hv : Valid ls) (hr : Rch ls i) (hl : ls[i]? = some l) (ht : t < l.length) (hj : l[t] = (j : Int)) (hi : i < r.length) (hjl : j < r.length)
    (hne : r[j] &&& (r[i] ||| 2 ^ j) ≠ r[j]) : Rp ls r0 (r.set j (r[j] &&& (r[i] ||| 2 ^ j))) true i (t + 1) := by
  have hs := h.ru.step h1 h8 hv hi hjl hr ⟨l, hl, by rw [← hj]; exact List.getElem_mem ht, by omega⟩ hne
  refine ⟨hs.1, (fun h => by cases h), fun _ => ?_, (fun h => by cases h), (fun h => by cases h)⟩
  cases m
  · rw [← h.same rfl]; exact hs.2
  · exact Nat.lt_trans hs.2 (h.less rfl)
theorem Rp.next {ls : List (List Int)} {r0 r : List Nat} {m : Bool} {i : Nat} {l : List Int} (h : Rp ls r0 r m i l.length) (hl : ls[i]? = some l) : Rp ls r0 r m (i + 1) 0 :=
  ⟨h.ru, h.same, h.less, fun hm a b ha hr he => by
    rcases Nat.lt_or_ge a i with h1 | h1
    · exact h.fixd hm a b h1 hr he
    · have : a = i := by omega
      subst this
      obtain ⟨l', h1, h2, _⟩ := he
      rw [hl] at h1
      injection h1 with h1
      subst h1
      obtain ⟨k, hk, e⟩ := List.getElem_of_mem h2
      have := h.here hm l hl k hk hk
      rw [e, Int.toNat_natCast] at this
      exact this, fun _ l _ k _ h => by omega⟩

set_option maxHeartbeats 8000000 in
theorem rules_calls (A : Option Addr) (ls : List (List Int)) (cap : Nat) (w : World) (hA : RdN w A ls) (h0 : wayErr ls = 0) :
    Calls Try.prog 67 #[.slice A ls.length cap] w fun e w' => ∃ v, e = .returned v ∧ OwnU w' w.heap.size 24 v (rulesL ls) ∧ Below w.heap.size w w' := by
  obtain ⟨h1, h8, hv⟩ := valid_of h0
  have HA := Lib.hid hA; clear hA
  have HV := Lib.hid hv; clear hv
  clear h0
  have HR0 := Lib.hid (fun b => fromS_bit (wo := -1) h8 HV.out h1 b)
  have hF := fromS_lt ls (-1) 0
  have HI := Lib.hid (rInit_ru h1 h8 HV.out)
  have HY := Lib.hid (fun k => @rInit_yes ls k)
  have HN := Lib.hid (fun k => @rInit_no ls k)
  have HZ := Lib.hid (rInit_zero ls)
  go_enter Try.func67, Try.ntmps67
  go_wp2_with (first
    | (go_at_call 55; refine (fromS_calls _ _ _ _ 0 _ HA.out h8 HV.out h1).mono ?_; rintro e w1 ⟨rfl, hW⟩; have hw1 := hW.size; have HW := Lib.hid hW; clear hW)
    | (at_make; refine wpList_makeU rfl _ _ rfl w.heap.size ls.length rfl rfl (by omega) hw1 ?_; intro w2 hown2 hgrow2))
  have hW2 := HW.out.grown hgrow2 hw1 (fun k hk => by cases hk)
  rw [← HZ.out] at hown2
  generalize fromS ls (-1) 0 = F at *
  go_loopw [19] (fun i wr => ∃ k : Nat, k ≤ ls.length ∧ i = .int .i64 k ∧ OwnU wr w.heap.size 24 (.slice (some ⟨w1.heap.size, 0, none⟩) ls.length ls.length) (rInit ls k) ∧ Below w.heap.size w wr) (fun i _ => ls.length - (intOf i).toNat)
  case atStart => exact ⟨0, Nat.zero_le _, rfl, hown2, hW2⟩
  case round =>
    clear hown2 hW2 hgrow2
    obtain ⟨k, hk, rfl, hown, hW⟩ := hrel
    have Hown := Lib.hid hown
    have hlen := rInit_len ls k
    by_cases hlt : k < ls.length
    · obtain ⟨g, eg, _, _, _, hfz, hcell⟩ := OwnU.at2 hown (by omega)
      injection eg with eg; injection eg with eg
      subst eg
      have f1 := hfz k
      have c1 := hcell k (by omega)
      have p1 := test1_u32 F k (by omega)
      have k32 : k < 32 := by omega
      clear hown hfz hcell
      generalize (rInit ls k)[k] = z at *
      cases hb : F.testBit k
      · rw [hb] at p1
        have Hb := Lib.hid hb
        clear hb
        go_wp2
        go_roundw
        case rel => exact ⟨k + 1, by omega, by go_num, by rw [← HN.out k Hb.out]; exact Hown.out, hW⟩
        case measure => simp [intOf]; omega
      · rw [hb] at p1
        have Hb := Lib.hid hb
        clear hb
        go_wp2
        go_roundw
        case rel => exact ⟨k + 1, by omega, by go_num, by rw [← HY.out k Hb.out]; exact OwnU.set_ Hown.out (by omega) F, hW.setCell hw1 _⟩
        case measure => simp [intOf]; omega
    · have : k = ls.length := by omega
      subst this
      obtain ⟨g, eg, _, _, _, hfz, hcell⟩ := OwnU.at2 hown (by omega)
      injection eg with eg; injection eg with eg
      subst eg
      have f1 := hfz 0
      have c1 := hcell 0 (by omega)
      clear hown hfz hcell hlt hk
      generalize (rInit ls ls.length)[0] = z at *
      go_wp2
      have HO1 := Lib.hid (OwnU.set_ Hown.out (k := 0) (by omega) 1)
      have HW1 := Lib.hid (hW.setCell (p := ⟨w1.heap.size, 0, none⟩) hw1 (.int .u32 1))
      go_loopg [6] (wtR ((rInit ls ls.length).set 0 1) + 1) (fun g m wr => ∃ (r : List Nat) (b : Bool), m = .bool b ∧ Ru ls r ∧ OwnU wr w.heap.size 24 (.slice (some ⟨w1.heap.size, 0, none⟩) ls.length ls.length) r ∧ Below w.heap.size w wr ∧ (b = true → wtR r < g) ∧ (b = false → ∀ i j, Rch ls i → Edge ls (-1) i j → Fixd r i j))
      case atStart => exact ⟨_, true, rfl, HI.out, HO1.out, HW1.out, fun _ => by omega, fun h => by cases h⟩
      case round =>
        clear HO1 HW1 Hown hW f1 c1 HI HY HN HZ hlen
        obtain ⟨r0, b, rfl, hRu, hown, hW, hlt, hfx⟩ := hrel
        have HRu := Lib.hid hRu
        have Hown := Lib.hid hown
        have HW := Lib.hid hW
        have Hlt := Lib.hid hlt
        have Hfx := Lib.hid hfx
        clear hRu hown hW hlt hfx
        cases b
        · go_wp2
          go_ret
          refine ⟨_, rfl, ?_, HW.out⟩
          rw [← HRu.out.done h1 h8 HV.out (Hfx.out trivial)]
          exact Hown.out
        · go_wp2
          go_loopw [6, 37] (fun m i wr => ∃ (r : List Nat) (b : Bool) (k : Nat), k ≤ ls.length ∧ m = .bool b ∧ i = .int .i64 k ∧ Hid (Rp ls r0 r b k 0) ∧ OwnU wr w.heap.size 24 (.slice (some ⟨w1.heap.size, 0, none⟩) ls.length ls.length) r ∧ Below w.heap.size w wr) (fun _ i _ => ls.length - (intOf i).toNat)
          case atStart => exact ⟨r0, false, 0, Nat.zero_le _, rfl, rfl, Lib.hid (Rp.start HRu.out), Hown.out, HW.out⟩
          case round =>
            clear Hown HW
            obtain ⟨r, b, i, hi, rfl, rfl, hP, hown, hW⟩ := hrel
            have Hown := Lib.hid hown
            have HW := Lib.hid hW
            clear hown
            by_cases hlti : i < ls.length
            · obtain ⟨b2, off2, A2, cap2, rfl, hb2, c0, hR⟩ := RdN.at_ HA.out hlti
              have c0 := (hW.cell (p := ⟨b2, off2 + i, none⟩) hb2).trans c0
              have hRr := (Rd.below hR hW)
              have hl := Lib.hid (List.getElem?_eq_getElem hlti)
              have hl3 := (HV.out _ (List.getElem_mem hlti)).1
              have Hin := Lib.hid ((HV.out _ (List.getElem_mem hlti)).2)
              have HR := Lib.hid hR
              clear hR hRr hW
              generalize ls[i] = l at *
              have p1 := test_u32 F i (by omega)
              have i32 : i < 32 := by omega
              cases hb : F.testBit i
              · rw [hb] at p1
                have Hn := Lib.hid (show ¬ Rch ls i from fun h => by
                  have := (HR0.out i).2 ⟨by omega, h⟩
                  rw [hb] at this; cases this)
                clear hb
                go_wp2
                go_roundw
                case rel => exact ⟨r, b, i + 1, by omega, rfl, by go_num, Lib.hid (hP.out.skip Hn.out), Hown.out, HW.out⟩
                case measure => simp [intOf]; omega
              · rw [hb] at p1
                have Hr := Lib.hid (((HR0.out i).1 hb).2)
                clear hb
                go_wp2
                clear p1
                go_loopw [6, 49] (fun m i3 wr => ∃ (r : List Nat) (b : Bool) (t : Nat), t ≤ l.length ∧ m = .bool b ∧ i3 = .int .i64 t ∧ Hid (Rp ls r0 r b i t) ∧ OwnU wr w.heap.size 24 (.slice (some ⟨w1.heap.size, 0, none⟩) ls.length ls.length) r ∧ Below w.heap.size w wr) (fun _ i3 _ => l.length - (intOf i3).toNat)
                case atStart => exact ⟨r, b, 0, Nat.zero_le _, rfl, rfl, hP, Hown.out, HW.out⟩
                case round =>
                  clear Hown HW hP
                  obtain ⟨r, b, t, ht, rfl, rfl, hP, hown, hW⟩ := hrel
                  have Hown := Lib.hid hown
                  have HW := Lib.hid hW
                  by_cases hltt : t < l.length
                  · obtain ⟨b3, off3, rfl, hb3, c3⟩ := RdI.at1 (Rd.below HR.out hW) hltt
                    obtain ⟨x0, x1⟩ := Hin.out _ (List.getElem_mem hltt)
                    obtain ⟨j, hj⟩ := Int.eq_ofNat_of_zero_le x0
                    have Hj := Lib.hid hj
                    rw [hj] at c3
                    have hj8 : j < ls.length := by omega
                    have hrl := hP.out.ru.len
                    have hir : i < r.length := by omega
                    have hjr : j < r.length := by omega
                    obtain ⟨g, eg, _, _, _, hfz, hcell⟩ := OwnU.at2 hown (by omega)
                    injection eg with eg; injection eg with eg
                    subst eg
                    have f1 := hfz j
                    have c4 := hcell j hjr
                    have c5 := hcell i hir
                    have hxi := hP.out.ru.lt h1 h8 HV.out i hir
                    have hxj := hP.out.ru.lt h1 h8 HV.out j hjr
                    have q1 : ((j : Nat) : Int) < ((ls.length : Nat) : Int) := by omega
                    have q2 : ((i : Nat) : Int) < ((ls.length : Nat) : Int) := by omega
                    have j32 : j < 32 := by omega
                    have pj : 2 ^ j < 2 ^ 32 := Nat.pow_lt_pow_right (by decide) j32
                    have p1 := pow_u32 j j32
                    have p2 := or_u32 r[i] (2 ^ j) (by omega) (by omega)
                    have hxo : r[i] ||| 2 ^ j < 2 ^ 32 := Nat.or_lt_two_pow (by omega) pj
                    have p3 := and_u32 r[j] (r[i] ||| 2 ^ j) (by omega) (by omega)
                    have Hk := Lib.hid (fun (he : r[j] &&& (r[i] ||| 2 ^ j) = r[j]) => hP.out.keep hl.out hltt hj hir hjr he)
                    have Ht := Lib.hid (fun (he : r[j] &&& (r[i] ||| 2 ^ j) ≠ r[j]) => hP.out.turn h1 h8 HV.out Hr.out hl.out hltt hj hir hjr he)
                    have hxs : r[j] &&& (r[i] ||| 2 ^ j) < 256 := Nat.lt_of_le_of_lt Nat.and_le_left hxj
                    rw [Int.natCast_pow, show ((2 : Nat) : Int) = 2 from rfl] at p1 p2
                    have hown' := fun s => OwnU.set_ hown (k := j) hjr s
                    have Hown' := Lib.hid hown'
                    clear hj x0 x1 hfz hcell hown hown' pj
                    generalize r[j] &&& (r[i] ||| 2 ^ j) = s at *
                    generalize r[i] ||| 2 ^ j = y at *
                    generalize r[i] = xi at *
                    generalize r[j] = xj at *
                    by_cases he : s = xj
                    · have q3 : ((s : Int) != (xj : Int)) = false := by rw [bne_eq_false_iff_eq, he]
                      have He := Lib.hid he
                      clear he
                      go_wp2
                      go_quiet (fail)
                      go_wp2
                      go_roundw
                      case rel => exact ⟨r, b, t + 1, by omega, rfl, by go_num, Lib.hid (Hk.out He.out), Hown.out.drewN _, below_dN HW.out _⟩
                      case measure => simp [intOf]; omega
                    · have q3 : ((s : Int) != (xj : Int)) = true := by rw [bne_iff_ne]; omega
                      have He := Lib.hid he
                      clear he
                      go_wp2
                      go_quiet (fail)
                      go_wp2
                      go_roundw
                      case rel => exact ⟨_, true, t + 1, by omega, rfl, by go_num, Lib.hid (Ht.out He.out), (Hown'.out s).drewN _, below_dN (HW.out.setCell hw1 _) _⟩
                      case measure => simp [intOf]; omega
                  · have : t = l.length := by omega
                    subst this
                    go_wp2
                    go_roundw
                    case rel => exact ⟨r, b, i + 1, by omega, rfl, by go_num, Lib.hid (hP.out.next hl.out), hown, hW⟩
                    case measure => simp [intOf]; omega
            · have : i = ls.length := by omega
              subst this
              have HP := Lib.hid hP
              go_wp2
              cases b
              · go_roundg 0
                case measure => have := Hlt.out trivial; omega
                case rel => exact ⟨r, false, rfl, HP.out.out.ru, Hown.out, hW, (fun h => by cases h), fun _ i j hr he => HP.out.out.fixd rfl i j (he.lt HV.out).1 hr he⟩
              · go_roundg (wtR r0)
                case measure => have := Hlt.out trivial; omega
                case rel => exact ⟨r, true, rfl, HP.out.out.ru, Hown.out, hW, HP.out.out.less, (fun h => by cases h)⟩
end Go.Proofs.Ytmgejacndhnikaa.W
namespace Go.Proofs.Ytmgejacndhnikaa.W
open Go.ChangeShapes Go.WideShapes Go.ChangeAt Go.RowKit Go.Deep
def byteCells (x : Int) : List Value := [.int .u8 x]
abbrev RdB (w : World) (A : Option Addr) (l : List Int) : Prop := Rd byteCells 1 w A l
theorem RdB.at1 {w : World} {A : Option Addr} {l : List Int} (h : RdB w A l) {k : Nat} (hk : k < l.length) :
    ∃ b off, A = some ⟨b, off, none⟩ ∧ b < w.heap.size ∧ w.cell? ⟨b, off + k, none⟩ = some (.int .u8 l[k]) := by
  obtain ⟨b, off, e, hb, hc⟩ := h.at_ hk
  refine ⟨b, off, e, hb, ?_⟩
  have := hc 0 (by omega)
  simpa [byteCells] using this
def bytesOk (l : List Int) : Prop := ∀ x ∈ l, 0 ≤ x ∧ x ≤ 255
theorem cellsU8 : Try.prog.cellsOf 5 = 1 := by kernel_rfl
theorem open_bytes {H : Type} {enc : TypeId × Value → H} {w : World} {base b0 : Nat} {held : Bool} {r : Reach} {v : Value} {d : DataW H} {ps : List MemPlace}
    (hval : Value.okWide Try.prog w r b0 25 v) (hd : DataW.Trod enc Try.prog w base (fun _ => true) held 25 v d ps) :
    ∃ (A : Option Addr) (cap : Nat) (l : List Int), v = .slice A l.length cap ∧ RdB w A l ∧ l.length ≤ maxLen ∧ bytesOk l := by
  obtain ⟨A, cap, l, h1, h2, h3, h4⟩ := open_nums Try.underlying25 Try.underlying5 cellsU8 hval hd
  exact ⟨A, cap, l, h1, h2, h3, fun x hx => wf_u8 (h4 x hx)⟩
end Go.Proofs.Ytmgejacndhnikaa.W
namespace Go.Proofs.Ytmgejacndhnikaa.W
open Go.RowKit

/-- A walk from 0 to a that has seen the set s: each node that is not in s is off it. -/
structure Pa (ls : List (List Int)) (a s : Nat) : Prop where
  rch : Rch ls a
  zero : s.testBit 0 = true
  off : ∀ x, s.testBit x = false → Comes_ ls (x : Int) 0 a
theorem Pa.first (ls : List (List Int)) : Pa ls 0 1 := ⟨Comes_.refl _ _ _, rfl, fun _ _ => Comes_.refl _ _ _⟩
theorem Pa.step {ls : List (List Int)} {a b s : Nat} (h : Pa ls a s) (he : Edge ls (-1) a b) : Pa ls b (s ||| 2 ^ b) :=
  ⟨h.rch.step he, by rw [set_bit, h.zero]; rfl, fun x hx => by
    rw [set_bit, Bool.or_eq_false_iff, decide_eq_false_iff_not] at hx
    obtain ⟨l, h1, h2, _⟩ := he
    exact (h.off x hx.1).step ⟨l, h1, h2, by omega⟩⟩
theorem Pa.in_ {ls : List (List Int)} {a s : Nat} (h1 : 1 ≤ ls.length) (h8 : ls.length ≤ 8) (hv : Valid ls) (h : Pa ls a s) : (domS ls a ||| s == s) = true := by
  rw [in_iff]
  intro x hx
  rw [domS_bit h1 h8 hv] at hx
  cases hs : s.testBit x
  · rcases hx.2 with rfl | hn
    · rw [h.zero] at hs; cases hs
    · exact absurd (h.off x hs) hn
  · rfl
theorem domS_zero {ls : List (List Int)} (h1 : 1 ≤ ls.length) (h8 : ls.length ≤ 8) (hv : Valid ls) : domS ls 0 = 1 := set_ext fun k => by
  rw [Bool.eq_iff_iff, domS_bit h1 h8 hv, show (1 : Nat) = 2 ^ 0 from rfl, testBit_pow, decide_eq_true_eq]
  constructor
  · exact fun h => (dom_zero_only h).symm
  · rintro rfl; exact Dom.zero (Comes_.refl _ _ _)

end Go.Proofs.Ytmgejacndhnikaa.W
namespace Go.Proofs.Ytmgejacndhnikaa.W
open Go.RowKit

def Out (ls : List (List Int)) (i j : Nat) : Prop := j = i ∨ ¬ Dom ls i j
def EdgeF (ls : List (List Int)) (i j : Nat) : Prop := ∃ k, Dom ls i k ∧ Edge ls (-1) k j ∧ Out ls i j
noncomputable def edgeS (ls : List (List Int)) (i : Nat) : Nat := setN (EdgeF ls i)
noncomputable def edgesL (ls : List (List Int)) : List Nat := (List.range ls.length).map (edgeS ls)
theorem edgesL_len (ls : List (List Int)) : (edgesL ls).length = ls.length := by simp [edgesL]
theorem edgesL_get (ls : List (List Int)) (i : Nat) (h : i < (edgesL ls).length) : (edgesL ls)[i] = edgeS ls i := by simp [edgesL]
noncomputable def eRows (ls : List (List Int)) (i : Nat) : List Nat := (List.range ls.length).map fun a => if a < i then edgeS ls a else 0
theorem eRows_len (ls : List (List Int)) (i : Nat) : (eRows ls i).length = ls.length := by simp [eRows]
theorem eRows_get (ls : List (List Int)) (i a : Nat) (h : a < (eRows ls i).length) : (eRows ls i)[a] = if a < i then edgeS ls a else 0 := by simp [eRows]
theorem eRows_zero (ls : List (List Int)) : eRows ls 0 = List.replicate ls.length 0 := by
  refine List.ext_getElem (by simp [eRows]) fun j h1 h2 => ?_
  rw [eRows_get]; simp
theorem eRows_start {ls : List (List Int)} {i : Nat} : (eRows ls i).set i 0 = eRows ls i := by
  refine List.ext_getElem (by simp [eRows]) fun j h1 h2 => ?_
  rw [List.getElem_set, eRows_get]
  by_cases e : i = j
  · subst e; rw [if_pos rfl, if_neg (by omega)]
  · rw [if_neg e]
theorem eRows_next {ls : List (List Int)} {i : Nat} : (eRows ls i).set i (edgeS ls i) = eRows ls (i + 1) := by
  refine List.ext_getElem (by simp [eRows]) fun j h1 h2 => ?_
  rw [List.getElem_set, eRows_get, eRows_get]
  by_cases e : i = j
  · subst e
    have h' : i < i + 1 := by omega
    rw [if_pos rfl, if_pos h']
  · rw [if_neg e]
    by_cases h : j < i
    · have h' : j < i + 1 := by omega
      rw [if_pos h, if_pos h']
    · rw [if_neg h, if_neg (by omega)]
theorem eRows_all (ls : List (List Int)) : eRows ls ls.length = edgesL ls := by
  refine List.ext_getElem (by simp [eRows, edgesL]) fun j h1 h2 => ?_
  rw [eRows_len] at h1
  rw [eRows_get, edgesL_get, if_pos h1]

/-- The part of row i that the nodes below k and the first t edges of node k give. -/
def eP (ls : List (List Int)) (i k t s : Nat) : Prop :=
  ∀ j, s.testBit j = true ↔ ((∃ k', k' < k ∧ Dom ls i k' ∧ Edge ls (-1) k' j ∧ Out ls i j) ∨ (Dom ls i k ∧ ∃ u l, u < t ∧ ls[k]? = some l ∧ l[u]? = some (j : Int) ∧ Out ls i j))
theorem eP.start (ls : List (List Int)) (i : Nat) : eP ls i 0 0 0 := fun j => by
  rw [Nat.zero_testBit]
  constructor
  · intro h; cases h
  · rintro (⟨k, h, _⟩ | ⟨_, u, l, h, _⟩) <;> omega
theorem eP.skipNode {ls : List (List Int)} {i k s : Nat} (h : eP ls i k 0 s) (hn : ¬ Dom ls i k) : eP ls i (k + 1) 0 s := fun j => by
  rw [h j]
  constructor
  · rintro (⟨k', h1, h2⟩ | ⟨h1, _⟩)
    · exact Or.inl ⟨k', by omega, h2⟩
    · exact absurd h1 hn
  · rintro (⟨k', h1, h2⟩ | ⟨_, u, l, h1, _⟩)
    · refine Or.inl ⟨k', ?_, h2⟩
      rcases Nat.lt_or_ge k' k with h3 | h3
      · exact h3
      · have : k' = k := by omega
        subst this; exact absurd h2.1 hn
    · omega
theorem eP.nextNode {ls : List (List Int)} {i k s : Nat} {l : List Int} (h : eP ls i k l.length s) (hl : ls[k]? = some l) (hd : Dom ls i k) : eP ls i (k + 1) 0 s := fun j => by
  rw [h j]
  constructor
  · rintro (⟨k', h1, h2⟩ | ⟨_, u, l', h2, h3, h4, h5⟩)
    · exact Or.inl ⟨k', by omega, h2⟩
    · exact Or.inl ⟨k, by omega, hd, ⟨l', h3, List.mem_of_getElem? h4, by omega⟩, h5⟩
  · rintro (⟨k', h1, h2, h3, h4⟩ | ⟨_, u, l, h1, _⟩)
    · rcases Nat.lt_or_ge k' k with h5 | h5
      · exact Or.inl ⟨k', h5, h2, h3, h4⟩
      · have : k' = k := by omega
        subst this
        obtain ⟨l', e1, e2, _⟩ := h3
        rw [hl] at e1
        injection e1 with e1
        subst e1
        obtain ⟨u, hu, e⟩ := List.getElem_of_mem e2
        exact Or.inr ⟨hd, u, l, hu, hl, by rw [List.getElem?_eq_getElem hu, e], h4⟩
    · omega
theorem eP.skip {ls : List (List Int)} {i k t s j : Nat} {l : List Int} (h : eP ls i k t s) (hl : ls[k]? = some l) (ht : t < l.length) (hj : l[t] = (j : Int)) (hn : ¬ Out ls i j) : eP ls i k (t + 1) s := fun x => by
  rw [h x]
  constructor
  · rintro (h1 | ⟨h1, u, l', h2, h3⟩)
    · exact Or.inl h1
    · exact Or.inr ⟨h1, u, l', by omega, h3⟩
  · rintro (h1 | ⟨h1, u, l', h2, h3, h4, h5⟩)
    · exact Or.inl h1
    · refine Or.inr ⟨h1, u, l', ?_, h3, h4, h5⟩
      rcases Nat.lt_or_ge u t with h6 | h6
      · exact h6
      · have : u = t := by omega
        subst this
        rw [hl] at h3
        injection h3 with h3
        subst h3
        rw [List.getElem?_eq_getElem ht, hj] at h4
        injection h4 with h4
        have : x = j := by omega
        subst this; exact absurd h5 hn
theorem eP.push {ls : List (List Int)} {i k t s j : Nat} {l : List Int} (h : eP ls i k t s) (hl : ls[k]? = some l) (ht : t < l.length) (hj : l[t] = (j : Int)) (hd : Dom ls i k) (ho : Out ls i j) : eP ls i k (t + 1) (s ||| 2 ^ j) := fun x => by
  rw [set_bit, Bool.or_eq_true, h x, decide_eq_true_eq]
  constructor
  · rintro ((h1 | ⟨h1, u, l', h2, h3⟩) | rfl)
    · exact Or.inl h1
    · exact Or.inr ⟨h1, u, l', by omega, h3⟩
    · exact Or.inr ⟨hd, t, l, by omega, hl, by rw [List.getElem?_eq_getElem ht, hj], ho⟩
  · rintro (h1 | ⟨h1, u, l', h2, h3, h4, h5⟩)
    · exact Or.inl (Or.inl h1)
    · rcases Nat.lt_or_ge u t with h6 | h6
      · exact Or.inl (Or.inr ⟨h1, u, l', h6, h3, h4, h5⟩)
      · have : u = t := by omega
        subst this
        rw [hl] at h3
        injection h3 with h3
        subst h3
        rw [List.getElem?_eq_getElem ht, hj] at h4
        injection h4 with h4
        exact Or.inr (by omega)
theorem eP.finish {ls : List (List Int)} {i s : Nat} (h8 : ls.length ≤ 8) (hv : Valid ls) (h : eP ls i ls.length 0 s) : s = edgeS ls i := setN_ext fun j => by
  rw [h j]
  constructor
  · rintro (⟨k, h1, h2, h3, h4⟩ | ⟨_, u, l, h1, _⟩)
    · exact ⟨by have := (h3.lt hv).2; omega, k, h2, h3, h4⟩
    · omega
  · rintro ⟨_, k, h2, h3, h4⟩
    exact Or.inl ⟨k, (h3.lt hv).1, h2, h3, h4⟩

set_option maxRecDepth 100000 in
set_option maxHeartbeats 4000000 in
theorem edges_calls (A : Option Addr) (ls : List (List Int)) (cap : Nat) (w : World) (hA : RdN w A ls) (h0 : wayErr ls = 0) :
    Calls Try.prog 53 #[.slice A ls.length cap] w fun e w' => ∃ v, e = .returned v ∧ OwnU w' w.heap.size 24 v (edgesL ls) ∧ Below w.heap.size w w' := by
  obtain ⟨h1, h8, hv⟩ := valid_of h0
  have HA := Lib.hid hA; clear hA
  have HV := Lib.hid hv; clear hv
  have H0 := Lib.hid h0; clear h0
  have Hlen := Lib.hid (rulesL_len ls)
  have HZ := Lib.hid (eRows_zero ls)
  have HD := Lib.hid (fun j a => domS_bit h1 h8 HV.out j a)
  go_enter Try.func53, Try.ntmps53
  go_wp2_with (first
    | (go_at_call 67; refine (rules_calls _ _ _ _ HA.out H0.out).mono ?_
       rintro e w1 ⟨v, rfl, hown, hW⟩
       obtain ⟨gF, capF, rfl, hgF, hgF2, hcF, _, hcells⟩ := OwnU.at_ hown (by rw [Hlen.out]; omega)
       rw [Hlen.out]
       have HC := Lib.hid hcells
       have HW := Lib.hid hW
       clear hW hown hcells)
    | (at_make; refine wpList_makeU rfl _ _ rfl w1.heap.size ls.length rfl rfl (by omega) (Nat.le_refl _) ?_; intro w2 hown2 hgrow2))
  have hw1 := HW.out.size
  have hW2 := (Below.refl w1.heap.size w1).grown hgrow2 (Nat.le_refl _) (fun k hk => by cases hk)
  rw [← HZ.out] at hown2
  go_loopw [17] (fun i wr => ∃ k : Nat, k ≤ ls.length ∧ i = .int .i64 k ∧ OwnU wr w1.heap.size 24 (.slice (some ⟨w1.heap.size, 0, none⟩) ls.length ls.length) (eRows ls k) ∧ Below w1.heap.size w1 wr) (fun i _ => ls.length - (intOf i).toNat)
  case atStart => exact ⟨0, Nat.zero_le _, rfl, hown2, hW2⟩
  case round =>
    clear hown2 hW2 hgrow2
    obtain ⟨i, hi, rfl, hown, hW⟩ := hrel
    have Hown := Lib.hid hown
    have HWr := Lib.hid hW
    clear hown hW
    by_cases hlt : i < ls.length
    · go_wp2
      go_loopw [22] (fun k3 wr => ∃ (k s : Nat), k ≤ ls.length ∧ k3 = .int .i64 k ∧ s < 256 ∧ Hid (eP ls i k 0 s) ∧ OwnU wr w1.heap.size 24 (.slice (some ⟨w1.heap.size, 0, none⟩) ls.length ls.length) ((eRows ls i).set i s) ∧ Below w1.heap.size w1 wr) (fun k3 _ => ls.length - (intOf k3).toNat)
      case atStart => exact ⟨0, 0, Nat.zero_le _, rfl, by decide, eP.start ls i, by rw [eRows_start]; exact Hown.out, HWr.out⟩
      case round =>
        clear Hown HWr
        obtain ⟨k, s, hk, rfl, hs, hP, hown, hW⟩ := hrel
        have Hown := Lib.hid hown
        have HWr := Lib.hid hW
        clear hown
        by_cases hltk : k < ls.length
        · obtain ⟨b2, off2, A2, cap2, rfl, hb2, c0, hR⟩ := RdN.at_ (RdN.below HA.out HW.out) hltk
          have c0 := (hW.cell (p := ⟨b2, off2 + k, none⟩) hb2).trans c0
          have c2 := (hW.cell (p := ⟨gF, k, none⟩) hgF2).trans (HC.out k (by rw [Hlen.out]; exact hltk))
          rw [rulesL_get] at c2
          have hl := Lib.hid (List.getElem?_eq_getElem hltk)
          have hl3 := (HV.out _ (List.getElem_mem hltk)).1
          have Hin := Lib.hid ((HV.out _ (List.getElem_mem hltk)).2)
          have HR := Lib.hid hR
          have hDk := domS_lt ls k
          have p1 := test_u32 (domS ls k) i (by omega)
          have i32 : i < 32 := by omega
          clear hR hW
          generalize ls[k] = l at *
          cases hb : (domS ls k).testBit i
          · rw [hb] at p1
            have Hn := Lib.hid (show ¬ Dom ls i k from fun h => by
              rw [(HD.out k i).2 h] at hb; cases hb)
            clear hb
            generalize domS ls k = D at *
            go_wp2
            go_roundw
            case rel => exact ⟨k + 1, s, by omega, by go_num, hs, Lib.hid (hP.out.skipNode Hn.out), Hown.out, HWr.out⟩
            case measure => simp [intOf]; omega
          · rw [hb] at p1
            have Hd := Lib.hid ((HD.out k i).1 hb)
            clear hb
            generalize domS ls k = D at *
            go_wp2
            clear p1 c2 hDk
            go_loopw [37] (fun t3 wr => ∃ (t s : Nat), t ≤ l.length ∧ t3 = .int .i64 t ∧ s < 256 ∧ Hid (eP ls i k t s) ∧ OwnU wr w1.heap.size 24 (.slice (some ⟨w1.heap.size, 0, none⟩) ls.length ls.length) ((eRows ls i).set i s) ∧ Below w1.heap.size w1 wr) (fun t3 _ => l.length - (intOf t3).toNat)
            case atStart => exact ⟨0, s, Nat.zero_le _, rfl, hs, hP, Hown.out, HWr.out⟩
            case round =>
              clear Hown HWr hP hs
              obtain ⟨t, s, ht, rfl, hs, hP, hown, hW⟩ := hrel
              have Hown := Lib.hid hown
              have HWr := Lib.hid hW
              by_cases hltt : t < l.length
              · obtain ⟨b3, off3, rfl, hb3, c3⟩ := RdI.at1 (Rd.below HR.out hW) hltt
                obtain ⟨x0, x1⟩ := Hin.out _ (List.getElem_mem hltt)
                obtain ⟨j, hj⟩ := Int.eq_ofNat_of_zero_le x0
                rw [hj] at c3
                have hj8 : j < ls.length := by omega
                have c2 := (hW.cell (p := ⟨gF, j, none⟩) hgF2).trans (HC.out j (by rw [Hlen.out]; exact hj8))
                rw [rulesL_get] at c2
                have hDj := domS_lt ls j
                have p1 := test_u32 (domS ls j) i (by omega)
                have Hk := Lib.hid (fun (hn : ¬ Out ls i j) => hP.out.skip hl.out hltt hj hn)
                have Ht := Lib.hid (fun (ho : Out ls i j) => hP.out.push hl.out hltt hj Hd.out ho)
                have HO := Lib.hid (show Out ls i j ↔ (j = i ∨ (domS ls j).testBit i = false) from by
                  unfold Out
                  rw [← HD.out j i]
                  cases (domS ls j).testBit i <;> simp)
                have hlen := eRows_len ls i
                have hlset : ((eRows ls i).set i s).length = ls.length := by rw [List.length_set, hlen]
                obtain ⟨g, eg, _, _, _, hfz, hcell⟩ := OwnU.at2 hown (by omega)
                injection eg with eg; injection eg with eg
                subst eg
                have f1 := hfz i
                have c5 := hcell i (by omega)
                rw [List.getElem_set_self] at c5
                have q2 : ((i : Nat) : Int) < ((ls.length : Nat) : Int) := by omega
                have q1 : ((j : Nat) : Int) < ((ls.length : Nat) : Int) := by omega
                have j32 : j < 32 := by omega
                have pj : 2 ^ j < 2 ^ 8 := Nat.pow_lt_pow_right (by decide) (by omega)
                have r1 := pow_u32 j j32
                have r2 := or_u32 s (2 ^ j) (by omega) (by omega)
                have hy : s ||| 2 ^ j < 256 := Nat.or_lt_two_pow (n := 8) (by omega) pj
                rw [Int.natCast_pow, show ((2 : Nat) : Int) = 2 from rfl] at r1 r2
                have Hown' := Lib.hid (OwnU.set_ hown (k := i) (by omega) (s ||| 2 ^ j))
                rw [List.set_set] at Hown'
                clear hj x0 x1 hfz hcell hown hW pj hlset
                generalize s ||| 2 ^ j = y at *
                by_cases he : j = i
                · have q3 : ((j : Int) == (i : Int)) = true := by rw [beq_iff_eq]; omega
                  have Hy := Lib.hid (Ht.out (HO.out.2 (Or.inl he)))
                  clear p1 he
                  generalize domS ls j = D at *
                  go_wp2
                  go_still_tail 8, (by kernel_rfl)
                  go_wp2
                  refine ⟨⟨t + 1, y, by omega, by go_num, hy, Lib.hid Hy.out, Hown'.out.drew, ?_⟩, by simp [intOf]; omega⟩
                  exact (HWr.out.setCell (Nat.le_refl _) _).drew
                · have q3 : ((j : Int) == (i : Int)) = false := by rw [beq_eq_false_iff_ne]; omega
                  cases hb : (domS ls j).testBit i
                  · rw [hb] at p1
                    have Hy := Lib.hid (Ht.out (HO.out.2 (Or.inr hb)))
                    clear hb he
                    generalize domS ls j = D at *
                    go_wp2
                    go_still_tail 8, (by kernel_rfl)
                    go_wp2
                    refine ⟨⟨t + 1, y, by omega, by go_num, hy, Lib.hid Hy.out, Hown'.out.drew, ?_⟩, by simp [intOf]; omega⟩
                    exact (HWr.out.setCell (Nat.le_refl _) _).drew
                  · rw [hb] at p1
                    have Hn := Lib.hid (Hk.out (fun h => by
                      rcases HO.out.1 h with h | h
                      · exact he h
                      · rw [hb] at h; cases h))
                    clear hb he
                    generalize domS ls j = D at *
                    go_wp2
                    go_roundw
                    case rel => exact ⟨t + 1, s, by omega, by go_num, hs, Lib.hid Hn.out, Hown.out, HWr.out⟩
                    case measure => simp [intOf]; omega
              · have : t = l.length := by omega
                subst this
                have Hnx := Lib.hid (hP.out.nextNode hl.out Hd.out)
                go_wp2
                go_roundw
                case rel => exact ⟨k + 1, s, by omega, by go_num, hs, Lib.hid Hnx.out, Hown.out, HWr.out⟩
                case measure => simp [intOf]; omega
        · have : k = ls.length := by omega
          subst this
          have Hfin := Lib.hid (hP.out.finish h8 HV.out)
          go_wp2
          go_roundw
          case rel => exact ⟨i + 1, by omega, by go_num, by rw [← eRows_next, ← Hfin.out]; exact Hown.out, HWr.out⟩
          case measure => simp [intOf]; omega
    · have : i = ls.length := by omega
      subst this
      go_wp2
      go_ret
      exact ⟨_, rfl, by rw [← eRows_all]; exact Hown.out.base_ hw1, HW.out.trans (HWr.out.mono hw1)⟩
end Go.Proofs.Ytmgejacndhnikaa.W
namespace Go.Proofs.Ytmgejacndhnikaa.W
open Go.RowKit

def SetEnd (S : Nat) (l : List Int) (w : World) (e : Ending) (w' : World) : Prop :=
  w' = w ∧ ∃ m : Int, e = .returned (.int .i64 m) ∧ ((m = -1 ∧ ∀ x ∈ l, S.testBit x.toNat = false) ∨ (0 ≤ m ∧ ∃ x ∈ l, S.testBit x.toNat = true))
def anyIn (S : Nat) (l : List Int) : Bool := l.any fun x => S.testBit x.toNat
/-- From i one can come to an end without wo. -/
inductive Ends (ls : List (List Int)) (wo : Int) : Nat → Prop
  | stop {i : Nat} : ls[i]? = some [] → (i : Int) ≠ wo → Ends ls wo i
  | go {i j : Nat} {l : List Int} : ls[i]? = some l → (i : Int) ≠ wo → (j : Int) ∈ l → Ends ls wo j → Ends ls wo i
theorem Ends.lt {ls : List (List Int)} {wo : Int} {i : Nat} (h : Ends ls wo i) : i < ls.length := by
  cases h with
  | stop h _ => exact (List.getElem?_eq_some_iff.1 h).1
  | go h _ _ _ => exact (List.getElem?_eq_some_iff.1 h).1
noncomputable def endS (ls : List (List Int)) (wo : Int) : Nat := setN (Ends ls wo)
theorem endS_bit {ls : List (List Int)} (h8 : ls.length ≤ 8) (wo : Int) (i : Nat) : (endS ls wo).testBit i = true ↔ Ends ls wo i := by
  unfold endS
  rw [setN_bit]
  exact ⟨fun h => h.2, fun h => ⟨by have := h.lt; omega, h⟩⟩
theorem endS_lt (ls : List (List Int)) (wo : Int) : endS ls wo < 256 := setN_lt _
def mayEnd (l : List Int) (s : Nat) : Bool := l.length == 0 || anyIn s l
def EFix (ls : List (List Int)) (wo : Int) (s : Nat) : Prop := ∀ (i : Nat) (l : List Int), ls[i]? = some l → (i : Int) ≠ wo → mayEnd l s = true → s.testBit i = true
theorem mayEnd_iff {l : List Int} {s : Nat} (hl : ∀ x ∈ l, 0 ≤ x) : mayEnd l s = true ↔ l = [] ∨ ∃ j : Nat, (j : Int) ∈ l ∧ s.testBit j = true := by
  unfold mayEnd anyIn
  rw [Bool.or_eq_true, beq_iff_eq, List.length_eq_zero_iff, List.any_eq_true]
  constructor
  · rintro (h | ⟨x, hx, hb⟩)
    · exact Or.inl h
    · obtain ⟨j, rfl⟩ := Int.eq_ofNat_of_zero_le (hl x hx)
      exact Or.inr ⟨j, hx, by simpa using hb⟩
  · rintro (h | ⟨j, hj, hb⟩)
    · exact Or.inl h
    · exact Or.inr ⟨(j : Int), hj, by simpa using hb⟩
/-- Before pass p. -/
structure Eo (ls : List (List Int)) (wo : Int) (p s : Nat) : Prop where
  sound : ∀ i, s.testBit i = true → Ends ls wo i
  far : EFix ls wo s ∨ p ≤ cnt8 s
/-- Within a pass from the set was. -/
structure Ei (ls : List (List Int)) (wo : Int) (was s k : Nat) : Prop where
  sound : ∀ i, s.testBit i = true → Ends ls wo i
  sup : ∀ i, was.testBit i = true → s.testBit i = true
  done : ∀ i l, i < k → ls[i]? = some l → (i : Int) ≠ wo → mayEnd l was = true → s.testBit i = true
theorem Eo.first (ls : List (List Int)) (wo : Int) : Eo ls wo 0 0 := ⟨(fun i h => by rw [Nat.zero_testBit] at h; cases h), Or.inr (Nat.zero_le _)⟩
theorem Eo.start {ls : List (List Int)} {wo : Int} {p s : Nat} (h : Eo ls wo p s) : Ei ls wo s s 0 := ⟨h.sound, fun _ h => h, fun i l h => by omega⟩
theorem anyIn_mono {s t : Nat} {l : List Int} (h : ∀ i, s.testBit i = true → t.testBit i = true) (ha : anyIn s l = true) : anyIn t l = true := by
  unfold anyIn at *
  rw [List.any_eq_true] at *
  obtain ⟨x, hx, hb⟩ := ha
  exact ⟨x, hx, h _ hb⟩
theorem mayEnd_mono {s t : Nat} {l : List Int} (h : ∀ i, s.testBit i = true → t.testBit i = true) (ha : mayEnd l s = true) : mayEnd l t = true := by
  unfold mayEnd at *
  rw [Bool.or_eq_true] at *
  exact ha.imp id (anyIn_mono h)
theorem Ei.skip {ls : List (List Int)} {wo : Int} {was s k : Nat} {l : List Int} (h : Ei ls wo was s k) (hl : ls[k]? = some l) (hn : (k : Int) = wo ∨ mayEnd l s = false) : Ei ls wo was s (k + 1) :=
  ⟨h.sound, h.sup, fun i l' hi hl' hne hm => by
    rcases Nat.lt_or_ge i k with h1 | h1
    · exact h.done i l' h1 hl' hne hm
    · have : i = k := by omega
      subst this
      rw [hl] at hl'
      injection hl' with hl'
      subst hl'
      rcases hn with hn | hn
      · exact absurd hn hne
      · rw [mayEnd_mono h.sup hm] at hn; cases hn⟩
theorem Ei.push {ls : List (List Int)} {wo : Int} {was s k : Nat} {l : List Int} (h : Ei ls wo was s k) (hl : ls[k]? = some l) (h0 : ∀ x ∈ l, 0 ≤ x) (hne : (k : Int) ≠ wo) (hm : mayEnd l s = true) : Ei ls wo was (s ||| 2 ^ k) (k + 1) :=
  ⟨fun i hi => by
    rw [set_bit, Bool.or_eq_true, decide_eq_true_eq] at hi
    rcases hi with hi | rfl
    · exact h.sound i hi
    · rcases (mayEnd_iff h0).1 hm with rfl | ⟨j, hj, hb⟩
      · exact .stop hl hne
      · exact .go hl hne hj (h.sound j hb), fun i hi => by rw [set_bit, h.sup i hi]; rfl, fun i l' hi hl' hne' hm' => by
    rw [set_bit, Bool.or_eq_true, decide_eq_true_eq]
    rcases Nat.lt_or_ge i k with h1 | h1
    · exact Or.inl (h.done i l' h1 hl' hne' hm')
    · exact Or.inr (by omega)⟩
theorem EFix.all {ls : List (List Int)} {wo : Int} {s : Nat} (hf : EFix ls wo s) (h0 : ∀ l ∈ ls, ∀ x ∈ l, 0 ≤ x) : ∀ i, Ends ls wo i → s.testBit i = true := fun i h => by
  induction h with
  | stop h1 h2 => exact hf _ _ h1 h2 ((mayEnd_iff (h0 _ (List.mem_of_getElem? h1))).2 (Or.inl rfl))
  | go h1 h2 h3 _ ih => exact hf _ _ h1 h2 ((mayEnd_iff (h0 _ (List.mem_of_getElem? h1))).2 (Or.inr ⟨_, h3, ih⟩))
theorem Ei.next {ls : List (List Int)} {wo : Int} {p was s : Nat} (h0 : ∀ l ∈ ls, ∀ x ∈ l, 0 ≤ x) (h8 : ls.length ≤ 8) (ho : Eo ls wo p was) (h : Ei ls wo was s ls.length) : Eo ls wo (p + 1) s := by
  refine ⟨h.sound, ?_⟩
  by_cases e : was = s
  · subst e
    exact Or.inl fun i l hl hne hm => h.done i l (List.getElem?_eq_some_iff.1 hl).1 hl hne hm
  · have hs : s < 256 := lt_pow_of_bits (n := 8) fun k hk => by have := (h.sound k hk).lt; omega
    rcases ho.far with hf | hp
    · refine absurd (set_ext fun i => ?_) e
      rw [Bool.eq_iff_iff]
      exact ⟨h.sup i, fun hb => hf.all h0 i (h.sound i hb)⟩
    · have := cnt8_mono_lt h.sup e hs
      exact Or.inr (by omega)
theorem cnt8_full : ∀ n, n ≤ 8 → cnt8 (2 ^ n - 1) = n := by decide
theorem Eo.finish {ls : List (List Int)} {wo : Int} {s : Nat} (h0 : ∀ l ∈ ls, ∀ x ∈ l, 0 ≤ x) (h8 : ls.length ≤ 8) (h : Eo ls wo ls.length s) : s = endS ls wo := set_ext fun i => by
  rw [Bool.eq_iff_iff, endS_bit h8]
  refine ⟨h.sound i, fun he => ?_⟩
  rcases h.far with hf | hp
  · exact hf.all h0 i he
  · have hfull : s = 2 ^ ls.length - 1 := by
      apply Classical.byContradiction
      intro hne
      have hb : ∀ k, s.testBit k = true → (2 ^ ls.length - 1).testBit k = true := fun k hk => by
        rw [Nat.testBit_two_pow_sub_one]
        exact decide_eq_true (h.sound k hk).lt
      have hlt : 2 ^ ls.length - 1 < 256 := by
        have : 2 ^ ls.length ≤ 2 ^ 8 := Nat.pow_le_pow_right (by decide) h8
        omega
      have := cnt8_mono_lt hb hne hlt
      rw [cnt8_full _ h8] at this
      omega
    rw [hfull, Nat.testBit_two_pow_sub_one]
    exact decide_eq_true he.lt
theorem Eo.fits {ls : List (List Int)} {wo : Int} {p s : Nat} (h8 : ls.length ≤ 8) (h : Eo ls wo p s) : s < 256 := lt_pow_of_bits (n := 8) fun k hk => by have := (h.sound k hk).lt; omega
theorem Ei.fits {ls : List (List Int)} {wo : Int} {was s k : Nat} (h8 : ls.length ≤ 8) (h : Ei ls wo was s k) : s < 256 := lt_pow_of_bits (n := 8) fun k hk => by have := (h.sound k hk).lt; omega
end Go.Proofs.Ytmgejacndhnikaa.W
namespace Go.Proofs.Ytmgejacndhnikaa.W
open Go.RowKit

/-- The world in which the box has the word s. -/
def box (w : World) (s nq : Nat) : World := (w.alloc (.cells #[.int .u32 (s : Nat)] 24)).drewN nq
theorem box_cell (w : World) (s nq : Nat) : (box w s nq).cell? ⟨w.heap.size, 0, none⟩ = some (.int .u32 (s : Nat)) := cell_new w _ _ _ rfl 0
theorem box_frozen (w : World) (s nq : Nat) : (box w s nq).frozen? ⟨w.heap.size, 0, none⟩ = false := by
  have h : (box w s nq).heap[w.heap.size]? = some (.cells #[.int .u32 (s : Nat)] 24 (0, 0)) := by
    unfold box
    show (w.heap.push _)[w.heap.size]? = _
    simp
  simp [World.frozen?, h]
theorem box_set (w : World) (s t nq : Nat) : (box w s nq).setCell ⟨w.heap.size, 0, none⟩ (.int .u32 (t : Nat)) = box w t nq := by
  unfold box World.setCell World.alloc World.drewN
  simp
  apply Array.ext
  · simp
  · intro i h1 h2
    rw [Array.getElem_modify]
    by_cases e : w.heap.size = i
    · subst e; simp
    · have : i < w.heap.size := by simp at h2; omega
      simp [e, Array.getElem_push, this]
theorem box_drew (w : World) (s nq : Nat) : (box w s nq).drew = box w s (nq + 1) := rfl
theorem box_below (w : World) (s nq : Nat) : Below w.heap.size w (box w s nq) := below_dN ((Below.refl _ _).alloc (Nat.le_refl _) _) nq

end Go.Proofs.Ytmgejacndhnikaa.W
namespace Go.Proofs.Ytmgejacndhnikaa.W
open Go.RowKit

noncomputable def partS (ls : List (List Int)) (i : Nat) : Nat := setN fun j => j < ls.length ∧ Comes_ ls (-1) i j ∧ Comes_ ls (-1) j i
noncomputable def partTo (ls : List (List Int)) (i k : Nat) : Nat := setN fun j => j < k ∧ Comes_ ls (-1) i j ∧ Comes_ ls (-1) j i
theorem partTo_zero (ls : List (List Int)) (i : Nat) : partTo ls i 0 = 0 := setN_false fun k _ h => by omega
theorem partTo_all (ls : List (List Int)) (i : Nat) : partTo ls i ls.length = partS ls i := rfl
theorem and_one_shift (x k : Nat) : (x &&& 1) <<< k = if x.testBit 0 then 2 ^ k else 0 := by
  rw [Nat.and_one_is_mod]
  rw [Nat.testBit_zero]
  rcases Nat.mod_two_eq_zero_or_one x with h | h
  · rw [h]; simp
  · rw [h]; simp [Nat.shiftLeft_eq]
theorem partTo_succ {ls : List (List Int)} (h8 : ls.length ≤ 8) (hv : Valid ls) {i k : Nat} (hi : i < ls.length) (hk : k < ls.length) :
    partTo ls i (k + 1) = partTo ls i k ||| ((((fromS ls (-1) i >>> k) &&& (fromS ls (-1) k >>> i)) &&& 1) <<< k) := by
  rw [and_one_shift]
  have e : ((fromS ls (-1) i >>> k) &&& (fromS ls (-1) k >>> i)).testBit 0 = ((fromS ls (-1) i).testBit k && (fromS ls (-1) k).testBit i) := by
    rw [Nat.testBit_and, Nat.testBit_shiftRight, Nat.testBit_shiftRight, Nat.add_zero, Nat.add_zero]
  have hB : (((fromS ls (-1) i).testBit k && (fromS ls (-1) k).testBit i) = true) ↔ (Comes_ ls (-1) i k ∧ Comes_ ls (-1) k i) := by
    rw [Bool.and_eq_true, fromS_bit h8 hv hi, fromS_bit h8 hv hk]
    constructor
    · rintro ⟨⟨_, h1⟩, _, h2⟩; exact ⟨h1, h2⟩
    · rintro ⟨h1, h2⟩; exact ⟨⟨by omega, h1⟩, by omega, h2⟩
  rw [e]
  refine (setN_ext fun j => ?_).symm
  cases hb : ((fromS ls (-1) i).testBit k && (fromS ls (-1) k).testBit i)
  · simp only [Bool.false_eq_true, if_false, Nat.or_zero]
    have hn : ¬ (Comes_ ls (-1) i k ∧ Comes_ ls (-1) k i) := fun h => by rw [hB.2 h] at hb; cases hb
    unfold partTo
    rw [setN_bit]
    constructor
    · rintro ⟨h1, h2, h3⟩; exact ⟨h1, by omega, h3⟩
    · rintro ⟨h1, h2, h3⟩
      refine ⟨h1, ?_, h3⟩
      rcases Nat.lt_or_ge j k with h | h
      · exact h
      · have : j = k := by omega
        subst this; exact absurd h3 hn
  · simp only [if_true]
    rw [set_bit, Bool.or_eq_true, decide_eq_true_eq]
    unfold partTo
    rw [setN_bit]
    constructor
    · rintro (⟨h1, h2, h3⟩ | rfl)
      · exact ⟨h1, by omega, h3⟩
      · exact ⟨by omega, by omega, hB.1 hb⟩
    · rintro ⟨h1, h2, h3⟩
      by_cases e : k = j
      · exact Or.inr e
      · exact Or.inl ⟨h1, by omega, h3⟩

noncomputable def fromsTo (ls : List (List Int)) (k : Nat) : List Nat := (List.range k).map (fromS ls (-1))
noncomputable def partsTo (ls : List (List Int)) (k : Nat) : List Nat := (List.range k).map (partS ls)
theorem range_map_succ {α : Type} (f : Nat → α) (k : Nat) : (List.range (k + 1)).map f = (List.range k).map f ++ [f k] := by rw [List.range_succ, List.map_append]; rfl
theorem fromsTo_len (ls : List (List Int)) (k : Nat) : (fromsTo ls k).length = k := by simp [fromsTo]
theorem partsTo_len (ls : List (List Int)) (k : Nat) : (partsTo ls k).length = k := by simp [partsTo]
theorem fromsTo_get (ls : List (List Int)) (k i : Nat) (h : i < (fromsTo ls k).length) : (fromsTo ls k)[i] = fromS ls (-1) i := by simp [fromsTo]

end Go.Proofs.Ytmgejacndhnikaa.W
namespace Go.Proofs.Ytmgejacndhnikaa.W
open Go.RowKit

/-- Of which nodes below k node i is sure. -/
noncomputable def lastTo (ls : List (List Int)) (i k : Nat) : Nat := setN fun x => x < k ∧ Ends ls (-1) i ∧ ¬ Ends ls (x : Int) i
noncomputable def lastS (ls : List (List Int)) (i : Nat) : Nat := lastTo ls i ls.length
noncomputable def lastL (ls : List (List Int)) : List Nat := (List.range ls.length).map (lastS ls)
noncomputable def sureS (ls : List (List Int)) (k : Nat) : Nat := andN (endS ls (-1)) (endS ls (k : Int))
theorem sureS_bit {ls : List (List Int)} (h8 : ls.length ≤ 8) (k i : Nat) : (sureS ls k).testBit i = true ↔ Ends ls (-1) i ∧ ¬ Ends ls (k : Int) i := by
  unfold sureS
  have := endS_lt ls (-1)
  rw [andN_bit _ (by omega), Bool.and_eq_true, Bool.not_eq_true', endS_bit h8, ← endS_bit h8 (k : Int) i, Bool.not_eq_true]
theorem lastTo_succ {ls : List (List Int)} (h8 : ls.length ≤ 8) {i k : Nat} (hk : k < 8) : lastTo ls i (k + 1) = lastTo ls i k ||| (((sureS ls k >>> i) &&& 1) <<< k) := by
  rw [and_one_shift]
  rw [Nat.testBit_shiftRight, Nat.add_zero]
  refine (setN_ext fun j => ?_).symm
  cases hb : (sureS ls k).testBit i
  · simp only [Bool.false_eq_true, if_false, Nat.or_zero]
    have hn : ¬ (Ends ls (-1) i ∧ ¬ Ends ls (k : Int) i) := fun h => by rw [(sureS_bit h8 k i).2 h] at hb; cases hb
    unfold lastTo
    rw [setN_bit]
    constructor
    · rintro ⟨h1, h2, h3⟩; exact ⟨h1, by omega, h3⟩
    · rintro ⟨h1, h2, h3⟩
      refine ⟨h1, ?_, h3⟩
      rcases Nat.lt_or_ge j k with h | h
      · exact h
      · have : j = k := by omega
        subst this; exact absurd h3 hn
  · simp only [if_true]
    rw [set_bit, Bool.or_eq_true, decide_eq_true_eq]
    unfold lastTo
    rw [setN_bit]
    constructor
    · rintro (⟨h1, h2, h3⟩ | rfl)
      · exact ⟨h1, by omega, h3⟩
      · exact ⟨by omega, by omega, (sureS_bit h8 k i).1 hb⟩
    · rintro ⟨h1, h2, h3⟩
      by_cases e : k = j
      · exact Or.inr e
      · exact Or.inl ⟨h1, by omega, h3⟩
/-- The rows when of node k the first i are done. -/
noncomputable def lIn (ls : List (List Int)) (k i : Nat) : List Nat := (List.range ls.length).map fun a => lastTo ls a (if a < i then k + 1 else k)
theorem lIn_len (ls : List (List Int)) (k i : Nat) : (lIn ls k i).length = ls.length := by simp [lIn]
theorem lIn_get (ls : List (List Int)) (k i a : Nat) (h : a < (lIn ls k i).length) : (lIn ls k i)[a] = lastTo ls a (if a < i then k + 1 else k) := by simp [lIn]
theorem lIn_zero (ls : List (List Int)) : lIn ls 0 0 = List.replicate ls.length 0 := by
  refine List.ext_getElem (by simp [lIn]) fun j h1 h2 => ?_
  rw [lIn_get, List.getElem_replicate, if_neg (by omega)]
  exact setN_false fun k _ h => by omega
theorem lIn_next (ls : List (List Int)) (k : Nat) : lIn ls k ls.length = lIn ls (k + 1) 0 := by
  refine List.ext_getElem (by simp [lIn]) fun j h1 h2 => ?_
  rw [lIn_len] at h1
  rw [lIn_get, lIn_get, if_pos h1, if_neg (by omega)]
theorem lIn_all (ls : List (List Int)) : lIn ls ls.length 0 = lastL ls := by
  refine List.ext_getElem (by simp [lIn, lastL]) fun j h1 h2 => ?_
  rw [lIn_get, if_neg (by omega)]
  simp [lastL, lastS]
theorem lIn_step {ls : List (List Int)} (h8 : ls.length ≤ 8) {k i : Nat} (hk : k < 8) : (lIn ls k i).set i (lastTo ls i k ||| (((sureS ls k >>> i) &&& 1) <<< k)) = lIn ls k (i + 1) := by
  refine List.ext_getElem (by simp [lIn]) fun j h1 h2 => ?_
  rw [List.getElem_set, lIn_get, lIn_get]
  by_cases e : i = j
  · subst e
    have h' : i < i + 1 := by omega
    rw [if_pos rfl, if_pos h', lastTo_succ h8 hk]
  · rw [if_neg e]
    by_cases h : j < i
    · have h' : j < i + 1 := by omega
      rw [if_pos h, if_pos h']
    · rw [if_neg h, if_neg (by omega)]
theorem lastTo_lt (ls : List (List Int)) (i k : Nat) : lastTo ls i k < 256 := setN_lt _

end Go.Proofs.Ytmgejacndhnikaa.W
namespace Go.Proofs.Ytmgejacndhnikaa.W

structure LawD where
  back : Bool
  all : Bool
  makes : List Nat
  ends : List Nat
  start : Nat
/-- Edges of a list of rows, whatever its rows. -/
def EdgeG (g : List (List Int)) (a b : Nat) : Prop := ∃ l, g[a]? = some l ∧ (b : Int) ∈ l
inductive FR (E : Nat → Nat → Prop) (F : Nat → Prop) : Nat → Prop
  | first {i : Nat} (h : F i) : FR E F i
  | step {i j : Nat} (h : FR E F i) (e : E i j) : FR E F j
/-- Polar bits: of 'some' a fact that holds, of 'all' one that does not. -/
def pb (all : Bool) (s b : Nat) : Bool := s.testBit b != all
def genB (L : LawD) (i b : Nat) : Bool := if L.all then (L.ends.getD i 0).testBit b && !(L.makes.getD i 0).testBit b else (L.makes.getD i 0).testBit b
def keepB (L : LawD) (i b : Nat) : Bool := if L.all then !(L.makes.getD i 0).testBit b else !(L.ends.getD i 0).testBit b
inductive FP (E : Nat → Nat → Prop) (F : Nat → Prop) (L : LawD) : Nat → Nat → Prop
  | start {i b : Nat} (h : F i) (hs : pb L.all L.start b = true) : FP E F L i b
  | gen {i j b : Nat} (h : FR E F i) (e : E i j) (hg : genB L i b = true) : FP E F L j b
  | keep {i j b : Nat} (h : FP E F L i b) (e : E i j) (hk : keepB L i b = true) : FP E F L j b
/-- What is so behind a node. -/
noncomputable def beh (L : LawD) (i s : Nat) : Nat := andN s (L.ends.getD i 0) ||| L.makes.getD i 0
theorem beh_pb (L : LawD) (i : Nat) {s b : Nat} (hs : s < 256) (_hb : b < 8) : pb L.all (beh L i s) b = (genB L i b || (pb L.all s b && keepB L i b)) := by
  unfold pb beh genB keepB
  rw [Nat.testBit_or, andN_bit _ (by omega)]
  cases L.all <;> cases s.testBit b <;> cases (L.ends.getD i 0).testBit b <;> cases (L.makes.getD i 0).testBit b <;> rfl
theorem beh_lt {L : LawD} {i s : Nat} (hs : s < 256) (hm : ∀ i, L.makes.getD i 0 < 256) : beh L i s < 256 := by
  unfold beh
  refine lt_pow_of_bits (n := 8) fun k hk => ?_
  rw [Nat.testBit_or, Bool.or_eq_true, andN_bit _ (by omega)] at hk
  rcases hk with hk | hk
  · rw [Bool.and_eq_true] at hk; exact bit_lt (n := 8) hs hk.1
  · exact bit_lt (n := 8) (hm i) hk
def comb (all : Bool) (x y : Nat) : Nat := if all then x &&& y else x ||| y
theorem comb_pb (all : Bool) (x y b : Nat) : pb all (comb all x y) b = (pb all x b || pb all y b) := by
  unfold pb comb
  cases all
  · rw [if_neg (by decide), Nat.testBit_or]; cases x.testBit b <;> cases y.testBit b <;> rfl
  · rw [if_pos rfl, Nat.testBit_and]; cases x.testBit b <;> cases y.testBit b <;> rfl
theorem comb_lt {all : Bool} {x y : Nat} (hx : x < 256) (hy : y < 256) : comb all x y < 256 := by
  unfold comb
  split
  · exact Nat.lt_of_le_of_lt Nat.and_le_left hx
  · exact Nat.or_lt_two_pow (n := 8) hx hy
structure Fa (E : Nat → Nat → Prop) (F : Nat → Prop) (L : LawD) (n : Nat) (r : List Nat) (c : Nat) : Prop where
  len : r.length = n
  lt : ∀ i, r.getD i 0 < 256
  c8 : c < 256
  come : ∀ j, c.testBit j = true → FR E F j
  first : ∀ j, F j → c.testBit j = true
  sound : ∀ i b, i < n → b < 8 → pb L.all (r.getD i 0) b = true → FP E F L i b
  start : ∀ i b, F i → b < 8 → pb L.all L.start b = true → pb L.all (r.getD i 0) b = true
section
variable {E : Nat → Nat → Prop} {F : Nat → Prop} {L : LawD} {n : Nat} {r : List Nat} {c : Nat}
theorem getD_set_ {r : List Nat} {j : Nat} (hj : j < r.length) (s i : Nat) : (r.set j s).getD i 0 = if j = i then s else r.getD i 0 := by
  rw [List.getD_eq_getElem?_getD, List.getElem?_set, List.getD_eq_getElem?_getD]
  by_cases h : j = i
  · rw [if_pos h, if_pos h, if_pos hj]; rfl
  · rw [if_neg h, if_neg h]
theorem Fa.step (h : Fa E F L n r c) (hm : ∀ i, L.makes.getD i 0 < 256) {i j : Nat} (hi : i < n) (hj : j < n) (hj8 : j < 8) (hc : c.testBit i = true) (e : E i j) :
    Fa E F L n (r.set j (comb L.all (r.getD j 0) (beh L i (r.getD i 0)))) (c ||| 2 ^ j) := by
  have hjr : j < r.length := by rw [h.len]; exact hj
  refine ⟨by rw [List.length_set]; exact h.len, fun k => ?_, Nat.or_lt_two_pow (n := 8) h.c8 (Nat.pow_lt_pow_right (by decide) hj8), fun k hk => ?_, fun k hk => ?_, fun k b hk hb hp => ?_, fun k b hk hb hp => ?_⟩
  · rw [getD_set_ hjr]
    split
    · exact comb_lt (h.lt j) (beh_lt (h.lt i) hm)
    · exact h.lt k
  · rw [set_bit, Bool.or_eq_true, decide_eq_true_eq] at hk
    rcases hk with hk | rfl
    · exact h.come k hk
    · exact .step (h.come i hc) e
  · rw [set_bit, h.first k hk]; rfl
  · rw [getD_set_ hjr] at hp
    split at hp
    · rename_i ejk
      subst ejk
      rw [comb_pb, beh_pb L i (h.lt i) hb, Bool.or_eq_true, Bool.or_eq_true, Bool.and_eq_true] at hp
      rcases hp with hp | hp | ⟨hp, hk'⟩
      · exact h.sound _ b hk hb hp
      · exact .gen (h.come i hc) e hp
      · exact .keep (h.sound i b hi hb hp) e hk'
    · exact h.sound k b hk hb hp
  · rw [getD_set_ hjr]
    split
    · rename_i ejk
      subst ejk
      rw [comb_pb, h.start _ b hk hb hp]; rfl
    · exact h.start k b hk hb hp
/-- Nothing new along an edge. -/
def Cl (L : LawD) (r : List Nat) (c i j : Nat) : Prop := c.testBit j = true ∧ ∀ b, b < 8 → pb L.all (beh L i (r.getD i 0)) b = true → pb L.all (r.getD j 0) b = true
theorem Cl.of {i j : Nat} (hj : c.testBit j = true) (hs : comb L.all (r.getD j 0) (beh L i (r.getD i 0)) = r.getD j 0) : Cl L r c i j := ⟨hj, fun b _ hp => by
  rw [← hs, comb_pb, hp]; simp⟩
theorem Fa.done (h : Fa E F L n r c) (hcl : ∀ i j, c.testBit i = true → E i j → Cl L r c i j) :
    (∀ i, c.testBit i = true ↔ FR E F i) ∧ ∀ i b, i < n → b < 8 → (pb L.all (r.getD i 0) b = true ↔ FP E F L i b) := by
  have hR : ∀ i, FR E F i → c.testBit i = true := fun i hi => by
    induction hi with
    | first hf => exact h.first _ hf
    | step _ e ih => exact (hcl _ _ ih e).1
  have hP : ∀ i b, FP E F L i b → b < 8 → c.testBit i = true ∧ pb L.all (r.getD i 0) b = true := fun i b hp => by
    induction hp with
    | start hf hs => exact fun hb => ⟨h.first _ hf, h.start _ _ hf hb hs⟩
    | gen hr e hg =>
      intro hb
      have hc := hR _ hr
      refine ⟨(hcl _ _ hc e).1, (hcl _ _ hc e).2 _ hb ?_⟩
      rw [beh_pb L _ (h.lt _) hb, hg]; rfl
    | keep _ e hk ih =>
      intro hb
      obtain ⟨hc, hp⟩ := ih hb
      refine ⟨(hcl _ _ hc e).1, (hcl _ _ hc e).2 _ hb ?_⟩
      rw [beh_pb L _ (h.lt _) hb, hp, hk]; simp
  exact ⟨fun i => ⟨h.come i, hR i⟩, fun i b hi hb => ⟨h.sound i b hi hb, fun hp => (hP i b hp hb).2⟩⟩
/-- How much has come. -/
def wtF (all : Bool) (r : List Nat) (c : Nat) : Nat := (if all then 8 * r.length - wtR r else wtR r) + cnt8 c
theorem wtR_le_ : ∀ (r : List Nat), wtR r ≤ 8 * r.length
  | [] => Nat.le_refl _
  | a :: r => by
    have := wtR_le_ r
    have := cnt8_le a
    simp only [wtR, List.map_cons, List.sum_cons, List.length_cons] at *
    omega
theorem wtF_le (all : Bool) (r : List Nat) (c : Nat) : wtF all r c ≤ 8 * r.length + 8 := by
  have := wtR_le_ r
  have := cnt8_le c
  unfold wtF
  split <;> omega
theorem wtR_gt {r : List Nat} {j : Nat} (hj : j < r.length) (s : Nat) (h : cnt8 r[j] < cnt8 s) : wtR r < wtR (r.set j s) := by
  have h1 := wtR_set (r := r.set j s) (j := j) (by rw [List.length_set]; exact hj) r[j] (by rw [List.getElem_set_self]; exact h)
  rwa [List.set_set, List.set_getElem_self] at h1
theorem cnt8_up (c j : Nat) (hj : j < 8) : cnt8 c ≤ cnt8 (c ||| 2 ^ j) := by
  cases hb : c.testBit j
  · rw [cnt8_set hj hb]; omega
  · have : c ||| 2 ^ j = c := set_ext fun k => by
      rw [set_bit]
      by_cases e : j = k
      · subst e; rw [hb]; rfl
      · simp [e]
    rw [this]; exact Nat.le_refl _
theorem wtF_lt {all : Bool} {r : List Nat} {c j : Nat} (hj : j < r.length) (hj8 : j < 8) (hl : ∀ i, r.getD i 0 < 256) {y : Nat} (hy : y < 256) (hn : comb all (r.getD j 0) y ≠ r.getD j 0 ∨ c.testBit j = false) :
    wtF all r c < wtF all (r.set j (comb all (r.getD j 0) y)) (c ||| 2 ^ j) := by
  have hg : r.getD j 0 = r[j] := by rw [List.getD_eq_getElem?_getD, List.getElem?_eq_getElem hj]; rfl
  have hlj := hl j
  rw [hg] at hn hlj ⊢
  have hu := cnt8_up c j hj8
  have hle := wtR_le_ r
  by_cases hs : comb all r[j] y = r[j]
  · have hc := hn.resolve_left (fun h => h hs)
    rw [hs, List.set_getElem_self]
    unfold wtF
    have := cnt8_set hj8 hc
    omega
  · unfold wtF
    rw [List.length_set]
    cases all
    · have : cnt8 r[j] < cnt8 (comb false r[j] y) := cnt8_mono_lt (fun k hk => by unfold comb; rw [if_neg (by decide), Nat.testBit_or, hk]; rfl) (fun e => hs e.symm) (comb_lt hlj hy)
      have := wtR_gt hj _ this
      simp only [Bool.false_eq_true, if_false]
      omega
    · have : cnt8 (comb true r[j] y) < cnt8 r[j] := cnt8_mono_lt (fun k hk => by unfold comb at hk; rw [if_pos rfl, Nat.testBit_and, Bool.and_eq_true] at hk; exact hk.1) hs hlj
      have := wtR_set hj _ this
      simp only [if_true]
      omega
/-- A sweep: what it has seen so far. -/
structure Sw (E : Nat → Nat → Prop) (F : Nat → Prop) (L : LawD) (n w0 : Nat) (r : List Nat) (c : Nat) (more : Bool) (seen : Nat → Nat → Prop) : Prop where
  fa : Fa E F L n r c
  ge : w0 ≤ wtF L.all r c
  new : more = true → w0 < wtF L.all r c
  old : more = false → ∀ i j, seen i j → c.testBit i = true → E i j → Cl L r c i j
theorem Sw.mono {w0 : Nat} {more : Bool} {seen seen' : Nat → Nat → Prop} (h : Sw E F L n w0 r c more seen) (hs : ∀ i j, seen' i j → c.testBit i = true → E i j → seen i j) : Sw E F L n w0 r c more seen' :=
  ⟨h.fa, h.ge, h.new, fun hm i j hij hc e => h.old hm i j (hs i j hij hc e) hc e⟩
theorem Sw.same {w0 : Nat} {more : Bool} {seen seen' : Nat → Nat → Prop} (h : Sw E F L n w0 r c more seen) {i j : Nat} (hs : ∀ a b, seen' a b → seen a b ∨ (a = i ∧ b = j)) (hj : c.testBit j = true) (he : comb L.all (r.getD j 0) (beh L i (r.getD i 0)) = r.getD j 0) : Sw E F L n w0 r c more seen' :=
  ⟨h.fa, h.ge, h.new, fun hm a b hab hc e => by
    rcases hs a b hab with h1 | ⟨rfl, rfl⟩
    · exact h.old hm a b h1 hc e
    · exact Cl.of hj he⟩
theorem Sw.turn {w0 : Nat} {more : Bool} {seen : Nat → Nat → Prop} (h : Sw E F L n w0 r c more seen) (seen' : Nat → Nat → Prop) (hm : ∀ i, L.makes.getD i 0 < 256) {i j : Nat} (hi : i < n) (hj : j < n) (hj8 : j < 8) (hc : c.testBit i = true) (e : E i j)
    (hn : comb L.all (r.getD j 0) (beh L i (r.getD i 0)) ≠ r.getD j 0 ∨ c.testBit j = false) :
    Sw E F L n w0 (r.set j (comb L.all (r.getD j 0) (beh L i (r.getD i 0)))) (c ||| 2 ^ j) true seen' := by
  have hw := wtF_lt (all := L.all) (r := r) (c := c) (j := j) (by rw [h.fa.len]; exact hj) hj8 h.fa.lt (beh_lt (L := L) (i := i) (h.fa.lt i) hm) hn
  have := h.ge
  exact ⟨h.fa.step hm hi hj hj8 hc e, by omega, fun _ => by omega, fun h => by cases h⟩
end
end Go.Proofs.Ytmgejacndhnikaa.W
namespace Go.Proofs.Ytmgejacndhnikaa.W
open Go.RowKit

def tTo (ls : List (List Int)) (j i : Nat) : List Int := ((List.range i).filter fun a => decide ((j : Int) ∈ ls.getD a [])).map fun a : Nat => (a : Int)
def trow (ls : List (List Int)) (j : Nat) : List Int := tTo ls j ls.length
def turned (ls : List (List Int)) : List (List Int) := (List.range ls.length).map (trow ls)
theorem tTo_yes {ls : List (List Int)} {j i : Nat} (hi : i < ls.length) (h : (j : Int) ∈ ls[i]) : tTo ls j (i + 1) = tTo ls j i ++ [(i : Int)] := by
  unfold tTo
  rw [List.range_succ, List.filter_append, List.map_append]
  have : ls.getD i [] = ls[i] := by rw [List.getD_eq_getElem?_getD, List.getElem?_eq_getElem hi]; rfl
  simp only [List.filter_cons, this, decide_eq_true h, if_true, List.filter_nil, List.map_cons, List.map_nil]
theorem tTo_no {ls : List (List Int)} {j i : Nat} (hi : i < ls.length) (h : (j : Int) ∉ ls[i]) : tTo ls j (i + 1) = tTo ls j i := by
  unfold tTo
  rw [List.range_succ, List.filter_append, List.map_append]
  have : ls.getD i [] = ls[i] := by rw [List.getD_eq_getElem?_getD, List.getElem?_eq_getElem hi]; rfl
  simp only [List.filter_cons, this, decide_eq_false h, Bool.false_eq_true, if_false, List.filter_nil, List.map_nil, List.append_nil]
theorem tTo_len (ls : List (List Int)) (j i : Nat) : (tTo ls j i).length ≤ i := by
  unfold tTo
  rw [List.length_map]
  have := List.length_filter_le (fun a => decide ((j : Int) ∈ ls.getD a [])) (List.range i)
  simpa using this

/-- A row of whatever values: each a cell. -/
abbrev oneV (v : Value) : List Value := [v]
abbrev OwnV (w : World) (base E : Nat) (v : Value) (l : List Value) : Prop := Own oneV 1 w base E v l
theorem oneV_flat (l : List Value) : l.flatMap oneV = l := by
  induction l with
  | nil => rfl
  | cons x r ih => rw [List.flatMap_cons, ih]; rfl
theorem infoInts : (Try.prog.info? 23).map (fun i => (i.zero, i.size, i.bytes)) = some (some (.slice none 0 0), 1, 24) := by kernel_rfl
/-- 'make([][]int, n)'. -/
theorem wpList_makeN {w : World} {ops : Array Oper} {rest : List Oper} {o : Oper} {a : Act} {Q : Exit → Act → World → Prop} (hg : o.guard = none) (lo c : Operand) (hop : o.op = Op.makeSlice 97 lo c)
    (base n : Nat) (hl : a.eval lo = .int .i64 (n : Int)) (hc : a.eval c = .int .i64 (n : Int)) (hn : n < 1000000) (hbase : base ≤ w.heap.size)
    (h : ∀ w', OwnV w' base 23 (.slice (some ⟨w.heap.size, 0, none⟩) n n) (List.replicate n (.slice none 0 0)) → w.grownBy w' none → wpList Try.prog ops Q rest (a.put o.dst (.slice (some ⟨w.heap.size, 0, none⟩) n n)) w') : wpList Try.prog ops Q (o :: rest) a w := by
  obtain ⟨i, hi, hz0, hz1, hz2⟩ := info_parts infoInts
  refine wpList_make_full w hg lo c 97 hop base 23 i (.slice none 0 0) 1 Try.underlying97 hi hz0 hz1 .i64 .i64 n n n hl hc rfl rfl (by rw [hz2]; omega) (by unfold maxLen; omega) hbase fun w' h1 h2 => ?_
  refine h w' ?_ h2
  have e : (madeCells (Value.slice none 0 0).cells (n * 1)).toList = (List.replicate n (Value.slice none 0 0)).flatMap oneV := by
    rw [show (Value.slice none 0 0).cells = #[.slice none 0 0] from rfl, Nat.mul_one, toList_madeCells_one]
    rw [oneV_flat]
  rw [e] at h1
  unfold OwnV Own
  rw [List.length_replicate]
  exact h1
theorem OwnV.at2 {w : World} {base n c E : Nat} {A : Option Addr} {l : List Value} (h : OwnV w base E (.slice A n c) l) (hl : 0 < l.length) :
    ∃ g, A = some ⟨g, 0, none⟩ ∧ base ≤ g ∧ g < w.heap.size ∧ (∀ j, w.frozen? ⟨g, j, none⟩ = false) ∧ ∀ k (_hk : k < l.length), w.cell? ⟨g, k, none⟩ = some l[k] := by
  obtain ⟨g, cap, e, h1, h2, h3, h4⟩ := h.some_ hl
  injection e with e1 e2 e3
  subst e1 e2 e3
  refine ⟨g, rfl, h1, h2, h4, fun k hk => ?_⟩
  have := Own.cell_ (f := oneV) (size := 1) (fun _ => rfl) h hk (j := 0) (by decide)
  simpa using this
theorem OwnV.set_ {w : World} {base g cap n E : Nat} {l : List Value} (h : OwnV w base E (.slice (some ⟨g, 0, none⟩) n cap) l) {k : Nat} (y : Value) :
    OwnV (w.setCell ⟨g, k, none⟩ y) base E (.slice (some ⟨g, 0, none⟩) n cap) (l.set k y) := by
  have hn : n = l.length := by
    rcases h.2 with ⟨h0, _⟩ | ⟨_, _, _, h0, _⟩
    · cases h0
    · injection h0
  subst hn
  have h1 := World.ownsRow.stored (w := w) (base := base) (e := E) (size := 1) (g := g) (cap := cap) (n := l.length) (xs := l.flatMap oneV) h k y
  unfold OwnV Own
  rw [oneV_flat] at h1 ⊢
  rw [List.length_set]
  exact h1.1
theorem grown_set (w : World) (g k : Nat) (v : Value) : w.grownBy (w.setCell ⟨g, k, none⟩ v) (some g) :=
  ⟨rfl, rfl, rfl, by simp [World.setCell], fun i _ hne => Below.heap_setCell w ⟨g, k, none⟩ v i (fun e => hne (by rw [e]))⟩
/-- What reads on where one block alone turned. -/
theorem Rd.grown {α : Type} {f : α → List Value} {size : Nat} {w w' : World} {A : Option Addr} {l : List α} {g : Nat} (h : Rd f size w A l) (hg : w.grownBy w' (some g)) (hne : ∀ p, A = some p → p.block ≠ g) : Rd f size w' A l := fun hn => by
  obtain ⟨b, off, e, hb, hc⟩ := h hn
  refine ⟨b, off, e, by have := hg.size; omega, fun k x hx j hj => ?_⟩
  rw [← hc k x hx j hj]
  have := hg.block b hb (fun h => hne _ e (by injection h))
  simp only [World.cell?, this]

/-- The first j rows are turned, the others nil. -/
structure TN (ls : List (List Int)) (w : World) (base : Nat) (j : Nat) (vals : List Value) : Prop where
  len : vals.length = ls.length
  own : OwnV w base 23 (.slice (some ⟨base, 0, none⟩) ls.length ls.length) vals
  done : ∀ k (h : k < vals.length), k < j → ∃ A' cap', vals[k] = .slice A' (trow ls k).length cap' ∧ RdI w A' (trow ls k) ∧ ∀ p, A' = some p → base < p.block
  rest : ∀ k (h : k < vals.length), j ≤ k → vals[k] = .slice none 0 0
/-- Of row j what comes of the first i. -/
structure TI (ls : List (List Int)) (w0 w : World) (base : Nat) (j i : Nat) (vals : List Value) (v : Value) : Prop where
  own : OwnV w base 23 (.slice (some ⟨base, 0, none⟩) ls.length ls.length) (vals.set j v)
  row : OwnI w w0.heap.size 3 v (tTo ls j i)
  grown : w0.grownBy w (some base)
theorem TN.start {ls : List (List Int)} {w : World} {base j : Nat} {vals : List Value} (h : TN ls w base j vals) (hj : j < ls.length) : TI ls w w base j 0 vals (.slice none 0 0) :=
  ⟨by have hk : j < vals.length := by rw [h.len]; exact hj
      have : vals.set j (.slice none 0 0) = vals := by rw [← h.rest j hk (Nat.le_refl _)]; exact List.set_getElem_self hk
      rw [this]; exact h.own, Own.nil_ _ _ _, ⟨rfl, rfl, rfl, Nat.le_refl _, fun _ _ _ => rfl⟩⟩
theorem TI.finish {ls : List (List Int)} {w0 w : World} {base j : Nat} {vals : List Value} {v : Value} (h0 : TN ls w0 base j vals) (h : TI ls w0 w base j ls.length vals v) (hb : base < w0.heap.size) : TN ls w base (j + 1) (vals.set j v) := by
  refine ⟨by rw [List.length_set]; exact h0.len, h.own, fun k hk hlt => ?_, fun k hk hge => ?_⟩
  · rw [List.length_set] at hk
    rw [List.getElem_set]
    by_cases e : j = k
    · subst e
      rw [if_pos rfl]
      obtain ⟨A', cap', h1, h2, h3, _⟩ := h.row.form intCells_len
      exact ⟨A', cap', h1, h2, fun p hp => by have := (h3 p hp).1; omega⟩
    · rw [if_neg e]
      obtain ⟨A', cap', h1, h2, h3⟩ := h0.done k hk (by omega)
      exact ⟨A', cap', h1, Rd.grown h2 h.grown (fun p hp => by have := h3 p hp; omega), h3⟩
  · rw [List.length_set] at hk
    rw [List.getElem_set, if_neg (by omega)]
    exact h0.rest k hk (by omega)
/-- Rows of rows that lie in no block below base. -/
def RdNF (base : Nat) (w : World) (A : Option Addr) (ls : List (List Int)) : Prop :=
  0 < ls.length → ∃ b off, A = some ⟨b, off, none⟩ ∧ base ≤ b ∧ b < w.heap.size ∧
    ∀ (k : Nat) (l : List Int), ls[k]? = some l → ∃ A' cap', w.cell? ⟨b, off + k, none⟩ = some (.slice A' l.length cap') ∧ RdI w A' l ∧ ∀ p, A' = some p → base ≤ p.block
theorem RdNF.rd {base : Nat} {w : World} {A : Option Addr} {ls : List (List Int)} (h : RdNF base w A ls) : RdN w A ls := fun hn => by
  obtain ⟨b, off, e, _, hlt, hc⟩ := h hn
  refine ⟨b, off, e, hlt, fun k l hk => ?_⟩
  obtain ⟨A', cap', h1, h2, _⟩ := hc k l hk
  exact ⟨A', cap', h1, h2⟩
theorem RdNF.grown {base : Nat} {w w' : World} {A : Option Addr} {ls : List (List Int)} {g : Nat} (h : RdNF base w A ls) (hg : w.grownBy w' (some g)) (hlt : g < base) : RdNF base w' A ls := fun hn => by
  obtain ⟨b, off, e, hge, hb, hc⟩ := h hn
  refine ⟨b, off, e, hge, by have := hg.size; omega, fun k l hk => ?_⟩
  obtain ⟨A', cap', h1, h2, h3⟩ := hc k l hk
  refine ⟨A', cap', ?_, Rd.grown h2 hg (fun p hp => by have := h3 p hp; omega), h3⟩
  rw [← h1]
  have := hg.block b hb (fun h => by injection h with h; omega)
  simp only [World.cell?, this]
theorem TN.finish {ls : List (List Int)} {w : World} {base : Nat} {vals : List Value} (h : TN ls w base ls.length vals) : RdNF base w (some ⟨base, 0, none⟩) (turned ls) := fun hn => by
  have hn : 0 < vals.length := by rw [h.len]; simpa [turned] using hn
  obtain ⟨g, e, _, hlt, _, hc⟩ := OwnV.at2 h.own hn
  injection e with e; injection e with e
  subst e
  refine ⟨base, 0, rfl, Nat.le_refl _, hlt, fun k l hk => ?_⟩
  have hk1 : k < ls.length := by
    have := (List.getElem?_eq_some_iff.1 hk).1
    simpa [turned] using this
  have hl : l = trow ls k := by
    unfold turned at hk
    rw [List.getElem?_map, List.getElem?_range hk1] at hk
    injection hk with hk; exact hk.symm
  subst hl
  obtain ⟨A', cap', h1, h2, h3⟩ := h.done k (by rw [h.len]; exact hk1) hk1
  refine ⟨A', cap', ?_, h2, fun p hp => by have := h3 p hp; omega⟩
  rw [Nat.zero_add, hc k (by rw [h.len]; exact hk1), h1]

theorem own_far {w : World} {B E base : Nat} {v : Value} {l : List Int} (h : OwnI w B E v l) (hb : base < B) : some base ≠ v.ownBlock := by
  rcases h.2 with ⟨rfl, _⟩ | ⟨g, cap, cur, rfl, hg, _⟩
  · intro e; cases e
  · intro e
    have e : some base = some g := e
    injection e with e
    omega
theorem TI.push {ls : List (List Int)} {w0 w w3 : World} {base j i : Nat} {vals : List Value} {v v' : Value} {o : Obj} (h : TI ls w0 w base j i vals v) (hi : i < ls.length) (hm : (j : Int) ∈ ls[i]) (hb : base < w0.heap.size)
    (hgrow : (w.alloc o).grownBy w3 v.ownBlock) (hown : OwnI w3 w0.heap.size 3 v' (tTo ls j i ++ [(i : Int)])) :
    OwnV w3 base 23 (.slice (some ⟨base, 0, none⟩) ls.length ls.length) (vals.set j v) ∧ TI ls w0 (w3.setCell ⟨base, j, none⟩ v') base j (i + 1) vals v' := by
  have hV : OwnV w3 base 23 (.slice (some ⟨base, 0, none⟩) ls.length ls.length) (vals.set j v) := Own.kept (h.own.alloc o) hgrow (Or.inr (own_far h.row hb))
  have hs := h.grown.size
  refine ⟨hV, ⟨?_, ?_, ?_⟩⟩
  · have := OwnV.set_ hV (k := j) v'
    rw [List.set_set] at this
    exact this
  · rw [tTo_yes hi hm]
    exact Own.far hown (fun e => own_far hown hb e.symm) v'
  · have g1 : w0.grownBy (w.alloc o) (some base) := h.grown.andThen (World.grownBy_alloc w o none) (fun j hj => by cases hj)
    have g2 : w0.grownBy w3 (some base) := g1.andThen hgrow (fun j hj => by
      rcases h.row.2 with ⟨rfl, _⟩ | ⟨g, cap, cur, rfl, hg, _⟩
      · cases hj
      · have hj : some g = some j := hj
        injection hj with hj
        exact Or.inl (by omega))
    exact g2.andThen (grown_set w3 base j v') (fun j hj => Or.inr hj)

end Go.Proofs.Ytmgejacndhnikaa.W
namespace Go.Proofs.Ytmgejacndhnikaa.W
open Go.RowKit

structure RdL (w : World) (A B : Option Addr) (L : LawD) : Prop where
  mr : RdU w A L.makes
  er : RdU w B L.ends
  st : L.start < 4294967296
  mb : ∀ x ∈ L.makes, x < 4294967296
  eb : ∀ x ∈ L.ends, x < 4294967296
theorem RdL.below {w w' : World} {A B : Option Addr} {L : LawD} (h : RdL w A B L) (hb : Below w.heap.size w w') : RdL w' A B L := ⟨Rd.below h.mr hb, Rd.below h.er hb, h.st, h.mb, h.eb⟩
def facErr (ls : List (List Int)) (L : LawD) : Int :=
  if wayErr ls ≠ 0 then wayErr ls else if L.makes.length ≠ ls.length ∨ L.ends.length ≠ ls.length then 3 else if (L.makes ++ L.ends ++ [L.start]).any (fun x => decide (255 < x)) then 4 else 0
/-- What a law that may be is. -/
structure FacOk (ls : List (List Int)) (L : LawD) : Prop where
  way : wayErr ls = 0
  ml : L.makes.length = ls.length
  el : L.ends.length = ls.length
  m8 : ∀ x ∈ L.makes, x < 256
  e8 : ∀ x ∈ L.ends, x < 256
  s8 : L.start < 256
theorem facErr_ok {ls : List (List Int)} {L : LawD} (h : facErr ls L = 0) : FacOk ls L := by
  unfold facErr at h
  split at h
  · rename_i h1; exact absurd h h1
  · rename_i h1
    split at h
    · cases h
    · rename_i h2
      split at h
      · cases h
      · rename_i h3
        have h3' : ∀ x ∈ L.makes ++ L.ends ++ [L.start], ¬ 255 < x := fun x hx hlt => h3 (by rw [List.any_eq_true]; exact ⟨x, hx, decide_eq_true hlt⟩)
        exact ⟨Classical.not_not.1 h1, Classical.not_not.1 (fun h => h2 (Or.inl h)), Classical.not_not.1 (fun h => h2 (Or.inr h)), fun x hx => by have := h3' x (by simp [hx]); omega, fun x hx => by have := h3' x (by simp [hx]); omega, by have := h3' L.start (by simp); omega⟩
theorem facErr_of {ls : List (List Int)} {L : LawD} (h : FacOk ls L) : facErr ls L = 0 := by
  unfold facErr
  rw [if_neg (fun h' => h' h.way), if_neg (by have := h.ml; have := h.el; omega), if_neg]
  rw [List.any_eq_true]
  rintro ⟨x, hx, hlt⟩
  have hlt := of_decide_eq_true hlt
  simp at hx
  rcases hx with hx | hx | hx
  · have := h.m8 x hx; omega
  · have := h.e8 x hx; omega
  · subst hx; have := h.s8; omega
theorem getD_lt256 {r : List Nat} (h : ∀ x ∈ r, x < 256) (i : Nat) : r.getD i 0 < 256 := by
  rw [List.getD_eq_getElem?_getD]
  cases e : r[i]? with
  | none => simp
  | some x => exact h x (List.mem_of_getElem? e)
theorem getD_at {r : List Nat} {i : Nat} (h : i < r.length) : r.getD i 0 = r[i] := by rw [List.getD_eq_getElem?_getD, List.getElem?_eq_getElem h]; rfl
end Go.Proofs.Ytmgejacndhnikaa.W
namespace Go.Proofs.Ytmgejacndhnikaa.W
open Go.RowKit

theorem u32_under : Try.prog.underlying 24 = some (.int .u32) := by kernel_rfl
/-- A slice of slices of words. -/
def RdW (w : World) (A : Option Addr) (ls : List (List Nat)) : Prop :=
  0 < ls.length → ∃ b off, A = some ⟨b, off, none⟩ ∧ b < w.heap.size ∧
    ∀ (k : Nat) (l : List Nat), ls[k]? = some l → ∃ A' cap', w.cell? ⟨b, off + k, none⟩ = some (.slice A' l.length cap') ∧ RdU w A' l
theorem RdW.below {w w' : World} {A : Option Addr} {ls : List (List Nat)} (h : RdW w A ls) (hb : Below w.heap.size w w') : RdW w' A ls := fun hn => by
  obtain ⟨b, off, e, hlt, hc⟩ := h hn
  refine ⟨b, off, e, by have := hb.size; omega, fun k l hk => ?_⟩
  obtain ⟨A', cap', h1, h2⟩ := hc k l hk
  exact ⟨A', cap', (hb.cell (p := ⟨b, off + k, none⟩) hlt).trans h1, Rd.below h2 hb⟩
theorem RdW.at_ {w : World} {A : Option Addr} {ls : List (List Nat)} (h : RdW w A ls) {k : Nat} (hk : k < ls.length) :
    ∃ b off A' cap', A = some ⟨b, off, none⟩ ∧ b < w.heap.size ∧ w.cell? ⟨b, off + k, none⟩ = some (.slice A' ls[k].length cap') ∧ RdU w A' ls[k] := by
  obtain ⟨b, off, e, hlt, hc⟩ := h (by omega)
  obtain ⟨A', cap', h1, h2⟩ := hc k _ (List.getElem?_eq_getElem hk)
  exact ⟨b, off, A', cap', e, hlt, h1, h2⟩
theorem flat_take {ls : List (List Nat)} {k : Nat} (hk : k < ls.length) : (ls.take (k + 1)).flatten = (ls.take k).flatten ++ ls[k] := by
  rw [List.take_succ_eq_append_getElem hk, List.flatten_append, List.flatten_cons, List.flatten_nil, List.append_nil]
def flen (ls : List (List Nat)) : Nat := ls.flatten.length
end Go.Proofs.Ytmgejacndhnikaa.W
namespace Go.Proofs.Ytmgejacndhnikaa.W
open Go.RowKit

def BigEnd (l : List Nat) (w : World) (e : Ending) (w' : World) : Prop :=
  w' = w ∧ ∃ m : Int, e = .returned (.int .i64 m) ∧ ((m = -1 ∧ ∀ x ∈ l, decide (255 < x) = false) ∨ (0 ≤ m ∧ ∃ x ∈ l, decide (255 < x) = true))
theorem rdU_new1 (w : World) (x : Nat) (E s : Nat) (hs : w.heap.size = s) : RdU (w.alloc (.cells #[.int .u32 (x : Nat)] E)) (some ⟨s, 0, none⟩) [x] :=
  rd_new w [x] _ E s hs fun k y hk j hj => by
    have : j = 0 := by omega
    subst this
    match k, hk with
    | 0, hk => simp at hk; subst hk; rfl
theorem rdW_new3 (w : World) {A B C : Option Addr} {a b c : List Nat} (ca cb cc E s : Nat) (hs : w.heap.size = s) (hA : RdU w A a) (hB : RdU w B b) (hC : RdU w C c) :
    RdW (w.alloc (.cells #[.slice A a.length ca, .slice B b.length cb, .slice C c.length cc] E)) (some ⟨s, 0, none⟩) [a, b, c] := fun _ => by
  have hb : Below w.heap.size w (w.alloc (.cells #[.slice A a.length ca, .slice B b.length cb, .slice C c.length cc] E)) := (Below.refl _ _).alloc (Nat.le_refl _) _
  refine ⟨s, 0, rfl, by simp [← hs], fun k l hk => ?_⟩
  match k, hk with
  | 0, hk => simp at hk; subst hk; exact ⟨A, ca, cell_new w _ E s hs 0, Rd.below hA hb⟩
  | 1, hk => simp at hk; subst hk; exact ⟨B, cb, cell_new w _ E s hs 1, Rd.below hB hb⟩
  | 2, hk => simp at hk; subst hk; exact ⟨C, cc, cell_new w _ E s hs 2, Rd.below hC hb⟩
/-- The law's box: its last three cells. -/
def LB (w : World) (p : Nat) (A B : Option Addr) (L : LawD) (ca cb : Nat) : Prop :=
  p < w.heap.size ∧ w.cell? ⟨p, 0, none⟩ = some (.bool L.back) ∧ w.cell? ⟨p, 1, none⟩ = some (.bool L.all) ∧ w.cell? ⟨p, 2, none⟩ = some (.slice A L.makes.length ca) ∧ w.cell? ⟨p, 3, none⟩ = some (.slice B L.ends.length cb) ∧ w.cell? ⟨p, 4, none⟩ = some (.int .u32 (L.start : Nat))
theorem LB.below {w w' : World} {p : Nat} {A B : Option Addr} {L : LawD} {ca cb : Nat} (h : LB w p A B L ca cb) (hb : Below w.heap.size w w') : LB w' p A B L ca cb :=
  ⟨Nat.lt_of_lt_of_le h.1 hb.size, (hb.cell h.1).trans h.2.1, (hb.cell h.1).trans h.2.2.1, (hb.cell h.1).trans h.2.2.2.1, (hb.cell h.1).trans h.2.2.2.2.1, (hb.cell h.1).trans h.2.2.2.2.2⟩
end Go.Proofs.Ytmgejacndhnikaa.W
namespace Go.Proofs.Ytmgejacndhnikaa.W
open Go.RowKit

theorem facErr_4 {ls : List (List Int)} {L : LawD} (h0 : wayErr ls = 0) (hl : ¬ (L.makes.length ≠ ls.length ∨ L.ends.length ≠ ls.length)) {x : Nat} (hx : x ∈ L.makes ++ L.ends ++ [L.start]) (h : ¬ x < 256) : facErr ls L = 4 := by
  unfold facErr
  rw [if_neg (fun h => h h0), if_neg hl, if_pos]
  rw [List.any_eq_true]
  exact ⟨x, hx, decide_eq_true (by omega)⟩
theorem fits8 (s : Nat) (w : World) : Calls Try.prog 45 #[.int .i64 8, .int .u32 (s : Nat)] w fun e w' => e = .returned (.bool (decide (s < 256))) ∧ w' = w := fits_calls 8 s w (by decide)
end Go.Proofs.Ytmgejacndhnikaa.W
namespace Go.Proofs.Ytmgejacndhnikaa.W
open Go.RowKit

theorem own_lt {α : Type} {f : α → List Value} {size base E : Nat} {w : World} {v : Value} {l : List α} (h : Own f size w base E v l) : ∀ g, v.ownBlock = some g → base ≤ g ∧ g < w.heap.size := fun g hg => World.ownsRow.lt h g hg
/-- Block b holds the slices vals, which read as rows; each in a block of its own above b. -/
structure OwnLL (w : World) (b B : Nat) (vals : List Value) (rows : List (List Int)) : Prop where
  len : vals.length = rows.length
  own : OwnV w b 23 (.slice (some ⟨b, 0, none⟩) rows.length rows.length) vals
  row : ∀ (k : Nat) (v : Value) (l : List Int), vals[k]? = some v → rows[k]? = some l → OwnI w B 3 v l
  far : ∀ (i j : Nat) (v u : Value), i ≠ j → vals[i]? = some v → vals[j]? = some u → v.ownBlock = none ∨ v.ownBlock ≠ u.ownBlock
  lt : b < w.heap.size
  hb : b < B
section
variable {w : World} {b B : Nat} {vals : List Value} {rows : List (List Int)}
theorem OwnLL.drew (h : OwnLL w b B vals rows) : OwnLL w.drew b B vals rows := ⟨h.len, h.own, h.row, h.far, h.lt, h.hb⟩
theorem OwnLL.drewN (h : OwnLL w b B vals rows) (n : Nat) : OwnLL (w.drewN n) b B vals rows := ⟨h.len, h.own, h.row, h.far, h.lt, h.hb⟩
theorem OwnLL.alloc (h : OwnLL w b B vals rows) (o : Obj) : OwnLL (w.alloc o) b B vals rows := ⟨h.len, Own.alloc h.own o, fun k v l h1 h2 => Own.alloc (h.row k v l h1 h2) o, h.far, by have := h.lt; simp; omega, h.hb⟩
theorem OwnLL.below (h : OwnLL w b B vals rows) {w' : World} (hb : Below w.heap.size w w') : OwnLL w' b B vals rows := ⟨h.len, Own.below h.own hb, fun k v l h1 h2 => Own.below (h.row k v l h1 h2) hb, h.far, Nat.lt_of_lt_of_le h.lt hb.size, h.hb⟩
/-- Row k grown by append, not yet stored. -/
theorem OwnLL.grown (h : OwnLL w b B vals rows) {k : Nat} {v : Value} {l : List Int} (hk : vals[k]? = some v) (hl : rows[k]? = some l) {w' : World} {v' : Value} {x : Int} (hown : OwnI w' B 3 v' (l ++ [x])) (hgrow : w.grownBy w' v.ownBlock) (hat : v'.ownBlock = v.ownBlock ∨ v'.ownBlock = some w.heap.size) :
    OwnV w' b 23 (.slice (some ⟨b, 0, none⟩) rows.length rows.length) vals ∧ OwnLL (w'.setCell ⟨b, k, none⟩ v') b B (vals.set k v') (rows.set k (l ++ [x])) := by
  have hr := h.row k v l hk hl
  have hV : OwnV w' b 23 (.slice (some ⟨b, 0, none⟩) rows.length rows.length) vals := Own.kept h.own hgrow (Or.inr (fun e => by
    have e : some b = v.ownBlock := e
    have := own_lt hr b e.symm; have := h.hb; omega))
  have hbk : b < w'.heap.size := Nat.lt_of_lt_of_le h.lt hgrow.size
  refine ⟨hV, ⟨by rw [List.length_set, List.length_set]; exact h.len, by rw [List.length_set]; exact OwnV.set_ hV v', fun j u m hu hm => ?_, fun i j u1 u2 hij h1 h2 => ?_, by simp [World.setCell]; exact hbk, h.hb⟩⟩
  · rw [List.getElem?_set] at hu hm
    by_cases e : k = j
    · subst e
      have hkv : k < vals.length := (List.getElem?_eq_some_iff.1 hk).1
      have hkr : k < rows.length := (List.getElem?_eq_some_iff.1 hl).1
      rw [if_pos rfl, if_pos hkv] at hu
      rw [if_pos rfl, if_pos hkr] at hm
      injection hu with hu
      injection hm with hm
      subst hu hm
      exact Own.far hown (fun e => by have := own_lt hown b e; have := h.hb; omega) v'
    · rw [if_neg e] at hu hm
      have hj := h.row j u m hu hm
      have hkeep : OwnI w' B 3 u m := Own.kept hj hgrow (h.far j k u v (fun e' => e e'.symm) hu hk)
      exact Own.far hkeep (fun e => by have := own_lt hkeep b e; have := h.hb; omega) v'
  · rw [List.getElem?_set] at h1 h2
    have hlt : ∀ (j : Nat) (u : Value), vals[j]? = some u → ∀ g, u.ownBlock = some g → g < w.heap.size := fun j u hu g hg => by
      have hj : j < rows.length := by rw [← h.len]; exact (List.getElem?_eq_some_iff.1 hu).1
      exact (own_lt (h.row j u _ hu (List.getElem?_eq_getElem hj)) g hg).2
    by_cases e1 : k = i
    · subst e1
      rw [if_pos rfl, if_pos (List.getElem?_eq_some_iff.1 hk).1] at h1
      rw [if_neg hij] at h2
      injection h1 with h1
      subst h1
      rcases hat with e | e
      · rw [e]; exact h.far k j v u2 hij hk h2
      · refine Or.inr fun e' => ?_
        rw [e] at e'
        have := hlt j u2 h2 _ e'.symm
        omega
    · rw [if_neg e1] at h1
      by_cases e2 : k = j
      · subst e2
        rw [if_pos rfl, if_pos (List.getElem?_eq_some_iff.1 hk).1] at h2
        injection h2 with h2
        subst h2
        rcases hat with e | e
        · rw [e]; exact h.far i k u1 v hij h1 hk
        · rw [e]
          cases hu : u1.ownBlock with
          | none => exact Or.inl rfl
          | some g =>
            refine Or.inr fun e' => ?_
            injection e' with e'
            have := hlt i u1 h1 g hu
            omega
      · rw [if_neg e2] at h2
        exact h.far i j u1 u2 hij h1 h2
theorem OwnLL.made {w' : World} {n b B : Nat} (hown : OwnV w' b 23 (.slice (some ⟨b, 0, none⟩) n n) (List.replicate n (.slice none 0 0))) (hlt : b < w'.heap.size) (hB : b < B) : OwnLL w' b B (List.replicate n (.slice none 0 0)) (List.replicate n []) :=
  ⟨by simp, by rw [List.length_replicate]; exact hown, (fun k v l h1 h2 => by
    rw [List.getElem?_replicate] at h1 h2
    by_cases hk : k < n
    · rw [if_pos hk] at h1 h2
      injection h1 with h1
      injection h2 with h2
      subst h1 h2
      exact Own.nil_ _ _ _
    · rw [if_neg hk] at h1; cases h1), (fun i j v u _ h1 _ => by
    rw [List.getElem?_replicate] at h1
    by_cases hk : i < n
    · rw [if_pos hk] at h1
      injection h1 with h1
      subst h1
      exact Or.inl rfl
    · rw [if_neg hk] at h1; cases h1), hlt, hB⟩
/-- It reads as rows. -/
theorem OwnLL.rd (h : OwnLL w b B vals rows) : RdN w (some ⟨b, 0, none⟩) rows := fun hn => by
  have hn' : 0 < vals.length := by rw [h.len]; exact hn
  obtain ⟨g, e, _, hlt, _, hc⟩ := OwnV.at2 h.own hn'
  injection e with e; injection e with e
  subst e
  refine ⟨b, 0, rfl, hlt, fun k l hk => ?_⟩
  have hkl : k < vals.length := by rw [h.len]; exact (List.getElem?_eq_some_iff.1 hk).1
  obtain ⟨A', cap', h1, h2, _⟩ := (h.row k _ l (List.getElem?_eq_getElem hkl) hk).form intCells_len
  refine ⟨A', cap', ?_, h2⟩
  rw [Nat.zero_add, hc k hkl, h1]
theorem RdNF.at_ {base : Nat} {w : World} {A : Option Addr} {ls : List (List Int)} (h : RdNF base w A ls) {g : Nat} (hlt : g < base) {k : Nat} (hk : k < ls.length) :
    ∃ b off A' cap', A = some ⟨b, off, none⟩ ∧ ∀ w', w.grownBy w' (some g) → b < w'.heap.size ∧ w'.cell? ⟨b, off + k, none⟩ = some (.slice A' ls[k].length cap') ∧ RdI w' A' ls[k] := by
  obtain ⟨b, off, e, hge, hb, hc⟩ := h (by omega)
  obtain ⟨A', cap', h1, h2, h3⟩ := hc k _ (List.getElem?_eq_getElem hk)
  refine ⟨b, off, A', cap', e, fun w' hg => ⟨by have := hg.size; omega, ?_, Rd.grown h2 hg (fun p hp => by have := h3 p hp; omega)⟩⟩
  rw [← h1]
  have := hg.block b hb (fun h => by injection h with h; omega)
  simp only [World.cell?, this]
/-- append of one element, as a run. -/
theorem run_app1 {P : Program} {w : World} (t ty : TypeId) {α : Type} (f : α → List Value) (size bytes E : Nat) (z : Value) (hu : P.underlying t = some (.slice E)) (hinfo : (P.info? E).map (fun i => (i.zero, i.size, i.bytes)) = some (some z, size, bytes))
    (hzs : z.cells.size = size) (hsz : 0 < size) (hf : ∀ x, (f x).length = size) (h1 : ∀ x, ∀ u ∈ f x, u.oneCell' = true)
    (base : Nat) (v : Value) (l : List α) (y : α) (hown : Own f size w base E v l) (S c : Nat)
    (hnew : ∀ j, j < size → w.cell? ⟨S, j, none⟩ = (f y)[j]?) (hlen : l.length + 1 ≤ maxLen) (hb : (l.length + 1) * bytes ≤ 140737488355328) (hbase : base ≤ w.heap.size) :
    ∃ v' w', (Builtin.append_ #[t, t] ty #[v, .slice (some ⟨S, 0, none⟩) 1 c]).run P w = .ok v' w' ∧ Own f size w' base E v' (l ++ [y]) ∧ w.grownBy w' v.ownBlock ∧ (v'.ownBlock = v.ownBlock ∨ v'.ownBlock = some w.heap.size) := by
  obtain ⟨i, hi, hz0, hz1, hz2⟩ := info_parts hinfo
  obtain ⟨v', w', hr, h2, h3, _, h5⟩ := run_append_own_at (P := P) w base t ty E i z size bytes hu hi hz0 hz1 hz2 hzs hsz v l.length (l.flatMap f) hown ⟨S, 0, none⟩ 1 c (f y) (by rw [hf, Nat.one_mul]) (by
    intro j u hj
    have hlt : j < size := by rw [← hf y]; exact (List.getElem?_eq_some_iff.1 hj).1
    rw [← hj, ← hnew j hlt]
    congr 1
    unfold Addr.add
    by_cases h0 : j = 0 <;> simp [h0]) (h1 y) hlen hb hbase
  refine ⟨v', w', hr, ?_, h3, h5⟩
  unfold Own
  rw [List.length_append, List.flatMap_append, List.flatMap_cons, List.flatMap_nil, List.append_nil]
  exact h2
theorem cell_grown {w w' : World} {row : Option Nat} (hg : w.grownBy w' row) (b j : Nat) (hb : b < w.heap.size) (hne : some b ≠ row) : w'.cell? ⟨b, j, none⟩ = w.cell? ⟨b, j, none⟩ := World.cell?_of_block (hg.block b hb hne)
end
end Go.Proofs.Ytmgejacndhnikaa.W
namespace Go.Proofs.Ytmgejacndhnikaa.W
open Go.RowKit

/-- Turned as far as the first i rows and t of row i. -/
structure TF (ls : List (List Int)) (i t : Nat) (g : List (List Int)) : Prop where
  len : g.length = ls.length
  short : ∀ (j : Nat) (l : List Int), g[j]? = some l → l.length ≤ 3 * i + t
  mem : ∀ (j : Nat) (l : List Int), g[j]? = some l → ∀ x, x ∈ l ↔ ∃ a : Nat, x = a ∧ ((a < i ∧ EdgeG ls a j) ∨ (a = i ∧ ∃ r, ls[i]? = some r ∧ (j : Int) ∈ r.take t))
  srt : (∀ r ∈ ls, r.Nodup) → ∀ (j : Nat) (l : List Int), g[j]? = some l → l.Pairwise (· < ·)
theorem TF.first (ls : List (List Int)) : TF ls 0 0 (List.replicate ls.length []) := by
  refine ⟨by simp, fun j l h => ?_, fun j l h x => ?_, fun _ j l h => by
    rw [List.getElem?_replicate] at h
    split at h
    · injection h with h; subst h; exact List.Pairwise.nil
    · cases h⟩
  · rw [List.getElem?_replicate] at h
    split at h
    · injection h with h; subst h; simp
    · cases h
  · rw [List.getElem?_replicate] at h
    split at h
    · injection h with h; subst h
      constructor
      · intro hx; cases hx
      · rintro ⟨a, _, ⟨h, _⟩ | ⟨_, r, _, h⟩⟩
        · omega
        · simp at h
    · cases h
theorem TF.next {ls : List (List Int)} {i : Nat} {g : List (List Int)} {r : List Int} (h : TF ls i r.length g) (hr : ls[i]? = some r) (h3 : r.length ≤ 3) : TF ls (i + 1) 0 g := by
  refine ⟨h.len, fun j l hl => by have := h.short j l hl; omega, fun j l hl x => ?_, h.srt⟩
  rw [h.mem j l hl x]
  constructor
  · rintro ⟨a, rfl, ⟨h1, h2⟩ | ⟨rfl, r', h1, h2⟩⟩
    · exact ⟨a, rfl, .inl ⟨by omega, h2⟩⟩
    · exact ⟨a, rfl, .inl ⟨by omega, r', h1, List.mem_of_mem_take h2⟩⟩
  · rintro ⟨a, rfl, ⟨h1, h2⟩ | ⟨_, r', _, h2⟩⟩
    · by_cases e : a = i
      · subst e
        obtain ⟨r', h3, h4⟩ := h2
        rw [hr] at h3; injection h3 with h3; subst h3
        exact ⟨a, rfl, .inr ⟨rfl, r, hr, by rw [List.take_length]; exact h4⟩⟩
      · exact ⟨a, rfl, .inl ⟨by omega, h2⟩⟩
    · simp at h2
theorem TF.push {ls : List (List Int)} {i t j : Nat} {g : List (List Int)} {r l : List Int} (h : TF ls i t g) (hr : ls[i]? = some r) (ht : t < r.length) (hj : r[t] = (j : Int)) (hl : g[j]? = some l) : TF ls i (t + 1) (g.set j (l ++ [(i : Int)])) := by
  have hjl : j < g.length := (List.getElem?_eq_some_iff.1 hl).1
  have htk : ∀ k : Nat, (k : Int) ∈ r.take (t + 1) ↔ ((k : Int) ∈ r.take t ∨ k = j) := fun k => by
    rw [List.take_succ_eq_append_getElem ht, List.mem_append, List.mem_singleton, hj]
    constructor
    · rintro (h | h)
      · exact .inl h
      · exact .inr (by omega)
    · rintro (h | h)
      · exact .inl h
      · exact .inr (by omega)
  refine ⟨by rw [List.length_set]; exact h.len, fun k m hk => ?_, fun k m hk x => ?_, fun hn k m hk => ?_⟩
  rotate_left 2
  · rw [List.getElem?_set] at hk
    split at hk
    · rename_i e
      subst e
      try rw [if_pos hjl] at hk
      injection hk with hk; subst hk
      refine List.pairwise_append.2 ⟨h.srt hn j l hl, List.pairwise_singleton _ _, fun a ha b hb => ?_⟩
      obtain rfl := List.mem_singleton.1 hb
      obtain ⟨c, rfl, ⟨h1, _⟩ | ⟨rfl, r', h1, h2⟩⟩ := (h.mem j l hl a).1 ha
      · omega
      · rw [hr] at h1; injection h1 with h1; subst h1
        have hnd := hn r (List.mem_of_getElem? hr)
        obtain ⟨m, hm, e⟩ := List.getElem_of_mem h2
        rw [List.length_take] at hm
        rw [List.getElem_take, ← hj] at e
        have := (List.getElem_inj hnd).1 e
        omega
    · exact h.srt hn k m hk
  · rw [List.getElem?_set] at hk
    split at hk
    · try rw [if_pos hjl] at hk
      injection hk with hk; subst hk
      have := h.short j l hl
      simp; omega
    · have := h.short k m hk; omega
  · rw [List.getElem?_set] at hk
    split at hk
    · rename_i e
      subst e
      try rw [if_pos hjl] at hk
      injection hk with hk; subst hk
      rw [List.mem_append, List.mem_singleton, h.mem j l hl x]
      constructor
      · rintro (⟨a, rfl, ⟨h1, h2⟩ | ⟨rfl, r', h1, h2⟩⟩ | rfl)
        · exact ⟨a, rfl, .inl ⟨h1, h2⟩⟩
        · rw [hr] at h1; injection h1 with h1; subst h1
          exact ⟨a, rfl, .inr ⟨rfl, r, hr, (htk j).2 (.inl h2)⟩⟩
        · exact ⟨i, rfl, .inr ⟨rfl, r, hr, (htk j).2 (.inr rfl)⟩⟩
      · rintro ⟨a, rfl, ⟨h1, h2⟩ | ⟨rfl, r', h1, h2⟩⟩
        · exact .inl ⟨a, rfl, .inl ⟨h1, h2⟩⟩
        · exact .inr rfl
    · rename_i e
      rw [h.mem k m hk x]
      constructor
      · rintro ⟨a, rfl, ⟨h1, h2⟩ | ⟨rfl, r', h1, h2⟩⟩
        · exact ⟨a, rfl, .inl ⟨h1, h2⟩⟩
        · rw [hr] at h1; injection h1 with h1; subst h1
          exact ⟨a, rfl, .inr ⟨rfl, r, hr, (htk k).2 (.inl h2)⟩⟩
      · rintro ⟨a, rfl, ⟨h1, h2⟩ | ⟨rfl, r', h1, h2⟩⟩
        · exact ⟨a, rfl, .inl ⟨h1, h2⟩⟩
        · rw [hr] at h1; injection h1 with h1; subst h1
          rcases (htk k).1 h2 with h3 | h3
          · exact ⟨a, rfl, .inr ⟨rfl, r, hr, h3⟩⟩
          · exact absurd h3.symm e
/-- What fact.Turn gives. -/
structure TurnedF (ls g : List (List Int)) : Prop where
  len : g.length = ls.length
  short : ∀ (j : Nat) (l : List Int), g[j]? = some l → l.length ≤ 24
  mem : ∀ (j : Nat) (l : List Int), g[j]? = some l → ∀ x, x ∈ l ↔ ∃ a : Nat, x = a ∧ EdgeG ls a j
  srt : (∀ r ∈ ls, r.Nodup) → ∀ (j : Nat) (l : List Int), g[j]? = some l → l.Pairwise (· < ·)
theorem TF.done {ls g : List (List Int)} (h : TF ls ls.length 0 g) (h8 : ls.length ≤ 8) : TurnedF ls g :=
  ⟨h.len, fun j l hl => by have := h.short j l hl; omega, fun j l hl x => by
    rw [h.mem j l hl x]
    constructor
    · rintro ⟨a, rfl, ⟨_, h2⟩ | ⟨_, r', h1, h2⟩⟩
      · exact ⟨a, rfl, h2⟩
      · simp at h2
    · rintro ⟨a, rfl, h2⟩
      obtain ⟨r, h3, h4⟩ := h2
      exact ⟨a, rfl, .inl ⟨(List.getElem?_eq_some_iff.1 h3).1, r, h3, h4⟩⟩, h.srt⟩
set_option maxHeartbeats 4000000 in
theorem factTurn_calls (A : Option Addr) (ls : List (List Int)) (cap : Nat) (w : World) (hA : RdN w A ls) (h1 : 1 ≤ ls.length) (h8 : ls.length ≤ 8) (hv : Valid ls) :
    Calls Try.prog 104 #[.slice A ls.length cap] w fun e w' => ∃ vals g, e = .returned (.slice (some ⟨w.heap.size, 0, none⟩) ls.length ls.length) ∧ OwnLL w' w.heap.size (w.heap.size + 1) vals g ∧ TurnedF ls g ∧ Below w.heap.size w w' := by
  have HA := Lib.hid hA; clear hA
  have HV := Lib.hid hv; clear hv
  go_enter Try.func104, Try.ntmps104
  go_wp2_with (at_make; refine wpList_makeN rfl _ _ rfl w.heap.size ls.length rfl rfl (by omega) (Nat.le_refl _) ?_; intro w1 hown1 hgrow1)
  have hW1 : Below w.heap.size w w1 := (Below.refl _ _).grown hgrow1 (Nat.le_refl _) (fun k hk => by cases hk)
  have hb1 : w.heap.size < w1.heap.size := by
    obtain ⟨g, eg, _, hlt, _⟩ := OwnV.at2 hown1 (by simp; omega)
    injection eg with eg; injection eg with eg
    omega
  have HW1 := Lib.hid hW1
  have HLs := Lib.hid (OwnLL.made (B := w.heap.size + 1) hown1 hb1 (by omega))
  clear hown1 hgrow1 hW1
  go_loopw [13] (fun i wr => ∃ (k : Nat) (vals : List Value) (g : List (List Int)), k ≤ ls.length ∧ i = .int .i64 k ∧ OwnLL wr w.heap.size (w.heap.size + 1) vals g ∧ Hid (TF ls k 0 g) ∧ Below w.heap.size w wr) (fun i _ => ls.length - (intOf i).toNat)
  case atStart => exact ⟨0, _, _, Nat.zero_le _, rfl, HLs.out, TF.first ls, HW1.out⟩
  case round =>
    clear HLs HW1
    obtain ⟨i, vals, g, hi, rfl, hLL, hT, hW⟩ := hrel
    have HLL := Lib.hid hLL
    have HW := Lib.hid hW
    by_cases hlt : i < ls.length
    · obtain ⟨b2, off2, A2, cap2, rfl, hb2, c2, hR⟩ := RdN.at_ (RdN.below HA.out hW) hlt
      have hl := Lib.hid (List.getElem?_eq_getElem hlt)
      have hl3 := (HV.out _ (List.getElem_mem hlt)).1
      have Hin := Lib.hid ((HV.out _ (List.getElem_mem hlt)).2)
      have HR0 := Lib.hid (fun w' (hb : Below w.heap.size w w') => RdN.at_ (RdN.below HA.out hb) hlt)
      clear hR hLL hW
      generalize hr : ls[i] = r at *
      obtain ⟨wo, rfl⟩ : ∃ wo : World, wo = wr := ⟨_, rfl⟩
      have HRo : Hid (∀ w', Below w.heap.size w w' → RdI w' A2 r) := Lib.hid fun w' hb => by
        obtain ⟨b3, off3, A3, cap3, e3, _, c3, hR3⟩ := HR0.out w' hb
        injection e3 with e3; injection e3 with e3a e3b
        subst e3a e3b
        obtain ⟨b4, off4, A4, cap4, e4, hb4, c4, _⟩ := HR0.out w (Below.refl _ _)
        injection e4 with e4; injection e4 with e4a e4b
        subst e4a e4b
        have k1 := (hb.cell (p := ⟨b2, off2 + i, none⟩) hb4).symm.trans c3
        have k2 := (HW.out.cell (p := ⟨b2, off2 + i, none⟩) hb4).symm.trans c2
        rw [k1] at k2
        injection k2 with k2; injection k2 with k2
        subst k2
        exact hR3
      clear HR0
      go_wp2
      go_loopw [20] (fun j wr => ∃ (t : Nat) (vals : List Value) (g : List (List Int)), t ≤ r.length ∧ j = .int .i64 t ∧ OwnLL wr w.heap.size (w.heap.size + 1) vals g ∧ Hid (TF ls i t g) ∧ Below w.heap.size w wr) (fun j _ => r.length - (intOf j).toNat)
      case atStart => exact ⟨0, _, _, Nat.zero_le _, rfl, HLL.out, hT, HW.out⟩
      case round =>
        clear HLL HW hT c2
        obtain ⟨t, vals, g, ht, rfl, hLL, hT, hW⟩ := hrel
        by_cases hltt : t < r.length
        · obtain ⟨b6, off6, rfl, hb6, c6⟩ := RdI.at1 (HRo.out _ hW) hltt
          obtain ⟨x0, x1⟩ := Hin.out _ (List.getElem_mem hltt)
          obtain ⟨j, hj⟩ := Int.eq_ofNat_of_zero_le x0
          rw [hj] at c6 x1
          have hjl : j < ls.length := by omega
          obtain ⟨l, hl'⟩ : ∃ l, g[j]? = some l := ⟨_, List.getElem?_eq_getElem (by rw [hT.out.len]; exact hjl)⟩
          have Hp := Lib.hid (hT.out.push hl.out hltt hj hl')
          have Hll : Hid (l.length ≤ 1000) := Lib.hid (by have := hT.out.short j l hl'; omega)
          obtain ⟨v, hv⟩ : ∃ v, vals[j]? = some v := ⟨_, List.getElem?_eq_getElem (by rw [hLL.len, hT.out.len]; exact hjl)⟩
          have Hv := Lib.hid hv
          have Hl := Lib.hid hl'
          have hgl := hT.out.len
          obtain ⟨g3, eg3, _, hg3, hfz3, hcell3⟩ := OwnV.at2 hLL.own (by rw [hLL.len, hgl]; omega)
          injection eg3 with eg3; injection eg3 with eg3
          subst eg3
          have c0 := hcell3 _ (List.getElem?_eq_some_iff.1 hv).1
          rw [(List.getElem?_eq_some_iff.1 hv).2] at c0
          have qj : ((j : Nat) : Int) < ((ls.length : Nat) : Int) := by omega
          have HLL1 := Lib.hid (hLL.alloc (.cells #[.int .i64 (i : Nat)] 3))
          have HW1 := Lib.hid (hW.alloc hW.size (.cells #[.int .i64 (i : Nat)] 3))
          have HS1 : Hid (∀ j, j < 1 → (wr.alloc (.cells #[.int .i64 (i : Nat)] 3)).cell? ⟨wr.heap.size, j, none⟩ = (intCells (i : Nat))[j]?) := Lib.hid (fun j hj => by (obtain rfl : j = 0 := by omega); exact cell_new wr #[.int .i64 (i : Nat)] 3 wr.heap.size rfl 0)
          have hws := hW.size
          obtain ⟨v3, w3, hrun, hown, hgrow, hat⟩ := run_app1 (P := Try.prog) (w := wr.alloc (.cells #[.int .i64 (i : Nat)] 3)) 23 23 intCells 1 8 3 (.int .i64 0) Try.underlying23 infoInt rfl (by decide) intCells_len intCells_one (w.heap.size + 1) v l (i : Int) (HLL1.out.row j v l Hv.out Hl.out) wr.heap.size 1 HS1.out (by have := Hll.out; unfold maxLen; omega) (by have := Hll.out; omega) (by simp; omega)
          have hP := HLL1.out.grown Hv.out Hl.out hown hgrow hat
          obtain ⟨g4, eg4, _, hg4, hfz4, hcell4⟩ := OwnV.at2 hP.1 (by rw [hLL.len, hgl]; omega)
          injection eg4 with eg4; injection eg4 with eg4
          subst eg4
          have c4 := hcell4 j (List.getElem?_eq_some_iff.1 Hv.out).1
          have f4 := hfz4 j
          have HLL3 := Lib.hid hP.2
          have HW3 := Lib.hid ((HW1.out.grown hgrow HW1.out.size (fun k hk => by have := (own_lt (HLL1.out.row j v l Hv.out Hl.out) k hk).1; omega)).setCell (p := ⟨w.heap.size, j, none⟩) (Nat.le_refl _) v3)
          obtain ⟨B3, d3, rfl, _⟩ := OwnI.rd hown
          simp only [List.length_append, List.length_singleton] at HLL3 HW3 hrun
          have Hrun := Lib.hid hrun
          have HGl := Lib.hid hgl
          clear hrun hown hgrow hat hP hcell3 hfz3 hcell4 hfz4 hl' hv hj hLL hT hW hgl HLL1 HW1 HS1 x0 x1
          go_wp2_with (at_builtin; refine wpList_app_run rfl 23 _ _ rfl rfl rfl Hrun.out ?_)
          go_roundw
          case rel => exact ⟨t + 1, _, _, by omega, by go_num, HLL3.out, Hp, HW3.out⟩
          case measure => simp [intOf]; omega
        · have : t = r.length := by omega
          subst this
          have Hn := Lib.hid (hT.out.next hl.out hl3)
          go_wp2
          go_roundw
          case rel => exact ⟨i + 1, vals, g, by omega, by go_num, hLL, Hn, hW⟩
          case measure => simp [intOf]; omega
    · have : i = ls.length := by omega
      subst this
      have Hd := Lib.hid (hT.out.done h8)
      clear hT
      go_wp2
      go_ret
      exact ⟨vals, g, rfl, HLL.out, Hd.out, HW.out⟩
end Go.Proofs.Ytmgejacndhnikaa.W
namespace Go.Proofs.Ytmgejacndhnikaa.W
open Go.RowKit

theorem Dom.trans {ls : List (List Int)} {a b c : Nat} (h1 : Dom ls a b) (h2 : Dom ls b c) : Dom ls a c := by
  refine ⟨h2.1, ?_⟩
  by_cases ha : a = 0
  · exact Or.inl ha
  refine Or.inr fun hc => ?_
  have n1 : ¬ Comes_ ls (a : Int) 0 b := h1.2.resolve_left ha
  have n2 : ¬ Comes_ ls (b : Int) 0 c := h2.2.resolve_left fun e => by subst e; exact ha (dom_zero_only h1)
  have := Comes_.closed (p := fun x => Comes_ ls (a : Int) 0 x ∧ Comes_ ls (b : Int) 0 x) ⟨Comes_.refl _ _ _, Comes_.refl _ _ _⟩ (fun x y hx he => by
    have hy := hx.1.step he
    obtain ⟨l, e1, e2, _⟩ := he
    refine ⟨hy, hx.2.step ⟨l, e1, e2, fun e => ?_⟩⟩
    have : y = b := by omega
    subst this
    exact n1 hy) c hc
  exact n2 this.2
theorem Dom.antisymm {ls : List (List Int)} {a b : Nat} (h1 : Dom ls a b) (h2 : Dom ls b a) : a = b := by
  by_cases hab : a = b
  · exact hab
  by_cases ha : a = 0
  · subst ha; exact (dom_zero_only h2).symm
  by_cases hb : b = 0
  · subst hb; exact dom_zero_only h1
  have n1 := h1.2.resolve_left ha
  have n2 := h2.2.resolve_left hb
  have := Comes_.closed (p := fun x => Comes_ ls (a : Int) 0 x ∧ Comes_ ls (b : Int) 0 x) ⟨Comes_.refl _ _ _, Comes_.refl _ _ _⟩ (fun x y hx he => by
    obtain ⟨l, e1, e2, _⟩ := he
    have hy : y ≠ a := fun e => by
      subst e
      exact n2 (hx.2.step ⟨l, e1, e2, by omega⟩)
    have hy2 : y ≠ b := fun e => by
      subst e
      exact n1 (hx.1.step ⟨l, e1, e2, by omega⟩)
    exact ⟨hx.1.step ⟨l, e1, e2, by omega⟩, hx.2.step ⟨l, e1, e2, by omega⟩⟩) b h1.1
  exact absurd this.1 n1
theorem Dom.chain {ls : List (List Int)} {a b c : Nat} (h1 : Dom ls a c) (h2 : Dom ls b c) : Dom ls a b ∨ Dom ls b a := by
  by_cases ha : a = 0
  · subst ha; exact Or.inl (Dom.zero h2.reached)
  by_cases hb : b = 0
  · subst hb; exact Or.inr (Dom.zero h1.reached)
  apply Classical.byContradiction
  intro hn
  rw [not_or] at hn
  have c1 : Comes_ ls (a : Int) 0 b := Classical.byContradiction fun h => hn.1 ⟨h2.reached, Or.inr h⟩
  have c2 : Comes_ ls (b : Int) 0 a := Classical.byContradiction fun h => hn.2 ⟨h1.reached, Or.inr h⟩
  have := Comes_.closed (p := fun x => Comes_ ls (a : Int) 0 x ∨ Comes_ ls (b : Int) 0 x) (Or.inl (Comes_.refl _ _ _)) (fun x y hx he => by
    obtain ⟨l, e1, e2, _⟩ := he
    by_cases ya : y = a
    · subst ya; exact Or.inr c2
    by_cases yb : y = b
    · subst yb; exact Or.inl c1
    rcases hx with hx | hx
    · exact Or.inl (hx.step ⟨l, e1, e2, by omega⟩)
    · exact Or.inr (hx.step ⟨l, e1, e2, by omega⟩)) c h1.1
  rcases this with h | h
  · exact h1.2.resolve_left ha h
  · exact h2.2.resolve_left hb h

section
variable {ls : List (List Int)}
theorem domS_sub (h1 : 1 ≤ ls.length) (h8 : ls.length ≤ 8) (hv : Valid ls) {a b : Nat} (h : Dom ls a b) : ∀ k, (domS ls a).testBit k = true → (domS ls b).testBit k = true := fun k hk => by
  rw [domS_bit h1 h8 hv] at hk ⊢
  exact hk.trans h
theorem domS_cnt (h1 : 1 ≤ ls.length) (h8 : ls.length ≤ 8) (hv : Valid ls) {a b : Nat} (h : Dom ls a b) (hne : a ≠ b) : cnt8 (domS ls a) < cnt8 (domS ls b) := by
  refine cnt8_mono_lt (domS_sub h1 h8 hv h) (fun e => ?_) (domS_lt _ _)
  have hb : (domS ls b).testBit b = true := (domS_bit h1 h8 hv b b).2 (Dom.refl h.1)
  rw [← e, domS_bit h1 h8 hv] at hb
  exact hne (h.antisymm hb)
theorem domS_none (h1 : 1 ≤ ls.length) (h8 : ls.length ≤ 8) (hv : Valid ls) {i : Nat} (h : ¬ Rch ls i) : domS ls i = 0 := set_ext fun k => by
  rw [Bool.eq_iff_iff, domS_bit h1 h8 hv, Nat.zero_testBit]
  exact ⟨fun hk => absurd hk.1 h, fun h => by cases h⟩
theorem domS_some (h1 : 1 ≤ ls.length) (h8 : ls.length ≤ 8) (hv : Valid ls) {i : Nat} (h : Rch ls i) : domS ls i ≠ 0 := fun e => by
  have := (domS_bit h1 h8 hv i i).2 (Dom.refl h)
  rw [e, Nat.zero_testBit] at this; cases this
theorem domS_zero' (h1 : 1 ≤ ls.length) (h8 : ls.length ≤ 8) (hv : Valid ls) : domS ls 0 = 2 ^ 0 := set_ext fun k => by
  rw [Bool.eq_iff_iff, domS_bit h1 h8 hv, testBit_pow, decide_eq_true_eq]
  constructor
  · exact fun h => (dom_zero_only h).symm
  · rintro rfl; exact Dom.zero (Comes_.refl _ _ _)
/-- The nearest ruler. -/
theorem dom_near (h1 : 1 ≤ ls.length) (h8 : ls.length ≤ 8) (hv : Valid ls) {i : Nat} (h : Rch ls i) (hi : i ≠ 0) :
    ∃ p, p ≠ i ∧ Dom ls p i ∧ domS ls i = 2 ^ i ||| domS ls p ∧ cnt8 (domS ls i) = cnt8 (domS ls p) + 1 ∧ ∀ j, j ≠ i → Dom ls j i → Dom ls j p := by
  have hmax : ∀ n, ∀ q, q ≠ i → Dom ls q i → 8 - cnt8 (domS ls q) ≤ n → ∃ p, p ≠ i ∧ Dom ls p i ∧ ∀ j, j ≠ i → Dom ls j i → cnt8 (domS ls j) ≤ cnt8 (domS ls p) := fun n => by
    induction n with
    | zero =>
      intro q hq hd hn
      exact ⟨q, hq, hd, fun j _ _ => by have := cnt8_le (domS ls j); omega⟩
    | succ n ih =>
      intro q hq hd hn
      by_cases hall : ∀ j, j ≠ i → Dom ls j i → cnt8 (domS ls j) ≤ cnt8 (domS ls q)
      · exact ⟨q, hq, hd, hall⟩
      · simp only [Classical.not_forall] at hall
        obtain ⟨j, hj, hdj, hc⟩ := hall
        exact ih j hj hdj (by omega)
  obtain ⟨p, hp, hd, hm⟩ := hmax 8 0 (Ne.symm hi) (Dom.zero h) (by omega)
  have hall : ∀ j, j ≠ i → Dom ls j i → Dom ls j p := fun j hj hdj => by
    rcases hdj.chain hd with h' | h'
    · exact h'
    · by_cases e : p = j
      · subst e; exact h'
      · have := domS_cnt h1 h8 hv h' e
        have := hm j hj hdj
        omega
  have hnb : (domS ls p).testBit i = false := by
    cases hb : (domS ls p).testBit i
    · rfl
    · rw [domS_bit h1 h8 hv] at hb
      exact absurd (hd.antisymm hb) hp
  have e : domS ls i = domS ls p ||| 2 ^ i := set_ext fun k => by
    rw [Bool.eq_iff_iff, set_bit, Bool.or_eq_true, domS_bit h1 h8 hv, domS_bit h1 h8 hv, decide_eq_true_eq]
    constructor
    · intro hk
      by_cases e : i = k
      · exact Or.inr e
      · exact Or.inl (hall k (Ne.symm e) hk)
    · rintro (hk | rfl)
      · exact hk.trans hd
      · exact Dom.refl h
  exact ⟨p, hp, hd, by rw [e, Nat.or_comm], by rw [e, cnt8_set (by have := h.lt h1 hv; omega) hnb], hall⟩
end

/-- The last of the first k nodes that is i's nearest ruler. -/
noncomputable def upTo (ls : List (List Int)) (i : Nat) : Nat → Int
  | 0 => -1
  | k + 1 => if k ≠ i ∧ (domS ls i).testBit k = true ∧ cnt8 (domS ls k) + 1 = cnt8 (domS ls i) then (k : Int) else upTo ls i k
noncomputable def upsTo (ls : List (List Int)) (n : Nat) : List Int := (List.range n).map fun i => upTo ls i ls.length
noncomputable abbrev upL (ls : List (List Int)) : List Int := upsTo ls ls.length
theorem upsTo_succ (ls : List (List Int)) (n : Nat) : upsTo ls (n + 1) = upsTo ls n ++ [upTo ls n ls.length] := by
  unfold upsTo
  rw [List.range_succ, List.map_append]; rfl
theorem upsTo_len (ls : List (List Int)) (n : Nat) : (upsTo ls n).length = n := by simp [upsTo]
theorem upsTo_get (ls : List (List Int)) (n k : Nat) (h : k < (upsTo ls n).length) : (upsTo ls n)[k] = upTo ls k ls.length := by simp [upsTo]
section
variable {ls : List (List Int)}
theorem upTo_yes {i k : Nat} (h1 : k ≠ i) (h2 : (domS ls i).testBit k = true) (h3 : cnt8 (domS ls k) + 1 = cnt8 (domS ls i)) : upTo ls i (k + 1) = k := by
  unfold upTo; rw [if_pos ⟨h1, h2, h3⟩]
theorem upTo_no {i k : Nat} (h : ¬ (k ≠ i ∧ (domS ls i).testBit k = true ∧ cnt8 (domS ls k) + 1 = cnt8 (domS ls i))) : upTo ls i (k + 1) = upTo ls i k := by
  conv => lhs; unfold upTo
  rw [if_neg h]
theorem upTo_none {i : Nat} (h : ∀ k, k ≠ i → (domS ls i).testBit k = false) (n : Nat) : upTo ls i n = -1 := by
  induction n with
  | zero => rfl
  | succ n ih => rw [upTo_no (fun hh => by rw [h n hh.1] at hh; cases hh.2.1), ih]
theorem up_zero (h1 : 1 ≤ ls.length) (h8 : ls.length ≤ 8) (hv : Valid ls) (n : Nat) : upTo ls 0 n = -1 := upTo_none (fun k hk => by
  rw [domS_zero' h1 h8 hv, testBit_pow]; exact decide_eq_false (Ne.symm hk)) n
theorem up_off (h1 : 1 ≤ ls.length) (h8 : ls.length ≤ 8) (hv : Valid ls) {i : Nat} (h : ¬ Rch ls i) (n : Nat) : upTo ls i n = -1 := upTo_none (fun k _ => by
  rw [domS_none h1 h8 hv h, Nat.zero_testBit]) n
theorem up_near (h1 : 1 ≤ ls.length) (h8 : ls.length ≤ 8) (hv : Valid ls) {i : Nat} (h : Rch ls i) (hi : i ≠ 0) :
    ∃ p : Nat, upTo ls i ls.length = p ∧ Rch ls p ∧ domS ls i = 2 ^ i ||| domS ls p ∧ cnt8 (domS ls i) = cnt8 (domS ls p) + 1 := by
  obtain ⟨p, hp, hd, he, hc, hall⟩ := dom_near h1 h8 hv h hi
  have key : ∀ n, upTo ls i n = if p < n then (p : Int) else -1 := fun n => by
    induction n with
    | zero => rfl
    | succ n ih =>
      by_cases e : n = p
      · subst e
        rw [upTo_yes hp ((domS_bit h1 h8 hv i n).2 hd) hc.symm, if_pos (by omega)]
      · rw [upTo_no (fun ⟨q1, q2, q3⟩ => by
          rw [domS_bit h1 h8 hv] at q2
          have := domS_cnt h1 h8 hv (hall n q1 q2) e
          omega), ih]
        by_cases hpn : p < n
        · rw [if_pos hpn, if_pos (by omega)]
        · rw [if_neg hpn, if_neg (by omega)]
  refine ⟨p, ?_, hd.reached, he, hc⟩
  rw [key, if_pos (hd.reached.lt h1 hv)]
theorem cnt8_full_ : ∀ n, n ≤ 8 → cnt8 (2 ^ n - 1) = n := by decide
theorem cnt8_below {s n : Nat} (h8 : n ≤ 8) (h : ∀ k, s.testBit k = true → k < n) : cnt8 s ≤ n := by
  have hp : 2 ^ n ≤ 2 ^ 8 := Nat.pow_le_pow_right (by decide) h8
  have hp1 : 1 ≤ 2 ^ n := Nat.one_le_two_pow
  have hf := cnt8_full_ n h8
  by_cases e : s = 2 ^ n - 1
  · rw [e, hf]; exact Nat.le_refl _
  · have := cnt8_mono_lt (s := s) (t := 2 ^ n - 1) (fun k hk => by rw [Nat.testBit_two_pow_sub_one]; exact decide_eq_true (h k hk)) e (by omega)
    omega

/-- The walk up the tree from i: st steps done, the nodes met so far in s, now at k. -/
def Up (ls : List (List Int)) (i st s : Nat) (k : Int) : Prop :=
  (k = -1 ∧ s = domS ls i ∧ st ≤ ls.length) ∨ ∃ n : Nat, k = n ∧ n < ls.length ∧ Rch ls n ∧ s ||| domS ls n = domS ls i ∧ 1 ≤ cnt8 (domS ls n) ∧ cnt8 (domS ls n) + st ≤ ls.length
theorem Up.first (h1 : 1 ≤ ls.length) (h8 : ls.length ≤ 8) (hv : Valid ls) {i : Nat} (h : Rch ls i) : Up ls i 0 0 i := by
  refine Or.inr ⟨i, rfl, h.lt h1 hv, h, Nat.zero_or _, ?_, ?_⟩
  · have := cnt8_mono_lt (s := 0) (t := domS ls i) (fun k hk => by rw [Nat.zero_testBit] at hk; cases hk) (Ne.symm (domS_some h1 h8 hv h)) (domS_lt _ _)
    omega
  · rw [Nat.add_zero]
    exact cnt8_below h8 fun k hk => ((domS_bit h1 h8 hv i k).1 hk).reached.lt h1 hv
theorem Up.step (h1 : 1 ≤ ls.length) (h8 : ls.length ≤ 8) (hv : Valid ls) {i st s n : Nat} (h : Up ls i st s n) : Up ls i (st + 1) (s ||| 2 ^ n) (upTo ls n ls.length) := by
  rcases h with ⟨h, _⟩ | ⟨n', e, hn, hr, hs, hc1, hc⟩
  · omega
  have : n' = n := by omega
  subst this
  by_cases h0 : n' = 0
  · subst h0
    refine Or.inl ⟨up_zero h1 h8 hv _, ?_, by omega⟩
    rw [← hs, domS_zero' h1 h8 hv]
  · obtain ⟨p, e1, e2, e3, e4⟩ := up_near h1 h8 hv hr h0
    refine Or.inr ⟨p, e1, e2.lt h1 hv, e2, ?_, ?_, by omega⟩
    · rw [Nat.or_assoc, ← e3, hs]
    · have := cnt8_mono_lt (s := 0) (t := domS ls p) (fun k hk => by rw [Nat.zero_testBit] at hk; cases hk) (Ne.symm (domS_some h1 h8 hv e2)) (domS_lt _ _)
      omega
theorem Up.bit {i st s : Nat} {k : Int} (h : Up ls i st s k) : s < 256 := by
  rcases h with ⟨_, rfl, _⟩ | ⟨n, _, _, _, hs, _⟩
  · exact domS_lt _ _
  · have := domS_lt ls i
    rw [← hs] at this
    exact Nat.lt_of_le_of_lt Nat.left_le_or this
end
end Go.Proofs.Ytmgejacndhnikaa.W
