/- Of the ways: checks, what is reached, what hangs on what; in a namespace of its own, beside the blocks' names (put together by wfam.py). -/
import Derived.Test.YtadmmciiahdmcaaOwn
import Derived.Test.YtadmmciiahdmcaaInside
import Derived.BigGuardPart
import Derived.Outline
import Derived.Test.YtadmmciiahdmcaaBits
import Derived.Deep.LoopGhost
import Derived.Test.YtadmmciiahdmcaaOwnU
import Derived.Test.YtadmmciiahdmcaaCntM
import Derived.StillTailTactics
import Derived.BigQuiet
import Derived.Deep.QuietTactic
namespace Go.Proofs.Ytadmmciiahdmcaa.W
open Go.RowKit

/-- The slice of slices at A reads as ls. -/
def RdN (w : World) (A : Option Addr) (ls : List (List Int)) : Prop :=
  0 < ls.length → ∃ b off, A = some ⟨b, off, none⟩ ∧ b < w.heap.size ∧
    ∀ (k : Nat) (l : List Int), ls[k]? = some l → ∃ A' cap', w.cell? ⟨b, off + k, none⟩ = some (.slice A' l.length cap') ∧ RdI w A' l
theorem RdN.below {w w' : World} {A : Option Addr} {ls : List (List Int)} (h : RdN w A ls) (hb : Below w.heap.size w w') : RdN w' A ls := fun hn => by
  obtain ⟨b, off, e, hlt, hc⟩ := h hn
  refine ⟨b, off, e, by have := hb.size; omega, fun k l hk => ?_⟩
  obtain ⟨A', cap', h1, h2⟩ := hc k l hk
  exact ⟨A', cap', (hb.cell (p := ⟨b, off + k, none⟩) hlt).trans h1, Rd.below h2 hb⟩
theorem RdN.at_ {w : World} {A : Option Addr} {ls : List (List Int)} (h : RdN w A ls) {k : Nat} (hk : k < ls.length) :
    ∃ b off A' cap', A = some ⟨b, off, none⟩ ∧ b < w.heap.size ∧ w.cell? ⟨b, off + k, none⟩ = some (.slice A' ls[k].length cap') ∧ RdI w A' ls[k] := by
  obtain ⟨b, off, e, hlt, hc⟩ := h (by omega)
  obtain ⟨A', cap', h1, h2⟩ := hc k _ (List.getElem?_eq_getElem hk)
  exact ⟨b, off, A', cap', e, hlt, h1, h2⟩

def wErr1 (n : Nat) (l : List Int) : Int := if 3 < l.length then 1 else if insideB n l then 0 else 2
def wErrs (n : Nat) : List (List Int) → Int
  | [] => 0
  | l :: r => if wErr1 n l = 0 then wErrs n r else wErr1 n l
def wayErr (ls : List (List Int)) : Int := if ls.length = 0 ∨ 8 < ls.length then 1 else wErrs ls.length ls
theorem wErrs_drop {n : Nat} {l : List (List Int)} {k : Nat} {E : Int} (hk : k < l.length) (h0 : wErrs n (l.drop k) = E) :
    (∀ e, wErr1 n l[k] = e → e ≠ 0 → E = e) ∧ (wErr1 n l[k] = 0 → wErrs n (l.drop (k + 1)) = E) := by
  rw [List.drop_eq_getElem_cons hk, show ∀ t r, wErrs n (t :: r) = if wErr1 n t = 0 then wErrs n r else wErr1 n t from fun _ _ => rfl] at h0
  constructor
  · intro e he hne; rw [if_neg (by rw [he]; exact hne)] at h0; rw [← h0, he]
  · intro h; rw [if_pos h] at h0; exact h0
theorem wErr1_1 {n : Nat} {l : List Int} (h : 3 < l.length) : wErr1 n l = 1 := by unfold wErr1; rw [if_pos h]
theorem wErr1_2 {n : Nat} {l : List Int} (h : ¬ 3 < l.length) (h' : insideB n l = false) : wErr1 n l = 2 := by unfold wErr1; rw [if_neg h, h']; rfl
theorem wErr1_0 {n : Nat} {l : List Int} (h : ¬ 3 < l.length) (h' : insideB n l = true) : wErr1 n l = 0 := by unfold wErr1; rw [if_neg h, h']; rfl

/-- The closure of way.Check: out of 0 .. n - 1? -/
def outB (n : Int) (x : Int) : Bool := decide (x < 0 ∨ n ≤ x)
set_option maxHeartbeats 400000 in
theorem out_no (N n cap : Nat) (A : Option Addr) (x : Int) (w : World) (hc : w.cell? ⟨N, 0, none⟩ = some (.slice A n cap)) (h : outB n x = false) :
    Calls Try.prog 90 #[.int .i64 x, .pointer (some ⟨N, 0, none⟩)] w fun e w' => e = .returned (.bool false) ∧ w' = w := by
  have h' : ¬ (x < 0 ∨ (n : Int) ≤ x) := of_decide_eq_false h
  have h1 : decide (x < 0) = false := decide_eq_false (by omega)
  have h2 : decide ((n : Int) ≤ x) = false := decide_eq_false (by omega)
  clear h h'
  go_enter Try.func90, Try.ntmps90
  go_wp2
  go_ret
  exact ⟨ret_bool (by first | rfl | (simp at *; omega)), rfl⟩
set_option maxHeartbeats 400000 in
theorem out_yes (N n cap : Nat) (A : Option Addr) (x : Int) (w : World) (hc : w.cell? ⟨N, 0, none⟩ = some (.slice A n cap)) (h : outB n x = true) :
    Calls Try.prog 90 #[.int .i64 x, .pointer (some ⟨N, 0, none⟩)] w fun e w' => e = .returned (.bool true) ∧ w' = w := by
  have h' : x < 0 ∨ (n : Int) ≤ x := of_decide_eq_true h
  clear h
  by_cases h1 : x < 0
  · clear h'
    go_enter Try.func90, Try.ntmps90
    go_wp2
    go_ret
    exact ⟨rfl, rfl⟩
  · have h2 : (n : Int) ≤ x := by omega
    have h1' : decide (x < 0) = false := decide_eq_false h1
    clear h' h1
    go_enter Try.func90, Try.ntmps90
    go_wp2
    go_ret
    exact ⟨ret_bool (by first | rfl | (simp at *; omega)), rfl⟩
theorem take_all_succ {α : Type} {p : α → Prop} {l : List α} {k : Nat} (hk : k < l.length) (h : ∀ x ∈ l.take k, p x) (h' : p l[k]) : ∀ x ∈ l.take (k + 1), p x := by
  rw [List.take_succ_eq_append_getElem hk]
  intro x hx
  rcases List.mem_append.1 hx with h1 | h1
  · exact h x h1
  · simp at h1; subst h1; exact h'
def OutEnd (n : Nat) (l : List Int) (w : World) (e : Ending) (w' : World) : Prop :=
  w' = w ∧ ∃ m : Int, e = .returned (.int .i64 m) ∧ ((m = -1 ∧ ∀ x ∈ l, outB n x = false) ∨ (0 ≤ m ∧ ∃ x ∈ l, outB n x = true))
set_option maxHeartbeats 400000 in
theorem outIndex_calls (N n capn : Nat) (An A : Option Addr) (l : List Int) (cap : Nat) (w : World) (hc : w.cell? ⟨N, 0, none⟩ = some (.slice An n capn)) (hA : RdI w A l) (hm : l.length ≤ maxLen) :
    Calls Try.prog 83 #[.slice A l.length cap, .func (.func 90) #[] #[.pointer (some ⟨N, 0, none⟩)]] w (OutEnd n l w) := by
  unfold maxLen at hm
  have HA := Lib.hid hA; clear hA
  have Hc := Lib.hid hc; clear hc
  go_enter Try.func83, Try.ntmps83
  go_wp2
  go_loop [8] (fun i => ∃ k : Nat, k ≤ l.length ∧ i = .int .i64 k ∧ Hid (∀ x ∈ l.take k, outB n x = false)) (fun i => l.length - (intOf i).toNat)
  case atStart => exact ⟨0, Nat.zero_le _, rfl, fun x hx => by simp at hx⟩
  case round =>
    obtain ⟨k, hk, rfl, hP⟩ := hrel
    by_cases hlt : k < l.length
    · obtain ⟨b, off, rfl, hb, c0⟩ := RdI.at1 HA.out hlt
      have hmem := List.getElem_mem hlt
      have Hmem := Lib.hid hmem
      have Hst := Lib.hid (take_all_succ (p := fun x => outB n x = false) hlt hP.out)
      clear hmem hP
      generalize l[k] = x at *
      cases hx : outB n x
      · have Hx := Lib.hid hx
        clear hx
        go_wp2_with (go_at_call 90; refine (out_no N n capn An _ _ Hc.out Hx.out).mono ?_; rintro e w' ⟨rfl, rfl⟩)
        go_round
        case rel => exact ⟨k + 1, by omega, by go_num, Hst.out Hx.out⟩
        case measure => simp [intOf]; omega
      · have Hx := Lib.hid hx
        clear hx
        go_wp2_with (go_at_call 90; refine (out_yes N n capn An _ _ Hc.out Hx.out).mono ?_; rintro e w' ⟨rfl, rfl⟩)
        go_ret
        exact ⟨rfl, k, rfl, .inr ⟨by omega, x, Hmem.out, Hx.out⟩⟩
    · go_wp2
      go_ret
      have : k = l.length := by omega
      subst this
      have := hP.out
      rw [List.take_length] at this
      exact ⟨rfl, -1, rfl, .inl ⟨rfl, this⟩⟩
set_option maxHeartbeats 400000 in
theorem outContains_calls (N n capn : Nat) (An A : Option Addr) (l : List Int) (cap : Nat) (w : World) (hc : w.cell? ⟨N, 0, none⟩ = some (.slice An n capn)) (hA : RdI w A l) (hm : l.length ≤ maxLen) :
    Calls Try.prog 68 #[.slice A l.length cap, .func (.func 90) #[] #[.pointer (some ⟨N, 0, none⟩)]] w fun e w' => e = .returned (.bool (!insideB n l)) ∧ w' = w := by
  have HA := Lib.hid hA; clear hA
  have hall : (∀ x ∈ l, outB n x = false) → insideB n l = true := fun h => by
    unfold insideB
    rw [List.all_eq_true]
    intro x hx
    have := of_decide_eq_false (h x hx)
    simp only [decide_eq_true_eq]
    omega
  have hany : (∃ x ∈ l, outB n x = true) → insideB n l = false := fun ⟨x, hx, h⟩ => by
    unfold insideB
    rw [List.all_eq_false]
    refine ⟨x, hx, ?_⟩
    have := of_decide_eq_true h
    simp only [decide_eq_true_eq]
    omega
  have Hall := Lib.hid hall
  have Hany := Lib.hid hany
  clear hall hany
  go_enter Try.func68, Try.ntmps68
  go_wp2_with fail
  refine (outIndex_calls N n capn An A l cap w hc HA.out hm).mono ?_
  rintro e w' ⟨rfl, m, rfl, h⟩
  rcases h with ⟨rfl, h⟩ | ⟨h0, h⟩
  · have Ha := Lib.hid (Hall.out h)
    clear h hm
    go_wp2
    go_ret
    exact ⟨ret_bool (by rw [Ha.out]; first | rfl | simp), rfl⟩
  · have Ha := Lib.hid (Hany.out h)
    clear h hm
    go_wp2
    go_ret
    exact ⟨ret_bool (by rw [Ha.out]; try (simp; try omega)), rfl⟩

set_option maxHeartbeats 1000000 in
theorem check_calls (A : Option Addr) (ls : List (List Int)) (cap : Nat) (w : World) (hA : RdN w A ls) (hm : ls.length ≤ maxLen) :
    Calls Try.prog 86 #[.slice A ls.length cap] w fun e w' => e = .returned (.int .i64 (wayErr ls)) ∧ Below w.heap.size w w' := by
  unfold maxLen at hm
  have HA := Lib.hid hA; clear hA
  by_cases hn : ls.length = 0 ∨ 8 < ls.length
  · rw [show wayErr ls = 1 from by unfold wayErr; rw [if_pos hn]]
    have hd : decide ((ls.length : Int) < 1) = true ∨ (decide ((ls.length : Int) < 1) = false ∧ decide ((8 : Int) < (ls.length : Int)) = true) := by
      simp only [decide_eq_true_eq, decide_eq_false_iff_not]; omega
    clear hn
    rcases hd with h1 | ⟨h1, h2⟩
    all_goals
      go_enter Try.func86, Try.ntmps86
      go_wp2
      all_goals first | (exfalso; simp only [decide_eq_true_eq, decide_eq_false_iff_not] at *; omega) | (go_ret; exact ⟨rfl, (Below.refl _ _).alloc (Nat.le_refl _) _⟩)
  have Hfin := Lib.hid (show wayErr ls = wErrs ls.length ls from by unfold wayErr; rw [if_neg hn])
  have hn1 : 1 ≤ ls.length := by omega
  have hn8 : ls.length ≤ 8 := by omega
  have q1 : decide ((ls.length : Int) < 1) = false := decide_eq_false (by omega)
  have q2 : decide (8 < ls.length) = false := decide_eq_false (by omega)
  clear hn hm
  go_enter Try.func86, Try.ntmps86
  go_wp2
  clear q1 q2
  have Hcell := Lib.hid (cell_new w #[.slice A ls.length cap] 33 w.heap.size rfl 0)
  have HA1 := Lib.hid (RdN.below HA.out ((Below.refl _ _).alloc (Nat.le_refl _) (.cells #[.slice A ls.length cap] 33)))
  go_loop [15] (fun i => ∃ k : Nat, k ≤ ls.length ∧ i = .int .i64 k ∧ Hid (wErrs ls.length (ls.drop k) = wayErr ls)) (fun i => ls.length - (intOf i).toNat)
  case atStart => exact ⟨0, Nat.zero_le _, rfl, Hfin.out.symm⟩
  case round =>
    obtain ⟨k, hk, rfl, hE⟩ := hrel
    by_cases hlt : k < ls.length
    · obtain ⟨b, off, A', cap', hA', hb, c0, hR⟩ := RdN.at_ HA1.out hlt
      subst hA'
      have HS := Lib.hid (wErrs_drop hlt hE.out)
      have HR := Lib.hid hR
      clear hE hR
      generalize ls[k] = l at *
      by_cases h3 : 3 < l.length
      · go_wp2
        go_ret
        exact ⟨ret_int (HS.out.1 1 (wErr1_1 h3) (by decide)).symm, (Below.refl _ _).alloc (Nat.le_refl _) _⟩
      · cases hin : insideB ls.length l
        · have Hin := Lib.hid hin
          clear hin
          go_wp2_with (go_at_call 68; refine (outContains_calls w.heap.size ls.length cap _ _ l _ _ Hcell.out HR.out (by unfold maxLen; omega)).mono ?_; rintro e w' ⟨rfl, rfl⟩; rw [Hin.out])
          go_ret
          exact ⟨ret_int (HS.out.1 2 (wErr1_2 h3 Hin.out) (by decide)).symm, (Below.refl _ _).alloc (Nat.le_refl _) _⟩
        · have Hin := Lib.hid hin
          clear hin
          go_wp2_with (go_at_call 68; refine (outContains_calls w.heap.size ls.length cap _ _ l _ _ Hcell.out HR.out (by unfold maxLen; omega)).mono ?_; rintro e w' ⟨rfl, rfl⟩; rw [Hin.out])
          go_round
          case rel => exact ⟨k + 1, by omega, by go_num, HS.out.2 (wErr1_0 h3 Hin.out)⟩
          case measure => simp [intOf]; omega
    · go_wp2
      go_ret
      have : k = ls.length := by omega
      subst this
      refine ⟨ret_int ?_, (Below.refl _ _).alloc (Nat.le_refl _) _⟩
      rw [← hE.out, List.drop_length]; rfl

/-- What a valid way is. -/
theorem wayErr_ok {ls : List (List Int)} (h : wayErr ls = 0) : 1 ≤ ls.length ∧ ls.length ≤ 8 ∧ ∀ l ∈ ls, l.length ≤ 3 ∧ ∀ x ∈ l, 0 ≤ x ∧ x < ls.length := by
  unfold wayErr at h
  by_cases h1 : ls.length = 0 ∨ 8 < ls.length
  · rw [if_pos h1] at h; exact absurd h (by decide)
  rw [if_neg h1] at h
  refine ⟨by omega, by omega, ?_⟩
  generalize ls.length = n at *
  clear h1
  induction ls with
  | nil => simp
  | cons l r ih =>
    rw [show wErrs n (l :: r) = if wErr1 n l = 0 then wErrs n r else wErr1 n l from rfl] at h
    by_cases h0 : wErr1 n l = 0
    · rw [if_pos h0] at h
      intro m hm
      rcases List.mem_cons.1 hm with rfl | hm
      · unfold wErr1 at h0
        by_cases h3 : 3 < m.length
        · rw [if_pos h3] at h0; exact absurd h0 (by decide)
        · rw [if_neg h3] at h0
          refine ⟨by omega, fun x hx => ?_⟩
          cases hin : insideB n m
          · rw [hin] at h0; exact absurd h0 (by decide)
          · unfold insideB at hin
            rw [List.all_eq_true] at hin
            exact of_decide_eq_true (hin x hx)
      · exact ih h m hm
    · rw [if_neg h0] at h; exact absurd h h0
end Go.Proofs.Ytadmmciiahdmcaa.W
namespace Go.Proofs.Ytadmmciiahdmcaa.W
open Go.RowKit

def OwnQ (w : World) (base : Nat) (v : Value) (l : List Int) : Prop :=
  ∃ A cap, v = .slice A l.length cap ∧ l.length ≤ cap ∧ cap ≤ maxLen ∧ (A = none → cap = 0) ∧
    (0 < cap → ∃ g off cur, A = some ⟨g, off, none⟩ ∧ base ≤ g ∧ w.heap[g]? = some (.cells cur 3 (0, 0)) ∧ off + cap ≤ cur.size ∧ ∀ (k : Nat) (x : Int), l[k]? = some x → cur[off + k]? = some (.int .i64 x))

theorem lt_of_heap {w : World} {g : Nat} {o : Obj} (h : w.heap[g]? = some o) : g < w.heap.size := by
  rcases Nat.lt_or_ge g w.heap.size with hl | hl
  · exact hl
  · rw [Array.getElem?_eq_none hl] at h; cases h
theorem intsMap (l : List Int) : l.flatMap intCells = l.map (Value.int .i64) := by
  induction l with
  | nil => rfl
  | cons x r ih => rw [List.flatMap_cons, ih]; rfl
theorem OwnQ.of_own {w : World} {base : Nat} {v : Value} {l : List Int} (h : OwnI w base 3 v l) : OwnQ w base v l := by
  rcases h.2 with ⟨rfl, h0⟩ | ⟨g, cap, cur, rfl, hb, hh, hn, hm, hs, ht⟩
  · exact ⟨none, 0, by rw [h0], by omega, by simp [maxLen], fun _ => rfl, fun h => by omega⟩
  · refine ⟨some ⟨g, 0, none⟩, cap, rfl, hn, hm, (fun h => by cases h), fun _ => ⟨g, 0, cur, rfl, hb, hh, by omega, fun k x hx => ?_⟩⟩
    have hk : k < l.length := (List.getElem?_eq_some_iff.1 hx).1
    have e : (l.map (Value.int .i64))[k]? = some (.int .i64 x) := by rw [List.getElem?_map, hx]; rfl
    rw [← intsMap, ← ht, List.getElem?_take_of_lt (by omega)] at e
    rw [Nat.zero_add, ← Array.getElem?_toList]
    exact e
theorem OwnQ.below {w w' : World} {base : Nat} {v : Value} {l : List Int} (h : OwnQ w base v l) (hb : Below w.heap.size w w') : OwnQ w' base v l := by
  obtain ⟨A, cap, e, h1, h2, h3, h4⟩ := h
  refine ⟨A, cap, e, h1, h2, h3, fun hc => ?_⟩
  obtain ⟨g, off, cur, hA, hg, hh, hs, hk⟩ := h4 hc
  exact ⟨g, off, cur, hA, hg, (hb.block g (lt_of_heap hh)).trans hh, hs, hk⟩
theorem OwnQ.alloc {w : World} {base : Nat} {v : Value} {l : List Int} (h : OwnQ w base v l) (o : Obj) : OwnQ (w.alloc o) base v l := h.below ((Below.refl _ _).alloc (Nat.le_refl _) o)
theorem OwnQ.drewN {w : World} {base : Nat} {v : Value} {l : List Int} (h : OwnQ w base v l) (n : Nat) : OwnQ (w.drewN n) base v l := h
theorem OwnQ.form {w : World} {base : Nat} {v : Value} {l : List Int} (h : OwnQ w base v l) : ∃ A cap, v = .slice A l.length cap ∧ l.length ≤ cap ∧ cap ≤ maxLen := by
  obtain ⟨A, cap, e, h1, h2, _⟩ := h
  exact ⟨A, cap, e, h1, h2⟩
theorem OwnQ.cells {w : World} {base n cap : Nat} {A : Option Addr} {l : List Int} (h : OwnQ w base (.slice A n cap) l) (hl : 0 < l.length) :
    ∃ g off, A = some ⟨g, off, none⟩ ∧ base ≤ g ∧ g < w.heap.size ∧ ∀ (k : Nat) (_hk : k < l.length), w.cell? ⟨g, off + k, none⟩ = some (.int .i64 l[k]) := by
  obtain ⟨A', cap', e, h1, h2, h3, h4⟩ := h
  injection e with e1 e2 e3
  subst e1 e3
  obtain ⟨g, off, cur, hA, hg, hh, hs, hk⟩ := h4 (by omega)
  exact ⟨g, off, hA, hg, lt_of_heap hh, fun k hlt => by rw [cell_of_row w g _ cur _ _ hh]; exact hk k _ (List.getElem?_eq_getElem hlt)⟩
/-- The queue without its first. -/
theorem OwnQ.tail {w : World} {base cap : Nat} {g off : Nat} {x : Int} {r : List Int} (h : OwnQ w base (.slice (some ⟨g, off, none⟩) (r.length + 1) cap) (x :: r)) :
    OwnQ w base (.slice (if cap = 1 then some ⟨g, off, none⟩ else some ⟨g, off + 1, none⟩) r.length (cap - 1)) r := by
  obtain ⟨A', cap', e, h1, h2, h3, h4⟩ := h
  injection e with e1 e2 e3
  subst e1 e3
  simp only [List.length_cons] at h1
  refine ⟨_, _, rfl, by omega, by omega, (fun hn => by split at hn <;> cases hn), fun hc => ?_⟩
  obtain ⟨g', off', cur, hA, hg, hh, hs, hk⟩ := h4 (by omega)
  cases hA
  refine ⟨g, off + 1, cur, by rw [if_neg (by omega)], hg, hh, by omega, fun k y hy => ?_⟩
  rw [show off + 1 + k = off + (k + 1) by omega]
  exact hk (k + 1) y (by simpa using hy)

/-- 'queue = append(queue, y)'. -/
theorem wpList_appQ {w : World} {ops : Array Oper} {rest : List Oper} {o : Oper} {a : Act} {Q : Exit → Act → World → Prop} (hgd : o.guard = none) (s x : Operand)
    (ho : o.op = .call { callee := .builtin .append, args := #[s, x], argTypes := #[23, 23] })
    (base : Nat) (v : Value) (l : List Int) (y : Int) (hs : a.eval s = v) (hown : OwnQ w base v l) (S c : Nat) (hx : a.eval x = .slice (some ⟨S, 0, none⟩) 1 c)
    (hnew : w.cell? ⟨S, 0, none⟩ = some (.int .i64 y)) (hlen : l.length < 1000000) (hbase : base ≤ w.heap.size)
    (h : ∀ v' w', OwnQ w' base v' (l ++ [y]) → Below base w w' → w.heap.size ≤ w'.heap.size → wpList Try.prog ops Q rest (a.put o.dst v') w') : wpList Try.prog ops Q (o :: rest) a w := by
  obtain ⟨i, hi, hz0, hz1, hz2⟩ := info_parts infoInt
  obtain ⟨A, cap, e, h1, h2, h3, h4⟩ := hown
  subst e
  have hnews : ∀ j u, [Value.int .i64 y][j]? = some u → w.cell? ((⟨S, 0, none⟩ : Addr).add j) = some u := fun j u hj => by
    match j, hj with
    | 0, hj => simp at hj; subst hj; simpa [Addr.add] using hnew
    | j + 1, hj => simp at hj
  have hone : ∀ u ∈ [Value.int .i64 y], u.oneCell' = true := by intro u hu; simp at hu; subst hu; rfl
  have grows : ∀ v' w', w'.ownsRow w.heap.size 3 1 v' (l.length + 1) (l.map (Value.int .i64) ++ [Value.int .i64 y]) → w.grownBy w' none → wpList Try.prog ops Q rest (a.put o.dst v') w' := fun v' w' hr hg => by
    refine h v' w' (OwnQ.of_own (Own.base_ (l := l ++ [y]) (base := w.heap.size) ?_ hbase)) ((Below.refl _ _).grown hg hbase (fun k hk => by cases hk)) hg.size
    unfold Own
    rw [List.length_append, intsMap, List.map_append]
    exact hr
  by_cases hc : 0 < cap
  · obtain ⟨g, off, cur, rfl, hg, hh, hsz, hk⟩ := h4 hc
    have hcell : ∀ j, w.cell? ⟨g, j, none⟩ = cur[j]? := fun j => cell_of_row w g j cur _ _ hh
    refine wpList_append_arg w hgd s x 23 ho 3 i (.int .i64 0) 1 8 Try.underlying23 hi hz0 hz1 hz2 rfl (by decide) g off l.length cap (l.map (Value.int .i64)) hs (by simp) (fun j u hj => ?_)
      ⟨S, 0, none⟩ 1 c [.int .i64 y] hx rfl hnews hone (fun hroom j hj => ?_) (by unfold maxLen; omega) (by omega) (fun hroom => ?_) (fun _ => grows)
    · rw [hcell]
      rw [List.getElem?_map] at hj
      obtain ⟨x, hx, rfl⟩ := Option.map_eq_some_iff.1 hj
      exact hk j x hx
    · have hj0 : j = 0 := by simpa using hj
      subst hj0
      rw [hcell]
      refine ⟨by rw [Array.getElem?_eq_getElem (by omega)]; rfl, by simp [World.frozen?, hh]⟩
    · have hset : w.setCells g (off + l.length * 1) [.int .i64 y] = w.setCell ⟨g, off + l.length, none⟩ (.int .i64 y) := by
        rw [Nat.mul_one]; rfl
      rw [hset]
      refine h _ _ ⟨some ⟨g, off, none⟩, cap, by simp, by simp; omega, h2, (fun hn => by cases hn), fun _ => ⟨g, off, cur.setIfInBounds (off + l.length) (.int .i64 y), rfl, hg, ?_, by simp; omega, fun k x hx => ?_⟩⟩ ?_ (by simp [World.setCell])
      · simp [World.setCell, Array.getElem?_modify, hh]
      · rw [List.getElem?_append] at hx
        split at hx
        · rename_i hlt
          rw [Array.getElem?_setIfInBounds_ne (by omega)]
          exact hk k x hx
        · rename_i hge
          have : k = l.length := by
            have := (List.getElem?_eq_some_iff.1 hx).1
            simp at this; omega
          subst this
          simp at hx
          subst hx
          rw [Array.getElem?_setIfInBounds_self_of_lt (by omega)]
      · exact (Below.refl _ _).setCell hg _
  · have hl0 : l = [] := List.eq_nil_of_length_eq_zero (by omega)
    have hc0 : cap = 0 := by omega
    subst hl0 hc0
    refine wpList_append_grows w hgd s x 23 ho 3 i (.int .i64 0) 1 8 Try.underlying23 hi hz0 hz1 hz2 rfl (by decide) A 0 0 [] hs (fun _ => ⟨rfl, rfl⟩) rfl (fun b _ j u hj => by simp at hj)
      ⟨S, 0, none⟩ 1 c [.int .i64 y] hx rfl hnews hone (by omega) (by unfold maxLen; omega) (by omega) (fun v' w' => grows v' w')
end Go.Proofs.Ytadmmciiahdmcaa.W
namespace Go.Proofs.Ytadmmciiahdmcaa.W
open Go.RowKit

/-- One goes from a to b, which is not wo. -/
def Edge (ls : List (List Int)) (wo : Int) (a b : Nat) : Prop := ∃ l, ls[a]? = some l ∧ (b : Int) ∈ l ∧ (b : Int) ≠ wo
def WalkN (ls : List (List Int)) (wo : Int) : Nat → Nat → Nat → Prop
  | 0, a, b => a = b
  | n + 1, a, b => ∃ c, WalkN ls wo n a c ∧ Edge ls wo c b
def Comes_ (ls : List (List Int)) (wo : Int) (a b : Nat) : Prop := ∃ n, WalkN ls wo n a b
theorem Comes_.refl (ls : List (List Int)) (wo : Int) (a : Nat) : Comes_ ls wo a a := ⟨0, rfl⟩
theorem Comes_.step {ls : List (List Int)} {wo : Int} {a b c : Nat} (h : Comes_ ls wo a b) (e : Edge ls wo b c) : Comes_ ls wo a c := let ⟨n, h⟩ := h; ⟨n + 1, b, h, e⟩
theorem Comes_.closed {ls : List (List Int)} {wo : Int} {a : Nat} {p : Nat → Prop} (h0 : p a) (hs : ∀ b c, p b → Edge ls wo b c → p c) : ∀ b, Comes_ ls wo a b → p b := by
  rintro b ⟨n, h⟩
  induction n generalizing b with
  | zero => have h : a = b := h
            subst h; exact h0
  | succ n ih => obtain ⟨c, hc, he⟩ := h; exact hs c b (ih c hc) he
theorem Comes_.trans {ls : List (List Int)} {wo : Int} {a b c : Nat} (h : Comes_ ls wo a b) (k : Comes_ ls wo b c) : Comes_ ls wo a c :=
  Comes_.closed (p := fun x => Comes_ ls wo a x) h (fun _ _ hb he => hb.step he) c k
def Valid (ls : List (List Int)) : Prop := ∀ l ∈ ls, l.length ≤ 3 ∧ ∀ x ∈ l, 0 ≤ x ∧ x < ls.length
theorem Edge.lt {ls : List (List Int)} {wo : Int} {a b : Nat} (hv : Valid ls) (h : Edge ls wo a b) : a < ls.length ∧ b < ls.length := by
  obtain ⟨l, h1, h2, _⟩ := h
  refine ⟨(List.getElem?_eq_some_iff.1 h1).1, ?_⟩
  have := (hv l (List.mem_of_getElem? h1)).2 b h2
  omega

/-- The set s has just the nodes to which one comes from a. -/
def IsFrom (ls : List (List Int)) (wo : Int) (a : Nat) (s : Nat) : Prop := ∀ b, s.testBit b = true ↔ ((a : Int) ≠ wo ∧ Comes_ ls wo a b)

/-- What the loop keeps: the set s, the queue q. -/
structure Fr (ls : List (List Int)) (wo : Int) (a : Nat) (s : Nat) (q : List Int) : Prop where
  start : s.testBit a = true
  comes : ∀ b, s.testBit b = true → Comes_ ls wo a b
  low : ∀ b, s.testBit b = true → b < ls.length
  queue : ∀ x ∈ q, 0 ≤ x ∧ x < ls.length ∧ s.testBit x.toNat = true
  closed : ∀ b c, s.testBit b = true → (b : Int) ∉ q → Edge ls wo b c → s.testBit c = true
theorem Fr.fits {ls : List (List Int)} {wo : Int} {a s : Nat} {q : List Int} (h : Fr ls wo a s q) (h8 : ls.length ≤ 8) : s < 256 := by
  have := lt_pow_of_bits h.low
  exact Nat.lt_of_lt_of_le this (Nat.pow_le_pow_right (by decide) h8 : 2 ^ ls.length ≤ 2 ^ 8)
theorem Fr.first {ls : List (List Int)} {wo : Int} {a : Nat} (ha : a < ls.length) : Fr ls wo a (2 ^ a) [(a : Int)] := by
  have hb : ∀ b, (2 ^ a).testBit b = true → a = b := fun b h => by rw [testBit_pow] at h; exact of_decide_eq_true h
  refine ⟨by rw [testBit_pow]; simp, fun b h => by rw [← hb b h]; exact Comes_.refl _ _ _, fun b h => by rw [← hb b h]; exact ha, fun x hx => ?_, fun b c h hn _ => ?_⟩
  · simp at hx; subst hx
    exact ⟨by omega, by omega, by rw [Int.toNat_natCast, testBit_pow]; simp⟩
  · rw [← hb b h] at hn; simp at hn
theorem Fr.done {ls : List (List Int)} {wo : Int} {a s : Nat} (h : Fr ls wo a s []) (hne : (a : Int) ≠ wo) : IsFrom ls wo a s := fun b =>
  ⟨fun hb => ⟨hne, h.comes b hb⟩, fun ⟨_, hc⟩ => Comes_.closed (p := fun x => s.testBit x = true) h.start (fun b c hb he => h.closed b c hb (by simp) he) b hc⟩

/-- Within a round: the head q0 is under way, of its next nodes the first t are done. -/
structure Fi (ls : List (List Int)) (wo : Int) (a : Nat) (q0 : Nat) (l : List Int) (t : Nat) (s : Nat) (q : List Int) : Prop where
  fr : Fr ls wo a s q
  done : ∀ i (h : i < l.length), i < t → l[i] ≠ wo → s.testBit l[i].toNat = true
theorem Fi.skip {ls : List (List Int)} {wo : Int} {a q0 t s : Nat} {l q : List Int} (h : Fi ls wo a q0 l t s q) (ht : t < l.length) (hb : l[t] = wo ∨ s.testBit l[t].toNat = true) : Fi ls wo a q0 l (t + 1) s q :=
  ⟨h.fr, fun i hi hlt hne => by
    rcases Nat.lt_or_ge i t with h1 | h1
    · exact h.done i hi h1 hne
    · have : i = t := by omega
      subst this
      rcases hb with hb | hb
      · exact absurd hb hne
      · exact hb⟩
theorem Fi.push {ls : List (List Int)} {wo : Int} {a q0 t s j : Nat} {l q : List Int} (h : Fi ls wo a q0 l t s q) (ht : t < l.length) (hj : l[t] = (j : Int)) (hne : (j : Int) ≠ wo) (hlt : j < ls.length) (hl : ls[q0]? = some l) (hq0 : s.testBit q0 = true) :
    Fi ls wo a q0 l (t + 1) (s ||| 2 ^ j) (q ++ [(j : Int)]) := by
  have mono : ∀ b, s.testBit b = true → (s ||| 2 ^ j).testBit b = true := fun b hb => by rw [set_bit, hb]; rfl
  have hjt : (s ||| 2 ^ j).testBit j = true := by rw [set_bit]; simp
  have cases_ : ∀ b, (s ||| 2 ^ j).testBit b = true → s.testBit b = true ∨ j = b := fun b hb => by
    rw [set_bit, Bool.or_eq_true] at hb
    exact hb.imp id of_decide_eq_true
  have he : Edge ls wo q0 j := ⟨l, hl, by rw [← hj]; exact List.getElem_mem ht, hne⟩
  refine ⟨⟨mono _ h.fr.start, fun b hb => ?_, fun b hb => ?_, fun x hx => ?_, fun b c hb hn hbc => ?_⟩, fun i hi hit hne' => ?_⟩
  · rcases cases_ b hb with h1 | rfl
    · exact h.fr.comes b h1
    · exact (h.fr.comes q0 hq0).step he
  · rcases cases_ b hb with h1 | rfl
    · exact h.fr.low b h1
    · exact hlt
  · rcases List.mem_append.1 hx with h1 | h1
    · have := h.fr.queue x h1
      exact ⟨this.1, this.2.1, mono _ this.2.2⟩
    · simp at h1; subst h1
      exact ⟨by omega, by omega, by rw [Int.toNat_natCast]; exact hjt⟩
  · rcases cases_ b hb with h1 | rfl
    · exact mono c (h.fr.closed b c h1 (fun hm => hn (List.mem_append_left _ hm)) hbc)
    · exact absurd (List.mem_append_right _ (by simp)) hn
  · rcases Nat.lt_or_ge i t with h1 | h1
    · exact mono _ (h.done i hi h1 hne')
    · have : i = t := by omega
      subst this
      rw [hj, Int.toNat_natCast]; exact hjt
theorem Fi.finish {ls : List (List Int)} {wo : Int} {a q0 s : Nat} {l r : List Int} (h : Fi ls wo a q0 l l.length s ((q0 : Int) :: r)) (hl : ls[q0]? = some l) : Fr ls wo a s r := by
  refine ⟨h.fr.start, h.fr.comes, h.fr.low, fun x hx => h.fr.queue x (by simp [hx]), fun b c hb hn hbc => ?_⟩
  by_cases hbq : b = q0
  · subst hbq
    obtain ⟨l', h1, h2, h3⟩ := hbc
    rw [hl] at h1
    injection h1 with h1
    subst h1
    obtain ⟨i, hi, hc⟩ := List.getElem_of_mem h2
    have := h.done i hi hi (by rw [hc]; exact h3)
    rw [hc, Int.toNat_natCast] at this
    exact this
  · exact h.fr.closed b c hb (by simp; exact ⟨by omega, hn⟩) hbc
end Go.Proofs.Ytadmmciiahdmcaa.W
namespace Go.Proofs.Ytadmmciiahdmcaa.W
open Go.RowKit

/-- The weight of a queue and a set: what is still to come. -/
def wt (s : Nat) (n : Nat) : Nat := 2 * (8 - cnt8 s) + n

set_option maxHeartbeats 4000000 in
theorem from_calls (A : Option Addr) (ls : List (List Int)) (cap : Nat) (w : World) (i : Nat) (wo : Int) (hA : RdN w A ls) (h8 : ls.length ≤ 8) (hv : Valid ls) (hi : i < ls.length) :
    Calls Try.prog 78 #[.slice A ls.length cap, .int .i64 i, .int .i64 wo] w
      fun e w' => ∃ s : Nat, e = .returned (.int .u32 s) ∧ IsFrom ls wo i s ∧ s < 256 ∧ Below w.heap.size w w' := by
  have HA := Lib.hid hA; clear hA
  have HV := Lib.hid hv; clear hv
  by_cases hw : (i : Int) = wo
  · have hd : ((i : Int) == wo) = true := by simpa using hw
    have Hw := Lib.hid hw
    clear hw
    go_enter Try.func78, Try.ntmps78
    go_wp2
    go_ret
    exact ⟨0, rfl, fun b => by simp [Nat.zero_testBit]; intro h; exact absurd Hw.out h, by decide, Below.refl _ _⟩
  have hd : ((i : Int) == wo) = false := by simpa using hw
  have HF := Lib.hid (Fr.first (wo := wo) hi)
  have Hw := Lib.hid hw
  clear hw
  have hp := pow_u32 i (by omega)
  have hi32 : i < 32 := by omega
  go_enter Try.func78, Try.ntmps78
  go_wp2
  go_loopg [7, 8] 17 (fun g s7 s8 wr => ∃ (s : Nat) (q : List Int), s7 = .int .u32 s ∧ OwnQ wr w.heap.size s8 q ∧ Hid (Fr ls wo i s q) ∧ Below w.heap.size w wr ∧ wt s q.length ≤ g ∧ g ≤ 17)
  case atStart =>
    refine ⟨2 ^ i, [(i : Int)], by rw [hp], OwnQ.of_own (OwnI.lit w [(i : Int)] w.heap.size (Nat.le_refl _) (by simp [maxLen])), HF, ?_, by unfold wt; simp; omega, by omega⟩
    exact (Below.refl _ _).alloc (Nat.le_refl _) _
  case round =>
    clear hd hp
    obtain ⟨s, q, rfl, hown, hfr, hW, hwt, hg⟩ := hrel
    have hw1 := hW.size
    cases q with
    | nil =>
      obtain ⟨A', cap', rfl, h1, h2⟩ := hown.form
      clear hown
      go_wp2
      go_ret
      exact ⟨s, rfl, hfr.out.done Hw.out, hfr.out.fits h8, hW⟩
    | cons x r =>
      obtain ⟨A', cap', rfl, h1, h2⟩ := hown.form
      obtain ⟨g0, off0, rfl, hg0, hg1, hcells⟩ := OwnQ.cells hown (by simp)
      obtain ⟨x0, x1, x2⟩ := hfr.out.queue x (by simp)
      obtain ⟨q0, rfl⟩ := Int.eq_ofNat_of_zero_le x0
      have hq0 : q0 < ls.length := by omega
      have hl := Lib.hid (List.getElem?_eq_getElem hq0)
      rw [Int.toNat_natCast] at x2
      obtain ⟨b, off, A1, cap1, rfl, hb, c0, hR⟩ := RdN.at_ HA.out hq0
      have c0 : wr.cell? ⟨b, off + q0, none⟩ = _ := (hW.cell (p := ⟨b, off + q0, none⟩) hb).trans c0
      have d0 := hcells 0 (by simp)
      simp only [Nat.add_zero, List.getElem_cons_zero] at d0
      have hl3 := (HV.out _ (List.getElem_mem hq0)).1
      have Hin := Lib.hid ((HV.out _ (List.getElem_mem hq0)).2)
      have HR := Lib.hid hR
      have Hown := Lib.hid hown
      have Hx2 := Lib.hid x2
      clear hR hcells hown x0 x1 x2
      generalize ls[q0] = l at *
      have hlen := h1
      simp only [List.length_cons] at hlen
      have q1 : decide (0 < (r.length : Int) + 1) = true := decide_eq_true (by omega)
      go_wp2
      obtain ⟨wo1, rfl⟩ : ∃ wo1 : World, wo1 = wr := ⟨_, rfl⟩
      go_loopw [7, 8, 30] (fun s7 s8 i3 wr => ∃ (t s' : Nat) (q' : List Int), i3 = .int .i64 t ∧ t ≤ l.length ∧ s7 = .int .u32 s' ∧ OwnQ wr w.heap.size s8 ((q0 : Int) :: q') ∧ Hid (Fi ls wo i q0 l t s' ((q0 : Int) :: q')) ∧ s'.testBit q0 = true ∧ Below w.heap.size w wr ∧ wt s' (q'.length + 1) ≤ gk) (fun _ _ i3 _ => l.length - (intOf i3).toNat)
      case atStart => exact ⟨0, s, r, rfl, Nat.zero_le _, rfl, Hown.out, ⟨hfr.out, fun i hi hlt => by omega⟩, Hx2.out, hW, hwt⟩
      case round =>
        clear d0 Hown Hx2 hfr hW hwt hlen h1 q1
        obtain ⟨t, s', q', rfl, ht, rfl, hown, hfi, hbit, hW, hwt⟩ := hrel
        have Hbit := Lib.hid hbit
        clear hbit
        have hw2 := hW.size
        obtain ⟨A2, cap2, rfl, h1, h2⟩ := hown.form
        by_cases hlt : t < l.length
        · obtain ⟨b2, off2, rfl, hb2, c1⟩ := RdI.at1 (Rd.below HR.out hW) hlt
          obtain ⟨x0, x1⟩ := Hin.out _ (List.getElem_mem hlt)
          obtain ⟨j, hj⟩ := Int.eq_ofNat_of_zero_le x0
          have Hj := Lib.hid hj
          have hj8 : j < ls.length := by omega
          have hs32 : s' < 4294967296 := Nat.lt_trans (hfi.out.fr.fits h8) (by decide)
          have p1 := pow_u32 j (by omega)
          have p2 := or_u32 s' (2 ^ j) hs32 (Nat.lt_of_lt_of_le (Nat.pow_lt_pow_right (by decide) (by omega : j < 32)) (by decide))
          rw [Int.natCast_pow, show ((2 : Nat) : Int) = 2 from rfl] at p1 p2
          have p3 := test_u32 s' j hs32
          rw [hj] at c1
          clear hj x0 x1
          by_cases hne : (j : Int) = wo
          · have q1 : ((j : Int) != wo) = false := by simpa using hne
            have Hne := Lib.hid hne
            have Hown := Lib.hid hown
            clear hne hown p1 p2 p3
            go_wp2
            go_roundw
            case rel => exact ⟨t + 1, s', q', by go_num, by omega, rfl, Hown.out, hfi.out.skip hlt (Or.inl (Hj.out.trans Hne.out)), Hbit.out, hW, hwt⟩
            case measure => simp [intOf]; omega
          · have q1 : ((j : Int) != wo) = true := by simpa using hne
            have Hne := Lib.hid hne
            clear hne
            cases hb : s'.testBit j
            · have Hb := Lib.hid hb
              rw [hb] at p3
              clear hb
              have Hw := Lib.hid hwt
              have hq17 : q'.length < 20 := by unfold wt at hwt; omega
              clear hwt
              go_wp2_with (at_builtin; refine wpList_appQ rfl _ _ rfl w.heap.size _ _ (j : Int) rfl (hown.alloc _) _ _ rfl (cell_new _ _ _ _ (by simp) _) (by simp; omega) (by simp; omega) ?_; intro v' w3 hown' hB3 hge3)
              refine ⟨?_, ?measure⟩
              (repeat apply Exists.intro)
              refine ⟨?rel, rfl⟩
              case rel => exact ⟨t + 1, s' ||| 2 ^ j, q' ++ [(j : Int)], by go_num, by omega, rfl, hown', hfi.out.push hlt Hj.out Hne.out hj8 hl.out Hbit.out, by rw [set_bit, Hbit.out]; rfl, (hW.alloc hw2 _).trans hB3, by have := Hw.out; have := cnt8_set (by omega) Hb.out; have := cnt8_le (s' ||| 2 ^ j); unfold wt at *; simp; omega⟩
              case measure => simp [intOf]; omega
            · have Hb := Lib.hid hb
              rw [hb] at p3
              have Hown := Lib.hid hown
              clear hb hown p1 p2
              go_wp2
              go_roundw
              case rel => exact ⟨t + 1, s', q', by go_num, by omega, rfl, Hown.out, hfi.out.skip hlt (Or.inr (by rw [Hj.out, Int.toNat_natCast]; exact Hb.out)), Hbit.out, hW, hwt⟩
              case measure => simp [intOf]; omega
        · have : t = l.length := by omega
          subst this
          clear hlt ht
          obtain ⟨g2, off2, rfl, _, _, _⟩ := OwnQ.cells hown (by simp)
          have Ht := Lib.hid (OwnQ.tail hown)
          have Hwt := Lib.hid hwt
          clear hown hwt
          simp only [List.length_cons] at h1
          by_cases hc : cap2 = 1
          · rw [if_pos hc] at Ht
            have q1 : cap2 - 1 = 0 := by omega
            go_wp2
            all_goals first | (exfalso; omega) | skip
            go_roundg (wt s' q'.length)
            case measure => have := Hwt.out; unfold wt at *; omega
            case rel => exact ⟨s', q', rfl, by simpa [q1] using Ht.out, hfi.out.finish hl.out, hW, Nat.le_refl _, by have := Hwt.out; unfold wt at *; omega⟩
          · rw [if_neg hc] at Ht
            have q1 : ¬ cap2 - 1 = 0 := by omega
            go_wp2
            all_goals first | (exfalso; omega) | skip
            go_roundg (wt s' q'.length)
            case measure => have := Hwt.out; unfold wt at *; omega
            case rel => exact ⟨s', q', rfl, Ht.out, hfi.out.finish hl.out, hW, Nat.le_refl _, by have := Hwt.out; unfold wt at *; omega⟩
end Go.Proofs.Ytadmmciiahdmcaa.W
namespace Go.Proofs.Ytadmmciiahdmcaa.W
open Go.RowKit

open Classical in
noncomputable def setTo (p : Nat → Prop) : Nat → Nat
  | 0 => 0
  | k + 1 => if p k then setTo p k ||| 2 ^ k else setTo p k
theorem setTo_bit (p : Nat → Prop) (n k : Nat) : (setTo p n).testBit k = true ↔ k < n ∧ p k := by
  induction n with
  | zero => simp [setTo]
  | succ n ih =>
    unfold setTo
    split
    · rename_i h
      rw [set_bit, Bool.or_eq_true, ih, decide_eq_true_eq]
      constructor
      · rintro (⟨h1, h2⟩ | rfl)
        · exact ⟨by omega, h2⟩
        · exact ⟨by omega, h⟩
      · rintro ⟨h1, h2⟩
        by_cases e : n = k
        · exact Or.inr e
        · exact Or.inl ⟨by omega, h2⟩
    · rename_i h
      rw [ih]
      constructor
      · rintro ⟨h1, h2⟩; exact ⟨by omega, h2⟩
      · rintro ⟨h1, h2⟩
        refine ⟨?_, h2⟩
        rcases Nat.lt_or_ge k n with h3 | h3
        · exact h3
        · have : k = n := by omega
          subst this; exact absurd h2 h
noncomputable def setN (p : Nat → Prop) : Nat := setTo p 8
theorem setN_bit (p : Nat → Prop) (k : Nat) : (setN p).testBit k = true ↔ k < 8 ∧ p k := setTo_bit p 8 k
theorem setN_ext {s : Nat} {p : Nat → Prop} (h : ∀ k, s.testBit k = true ↔ (k < 8 ∧ p k)) : s = setN p := set_ext fun k => by
  rw [Bool.eq_iff_iff, h, setN_bit]
theorem setN_congr {p q : Nat → Prop} (h : ∀ k, k < 8 → (p k ↔ q k)) : setN p = setN q := setN_ext fun k => by
  rw [setN_bit]; constructor
  · rintro ⟨h1, h2⟩; exact ⟨h1, (h k h1).1 h2⟩
  · rintro ⟨h1, h2⟩; exact ⟨h1, (h k h1).2 h2⟩
theorem setN_lt (p : Nat → Prop) : setN p < 256 := lt_pow_of_bits (n := 8) fun k h => ((setN_bit p k).1 h).1
theorem setN_false {p : Nat → Prop} (h : ∀ k, k < 8 → ¬ p k) : setN p = 0 := set_ext fun k => by
  rw [Bool.eq_iff_iff, setN_bit, Nat.zero_testBit]
  constructor
  · rintro ⟨h1, h2⟩; exact absurd h2 (h k h1)
  · intro h; cases h

noncomputable def fromS (ls : List (List Int)) (wo : Int) (i : Nat) : Nat := setN fun b => (i : Int) ≠ wo ∧ Comes_ ls wo i b
theorem Comes_.lt {ls : List (List Int)} {wo : Int} {a b : Nat} (hv : Valid ls) (ha : a < ls.length) (h : Comes_ ls wo a b) : b < ls.length :=
  Comes_.closed (p := fun x => x < ls.length) ha (fun _ _ _ he => (he.lt hv).2) b h
theorem fromS_bit {ls : List (List Int)} {wo : Int} {i : Nat} (h8 : ls.length ≤ 8) (hv : Valid ls) (hi : i < ls.length) (b : Nat) : (fromS ls wo i).testBit b = true ↔ ((i : Int) ≠ wo ∧ Comes_ ls wo i b) := by
  unfold fromS
  rw [setN_bit]
  constructor
  · exact fun h => h.2
  · exact fun h => ⟨by have := h.2.lt hv hi; omega, h⟩
theorem fromS_lt (ls : List (List Int)) (wo : Int) (i : Nat) : fromS ls wo i < 256 := setN_lt _
theorem IsFrom.eq {ls : List (List Int)} {wo : Int} {i s : Nat} (h8 : ls.length ≤ 8) (hv : Valid ls) (hi : i < ls.length) (h : IsFrom ls wo i s) : s = fromS ls wo i := set_ext fun k => by
  rw [Bool.eq_iff_iff, h k, fromS_bit h8 hv hi]
theorem fromS_calls (A : Option Addr) (ls : List (List Int)) (cap : Nat) (w : World) (i : Nat) (wo : Int) (hA : RdN w A ls) (h8 : ls.length ≤ 8) (hv : Valid ls) (hi : i < ls.length) :
    Calls Try.prog 78 #[.slice A ls.length cap, .int .i64 i, .int .i64 wo] w
      fun e w' => e = .returned (.int .u32 (fromS ls wo i : Nat)) ∧ Below w.heap.size w w' := by
  refine (from_calls A ls cap w i wo hA h8 hv hi).mono ?_
  rintro e w' ⟨s, rfl, h1, h2, h3⟩
  rw [h1.eq h8 hv hi]
  exact ⟨rfl, h3⟩
theorem valid_of {ls : List (List Int)} (h : wayErr ls = 0) : 1 ≤ ls.length ∧ ls.length ≤ 8 ∧ Valid ls := wayErr_ok h
end Go.Proofs.Ytadmmciiahdmcaa.W
namespace Go.Proofs.Ytadmmciiahdmcaa.W
open Go.RowKit

theorem and_one01 (a : Nat) : (((a &&& 1 : Nat) : Int) == 1) = !(((a &&& 1 : Nat) : Int) == 0) := by
  have := @Nat.and_le_right a 1
  rcases (by omega : a &&& 1 = 0 ∨ a &&& 1 = 1) with h | h <;> rw [h] <;> rfl
/-- 's >> j & 1 == 1' -/
theorem test1_u32 (s j : Nat) (hs : s < 4294967296) : (bits .and .u32 ((s : Int) / 2 ^ j) 1 == 1) = s.testBit j := by
  have h := test_u32 s j hs
  rw [shr_u32, show (1 : Int) = ((1 : Nat) : Int) from rfl, and_u32 _ _ (Nat.lt_of_le_of_lt (Nat.shiftRight_le _ _) hs) (by decide)] at h ⊢
  rw [show ((1 : Nat) : Int) = 1 from rfl, and_one01, h, Bool.not_not]

end Go.Proofs.Ytadmmciiahdmcaa.W
namespace Go.Proofs.Ytadmmciiahdmcaa.W
open Go.RowKit

set_option maxHeartbeats 400000 in
theorem inSet_calls (N S : Nat) (x : Nat) (w : World) (hc : w.cell? ⟨N, 0, none⟩ = some (.int .u32 (S : Nat))) (hS : S < 256) (hx : x < 32) :
    Calls Try.prog 93 #[.int .i64 (x : Nat), .pointer (some ⟨N, 0, none⟩)] w fun e w' => e = .returned (.bool (S.testBit x)) ∧ w' = w := by
  have p1 := test1_u32 S x (by omega)
  go_enter Try.func93, Try.ntmps93
  go_wp2
  go_ret
  exact ⟨rfl, rfl⟩
def SetEnd (S : Nat) (l : List Int) (w : World) (e : Ending) (w' : World) : Prop :=
  w' = w ∧ ∃ m : Int, e = .returned (.int .i64 m) ∧ ((m = -1 ∧ ∀ x ∈ l, S.testBit x.toNat = false) ∨ (0 ≤ m ∧ ∃ x ∈ l, S.testBit x.toNat = true))
set_option maxHeartbeats 400000 in
theorem setIndex_calls (N S : Nat) (A : Option Addr) (l : List Int) (cap : Nat) (w : World) (hc : w.cell? ⟨N, 0, none⟩ = some (.int .u32 (S : Nat))) (hS : S < 256) (hl : ∀ x ∈ l, 0 ≤ x ∧ x < 8) (hA : RdI w A l) (hm : l.length ≤ 1000) :
    Calls Try.prog 83 #[.slice A l.length cap, .func (.func 93) #[] #[.pointer (some ⟨N, 0, none⟩)]] w (SetEnd S l w) := by
  have HA := Lib.hid hA; clear hA
  have Hc := Lib.hid hc; clear hc
  have Hl := Lib.hid hl; clear hl
  go_enter Try.func83, Try.ntmps83
  go_wp2
  go_loop [8] (fun i => ∃ k : Nat, k ≤ l.length ∧ i = .int .i64 k ∧ Hid (∀ x ∈ l.take k, S.testBit x.toNat = false)) (fun i => l.length - (intOf i).toNat)
  case atStart => exact ⟨0, Nat.zero_le _, rfl, fun x hx => by simp at hx⟩
  case round =>
    obtain ⟨k, hk, rfl, hP⟩ := hrel
    by_cases hlt : k < l.length
    · obtain ⟨b, off, rfl, hb, c0⟩ := RdI.at1 HA.out hlt
      have hmem := List.getElem_mem hlt
      obtain ⟨x0, x1⟩ := Hl.out _ hmem
      have Hmem := Lib.hid hmem
      have Hst := Lib.hid (take_all_succ (p := fun x => S.testBit x.toNat = false) hlt hP.out)
      clear hmem hP
      generalize l[k] = x at *
      obtain ⟨j, rfl⟩ := Int.eq_ofNat_of_zero_le x0
      have hj : j < 32 := by omega
      rw [Int.toNat_natCast] at Hst
      clear x0 x1
      have Hcl := Lib.hid (fun w hc => inSet_calls N S j w hc hS hj)
      cases hx : S.testBit j
      · have Hx := Lib.hid hx
        rw [hx] at Hcl
        clear hx
        go_wp2_with (go_at_call 93; refine (Hcl.out _ Hc.out).mono ?_; rintro e w' ⟨rfl, rfl⟩)
        go_round
        case rel => exact ⟨k + 1, by omega, by go_num, Hst.out Hx.out⟩
        case measure => simp [intOf]; omega
      · have Hx := Lib.hid hx
        rw [hx] at Hcl
        clear hx
        go_wp2_with (go_at_call 93; refine (Hcl.out _ Hc.out).mono ?_; rintro e w' ⟨rfl, rfl⟩)
        go_ret
        exact ⟨rfl, k, rfl, .inr ⟨by omega, (j : Int), Hmem.out, by rw [Int.toNat_natCast]; exact Hx.out⟩⟩
    · go_wp2
      go_ret
      have : k = l.length := by omega
      subst this
      have := hP.out
      rw [List.take_length] at this
      exact ⟨rfl, -1, rfl, .inl ⟨rfl, this⟩⟩
def anyIn (S : Nat) (l : List Int) : Bool := l.any fun x => S.testBit x.toNat
set_option maxHeartbeats 400000 in
theorem setContains_calls (N S : Nat) (A : Option Addr) (l : List Int) (cap : Nat) (w : World) (hc : w.cell? ⟨N, 0, none⟩ = some (.int .u32 (S : Nat))) (hS : S < 256) (hl : ∀ x ∈ l, 0 ≤ x ∧ x < 8) (hA : RdI w A l) (hm : l.length ≤ 1000) :
    Calls Try.prog 68 #[.slice A l.length cap, .func (.func 93) #[] #[.pointer (some ⟨N, 0, none⟩)]] w fun e w' => e = .returned (.bool (anyIn S l)) ∧ w' = w := by
  have HA := Lib.hid hA; clear hA
  have hall : (∀ x ∈ l, S.testBit x.toNat = false) → anyIn S l = false := fun h => by
    unfold anyIn
    rw [List.any_eq_false]
    intro x hx
    rw [h x hx]; simp
  have hany : (∃ x ∈ l, S.testBit x.toNat = true) → anyIn S l = true := fun ⟨x, hx, h⟩ => by
    unfold anyIn
    rw [List.any_eq_true]
    exact ⟨x, hx, h⟩
  have Hall := Lib.hid hall
  have Hany := Lib.hid hany
  clear hall hany
  go_enter Try.func68, Try.ntmps68
  go_wp2_with fail
  refine (setIndex_calls N S A l cap w hc hS hl HA.out hm).mono ?_
  rintro e w' ⟨rfl, m, rfl, h⟩
  rcases h with ⟨rfl, h⟩ | ⟨h0, h⟩
  · have Ha := Lib.hid (Hall.out h)
    clear h hm hl
    go_wp2
    go_ret
    exact ⟨ret_bool (by rw [Ha.out]), rfl⟩
  · have Ha := Lib.hid (Hany.out h)
    clear h hm hl
    go_wp2
    go_ret
    exact ⟨ret_bool (by rw [Ha.out]), rfl⟩

/-- From i one can come to an end without wo. -/
inductive Ends (ls : List (List Int)) (wo : Int) : Nat → Prop
  | stop {i : Nat} : ls[i]? = some [] → (i : Int) ≠ wo → Ends ls wo i
  | go {i j : Nat} {l : List Int} : ls[i]? = some l → (i : Int) ≠ wo → (j : Int) ∈ l → Ends ls wo j → Ends ls wo i
theorem Ends.lt {ls : List (List Int)} {wo : Int} {i : Nat} (h : Ends ls wo i) : i < ls.length := by
  cases h with
  | stop h _ => exact (List.getElem?_eq_some_iff.1 h).1
  | go h _ _ _ => exact (List.getElem?_eq_some_iff.1 h).1
noncomputable def endS (ls : List (List Int)) (wo : Int) : Nat := setN (Ends ls wo)
theorem endS_bit {ls : List (List Int)} (h8 : ls.length ≤ 8) (wo : Int) (i : Nat) : (endS ls wo).testBit i = true ↔ Ends ls wo i := by
  unfold endS
  rw [setN_bit]
  exact ⟨fun h => h.2, fun h => ⟨by have := h.lt; omega, h⟩⟩
theorem endS_lt (ls : List (List Int)) (wo : Int) : endS ls wo < 256 := setN_lt _
def mayEnd (l : List Int) (s : Nat) : Bool := l.length == 0 || anyIn s l
def EFix (ls : List (List Int)) (wo : Int) (s : Nat) : Prop := ∀ (i : Nat) (l : List Int), ls[i]? = some l → (i : Int) ≠ wo → mayEnd l s = true → s.testBit i = true
theorem mayEnd_iff {l : List Int} {s : Nat} (hl : ∀ x ∈ l, 0 ≤ x) : mayEnd l s = true ↔ l = [] ∨ ∃ j : Nat, (j : Int) ∈ l ∧ s.testBit j = true := by
  unfold mayEnd anyIn
  rw [Bool.or_eq_true, beq_iff_eq, List.length_eq_zero_iff, List.any_eq_true]
  constructor
  · rintro (h | ⟨x, hx, hb⟩)
    · exact Or.inl h
    · obtain ⟨j, rfl⟩ := Int.eq_ofNat_of_zero_le (hl x hx)
      exact Or.inr ⟨j, hx, by simpa using hb⟩
  · rintro (h | ⟨j, hj, hb⟩)
    · exact Or.inl h
    · exact Or.inr ⟨(j : Int), hj, by simpa using hb⟩
/-- Before pass p. -/
structure Eo (ls : List (List Int)) (wo : Int) (p s : Nat) : Prop where
  sound : ∀ i, s.testBit i = true → Ends ls wo i
  far : EFix ls wo s ∨ p ≤ cnt8 s
/-- Within a pass from the set was. -/
structure Ei (ls : List (List Int)) (wo : Int) (was s k : Nat) : Prop where
  sound : ∀ i, s.testBit i = true → Ends ls wo i
  sup : ∀ i, was.testBit i = true → s.testBit i = true
  done : ∀ i l, i < k → ls[i]? = some l → (i : Int) ≠ wo → mayEnd l was = true → s.testBit i = true
theorem Eo.first (ls : List (List Int)) (wo : Int) : Eo ls wo 0 0 := ⟨(fun i h => by rw [Nat.zero_testBit] at h; cases h), Or.inr (Nat.zero_le _)⟩
theorem Eo.start {ls : List (List Int)} {wo : Int} {p s : Nat} (h : Eo ls wo p s) : Ei ls wo s s 0 := ⟨h.sound, fun _ h => h, fun i l h => by omega⟩
theorem anyIn_mono {s t : Nat} {l : List Int} (h : ∀ i, s.testBit i = true → t.testBit i = true) (ha : anyIn s l = true) : anyIn t l = true := by
  unfold anyIn at *
  rw [List.any_eq_true] at *
  obtain ⟨x, hx, hb⟩ := ha
  exact ⟨x, hx, h _ hb⟩
theorem mayEnd_mono {s t : Nat} {l : List Int} (h : ∀ i, s.testBit i = true → t.testBit i = true) (ha : mayEnd l s = true) : mayEnd l t = true := by
  unfold mayEnd at *
  rw [Bool.or_eq_true] at *
  exact ha.imp id (anyIn_mono h)
theorem Ei.skip {ls : List (List Int)} {wo : Int} {was s k : Nat} {l : List Int} (h : Ei ls wo was s k) (hl : ls[k]? = some l) (hn : (k : Int) = wo ∨ mayEnd l s = false) : Ei ls wo was s (k + 1) :=
  ⟨h.sound, h.sup, fun i l' hi hl' hne hm => by
    rcases Nat.lt_or_ge i k with h1 | h1
    · exact h.done i l' h1 hl' hne hm
    · have : i = k := by omega
      subst this
      rw [hl] at hl'
      injection hl' with hl'
      subst hl'
      rcases hn with hn | hn
      · exact absurd hn hne
      · rw [mayEnd_mono h.sup hm] at hn; cases hn⟩
theorem Ei.push {ls : List (List Int)} {wo : Int} {was s k : Nat} {l : List Int} (h : Ei ls wo was s k) (hl : ls[k]? = some l) (h0 : ∀ x ∈ l, 0 ≤ x) (hne : (k : Int) ≠ wo) (hm : mayEnd l s = true) : Ei ls wo was (s ||| 2 ^ k) (k + 1) :=
  ⟨fun i hi => by
    rw [set_bit, Bool.or_eq_true, decide_eq_true_eq] at hi
    rcases hi with hi | rfl
    · exact h.sound i hi
    · rcases (mayEnd_iff h0).1 hm with rfl | ⟨j, hj, hb⟩
      · exact .stop hl hne
      · exact .go hl hne hj (h.sound j hb), fun i hi => by rw [set_bit, h.sup i hi]; rfl, fun i l' hi hl' hne' hm' => by
    rw [set_bit, Bool.or_eq_true, decide_eq_true_eq]
    rcases Nat.lt_or_ge i k with h1 | h1
    · exact Or.inl (h.done i l' h1 hl' hne' hm')
    · exact Or.inr (by omega)⟩
theorem EFix.all {ls : List (List Int)} {wo : Int} {s : Nat} (hf : EFix ls wo s) (h0 : ∀ l ∈ ls, ∀ x ∈ l, 0 ≤ x) : ∀ i, Ends ls wo i → s.testBit i = true := fun i h => by
  induction h with
  | stop h1 h2 => exact hf _ _ h1 h2 ((mayEnd_iff (h0 _ (List.mem_of_getElem? h1))).2 (Or.inl rfl))
  | go h1 h2 h3 _ ih => exact hf _ _ h1 h2 ((mayEnd_iff (h0 _ (List.mem_of_getElem? h1))).2 (Or.inr ⟨_, h3, ih⟩))
theorem Ei.next {ls : List (List Int)} {wo : Int} {p was s : Nat} (h0 : ∀ l ∈ ls, ∀ x ∈ l, 0 ≤ x) (h8 : ls.length ≤ 8) (ho : Eo ls wo p was) (h : Ei ls wo was s ls.length) : Eo ls wo (p + 1) s := by
  refine ⟨h.sound, ?_⟩
  by_cases e : was = s
  · subst e
    exact Or.inl fun i l hl hne hm => h.done i l (List.getElem?_eq_some_iff.1 hl).1 hl hne hm
  · have hs : s < 256 := lt_pow_of_bits (n := 8) fun k hk => by have := (h.sound k hk).lt; omega
    rcases ho.far with hf | hp
    · refine absurd (set_ext fun i => ?_) e
      rw [Bool.eq_iff_iff]
      exact ⟨h.sup i, fun hb => hf.all h0 i (h.sound i hb)⟩
    · have := cnt8_mono_lt h.sup e hs
      exact Or.inr (by omega)
theorem cnt8_full : ∀ n, n ≤ 8 → cnt8 (2 ^ n - 1) = n := by decide
theorem Eo.finish {ls : List (List Int)} {wo : Int} {s : Nat} (h0 : ∀ l ∈ ls, ∀ x ∈ l, 0 ≤ x) (h8 : ls.length ≤ 8) (h : Eo ls wo ls.length s) : s = endS ls wo := set_ext fun i => by
  rw [Bool.eq_iff_iff, endS_bit h8]
  refine ⟨h.sound i, fun he => ?_⟩
  rcases h.far with hf | hp
  · exact hf.all h0 i he
  · have hfull : s = 2 ^ ls.length - 1 := by
      apply Classical.byContradiction
      intro hne
      have hb : ∀ k, s.testBit k = true → (2 ^ ls.length - 1).testBit k = true := fun k hk => by
        rw [Nat.testBit_two_pow_sub_one]
        exact decide_eq_true (h.sound k hk).lt
      have hlt : 2 ^ ls.length - 1 < 256 := by
        have : 2 ^ ls.length ≤ 2 ^ 8 := Nat.pow_le_pow_right (by decide) h8
        omega
      have := cnt8_mono_lt hb hne hlt
      rw [cnt8_full _ h8] at this
      omega
    rw [hfull, Nat.testBit_two_pow_sub_one]
    exact decide_eq_true he.lt
theorem Eo.fits {ls : List (List Int)} {wo : Int} {p s : Nat} (h8 : ls.length ≤ 8) (h : Eo ls wo p s) : s < 256 := lt_pow_of_bits (n := 8) fun k hk => by have := (h.sound k hk).lt; omega
theorem Ei.fits {ls : List (List Int)} {wo : Int} {was s k : Nat} (h8 : ls.length ≤ 8) (h : Ei ls wo was s k) : s < 256 := lt_pow_of_bits (n := 8) fun k hk => by have := (h.sound k hk).lt; omega
end Go.Proofs.Ytadmmciiahdmcaa.W
namespace Go.Proofs.Ytadmmciiahdmcaa.W
open Go.RowKit

/-- The world in which the box has the word s. -/
def box (w : World) (s nq : Nat) : World := (w.alloc (.cells #[.int .u32 (s : Nat)] 39)).drewN nq
theorem box_cell (w : World) (s nq : Nat) : (box w s nq).cell? ⟨w.heap.size, 0, none⟩ = some (.int .u32 (s : Nat)) := cell_new w _ _ _ rfl 0
theorem box_frozen (w : World) (s nq : Nat) : (box w s nq).frozen? ⟨w.heap.size, 0, none⟩ = false := by
  have h : (box w s nq).heap[w.heap.size]? = some (.cells #[.int .u32 (s : Nat)] 39 (0, 0)) := by
    unfold box
    show (w.heap.push _)[w.heap.size]? = _
    simp
  simp [World.frozen?, h]
theorem box_set (w : World) (s t nq : Nat) : (box w s nq).setCell ⟨w.heap.size, 0, none⟩ (.int .u32 (t : Nat)) = box w t nq := by
  unfold box World.setCell World.alloc World.drewN
  simp
  apply Array.ext
  · simp
  · intro i h1 h2
    rw [Array.getElem_modify]
    by_cases e : w.heap.size = i
    · subst e; simp
    · have : i < w.heap.size := by simp at h2; omega
      simp [e, Array.getElem_push, this]
theorem box_drew (w : World) (s nq : Nat) : (box w s nq).drew = box w s (nq + 1) := rfl
theorem box_below (w : World) (s nq : Nat) : Below w.heap.size w (box w s nq) := below_dN ((Below.refl _ _).alloc (Nat.le_refl _) _) nq

set_option maxRecDepth 100000 in
set_option maxHeartbeats 4000000 in
theorem comes_calls (A : Option Addr) (ls : List (List Int)) (cap : Nat) (w : World) (wo : Int) (hA : RdN w A ls) (h0 : wayErr ls = 0) :
    Calls Try.prog 91 #[.slice A ls.length cap, .int .i64 wo] w fun e w' => e = .returned (.int .u32 (endS ls wo : Nat)) ∧ Below w.heap.size w w' := by
  obtain ⟨h1, h8, hv⟩ := valid_of h0
  have HA := Lib.hid hA; clear hA
  have HV := Lib.hid hv
  have H0 := Lib.hid (show ∀ l ∈ ls, ∀ x ∈ l, 0 ≤ x from fun l hl x hx => ((hv l hl).2 x hx).1)
  clear hv h0
  go_enter Try.func91, Try.ntmps91
  go_wp2
  go_loopw [11] (fun i wr => ∃ (p s nq : Nat), p ≤ ls.length ∧ i = .int .i64 p ∧ Hid (Eo ls wo p s) ∧ wr = box w s nq) (fun i _ => ls.length - (intOf i).toNat)
  case atStart => exact ⟨0, 0, 0, Nat.zero_le _, rfl, Eo.first ls wo, rfl⟩
  case round =>
    obtain ⟨p, s0, nq0, hp, rfl, hE, hwr⟩ := hrel
    by_cases hlt : p < ls.length
    · have Hwr := Lib.hid hwr
      clear hwr
      go_wp2
      go_loopw [15] (fun i wr => ∃ (k s nq : Nat), k ≤ ls.length ∧ i = .int .i64 k ∧ Hid (Ei ls wo s0 s k) ∧ wr = box w s nq) (fun i _ => ls.length - (intOf i).toNat)
      case atStart => exact ⟨0, s0, nq0, Nat.zero_le _, rfl, hE.out.start, Hwr.out⟩
      case round =>
        clear Hwr
        obtain ⟨k, s, nq, hk, rfl, hI, hwr⟩ := hrel
        have c9 : wr.cell? ⟨w.heap.size, 0, none⟩ = some (.int .u32 (s : Nat)) := by rw [hwr]; exact box_cell w s nq
        have f9 : wr.frozen? ⟨w.heap.size, 0, none⟩ = false := by rw [hwr]; exact box_frozen w s nq
        have hW : Below w.heap.size w wr := by rw [hwr]; exact box_below w s nq
        have hs := hI.out.fits h8
        have Hwr := Lib.hid hwr
        clear hwr
        by_cases hltk : k < ls.length
        · obtain ⟨b, off, A', cap', rfl, hb, c0, hR⟩ := RdN.at_ (RdN.below HA.out hW) hltk
          have hl := Lib.hid (List.getElem?_eq_getElem hltk)
          have hl3 := (HV.out _ (List.getElem_mem hltk)).1
          have Hin := Lib.hid (show ∀ x ∈ ls[k], 0 ≤ x ∧ x < 8 from fun x hx => by have := (HV.out _ (List.getElem_mem hltk)).2 x hx; omega)
          have HR := Lib.hid hR
          have Hc9 := Lib.hid c9
          clear hR hW
          generalize ls[k] = l at *
          have Hsk := Lib.hid (fun h => hI.out.skip hl.out h)
          have Hpu := Lib.hid (fun h => hI.out.push hl.out (fun x hx => (Hin.out x hx).1) h)
          have hk32 : k < 32 := by omega
          have pk : 2 ^ k < 2 ^ 8 := Nat.pow_lt_pow_right (by decide) (by omega)
          have r1 := pow_u32 k hk32
          have r2 := or_u32 s (2 ^ k) (by omega) (by omega)
          rw [Int.natCast_pow, show ((2 : Nat) : Int) = 2 from rfl] at r1 r2
          have Hset := Lib.hid (box_set w s (s ||| 2 ^ k) nq)
          clear pk
          generalize s ||| 2 ^ k = y at *
          have Hcl := Lib.hid (setContains_calls w.heap.size s A' l cap' wr Hc9.out hs Hin.out HR.out (by omega))
          by_cases hne : (k : Int) = wo
          · have q1 : ((k : Int) != wo) = false := by rw [bne_eq_false_iff_eq]; exact hne
            have Hn := Lib.hid (Hsk.out (Or.inl hne))
            clear hne r1 r2
            go_wp2_with (go_at_call 68; refine Hcl.out.mono ?_; rintro e w2 ⟨rfl, rfl⟩)
            go_roundw
            case rel => exact ⟨k + 1, s, nq, by omega, by go_num, Lib.hid Hn.out, Hwr.out⟩
            case measure => simp [intOf]; omega
          · have q1 : ((k : Int) != wo) = true := by rw [bne_iff_ne]; exact hne
            cases hm : mayEnd l s
            · have Hn := Lib.hid (Hsk.out (Or.inr hm))
              unfold mayEnd at hm
              rw [Bool.or_eq_false_iff] at hm
              obtain ⟨m1, m2⟩ := hm
              have q2 : ((l.length : Int) == 0) = false := by rw [beq_eq_false_iff_ne] at m1 ⊢; omega
              rw [m2] at Hcl
              clear hne r1 r2 m1 m2
              go_wp2_with (go_at_call 68; refine Hcl.out.mono ?_; rintro e w2 ⟨rfl, rfl⟩)
              go_roundw
              case rel => exact ⟨k + 1, s, nq, by omega, by go_num, Lib.hid Hn.out, Hwr.out⟩
              case measure => simp [intOf]; omega
            · have Hn := Lib.hid (Hpu.out hne hm)
              unfold mayEnd at hm
              rw [Bool.or_eq_true] at hm
              have q2 : ((l.length : Int) == 0) = true ∨ (((l.length : Int) == 0) = false ∧ anyIn s l = true) := by
                by_cases hz : l.length = 0
                · left; rw [hz]; rfl
                · right
                  refine ⟨by rw [beq_eq_false_iff_ne]; omega, ?_⟩
                  rcases hm with h | h
                  · rw [beq_iff_eq] at h; exact absurd h hz
                  · exact h
              clear hm hne
              rcases q2 with q2 | ⟨q2, q3⟩
              · go_wp2_with (go_at_call 68; refine Hcl.out.mono ?_; rintro e w2 ⟨rfl, rfl⟩)
                go_still_tail 4, (by kernel_rfl)
                go_wp2
                refine ⟨⟨k + 1, y, nq + 1, by omega, by go_num, Lib.hid Hn.out, by rw [Hwr.out, Hset.out, box_drew]⟩, by simp [intOf]; omega⟩
              · rw [q3] at Hcl
                clear q3
                go_wp2_with (go_at_call 68; refine Hcl.out.mono ?_; rintro e w2 ⟨rfl, rfl⟩)
                go_still_tail 4, (by kernel_rfl)
                go_wp2
                refine ⟨⟨k + 1, y, nq + 1, by omega, by go_num, Lib.hid Hn.out, by rw [Hwr.out, Hset.out, box_drew]⟩, by simp [intOf]; omega⟩
        · have : k = ls.length := by omega
          subst this
          have Hn := Lib.hid (hI.out.next H0.out h8 hE.out)
          clear c9 f9
          go_wp2
          go_roundw
          case rel => exact ⟨p + 1, s, nq, by omega, by go_num, Lib.hid Hn.out, Hwr.out⟩
          case measure => simp [intOf]; omega
    · have : p = ls.length := by omega
      subst this
      have c9 : wr.cell? ⟨w.heap.size, 0, none⟩ = some (.int .u32 (s0 : Nat)) := by rw [hwr]; exact box_cell w s0 nq0
      have hW : Below w.heap.size w wr := by rw [hwr]; exact box_below w s0 nq0
      have Hf := Lib.hid (hE.out.finish H0.out h8)
      clear hwr
      go_wp2
      go_ret
      exact ⟨by rw [← Hf.out]; rfl, hW⟩
end Go.Proofs.Ytadmmciiahdmcaa.W
namespace Go.Proofs.Ytadmmciiahdmcaa.W
open Go.RowKit

noncomputable def partS (ls : List (List Int)) (i : Nat) : Nat := setN fun j => j < ls.length ∧ Comes_ ls (-1) i j ∧ Comes_ ls (-1) j i
noncomputable def partTo (ls : List (List Int)) (i k : Nat) : Nat := setN fun j => j < k ∧ Comes_ ls (-1) i j ∧ Comes_ ls (-1) j i
theorem partTo_zero (ls : List (List Int)) (i : Nat) : partTo ls i 0 = 0 := setN_false fun k _ h => by omega
theorem partTo_all (ls : List (List Int)) (i : Nat) : partTo ls i ls.length = partS ls i := rfl
theorem and_one_shift (x k : Nat) : (x &&& 1) <<< k = if x.testBit 0 then 2 ^ k else 0 := by
  rw [Nat.and_one_is_mod]
  rw [Nat.testBit_zero]
  rcases Nat.mod_two_eq_zero_or_one x with h | h
  · rw [h]; simp
  · rw [h]; simp [Nat.shiftLeft_eq]
theorem partTo_succ {ls : List (List Int)} (h8 : ls.length ≤ 8) (hv : Valid ls) {i k : Nat} (hi : i < ls.length) (hk : k < ls.length) :
    partTo ls i (k + 1) = partTo ls i k ||| ((((fromS ls (-1) i >>> k) &&& (fromS ls (-1) k >>> i)) &&& 1) <<< k) := by
  rw [and_one_shift]
  have e : ((fromS ls (-1) i >>> k) &&& (fromS ls (-1) k >>> i)).testBit 0 = ((fromS ls (-1) i).testBit k && (fromS ls (-1) k).testBit i) := by
    rw [Nat.testBit_and, Nat.testBit_shiftRight, Nat.testBit_shiftRight, Nat.add_zero, Nat.add_zero]
  have hB : (((fromS ls (-1) i).testBit k && (fromS ls (-1) k).testBit i) = true) ↔ (Comes_ ls (-1) i k ∧ Comes_ ls (-1) k i) := by
    rw [Bool.and_eq_true, fromS_bit h8 hv hi, fromS_bit h8 hv hk]
    constructor
    · rintro ⟨⟨_, h1⟩, _, h2⟩; exact ⟨h1, h2⟩
    · rintro ⟨h1, h2⟩; exact ⟨⟨by omega, h1⟩, by omega, h2⟩
  rw [e]
  refine (setN_ext fun j => ?_).symm
  cases hb : ((fromS ls (-1) i).testBit k && (fromS ls (-1) k).testBit i)
  · simp only [Bool.false_eq_true, if_false, Nat.or_zero]
    have hn : ¬ (Comes_ ls (-1) i k ∧ Comes_ ls (-1) k i) := fun h => by rw [hB.2 h] at hb; cases hb
    unfold partTo
    rw [setN_bit]
    constructor
    · rintro ⟨h1, h2, h3⟩; exact ⟨h1, by omega, h3⟩
    · rintro ⟨h1, h2, h3⟩
      refine ⟨h1, ?_, h3⟩
      rcases Nat.lt_or_ge j k with h | h
      · exact h
      · have : j = k := by omega
        subst this; exact absurd h3 hn
  · simp only [if_true]
    rw [set_bit, Bool.or_eq_true, decide_eq_true_eq]
    unfold partTo
    rw [setN_bit]
    constructor
    · rintro (⟨h1, h2, h3⟩ | rfl)
      · exact ⟨h1, by omega, h3⟩
      · exact ⟨by omega, by omega, hB.1 hb⟩
    · rintro ⟨h1, h2, h3⟩
      by_cases e : k = j
      · exact Or.inr e
      · exact Or.inl ⟨h1, by omega, h3⟩

noncomputable def fromsTo (ls : List (List Int)) (k : Nat) : List Nat := (List.range k).map (fromS ls (-1))
noncomputable def partsTo (ls : List (List Int)) (k : Nat) : List Nat := (List.range k).map (partS ls)
theorem range_map_succ {α : Type} (f : Nat → α) (k : Nat) : (List.range (k + 1)).map f = (List.range k).map f ++ [f k] := by rw [List.range_succ, List.map_append]; rfl
theorem fromsTo_len (ls : List (List Int)) (k : Nat) : (fromsTo ls k).length = k := by simp [fromsTo]
theorem partsTo_len (ls : List (List Int)) (k : Nat) : (partsTo ls k).length = k := by simp [partsTo]
theorem fromsTo_get (ls : List (List Int)) (k i : Nat) (h : i < (fromsTo ls k).length) : (fromsTo ls k)[i] = fromS ls (-1) i := by simp [fromsTo]

end Go.Proofs.Ytadmmciiahdmcaa.W
namespace Go.Proofs.Ytadmmciiahdmcaa.W
open Go.RowKit

/-- a without b. -/
noncomputable def andN (a b : Nat) : Nat := setTo (fun i => a.testBit i = true ∧ b.testBit i = false) 32
theorem andN_bit {a : Nat} (b : Nat) (ha : a < 4294967296) (i : Nat) : (andN a b).testBit i = (a.testBit i && !b.testBit i) := by
  rw [Bool.eq_iff_iff]
  unfold andN
  rw [setTo_bit, Bool.and_eq_true, Bool.not_eq_true']
  exact ⟨fun h => h.2, fun h => ⟨bit_lt (n := 32) ha h.1, h⟩⟩
theorem andN_lt (a b : Nat) : andN a b < 4294967296 := lt_pow_of_bits (n := 32) fun _ hk => ((setTo_bit _ _ _).1 hk).1
theorem andN_u32 (a b : Nat) (ha : a < 4294967296) (hb : b < 4294967296) : bits .andNot .u32 (a : Int) (b : Int) = ((andN a b : Nat) : Int) := by
  show IntKind.u32.wrap ((BitVec.ofInt 32 (a : Int) &&& ~~~ BitVec.ofInt 32 (b : Int)).toNat : Int) = _
  have e : (BitVec.ofInt 32 (a : Int) &&& ~~~ BitVec.ofInt 32 (b : Int)).toNat = andN a b := by
    refine set_ext fun i => ?_
    rw [BitVec.testBit_toNat, BitVec.getLsbD_and, BitVec.getLsbD_not, andN_bit b ha]
    rw [← BitVec.testBit_toNat, ← BitVec.testBit_toNat, ofInt_u32 a ha, ofInt_u32 b hb]
    by_cases hi : i < 32
    · simp [hi]
    · have h1 : a.testBit i = false := by
        cases h : a.testBit i
        · rfl
        · exact absurd (bit_lt (n := 32) ha h) hi
      simp [h1]
  rw [e, IntKind.wrap_u32]
  have := andN_lt a b
  omega
/-- Of which nodes below k node i is sure. -/
noncomputable def lastTo (ls : List (List Int)) (i k : Nat) : Nat := setN fun x => x < k ∧ Ends ls (-1) i ∧ ¬ Ends ls (x : Int) i
noncomputable def lastS (ls : List (List Int)) (i : Nat) : Nat := lastTo ls i ls.length
noncomputable def lastL (ls : List (List Int)) : List Nat := (List.range ls.length).map (lastS ls)
noncomputable def sureS (ls : List (List Int)) (k : Nat) : Nat := andN (endS ls (-1)) (endS ls (k : Int))
theorem sureS_bit {ls : List (List Int)} (h8 : ls.length ≤ 8) (k i : Nat) : (sureS ls k).testBit i = true ↔ Ends ls (-1) i ∧ ¬ Ends ls (k : Int) i := by
  unfold sureS
  have := endS_lt ls (-1)
  rw [andN_bit _ (by omega), Bool.and_eq_true, Bool.not_eq_true', endS_bit h8, ← endS_bit h8 (k : Int) i, Bool.not_eq_true]
theorem lastTo_succ {ls : List (List Int)} (h8 : ls.length ≤ 8) {i k : Nat} (hk : k < 8) : lastTo ls i (k + 1) = lastTo ls i k ||| (((sureS ls k >>> i) &&& 1) <<< k) := by
  rw [and_one_shift]
  rw [Nat.testBit_shiftRight, Nat.add_zero]
  refine (setN_ext fun j => ?_).symm
  cases hb : (sureS ls k).testBit i
  · simp only [Bool.false_eq_true, if_false, Nat.or_zero]
    have hn : ¬ (Ends ls (-1) i ∧ ¬ Ends ls (k : Int) i) := fun h => by rw [(sureS_bit h8 k i).2 h] at hb; cases hb
    unfold lastTo
    rw [setN_bit]
    constructor
    · rintro ⟨h1, h2, h3⟩; exact ⟨h1, by omega, h3⟩
    · rintro ⟨h1, h2, h3⟩
      refine ⟨h1, ?_, h3⟩
      rcases Nat.lt_or_ge j k with h | h
      · exact h
      · have : j = k := by omega
        subst this; exact absurd h3 hn
  · simp only [if_true]
    rw [set_bit, Bool.or_eq_true, decide_eq_true_eq]
    unfold lastTo
    rw [setN_bit]
    constructor
    · rintro (⟨h1, h2, h3⟩ | rfl)
      · exact ⟨h1, by omega, h3⟩
      · exact ⟨by omega, by omega, (sureS_bit h8 k i).1 hb⟩
    · rintro ⟨h1, h2, h3⟩
      by_cases e : k = j
      · exact Or.inr e
      · exact Or.inl ⟨h1, by omega, h3⟩
/-- The rows when of node k the first i are done. -/
noncomputable def lIn (ls : List (List Int)) (k i : Nat) : List Nat := (List.range ls.length).map fun a => lastTo ls a (if a < i then k + 1 else k)
theorem lIn_len (ls : List (List Int)) (k i : Nat) : (lIn ls k i).length = ls.length := by simp [lIn]
theorem lIn_get (ls : List (List Int)) (k i a : Nat) (h : a < (lIn ls k i).length) : (lIn ls k i)[a] = lastTo ls a (if a < i then k + 1 else k) := by simp [lIn]
theorem lIn_zero (ls : List (List Int)) : lIn ls 0 0 = List.replicate ls.length 0 := by
  refine List.ext_getElem (by simp [lIn]) fun j h1 h2 => ?_
  rw [lIn_get, List.getElem_replicate, if_neg (by omega)]
  exact setN_false fun k _ h => by omega
theorem lIn_next (ls : List (List Int)) (k : Nat) : lIn ls k ls.length = lIn ls (k + 1) 0 := by
  refine List.ext_getElem (by simp [lIn]) fun j h1 h2 => ?_
  rw [lIn_len] at h1
  rw [lIn_get, lIn_get, if_pos h1, if_neg (by omega)]
theorem lIn_all (ls : List (List Int)) : lIn ls ls.length 0 = lastL ls := by
  refine List.ext_getElem (by simp [lIn, lastL]) fun j h1 h2 => ?_
  rw [lIn_get, if_neg (by omega)]
  simp [lastL, lastS]
theorem lIn_step {ls : List (List Int)} (h8 : ls.length ≤ 8) {k i : Nat} (hk : k < 8) : (lIn ls k i).set i (lastTo ls i k ||| (((sureS ls k >>> i) &&& 1) <<< k)) = lIn ls k (i + 1) := by
  refine List.ext_getElem (by simp [lIn]) fun j h1 h2 => ?_
  rw [List.getElem_set, lIn_get, lIn_get]
  by_cases e : i = j
  · subst e
    have h' : i < i + 1 := by omega
    rw [if_pos rfl, if_pos h', lastTo_succ h8 hk]
  · rw [if_neg e]
    by_cases h : j < i
    · have h' : j < i + 1 := by omega
      rw [if_pos h, if_pos h']
    · rw [if_neg h, if_neg (by omega)]
theorem lastTo_lt (ls : List (List Int)) (i k : Nat) : lastTo ls i k < 256 := setN_lt _

set_option maxRecDepth 100000 in
set_option maxHeartbeats 4000000 in
theorem last_calls (A : Option Addr) (ls : List (List Int)) (cap : Nat) (w : World) (hA : RdN w A ls) (h0 : wayErr ls = 0) :
    Calls Try.prog 87 #[.slice A ls.length cap] w fun e w' => ∃ v, e = .returned v ∧ OwnU w' w.heap.size 39 v (lastL ls) ∧ Below w.heap.size w w' := by
  obtain ⟨h1, h8, _⟩ := valid_of h0
  have HA := Lib.hid hA; clear hA
  have H0 := Lib.hid h0; clear h0
  have HZ := Lib.hid (lIn_zero ls)
  have HC1 : Hid (∀ w, RdN w A ls → Calls Try.prog 91 #[.slice A ls.length cap, .int .i64 (-1)] w fun e w' => e = .returned (.int .u32 (endS ls (-1) : Nat)) ∧ Below w.heap.size w w') := fun w h => comes_calls A ls cap w (-1) h H0.out
  have hE := endS_lt ls (-1)
  go_enter Try.func87, Try.ntmps87
  go_wp2_with (first
    | (go_at_call 91; refine (HC1.out _ HA.out).mono ?_; rintro e w1 ⟨rfl, hW⟩; have hw1 := hW.size; have HW := Lib.hid hW; clear hW)
    | (at_make; refine wpList_makeU rfl _ _ rfl w1.heap.size ls.length rfl rfl (by omega) (Nat.le_refl _) ?_; intro w2 hown2 hgrow2))
  have hW2 := (Below.refl w1.heap.size w1).grown hgrow2 (Nat.le_refl _) (fun k hk => by cases hk)
  rw [← HZ.out] at hown2
  go_loopw [15] (fun i wr => ∃ k : Nat, k ≤ ls.length ∧ i = .int .i64 k ∧ OwnU wr w1.heap.size 39 (.slice (some ⟨w1.heap.size, 0, none⟩) ls.length ls.length) (lIn ls k 0) ∧ Below w1.heap.size w1 wr) (fun i _ => ls.length - (intOf i).toNat)
  case atStart => exact ⟨0, Nat.zero_le _, rfl, hown2, hW2⟩
  case round =>
    clear hown2 hW2 hgrow2
    obtain ⟨k, hk, rfl, hown, hW⟩ := hrel
    have Hown := Lib.hid hown
    have hw2 := hW.size
    have HWr := Lib.hid hW
    clear hown hW
    by_cases hlt : k < ls.length
    · have HC2 : Hid (∀ w, RdN w A ls → Calls Try.prog 91 #[.slice A ls.length cap, .int .i64 (k : Nat)] w fun e w' => e = .returned (.int .u32 (endS ls (k : Int) : Nat)) ∧ Below w.heap.size w w') := fun w h => comes_calls A ls cap w k h H0.out
      have hE2 := endS_lt ls (k : Int)
      have p1 := andN_u32 (endS ls (-1)) (endS ls (k : Int)) (by omega) (by omega)
      change _ = ((sureS ls k : Nat) : Int) at p1
      have hS := andN_lt (endS ls (-1)) (endS ls (k : Int))
      change sureS ls k < _ at hS
      have Hst := Lib.hid (fun i => @lIn_step ls h8 k i (by omega))
      have Hnx := Lib.hid (lIn_next ls k)
      generalize sureS ls k = S at *
      generalize endS ls (k : Int) = E2 at *
      go_wp2_with (go_at_call 91; refine (HC2.out _ (RdN.below HA.out (HW.out.trans (HWr.out.mono hw1)))).mono ?_; rintro e w3 ⟨rfl, hW3⟩; have hw3 := hW3.size; have HW3 := Lib.hid hW3; clear hW3)
      clear p1
      go_loopw [25] (fun i3 wr => ∃ i : Nat, i ≤ ls.length ∧ i3 = .int .i64 i ∧ OwnU wr w1.heap.size 39 (.slice (some ⟨w1.heap.size, 0, none⟩) ls.length ls.length) (lIn ls k i) ∧ Below w1.heap.size w1 wr) (fun i3 _ => ls.length - (intOf i3).toNat)
      case atStart => exact ⟨0, Nat.zero_le _, rfl, Own.below Hown.out HW3.out, HWr.out.trans (HW3.out.mono hw2)⟩
      case round =>
        clear Hown HWr HW3
        obtain ⟨i, hi, rfl, hown, hW⟩ := hrel
        have HWr := Lib.hid hW
        by_cases hlti : i < ls.length
        · have hlen := lIn_len ls k i
          obtain ⟨g, eg, _, _, _, hfz, hcell⟩ := OwnU.at2 hown (by omega)
          injection eg with eg; injection eg with eg
          subst eg
          have f1 := hfz i
          have c5 := hcell i (by omega)
          rw [lIn_get, if_neg (Nat.lt_irrefl i)] at c5
          have hx := lastTo_lt ls i k
          have q2 : ((i : Nat) : Int) < ((ls.length : Nat) : Int) := by omega
          have i32 : i < 32 := by omega
          have k32 : k < 32 := by omega
          have Hs := Lib.hid (Hst.out i)
          have p1 : bits .and .u32 ((S : Int) / 2 ^ i) 1 = ((S >>> i &&& 1 : Nat) : Int) := by
            rw [shr_u32]; exact and_u32 _ 1 (Nat.lt_of_le_of_lt (Nat.shiftRight_le _ _) hS) (by decide)
          have hy : S >>> i &&& 1 ≤ 1 := Nat.and_le_right
          generalize S >>> i &&& 1 = y at *
          have hz : y <<< k < 256 := by
            rw [Nat.shiftLeft_eq]
            have : 2 ^ k ≤ 2 ^ 7 := Nat.pow_le_pow_right (by decide) (by omega)
            have : y * 2 ^ k ≤ 1 * 2 ^ k := Nat.mul_le_mul_right _ hy
            omega
          have p3 : (y : Int) * 2 ^ k % 4294967296 = ((y <<< k : Nat) : Int) := by
            rw [show (y : Int) * 2 ^ k = ((y <<< k : Nat) : Int) by rw [Nat.shiftLeft_eq, Int.natCast_mul, Int.natCast_pow]; rfl]
            generalize y <<< k = z at *
            omega
          generalize y <<< k = z at *
          have p4 := or_u32 (lastTo ls i k) z (by omega) (by omega)
          have Hown' := Lib.hid (OwnU.set_ hown (k := i) (by omega) (lastTo ls i k ||| z))
          rw [Hs.out] at Hown'
          clear hfz hcell hown hW
          generalize lastTo ls i k ||| z = u at *
          generalize lastTo ls i k = x at *
          go_wp2
          go_still_tail 12, (by kernel_rfl)
          go_wp2
          refine ⟨⟨i + 1, by omega, by go_num, Hown'.out.drew, ?_⟩, by simp [intOf]; omega⟩
          exact (HWr.out.setCell (Nat.le_refl _) _).drew
        · have : i = ls.length := by omega
          subst this
          go_wp2
          go_roundw
          case rel => exact ⟨k + 1, by omega, by go_num, by rw [← Hnx.out]; exact hown, hW⟩
          case measure => simp [intOf]; omega
    · have : k = ls.length := by omega
      subst this
      have Hall := Lib.hid (lIn_all ls)
      go_wp2
      go_ret
      exact ⟨_, rfl, by rw [← Hall.out]; exact Hown.out.base_ hw1, HW.out.trans (HWr.out.mono hw1)⟩
end Go.Proofs.Ytadmmciiahdmcaa.W
namespace Go.Proofs.Ytadmmciiahdmcaa.W
open Go.RowKit

set_option maxHeartbeats 1000000 in
theorem last_bad (A : Option Addr) (ls : List (List Int)) (cap : Nat) (w : World) (hA : RdN w A ls) (hm : ls.length ≤ maxLen) (h0 : wayErr ls ≠ 0) :
    Calls Try.prog 77 #[.slice A ls.length cap] w fun e w' => e = .returned (.tuple #[.slice none 0 0, .int .i64 (wayErr ls)]) ∧ Below w.heap.size w w' := by
  have HA := Lib.hid hA; clear hA
  have hd : (wayErr ls != 0) = true := by simpa using h0
  clear h0
  go_enter Try.func77, Try.ntmps77
  go_wp2_with (go_at_call 86; refine (check_calls _ _ _ _ HA.out hm).mono ?_; rintro e w1 ⟨rfl, hW⟩; have HW := Lib.hid hW; clear hW)
  go_ret2
  exact ⟨rfl, HW.out⟩
set_option maxHeartbeats 1000000 in
theorem last_ok (A : Option Addr) (ls : List (List Int)) (cap : Nat) (w : World) (hA : RdN w A ls) (h0 : wayErr ls = 0) :
    Calls Try.prog 77 #[.slice A ls.length cap] w fun e w' => ∃ v, e = .returned (.tuple #[v, .int .i64 0]) ∧ OwnU w' w.heap.size 39 v (lastL ls) ∧ Below w.heap.size w w' := by
  have h8 := (valid_of h0).2.1
  have HA := Lib.hid hA; clear hA
  have H0 := Lib.hid h0; clear h0
  go_enter Try.func77, Try.ntmps77
  go_wp2_with (first
    | (go_at_call 86; refine (check_calls _ _ _ _ HA.out (by unfold maxLen; omega)).mono ?_; rintro e w1 ⟨rfl, hW⟩; rw [H0.out]; have HW := Lib.hid hW; clear hW)
    | (go_at_call 87; refine (last_calls _ _ _ _ (RdN.below HA.out HW.out) H0.out).mono ?_; rintro e w2 ⟨v, rfl, hown, hW2⟩; have Hown := Lib.hid hown; have HW2 := Lib.hid hW2; clear hown hW2))
  go_ret2
  exact ⟨v, rfl, Hown.out.base_ HW.out.size, HW.out.trans (HW2.out.mono HW.out.size)⟩
set_option maxHeartbeats 1000000 in
theorem on_bad (A : Option Addr) (ls : List (List Int)) (cap : Nat) (w : World) (hA : RdN w A ls) (hm : ls.length ≤ maxLen) (h0 : wayErr ls ≠ 0) :
    Calls Try.prog 79 #[.slice A ls.length cap] w fun e w' => e = .returned (.tuple #[.slice none 0 0, .int .i64 (wayErr ls)]) ∧ Below w.heap.size w w' := by
  have HA := Lib.hid hA; clear hA
  have hd : (wayErr ls != 0) = true := by simpa using h0
  clear h0
  go_enter Try.func79, Try.ntmps79
  go_wp2_with (go_at_call 86; refine (check_calls _ _ _ _ HA.out hm).mono ?_; rintro e w1 ⟨rfl, hW⟩; have HW := Lib.hid hW; clear hW)
  go_ret2
  exact ⟨rfl, HW.out⟩

theorem lastL_len (ls : List (List Int)) : (lastL ls).length = ls.length := by simp [lastL]
theorem lastL_get (ls : List (List Int)) (i : Nat) (h : i < (lastL ls).length) : (lastL ls)[i] = lastS ls i := by simp [lastL]
theorem lastS_bit {ls : List (List Int)} (h8 : ls.length ≤ 8) (i k : Nat) : (lastS ls i).testBit k = true ↔ k < ls.length ∧ Ends ls (-1) i ∧ ¬ Ends ls (k : Int) i := by
  unfold lastS lastTo
  rw [setN_bit]
  exact ⟨fun h => h.2, fun h => ⟨by omega, h⟩⟩
/-- What hangs on i by way of one next node. -/
noncomputable def on1 (ls : List (List Int)) (i j : Nat) : Nat := andN (lastS ls j) (andN (lastS ls i) (2 ^ i))
noncomputable def onP (ls : List (List Int)) (i : Nat) (l : List Int) : Nat := l.foldl (fun s x => s ||| on1 ls i x.toNat) 0
noncomputable def onS (ls : List (List Int)) (i : Nat) : Nat := onP ls i (ls.getD i [])
noncomputable def onL (ls : List (List Int)) : List Nat := (List.range ls.length).map (onS ls)
theorem onP_snoc (ls : List (List Int)) (i : Nat) (l : List Int) (x : Int) : onP ls i (l ++ [x]) = onP ls i l ||| on1 ls i x.toNat := by simp [onP]
theorem onP_lt (ls : List (List Int)) (i : Nat) (l : List Int) : onP ls i l < 4294967296 := by
  have key : ∀ (l : List Int) (s : Nat), s < 2 ^ 32 → l.foldl (fun s x => s ||| on1 ls i x.toNat) s < 2 ^ 32 := fun l => by
    induction l with
    | nil => exact fun _ h => h
    | cons x r ih => exact fun s h => ih _ (Nat.or_lt_two_pow h (andN_lt _ _))
  exact key l 0 (by decide)
theorem onP_bit (ls : List (List Int)) (i : Nat) (l : List Int) (k : Nat) : (onP ls i l).testBit k = true ↔ ∃ x ∈ l, (on1 ls i x.toNat).testBit k = true := by
  have key : ∀ (l : List Int) (s : Nat), (l.foldl (fun s x => s ||| on1 ls i x.toNat) s).testBit k = true ↔ (s.testBit k = true ∨ ∃ x ∈ l, (on1 ls i x.toNat).testBit k = true) := fun l => by
    induction l with
    | nil => intro s; simp
    | cons x r ih =>
      intro s
      rw [List.foldl_cons, ih, Nat.testBit_or, Bool.or_eq_true, or_assoc]
      simp
  have := key l 0
  rw [Nat.zero_testBit] at this
  simpa [onP] using this
noncomputable def oRows (ls : List (List Int)) (i : Nat) : List Nat := (List.range ls.length).map fun a => if a < i then onS ls a else 0
theorem oRows_len (ls : List (List Int)) (i : Nat) : (oRows ls i).length = ls.length := by simp [oRows]
theorem oRows_get (ls : List (List Int)) (i a : Nat) (h : a < (oRows ls i).length) : (oRows ls i)[a] = if a < i then onS ls a else 0 := by simp [oRows]
theorem oRows_zero (ls : List (List Int)) : oRows ls 0 = List.replicate ls.length 0 := by
  refine List.ext_getElem (by simp [oRows]) fun j h1 h2 => ?_
  rw [oRows_get]; simp
theorem oRows_start {ls : List (List Int)} {i : Nat} : (oRows ls i).set i 0 = oRows ls i := by
  refine List.ext_getElem (by simp [oRows]) fun j h1 h2 => ?_
  rw [List.getElem_set, oRows_get]
  by_cases e : i = j
  · subst e; rw [if_pos rfl, if_neg (by omega)]
  · rw [if_neg e]
theorem oRows_next {ls : List (List Int)} {i : Nat} : (oRows ls i).set i (onS ls i) = oRows ls (i + 1) := by
  refine List.ext_getElem (by simp [oRows]) fun j h1 h2 => ?_
  rw [List.getElem_set, oRows_get, oRows_get]
  by_cases e : i = j
  · subst e
    have h' : i < i + 1 := by omega
    rw [if_pos rfl, if_pos h']
  · rw [if_neg e]
    by_cases h : j < i
    · have h' : j < i + 1 := by omega
      rw [if_pos h, if_pos h']
    · rw [if_neg h, if_neg (by omega)]
theorem oRows_all (ls : List (List Int)) : oRows ls ls.length = onL ls := by
  refine List.ext_getElem (by simp [oRows, onL]) fun j h1 h2 => ?_
  rw [oRows_len] at h1
  rw [oRows_get, if_pos h1]
  simp [onL]
theorem lastS_lt (ls : List (List Int)) (i : Nat) : lastS ls i < 256 := lastTo_lt ls i ls.length

set_option maxRecDepth 100000 in
set_option maxHeartbeats 4000000 in
theorem on_ok (A : Option Addr) (ls : List (List Int)) (cap : Nat) (w : World) (hA : RdN w A ls) (h0 : wayErr ls = 0) :
    Calls Try.prog 79 #[.slice A ls.length cap] w fun e w' => ∃ v, e = .returned (.tuple #[v, .int .i64 0]) ∧ OwnU w' w.heap.size 39 v (onL ls) ∧ Below w.heap.size w w' := by
  obtain ⟨h1, h8, hv⟩ := valid_of h0
  have HA := Lib.hid hA; clear hA
  have HV := Lib.hid hv; clear hv
  have H0 := Lib.hid h0; clear h0
  have Hlen := Lib.hid (lastL_len ls)
  have HZ := Lib.hid (oRows_zero ls)
  go_enter Try.func79, Try.ntmps79
  go_wp2_with (first
    | (go_at_call 86; refine (check_calls _ _ _ _ HA.out (by unfold maxLen; omega)).mono ?_; rintro e w1 ⟨rfl, hW⟩; rw [H0.out]; have HW := Lib.hid hW; have hwA := hW.size; clear hW)
    | (go_at_call 87; refine (last_calls _ _ _ _ (RdN.below HA.out HW.out) H0.out).mono ?_
       rintro e w2 ⟨v, rfl, hown, hW2⟩
       obtain ⟨gF, capF, rfl, hgF, hgF2, hcF, _, hcells⟩ := OwnU.at_ hown (by rw [Hlen.out]; omega)
       rw [Hlen.out]
       have HC := Lib.hid hcells
       have HWB := Lib.hid (HW.out.trans (hW2.mono hwA))
       clear hW2 hown hcells)
    | (at_make; refine wpList_makeU rfl _ _ rfl w2.heap.size ls.length rfl rfl (by omega) (Nat.le_refl _) ?_; intro w3 hown3 hgrow3))
  have hw2 := HWB.out.size
  have hW3 := (Below.refl w2.heap.size w2).grown hgrow3 (Nat.le_refl _) (fun k hk => by cases hk)
  rw [← HZ.out] at hown3
  go_loopw [23] (fun i wr => ∃ k : Nat, k ≤ ls.length ∧ i = .int .i64 k ∧ OwnU wr w2.heap.size 39 (.slice (some ⟨w2.heap.size, 0, none⟩) ls.length ls.length) (oRows ls k) ∧ Below w2.heap.size w2 wr) (fun i _ => ls.length - (intOf i).toNat)
  case atStart => exact ⟨0, Nat.zero_le _, rfl, hown3, hW3⟩
  case round =>
    clear hown3 hW3 hgrow3
    obtain ⟨i, hi, rfl, hown, hW⟩ := hrel
    have Hown := Lib.hid hown
    have HWr := Lib.hid hW
    clear hown
    by_cases hlt : i < ls.length
    · obtain ⟨b2, off2, A2, cap2, rfl, hb2, c0, hR⟩ := RdN.at_ (RdN.below HA.out HWB.out) hlt
      have c0 := (hW.cell (p := ⟨b2, off2 + i, none⟩) hb2).trans c0
      have hl3 := (HV.out _ (List.getElem_mem hlt)).1
      have Hin := Lib.hid ((HV.out _ (List.getElem_mem hlt)).2)
      have HR := Lib.hid hR
      have Hl := Lib.hid (show onS ls i = onP ls i ls[i] from by unfold onS; rw [List.getD_eq_getElem?_getD, List.getElem?_eq_getElem hlt]; rfl)
      clear hR hW
      generalize ls[i] = l at *
      go_wp2
      go_loopw [30] (fun t3 wr => ∃ (t : Nat), t ≤ l.length ∧ t3 = .int .i64 t ∧ OwnU wr w2.heap.size 39 (.slice (some ⟨w2.heap.size, 0, none⟩) ls.length ls.length) ((oRows ls i).set i (onP ls i (l.take t))) ∧ Below w2.heap.size w2 wr) (fun t3 _ => l.length - (intOf t3).toNat)
      case atStart => exact ⟨0, Nat.zero_le _, rfl, by rw [List.take_zero, show onP ls i [] = 0 from rfl, oRows_start]; exact Hown.out, HWr.out⟩
      case round =>
        clear Hown HWr c0
        obtain ⟨t, ht, rfl, hown, hW⟩ := hrel
        have HWr := Lib.hid hW
        by_cases hltt : t < l.length
        · obtain ⟨b3, off3, rfl, hb3, c3⟩ := RdI.at1 (Rd.below HR.out hW) hltt
          obtain ⟨x0, x1⟩ := Hin.out _ (List.getElem_mem hltt)
          obtain ⟨j, hj⟩ := Int.eq_ofNat_of_zero_le x0
          have hj8 : j < ls.length := by omega
          have Hsn := Lib.hid (show onP ls i (l.take (t + 1)) = onP ls i (l.take t) ||| on1 ls i j from by
            rw [List.take_succ_eq_append_getElem hltt, onP_snoc, hj, Int.toNat_natCast])
          rw [hj] at c3
          have c4 := (hW.cell (p := ⟨gF, j, none⟩) hgF2).trans (HC.out j (by rw [Hlen.out]; exact hj8))
          have c5 := (hW.cell (p := ⟨gF, i, none⟩) hgF2).trans (HC.out i (by rw [Hlen.out]; exact hlt))
          rw [lastL_get] at c4 c5
          have hlen := oRows_len ls i
          have hlset : ((oRows ls i).set i (onP ls i (l.take t))).length = ls.length := by rw [List.length_set, hlen]
          obtain ⟨g, eg, _, _, _, hfz, hcell⟩ := OwnU.at2 hown (by omega)
          injection eg with eg; injection eg with eg
          subst eg
          have f1 := hfz i
          have c6 := hcell i (by omega)
          rw [List.getElem_set_self] at c6
          have q2 : ((i : Nat) : Int) < ((ls.length : Nat) : Int) := by omega
          have q1 : ((j : Nat) : Int) < ((ls.length : Nat) : Int) := by omega
          have i32 : i < 32 := by omega
          have pi : 2 ^ i < 2 ^ 8 := Nat.pow_lt_pow_right (by decide) (by omega)
          have r1 := pow_u32 i i32
          have hxi := lastS_lt ls i
          have hxj := lastS_lt ls j
          have r2 := andN_u32 (lastS ls i) (2 ^ i) (by omega) (by omega)
          have hzi := andN_lt (lastS ls i) (2 ^ i)
          have r3 := andN_u32 (lastS ls j) (andN (lastS ls i) (2 ^ i)) (by omega) hzi
          change _ = ((on1 ls i j : Nat) : Int) at r3
          have hzj : on1 ls i j < 4294967296 := andN_lt _ _
          have hs := onP_lt ls i (l.take t)
          have r4 := or_u32 (onP ls i (l.take t)) (on1 ls i j) hs hzj
          rw [Int.natCast_pow, show ((2 : Nat) : Int) = 2 from rfl] at r1 r2
          have Hown' := Lib.hid (OwnU.set_ hown (k := i) (by omega) (onP ls i (l.take t) ||| on1 ls i j))
          rw [List.set_set, ← Hsn.out] at Hown'
          rw [← Hsn.out] at r4
          clear hj x0 x1 hfz hcell hown hW pi hlset Hsn
          generalize hy : onP ls i (l.take (t + 1)) = y at *
          have Hy := Lib.hid hy
          clear hy
          generalize onP ls i (l.take t) = s at *
          generalize on1 ls i j = u at *
          generalize andN (lastS ls i) (2 ^ i) = v at *
          generalize lastS ls i = xi at *
          generalize lastS ls j = xj at *
          go_wp2
          go_still_tail 18, (by kernel_rfl)
          go_wp2
          refine ⟨⟨t + 1, by omega, by go_num, by rw [Hy.out]; exact Hown'.out.drew, ?_⟩, by simp [intOf]; omega⟩
          exact (HWr.out.setCell (Nat.le_refl _) _).drew
        · have : t = l.length := by omega
          subst this
          rw [List.take_length, ← Hl.out, oRows_next] at hown
          go_wp2
          go_roundw
          case rel => exact ⟨i + 1, by omega, by go_num, hown, hW⟩
          case measure => simp [intOf]; omega
    · have : i = ls.length := by omega
      subst this
      have Hall := Lib.hid (oRows_all ls)
      go_wp2
      go_ret2
      exact ⟨_, rfl, by rw [← Hall.out]; exact Hown.out.base_ hw2, HWB.out.trans (HWr.out.mono hw2)⟩
end Go.Proofs.Ytadmmciiahdmcaa.W
