/- term.Have and codemasonref.HaveCheck answer haveErr; slices.ContainsFunc over ints. -/
import Derived.Test.YtmgejacndhnikaaTermA
namespace Go.Proofs.Ytmgejacndhnikaa
open Go.RowKit

theorem take_all_succ {α : Type} {p : α → Prop} {l : List α} {k : Nat} (hk : k < l.length) (h : ∀ x ∈ l.take k, p x) (h' : p l[k]) : ∀ x ∈ l.take (k + 1), p x := by
  rw [List.take_succ_eq_append_getElem hk]
  intro x hx
  rcases List.mem_append.1 hx with h1 | h1
  · exact h x h1
  · simp at h1; subst h1; exact h'

def badVal (x : Int) : Bool := decide (x < 0 ∨ 255 < x)
set_option maxHeartbeats 400000 in
theorem closure_no (x : Int) (w : World) (h : badVal x = false) : Calls Try.prog 102 #[.int .i64 x] w fun e w' => e = .returned (.bool false) ∧ w' = w := by
  have h' : ¬ (x < 0 ∨ 255 < x) := of_decide_eq_false h
  have h1 : 0 ≤ x := by omega
  have h2 : x ≤ 255 := by omega
  clear h h'
  go_enter Try.func102, Try.ntmps102
  go_wp2
  all_goals first | (exfalso; omega) | (go_ret; exact ⟨ret_bool (by first | rfl | (simp; omega)), rfl⟩)
set_option maxHeartbeats 400000 in
theorem closure_yes (x : Int) (w : World) (h : badVal x = true) : Calls Try.prog 102 #[.int .i64 x] w fun e w' => e = .returned (.bool true) ∧ w' = w := by
  have h' : x < 0 ∨ 255 < x := of_decide_eq_true h
  clear h
  rcases h' with h' | h'
  all_goals
    go_enter Try.func102, Try.ntmps102
    go_wp2
    all_goals first | (exfalso; omega) | (go_ret; exact ⟨ret_bool (by first | rfl | (simp; omega)), rfl⟩)

/-- slices.IndexFunc with that closure: -1 just if no number is bad. -/
def IdxEnd (l : List Int) (w : World) (e : Ending) (w' : World) : Prop :=
  w' = w ∧ ∃ n : Int, e = .returned (.int .i64 n) ∧ ((n = -1 ∧ ∀ x ∈ l, badVal x = false) ∨ (0 ≤ n ∧ ∃ x ∈ l, badVal x = true))
set_option maxHeartbeats 400000 in
theorem index_calls (A : Option Addr) (l : List Int) (cap : Nat) (w : World) (hA : RdI w A l) (hm : l.length ≤ maxLen) :
    Calls Try.prog 120 #[.slice A l.length cap, .func (.func 102) #[] #[]] w (IdxEnd l w) := by
  unfold maxLen at hm
  have HA := Lib.hid hA; clear hA
  go_enter Try.func120, Try.ntmps120
  go_wp2
  go_loop [8] (fun i => ∃ k : Nat, k ≤ l.length ∧ i = .int .i64 k ∧ Hid (∀ x ∈ l.take k, badVal x = false)) (fun i => l.length - (intOf i).toNat)
  case atStart => exact ⟨0, Nat.zero_le _, rfl, fun x hx => by simp at hx⟩
  case round =>
    obtain ⟨k, hk, rfl, hP⟩ := hrel
    by_cases hlt : k < l.length
    · obtain ⟨b, off, rfl, hb, c0⟩ := RdI.at1 HA.out hlt
      have hmem := List.getElem_mem hlt
      have Hmem := Lib.hid hmem
      have Hst := Lib.hid (take_all_succ (p := fun x => badVal x = false) hlt hP.out)
      clear hmem hP
      generalize l[k] = x at *
      cases hx : badVal x
      · have Hx := Lib.hid hx
        clear hx
        go_wp2_with (go_at_call 102; refine (closure_no _ _ Hx.out).mono ?_; rintro e w' ⟨rfl, rfl⟩)
        go_round
        case rel => exact ⟨k + 1, by omega, by go_num, Hst.out Hx.out⟩
        case measure => simp [intOf]; omega
      · have Hx := Lib.hid hx
        clear hx
        go_wp2_with (go_at_call 102; refine (closure_yes _ _ Hx.out).mono ?_; rintro e w' ⟨rfl, rfl⟩)
        go_ret
        exact ⟨rfl, k, rfl, .inr ⟨by omega, x, Hmem.out, Hx.out⟩⟩
    · go_wp2
      go_ret
      have : k = l.length := by omega
      subst this
      have := hP.out
      rw [List.take_length] at this
      exact ⟨rfl, -1, rfl, .inl ⟨rfl, this⟩⟩
set_option maxHeartbeats 400000 in
theorem contains_calls (A : Option Addr) (l : List Int) (cap : Nat) (w : World) (hA : RdI w A l) (hm : l.length ≤ maxLen) :
    Calls Try.prog 101 #[.slice A l.length cap, .func (.func 102) #[] #[]] w fun e w' => e = .returned (.bool (l.any badVal)) ∧ w' = w := by
  have HA := Lib.hid hA; clear hA
  go_enter Try.func101, Try.ntmps101
  go_wp2_with fail
  refine (index_calls A l cap w HA.out hm).mono ?_
  rintro e w' ⟨rfl, n, rfl, h⟩
  rcases h with ⟨rfl, h⟩ | ⟨h0, x, hx, hb⟩
  · have Ha := Lib.hid (show l.any badVal = false by rw [List.any_eq_false]; intro x hx; rw [h x hx]; decide)
    clear h hm
    go_wp2
    go_ret
    exact ⟨ret_bool Ha.out.symm, rfl⟩
  · have Ha := Lib.hid (show l.any badVal = true by rw [List.any_eq_true]; exact ⟨x, hx, hb⟩)
    clear hx hb hm
    go_wp2
    go_ret
    exact ⟨ret_bool (by rw [Ha.out]; try (simp; try omega)), rfl⟩

def haveErr (vars : Int) (l : List Int) : Int := if (l.length : Int) ≠ vars then 3 else if l.any badVal then 4 else 0
set_option maxHeartbeats 400000 in
theorem have_calls (vars : Int) (A : Option Addr) (l : List Int) (cap : Nat) (w : World) (hA : RdI w A l) (hm : l.length ≤ maxLen) :
    Calls Try.prog 46 #[.int .i64 vars, .slice A l.length cap] w fun e w' => e = .returned (.int .i64 (haveErr vars l)) ∧ w' = w := by
  have HA := Lib.hid hA; clear hA
  by_cases h : (l.length : Int) ≠ vars
  · rw [show haveErr vars l = 3 from by rw [haveErr, if_pos h]]
    have q : ((l.length : Int) != vars) = true := by rw [bne_iff_ne]; exact h
    clear h
    go_enter Try.func46, Try.ntmps46
    go_wp2
    go_ret
    exact ⟨rfl, rfl⟩
  · have q : ((l.length : Int) != vars) = false := by simpa using h
    have hh : haveErr vars l = if l.any badVal then 4 else 0 := by rw [haveErr, if_neg h]
    rw [hh]
    clear h hh
    cases ha : l.any badVal
    all_goals
      have Ha := Lib.hid ha
      clear ha
      go_enter Try.func46, Try.ntmps46
      go_wp2_with (go_at_call 101; refine (contains_calls _ _ _ _ HA.out hm).mono ?_; rintro e w' ⟨rfl, rfl⟩; rw [Ha.out])
      go_ret
      exact ⟨rfl, rfl⟩
theorem badVal_valB (x : Int) : badVal x = !valB x := by
  unfold badVal valB
  by_cases h : 0 ≤ x ∧ x ≤ 255
  · rw [decide_eq_true h, decide_eq_false (by omega)]; rfl
  · rw [decide_eq_false h, decide_eq_true (by omega)]; rfl
set_option maxHeartbeats 400000 in
theorem haveCheck_calls (vars : Int) (A : Option Addr) (l : List Int) (cap : Nat) (w : World) (hA : RdI w A l) (hm : l.length ≤ maxLen) :
    Calls Try.prog 47 #[.int .i64 vars, .slice A l.length cap] w fun e w' => e = .returned (.int .i64 (haveErr vars l)) ∧ w' = w := by
  unfold maxLen at hm
  have HA := Lib.hid hA; clear hA
  by_cases h : (l.length : Int) ≠ vars
  · rw [show haveErr vars l = 3 from by rw [haveErr, if_pos h]]
    have q : ((l.length : Int) != vars) = true := by rw [bne_iff_ne]; exact h
    clear h
    go_enter Try.func47, Try.ntmps47
    go_wp2
    go_ret
    exact ⟨rfl, rfl⟩
  · have q : ((l.length : Int) != vars) = false := by simpa using h
    have hh : haveErr vars l = if l.any badVal then 4 else 0 := by rw [haveErr, if_neg h]
    have Hh := Lib.hid hh
    clear h hh
    go_enter Try.func47, Try.ntmps47
    go_wp2
    clear q
    go_loop [13] (fun i => ∃ k : Nat, k ≤ l.length ∧ i = .int .i64 k ∧ Hid (∀ x ∈ l.take k, badVal x = false)) (fun i => l.length - (intOf i).toNat)
    case atStart => exact ⟨0, Nat.zero_le _, rfl, fun x hx => by simp at hx⟩
    case round =>
      obtain ⟨k, hk, rfl, hP⟩ := hrel
      by_cases hlt : k < l.length
      · obtain ⟨b, off, rfl, hb, c0⟩ := RdI.at1 HA.out hlt
        have hmem := List.getElem_mem hlt
        have Hmem := Lib.hid hmem
        have Hst := Lib.hid (take_all_succ (p := fun x => badVal x = false) hlt hP.out)
        clear hmem hP
        generalize l[k] = x at *
        cases hx : valB x
        · have Hx := Lib.hid hx
          clear hx
          go_wp2_with (go_at_call 100; refine (refValue_calls _ _).mono ?_; rintro e w' ⟨rfl, rfl⟩; rw [Hx.out])
          go_ret
          exact ⟨ret_int (by rw [Hh.out, if_pos (by rw [List.any_eq_true]; exact ⟨x, Hmem.out, by rw [badVal_valB, Hx.out]; rfl⟩)]), rfl⟩
        · have Hx := Lib.hid hx
          clear hx
          go_wp2_with (go_at_call 100; refine (refValue_calls _ _).mono ?_; rintro e w' ⟨rfl, rfl⟩; rw [Hx.out])
          go_round
          case rel => exact ⟨k + 1, by omega, by go_num, Hst.out (by rw [badVal_valB, Hx.out]; rfl)⟩
          case measure => simp [intOf]; omega
      · go_wp2
        go_ret
        have : k = l.length := by omega
        subst this
        have hall := hP.out
        rw [List.take_length] at hall
        exact ⟨ret_int (by rw [Hh.out, if_neg (by rw [List.any_eq_true]; rintro ⟨x, hx, hb⟩; rw [hall x hx] at hb; cases hb)]), rfl⟩

theorem haveErr_ok {vars : Int} {l : List Int} (h : haveErr vars l = 0) : (l.length : Int) = vars ∧ ∀ x ∈ l, 0 ≤ x ∧ x ≤ 255 := by
  unfold haveErr at h
  by_cases h1 : (l.length : Int) ≠ vars
  · rw [if_pos h1] at h; exact absurd h (by decide)
  rw [if_neg h1] at h
  refine ⟨by omega, fun x hx => ?_⟩
  cases ha : l.any badVal
  · rw [List.any_eq_false] at ha
    have := ha x hx
    unfold badVal at this
    simp at this
    omega
  · rw [ha, if_pos rfl] at h; exact absurd h (by decide)

set_option maxHeartbeats 400000 in
theorem termed_calls (vars : Int) (A : Option Addr) (l : List Term) (cap : Nat) (w : World) (hA : RdT w A l) (hm : l.length ≤ maxLen) :
    Calls Try.prog 83 #[.int .i64 vars, .slice A l.length cap] w fun e w' => e = .returned (.bool (tErr vars l == 0)) ∧ Below w.heap.size w w' := by
  go_enter Try.func83, Try.ntmps83
  go_wp2_with (go_at_call 115; refine (termsCheck_calls _ _ _ _ _ hA hm).mono ?_; rintro e w' ⟨rfl, hW⟩)
  go_ret
  exact ⟨rfl, hW⟩
set_option maxHeartbeats 400000 in
theorem given_calls (vars : Int) (A : Option Addr) (l : List Int) (cap : Nat) (w : World) (hA : RdI w A l) (hm : l.length ≤ maxLen) :
    Calls Try.prog 26 #[.int .i64 vars, .slice A l.length cap] w fun e w' => e = .returned (.bool (haveErr vars l == 0)) ∧ w' = w := by
  go_enter Try.func26, Try.ntmps26
  go_wp2_with (go_at_call 47; refine (haveCheck_calls _ _ _ _ _ hA hm).mono ?_; rintro e w' ⟨rfl, rfl⟩)
  go_ret
  exact ⟨rfl, rfl⟩
end Go.Proofs.Ytmgejacndhnikaa
