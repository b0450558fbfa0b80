/- codemasonref.StepCheck and ProgCheck answer stErr, pkErr. -/
import Derived.Test.YtmgejacndhnikaaBlkH
import Derived.Test.YtmgejacndhnikaaHave
namespace Go.Proofs.Ytmgejacndhnikaa
open Go.RowKit

theorem ins1_yes {n x : Int} (h0 : 0 ≤ x) (h1 : x < n) : insideB n [x] = true := by simp [insideB]; omega
theorem ins1_no {n x : Int} (h : x < 0 ∨ n ≤ x) : insideB n [x] = false := by simp [insideB]; omega
theorem ins2_yes {n x y : Int} (h0 : 0 ≤ x ∧ x < n) (h1 : 0 ≤ y ∧ y < n) : insideB n [x, y] = true := by simp [insideB]; omega
theorem ins2_no {n x y : Int} (h : x < 0 ∨ n ≤ x ∨ y < 0 ∨ n ≤ y) : insideB n [x, y] = false := by simp [insideB]; omega
theorem in1_yes {n x : Int} (S E : Nat) (w : World) (hs : w.heap.size = S) (h0 : 0 ≤ x) (h1 : x < n) :
    Calls Try.prog 62 #[.int .i64 n, .slice (some ⟨S, 0, none⟩) 1 1] (w.alloc (.cells #[.int .i64 x] E)) fun e w' => e = .returned (.bool true) ∧ w' = w.alloc (.cells #[.int .i64 x] E) := by
  have := inside_calls n _ [x] 1 _ (rdI_new1 w x E S hs) (by simp [maxLen])
  rw [ins1_yes h0 h1] at this; exact this
theorem in1_no {n x : Int} (S E : Nat) (w : World) (hs : w.heap.size = S) (h : x < 0 ∨ n ≤ x) :
    Calls Try.prog 62 #[.int .i64 n, .slice (some ⟨S, 0, none⟩) 1 1] (w.alloc (.cells #[.int .i64 x] E)) fun e w' => e = .returned (.bool false) ∧ w' = w.alloc (.cells #[.int .i64 x] E) := by
  have := inside_calls n _ [x] 1 _ (rdI_new1 w x E S hs) (by simp [maxLen])
  rw [ins1_no h] at this; exact this
theorem in2_yes {n x y : Int} (S E : Nat) (w : World) (hs : w.heap.size = S) (h0 : 0 ≤ x ∧ x < n) (h1 : 0 ≤ y ∧ y < n) :
    Calls Try.prog 62 #[.int .i64 n, .slice (some ⟨S, 0, none⟩) 2 2] (w.alloc (.cells #[.int .i64 x, .int .i64 y] E)) fun e w' => e = .returned (.bool true) ∧ w' = w.alloc (.cells #[.int .i64 x, .int .i64 y] E) := by
  have := inside_calls n _ [x, y] 2 _ (rdI_new2 w x y E S hs) (by simp [maxLen])
  rw [ins2_yes h0 h1] at this; exact this
theorem in2_no {n x y : Int} (S E : Nat) (w : World) (hs : w.heap.size = S) (h : x < 0 ∨ n ≤ x ∨ y < 0 ∨ n ≤ y) :
    Calls Try.prog 62 #[.int .i64 n, .slice (some ⟨S, 0, none⟩) 2 2] (w.alloc (.cells #[.int .i64 x, .int .i64 y] E)) fun e w' => e = .returned (.bool false) ∧ w' = w.alloc (.cells #[.int .i64 x, .int .i64 y] E) := by
  have := inside_calls n _ [x, y] 2 _ (rdI_new2 w x y E S hs) (by simp [maxLen])
  rw [ins2_no h] at this; exact this

set_option maxRecDepth 100000 in
set_option maxHeartbeats 8000000 in
theorem refStep_calls (vars : Int) (s : Step) (w : World) :
    Calls Try.prog 61 #[.int .i64 vars, .int .i64 vars, s.agg] w fun e w' => e = .returned (.int .i64 (stErr vars s)) ∧ Below w.heap.size w w' := by
  obtain ⟨op, sto, sa, sb, sv⟩ := s
  unfold Step.agg
  dsimp only
  by_cases h1 : op < 1
  · rw [stErr_6 (by omega)]
    go_enter Try.func61, Try.ntmps61
    go_wp2
    all_goals (try (exfalso; omega))
    go_ret
    exact ⟨rfl, by (repeat (first | exact Below.refl _ _ | exact trivial | refine Below.alloc ?_ (by first | omega | (simp; done) | (simp; omega)) _ | refine Below.drew ?_))⟩
  by_cases h6 : 6 < op
  · rw [stErr_6 (by omega)]
    go_enter Try.func61, Try.ntmps61
    go_wp2
    all_goals (try (exfalso; omega))
    go_ret
    exact ⟨rfl, by (repeat (first | exact Below.refl _ _ | exact trivial | refine Below.alloc ?_ (by first | omega | (simp; done) | (simp; omega)) _ | refine Below.drew ?_))⟩
  by_cases o1 : op = 1
  · subst o1
    by_cases v0 : 0 ≤ sv ∧ sv ≤ 255
    · have Hv := Lib.hid (valB_yes v0)
      by_cases t0 : 0 ≤ sto ∧ sto < vars
      · rw [stErr_0 (by omega) (by omega) (fun _ => v0) (fun h => by omega) t0 (fun h => by omega)]
        go_enter Try.func61, Try.ntmps61
        go_wp2_with (first | (go_at_call 62; first | ((with_reducible refine (in1_yes _ _ _ ?_ ?_ ?_).mono ?_); simp; omega; omega; rintro e w' ⟨rfl, rfl⟩) | ((with_reducible refine (in1_no _ _ _ ?_ ?_).mono ?_); simp; omega; rintro e w' ⟨rfl, rfl⟩) | ((with_reducible refine (in2_yes _ _ _ ?_ ?_ ?_).mono ?_); simp; omega; omega; rintro e w' ⟨rfl, rfl⟩) | ((with_reducible refine (in2_no _ _ _ ?_ ?_).mono ?_); simp; omega; rintro e w' ⟨rfl, rfl⟩)) | (go_at_call 100; refine (refValue_calls _ _).mono ?_; rintro e w' ⟨rfl, rfl⟩; rw [Hv.out]))
        all_goals (try (exfalso; omega))
        go_ret
        exact ⟨rfl, by (repeat (first | exact Below.refl _ _ | exact trivial | refine Below.alloc ?_ (by first | omega | (simp; done) | (simp; omega)) _ | refine Below.drew ?_))⟩
      · rw [stErr_2 (by omega) (by omega) (fun _ => v0) (fun h => by omega) (.inl (by omega))]
        go_enter Try.func61, Try.ntmps61
        go_wp2_with (first | (go_at_call 62; first | ((with_reducible refine (in1_yes _ _ _ ?_ ?_ ?_).mono ?_); simp; omega; omega; rintro e w' ⟨rfl, rfl⟩) | ((with_reducible refine (in1_no _ _ _ ?_ ?_).mono ?_); simp; omega; rintro e w' ⟨rfl, rfl⟩) | ((with_reducible refine (in2_yes _ _ _ ?_ ?_ ?_).mono ?_); simp; omega; omega; rintro e w' ⟨rfl, rfl⟩) | ((with_reducible refine (in2_no _ _ _ ?_ ?_).mono ?_); simp; omega; rintro e w' ⟨rfl, rfl⟩)) | (go_at_call 100; refine (refValue_calls _ _).mono ?_; rintro e w' ⟨rfl, rfl⟩; rw [Hv.out]))
        all_goals (try (exfalso; omega))
        go_ret
        exact ⟨rfl, by (repeat (first | exact Below.refl _ _ | exact trivial | refine Below.alloc ?_ (by first | omega | (simp; done) | (simp; omega)) _ | refine Below.drew ?_))⟩
    · have Hv := Lib.hid (valB_no v0)
      rw [stErr_4 (by omega) (by omega) (.inl ⟨rfl, by omega⟩)]
      go_enter Try.func61, Try.ntmps61
      go_wp2_with (first | (go_at_call 62; first | ((with_reducible refine (in1_yes _ _ _ ?_ ?_ ?_).mono ?_); simp; omega; omega; rintro e w' ⟨rfl, rfl⟩) | ((with_reducible refine (in1_no _ _ _ ?_ ?_).mono ?_); simp; omega; rintro e w' ⟨rfl, rfl⟩) | ((with_reducible refine (in2_yes _ _ _ ?_ ?_ ?_).mono ?_); simp; omega; omega; rintro e w' ⟨rfl, rfl⟩) | ((with_reducible refine (in2_no _ _ _ ?_ ?_).mono ?_); simp; omega; rintro e w' ⟨rfl, rfl⟩)) | (go_at_call 100; refine (refValue_calls _ _).mono ?_; rintro e w' ⟨rfl, rfl⟩; rw [Hv.out]))
      all_goals (try (exfalso; omega))
      go_ret
      exact ⟨rfl, by (repeat (first | exact Below.refl _ _ | exact trivial | refine Below.alloc ?_ (by first | omega | (simp; done) | (simp; omega)) _ | refine Below.drew ?_))⟩
  have q1 : (op == 1) = false := by rw [beq_eq_false_iff_ne]; exact o1
  by_cases o2 : op = 2
  · subst o2
    by_cases v0 : 0 ≤ sv ∧ sv < vars
    · by_cases t0 : 0 ≤ sto ∧ sto < vars
      · rw [stErr_0 (by omega) (by omega) (fun h => by omega) (fun h => v0) t0 (fun h => by omega)]
        go_enter Try.func61, Try.ntmps61
        go_wp2_with (go_at_call 62; first | ((with_reducible refine (in1_yes _ _ _ ?_ ?_ ?_).mono ?_); simp; omega; omega; rintro e w' ⟨rfl, rfl⟩) | ((with_reducible refine (in1_no _ _ _ ?_ ?_).mono ?_); simp; omega; rintro e w' ⟨rfl, rfl⟩) | ((with_reducible refine (in2_yes _ _ _ ?_ ?_ ?_).mono ?_); simp; omega; omega; rintro e w' ⟨rfl, rfl⟩) | ((with_reducible refine (in2_no _ _ _ ?_ ?_).mono ?_); simp; omega; rintro e w' ⟨rfl, rfl⟩))
        all_goals (try (exfalso; omega))
        go_ret
        exact ⟨rfl, by (repeat (first | exact Below.refl _ _ | exact trivial | refine Below.alloc ?_ (by first | omega | (simp; done) | (simp; omega)) _ | refine Below.drew ?_))⟩
      · rw [stErr_2 (by omega) (by omega) (fun h => by omega) (fun h => v0) (.inl (by omega))]
        go_enter Try.func61, Try.ntmps61
        go_wp2_with (go_at_call 62; first | ((with_reducible refine (in1_yes _ _ _ ?_ ?_ ?_).mono ?_); simp; omega; omega; rintro e w' ⟨rfl, rfl⟩) | ((with_reducible refine (in1_no _ _ _ ?_ ?_).mono ?_); simp; omega; rintro e w' ⟨rfl, rfl⟩) | ((with_reducible refine (in2_yes _ _ _ ?_ ?_ ?_).mono ?_); simp; omega; omega; rintro e w' ⟨rfl, rfl⟩) | ((with_reducible refine (in2_no _ _ _ ?_ ?_).mono ?_); simp; omega; rintro e w' ⟨rfl, rfl⟩))
        all_goals (try (exfalso; omega))
        go_ret
        exact ⟨rfl, by (repeat (first | exact Below.refl _ _ | exact trivial | refine Below.alloc ?_ (by first | omega | (simp; done) | (simp; omega)) _ | refine Below.drew ?_))⟩
    · rw [stErr_4 (by omega) (by omega) (.inr ⟨rfl, by omega⟩)]
      go_enter Try.func61, Try.ntmps61
      go_wp2_with (go_at_call 62; first | ((with_reducible refine (in1_yes _ _ _ ?_ ?_ ?_).mono ?_); simp; omega; omega; rintro e w' ⟨rfl, rfl⟩) | ((with_reducible refine (in1_no _ _ _ ?_ ?_).mono ?_); simp; omega; rintro e w' ⟨rfl, rfl⟩) | ((with_reducible refine (in2_yes _ _ _ ?_ ?_ ?_).mono ?_); simp; omega; omega; rintro e w' ⟨rfl, rfl⟩) | ((with_reducible refine (in2_no _ _ _ ?_ ?_).mono ?_); simp; omega; rintro e w' ⟨rfl, rfl⟩))
      all_goals (try (exfalso; omega))
      go_ret
      exact ⟨rfl, by (repeat (first | exact Below.refl _ _ | exact trivial | refine Below.alloc ?_ (by first | omega | (simp; done) | (simp; omega)) _ | refine Below.drew ?_))⟩
  have q2 : (op == 2) = false := by rw [beq_eq_false_iff_ne]; exact o2
  have q3 : decide (3 ≤ op) = true := decide_eq_true (by omega)
  by_cases t0 : 0 ≤ sto ∧ sto < vars
  · by_cases a0 : (0 ≤ sa ∧ sa < vars) ∧ 0 ≤ sb ∧ sb < vars
    · rw [stErr_0 (by omega) (by omega) (fun h => by omega) (fun h => by omega) t0 (fun _ => a0)]
      go_enter Try.func61, Try.ntmps61
      go_wp2_with (go_at_call 62; first | ((with_reducible refine (in1_yes _ _ _ ?_ ?_ ?_).mono ?_); simp; omega; omega; rintro e w' ⟨rfl, rfl⟩) | ((with_reducible refine (in1_no _ _ _ ?_ ?_).mono ?_); simp; omega; rintro e w' ⟨rfl, rfl⟩) | ((with_reducible refine (in2_yes _ _ _ ?_ ?_ ?_).mono ?_); simp; omega; omega; rintro e w' ⟨rfl, rfl⟩) | ((with_reducible refine (in2_no _ _ _ ?_ ?_).mono ?_); simp; omega; rintro e w' ⟨rfl, rfl⟩))
      all_goals (try (exfalso; omega))
      go_ret
      exact ⟨rfl, by (repeat (first | exact Below.refl _ _ | exact trivial | refine Below.alloc ?_ (by first | omega | (simp; done) | (simp; omega)) _ | refine Below.drew ?_))⟩
    · rw [stErr_2 (by omega) (by omega) (fun h => by omega) (fun h => by omega) (.inr ⟨by omega, by omega⟩)]
      go_enter Try.func61, Try.ntmps61
      go_wp2_with (go_at_call 62; first | ((with_reducible refine (in1_yes _ _ _ ?_ ?_ ?_).mono ?_); simp; omega; omega; rintro e w' ⟨rfl, rfl⟩) | ((with_reducible refine (in1_no _ _ _ ?_ ?_).mono ?_); simp; omega; rintro e w' ⟨rfl, rfl⟩) | ((with_reducible refine (in2_yes _ _ _ ?_ ?_ ?_).mono ?_); simp; omega; omega; rintro e w' ⟨rfl, rfl⟩) | ((with_reducible refine (in2_no _ _ _ ?_ ?_).mono ?_); simp; omega; rintro e w' ⟨rfl, rfl⟩))
      all_goals (try (exfalso; omega))
      go_ret
      exact ⟨rfl, by (repeat (first | exact Below.refl _ _ | exact trivial | refine Below.alloc ?_ (by first | omega | (simp; done) | (simp; omega)) _ | refine Below.drew ?_))⟩
  · rw [stErr_2 (by omega) (by omega) (fun h => by omega) (fun h => by omega) (.inl (by omega))]
    go_enter Try.func61, Try.ntmps61
    go_wp2_with (go_at_call 62; first | ((with_reducible refine (in1_yes _ _ _ ?_ ?_ ?_).mono ?_); simp; omega; omega; rintro e w' ⟨rfl, rfl⟩) | ((with_reducible refine (in1_no _ _ _ ?_ ?_).mono ?_); simp; omega; rintro e w' ⟨rfl, rfl⟩) | ((with_reducible refine (in2_yes _ _ _ ?_ ?_ ?_).mono ?_); simp; omega; omega; rintro e w' ⟨rfl, rfl⟩) | ((with_reducible refine (in2_no _ _ _ ?_ ?_).mono ?_); simp; omega; rintro e w' ⟨rfl, rfl⟩))
    all_goals (try (exfalso; omega))
    go_ret
    exact ⟨rfl, by (repeat (first | exact Below.refl _ _ | exact trivial | refine Below.alloc ?_ (by first | omega | (simp; done) | (simp; omega)) _ | refine Below.drew ?_))⟩
end Go.Proofs.Ytmgejacndhnikaa
