/- HoldMore, HoldSleator. -/
import Derived.Test.YtdkkmmljaijomaaHoldF
import Derived.Test.YtdkkmmljaijomaaHoldB
namespace Go.Proofs.Ytdkkmmljaijomaa
open Go.RowKit

def HoldOk (again : Bool) (pick : List Int → List Int → Nat → Prop) (refs : List Int) (P : Nat) (w : World) (e : Ending) (w' : World) : Prop :=
  Below w.heap.size w w' ∧ ∃ m : Nat, e = .returned (.tuple #[.int .i64 m, .int .i64 0]) ∧ m ≤ refs.length ∧ Runs again P pick refs [] m
theorem HoldEnd.ok {again : Bool} {pick : List Int → List Int → Nat → Prop} {refs : List Int} {P : Nat} {w : World} {e : Ending} {w' : World} (hP : Held refs P) (h : HoldEnd again pick refs P w e w') : HoldOk again pick refs P w e w' := by
  obtain ⟨hB, h | ⟨P', m, hp, _, h1, h2, h3⟩⟩ := h
  · exact absurd hP h.1
  · have : P' = P := by omega
    subst this
    exact ⟨hB, m, h1, h2, h3⟩
theorem HoldEnd.bad {again : Bool} {pick : List Int → List Int → Nat → Prop} {refs : List Int} {P : Int} {w : World} {e : Ending} {w' : World} (hP : ¬ Held refs P) (h : HoldEnd again pick refs P w e w') : Below w.heap.size w w' ∧ e = .returned (.tuple #[.int .i64 0, .int .i64 1]) := by
  obtain ⟨hB, h | ⟨P', m, hp, h0, _⟩⟩ := h
  · exact ⟨hB, h.2⟩
  · exact absurd h0 hP
theorem Runs.legal0 {again : Bool} {P : Nat} {pick : List Int → List Int → Nat → Prop} {l : List Int} {m : Nat} (h : Runs again P pick l [] m) (hP : 1 ≤ P) : Legal P l [] m := h.legal hP (by simp) (by simp)
set_option maxHeartbeats 4000000 in
theorem holdMore_calls (A : Option Addr) (refs : List Int) (cap : Nat) (P : Int) (w : World) (hA : RdI w A refs) (hm : refs.length ≤ maxLen) (hcap : refs.length ≤ cap) :
    Calls Try.prog 3 #[.slice A refs.length cap, .int .i64 P] w fun e w' => e = .returned (.bool true) ∧ Below w.heap.size w w' := by
  have HA := Lib.hid hA; clear hA
  by_cases h : Held refs P
  case neg =>
    have H := Lib.hid h
    have H' := Lib.hid (decide_eq_false h)
    clear h
    go_enter Try.func3, Try.ntmps3
    go_wp2_with (first
      | (go_at_call 14; refine (held_calls _ _ _ _ _ hm).mono ?_; rintro e w1 ⟨rfl, rfl⟩; rw [H'.out])
      | (go_at_call 15; refine (lru_calls _ _ _ _ _ HA.out hm).mono ?_; intro e w2 h2; obtain ⟨hB, rfl⟩ := h2.bad H.out; have HB := Lib.hid hB; clear hB h2))
    go_ret
    exact ⟨rfl, HB.out⟩
  have H := Lib.hid h
  have H' := Lib.hid (decide_eq_true h)
  obtain ⟨P, rfl⟩ := Int.eq_ofNat_of_zero_le (show 0 ≤ P by have := h.2.1; omega)
  obtain ⟨h1, h2, h3⟩ := h
  go_enter Try.func3, Try.ntmps3
  go_wp2_with (go_at_call 14; refine (held_calls _ _ _ _ _ hm).mono ?_; rintro e w1 ⟨rfl, rfl⟩; rw [H'.out])
  refine (lru_calls _ _ _ _ _ HA.out hm).mono ?_
  intro e w2 hr
  obtain ⟨hB, a, rfl, ha, hra⟩ := hr.ok H.out
  have HB2 := Lib.hid hB
  have Hra := Lib.hid hra
  have hw2 := hB.size
  clear hB hr hra
  go_wp2_with fail
  refine (min_calls _ _ _ _ _ (Rd.below HA.out HB2.out) hm hcap).mono ?_
  intro e w3 hr
  obtain ⟨hB, k, rfl, hk, hrk⟩ := hr.ok H.out
  have HB3 := Lib.hid (HB2.out.trans (hB.mono hw2))
  have Hrk := Lib.hid hrk
  have hw3 := HB3.out.size
  clear hB hr hrk
  by_cases h8 : P = 8
  · subst h8
    go_wp2
    go_ret
    exact ⟨rfl, HB3.out⟩
  · have q : ((P : Int) == 8) = false := by rw [beq_eq_false_iff_ne]; omega
    have Hp : Hid (Held refs ((P : Int) + 1)) := ⟨h1, by omega, by omega⟩
    have hp1 : (P : Int) + 1 = ((P + 1 : Nat) : Int) := by omega
    have Hp1 := Lib.hid hp1
    clear hp1
    go_wp2_with fail
    refine (lru_calls _ _ _ _ _ (Rd.below HA.out HB3.out) hm).mono ?_
    intro e w4 hr
    rw [Hp1.out] at hr Hp
    obtain ⟨hB, b, rfl, hb, hrb⟩ := hr.ok Hp.out
    have HB4 := Lib.hid (HB3.out.trans (hB.mono hw3))
    have Hrb := Lib.hid hrb
    have hw4 := HB4.out.size
    clear hB hr hrb
    go_wp2_with fail
    refine (min_calls _ _ _ _ _ (Rd.below HA.out HB4.out) hm hcap).mono ?_
    intro e w5 hr
    rw [Hp1.out] at hr
    obtain ⟨hB, m, rfl, hmm, hrm⟩ := hr.ok Hp.out
    have HB5 := Lib.hid (HB4.out.trans (hB.mono hw4))
    have Hrm := Lib.hid hrm
    clear hB hr hrm
    have k1 : b ≤ a := lru_more (fun _ _ _ h => h) (fun _ _ _ h => h) Hra.out Hrb.out (by simp) (by simp) (.inl rfl)
    have k2 : m ≤ k := belady0 (Nat.le_succ P) Hrm.out (Hrk.out.legal0 (by omega))
    have q1 : decide ((b : Int) ≤ (a : Int)) = true := decide_eq_true (by omega)
    have q2 : decide ((m : Int) ≤ (k : Int)) = true := decide_eq_true (by omega)
    go_wp2
    all_goals first
      | (exfalso; omega)
      | (go_ret
         exact ⟨ret_bool (by first | rfl | (simp; omega)), HB5.out⟩)
set_option maxHeartbeats 4000000 in
theorem holdSleator_calls (A : Option Addr) (refs : List Int) (cap : Nat) (P Q : Int) (w : World) (hA : RdI w A refs) (hm : refs.length ≤ maxLen) (hcap : refs.length ≤ cap) :
    Calls Try.prog 4 #[.slice A refs.length cap, .int .i64 P, .int .i64 Q] w fun e w' => e = .returned (.bool true) ∧ Below w.heap.size w w' := by
  have HA := Lib.hid hA; clear hA
  have Hz : Hid (¬ Held refs 0) := fun h => by have := h.2.1; omega
  by_cases hh : Held refs P ∧ Held refs Q ∧ Q ≤ P
  case neg =>
    have hd : (decide (Held refs P) = false) ∨ (decide (Held refs P) = true ∧ decide (Held refs Q) = false) ∨ (decide (Held refs P) = true ∧ decide (Held refs Q) = true ∧ P < Q) := by
      simp only [decide_eq_true_eq, decide_eq_false_iff_not]
      by_cases a : Held refs P <;> by_cases b : Held refs Q <;> simp [a, b] at hh ⊢
      omega
    clear hh
    have c1 := Lib.hid (fun w => held_calls A refs cap P w hm)
    have c2 := Lib.hid (fun w => held_calls A refs cap Q w hm)
    generalize decide (Held refs P) = d1 at *
    generalize decide (Held refs Q) = d2 at *
    rcases hd with rfl | ⟨rfl, rfl⟩ | ⟨rfl, rfl, hpq⟩
    all_goals
      go_enter Try.func4, Try.ntmps4
      go_wp2_with (first
        | (go_at_call 14; with_reducible refine (c1.out _).mono ?_; rintro e w1 ⟨rfl, rfl⟩)
        | (go_at_call 14; with_reducible refine (c2.out _).mono ?_; rintro e w1 ⟨rfl, rfl⟩)
        | (go_at_call 15; refine (lru_calls _ _ _ _ _ HA.out hm).mono ?_; intro e w2 h2; obtain ⟨hB, rfl⟩ := h2.bad Hz.out; have HB := Lib.hid hB; clear hB h2))
      go_ret
      exact ⟨rfl, HB.out⟩
  obtain ⟨h, hq, hqp⟩ := hh
  have H := Lib.hid h
  have HQ := Lib.hid hq
  have c1 := Lib.hid (fun w => held_calls A refs cap P w hm)
  have c2 := Lib.hid (fun w => held_calls A refs cap Q w hm)
  rw [decide_eq_true h] at c1
  rw [decide_eq_true hq] at c2
  obtain ⟨P, rfl⟩ := Int.eq_ofNat_of_zero_le (show 0 ≤ P by have := h.2.1; omega)
  obtain ⟨Q, rfl⟩ := Int.eq_ofNat_of_zero_le (show 0 ≤ Q by have := hq.2.1; omega)
  obtain ⟨h1, h2, h3⟩ := h
  obtain ⟨_, h4, h5⟩ := hq
  go_enter Try.func4, Try.ntmps4
  go_wp2_with (first
    | (go_at_call 14; with_reducible refine (c1.out _).mono ?_; rintro e w1 ⟨rfl, rfl⟩)
    | (go_at_call 14; with_reducible refine (c2.out _).mono ?_; rintro e w1 ⟨rfl, rfl⟩))
  refine (lru_calls _ _ _ _ _ HA.out hm).mono ?_
  intro e w2 hr
  obtain ⟨hB, a, rfl, ha, hra⟩ := hr.ok H.out
  have HB2 := Lib.hid hB
  have Hra := Lib.hid hra
  have hw2 := hB.size
  clear hB hr hra
  go_wp2_with fail
  refine (min_calls _ _ _ _ _ (Rd.below HA.out HB2.out) hm hcap).mono ?_
  intro e w3 hr
  obtain ⟨hB, k, rfl, hk, hrk⟩ := hr.ok HQ.out
  have HB3 := Lib.hid (HB2.out.trans (hB.mono hw2))
  have Hrk := Lib.hid hrk
  clear hB hr hrk
  have key : (P - Q + 1) * (a - Q) ≤ P * k := sleator0 (by omega) (by omega) (fun _ _ _ h => h) Hra.out (Hrk.out.legal0 (by omega))
  have Hkey : Hid (((P : Int) - Q + 1) * ((a : Int) - Q) ≤ (P : Int) * k) := by
    have e1 : ((P : Int) - Q + 1) = ((P - Q + 1 : Nat) : Int) := by omega
    rw [e1]
    rcases Nat.lt_or_ge a Q with hlt | hge
    · have e2 : (a : Int) - Q ≤ 0 := by omega
      have := Int.mul_nonneg (Int.natCast_nonneg P) (Int.natCast_nonneg k)
      have := Int.mul_nonpos_of_nonneg_of_nonpos (Int.natCast_nonneg (P - Q + 1)) e2
      show _ ≤ _
      omega
    · have e2 : (a : Int) - Q = ((a - Q : Nat) : Int) := by omega
      rw [e2, ← Int.natCast_mul, ← Int.natCast_mul]
      exact_mod_cast key
  have b1 : (P : Int) - Q + 1 ≤ 100 := by omega
  have b2 : 0 ≤ (P : Int) - Q + 1 := by omega
  have b3 : (a : Int) - Q ≤ 100 := by omega
  have b4 : -100 ≤ (a : Int) - Q := by omega
  have p1 : ((P : Int) - Q + 1) * ((a : Int) - Q) ≤ 10000 := by
    have := Int.mul_le_mul_of_nonneg_left b3 b2
    have : ((P : Int) - Q + 1) * 100 ≤ 100 * 100 := Int.mul_le_mul_of_nonneg_right b1 (by decide)
    omega
  have p2 : -10000 ≤ ((P : Int) - Q + 1) * ((a : Int) - Q) := by
    have := Int.mul_le_mul_of_nonneg_left b4 b2
    have : ((P : Int) - Q + 1) * 100 ≤ 100 * 100 := Int.mul_le_mul_of_nonneg_right b1 (by decide)
    omega
  have p3 : 0 ≤ (P : Int) * k := Int.mul_nonneg (Int.natCast_nonneg P) (Int.natCast_nonneg k)
  have p4 : (P : Int) * k ≤ 10000 := by
    have h6 : P * k ≤ 8 * 20 := Nat.mul_le_mul (by omega) (by omega)
    have : (P : Int) * k = ((P * k : Nat) : Int) := by rw [Int.natCast_mul]
    omega
  have Hw1 := Lib.hid (show wrap64 (((P : Int) - Q + 1) * ((a : Int) - Q)) = ((P : Int) - Q + 1) * ((a : Int) - Q) from by unfold wrap64; omega)
  have Hw2 := Lib.hid (show wrap64 ((P : Int) * k) = (P : Int) * k from by unfold wrap64; omega)
  clear p1 p2 p3 p4
  go_wp2
  go_ret
  exact ⟨ret_bool (by show decide (wrap64 _ ≤ wrap64 _) = true; rw [Hw1.out, Hw2.out]; exact decide_eq_true Hkey.out), HB3.out⟩
end Go.Proofs.Ytdkkmmljaijomaa
