/- codemasonkeep.leaves, and the law NeedErshov. -/
import Derived.Test.YtmglhppfdhphbaaNeedC
namespace Go.Proofs.Ytmglhppfdhphbaa
open Go.RowKit

theorem leavesN_snoc (l : List Term) (t : Term) : leavesN (l ++ [t]) = leavesN l + if t.op < 3 then 1 else 0 := by unfold leavesN; simp

set_option maxHeartbeats 400000 in
theorem leaves_calls (A : Option Addr) (l : List Term) (cap : Nat) (w : World) (hA : RdT w A l) (hm : l.length ≤ 16) :
    Calls Try.prog 21 #[.slice A l.length cap] w fun e w' => e = .returned (.int .i64 (leavesN l)) ∧ Below w.heap.size w w' := by
  have HA := Lib.hid hA
  clear hA
  go_enter Try.func21, Try.ntmps21
  go_wp2
  go_loopw [3, 8] (fun m i wr => ∃ k : Nat, k ≤ l.length ∧ i = .int .i64 k ∧ m = .int .i64 (leavesN (l.take k)) ∧ 0 ≤ leavesN (l.take k) ∧ leavesN (l.take k) ≤ k ∧ Below w.heap.size w wr) (fun _ i _ => l.length - (intOf i).toNat)
  case atStart => exact ⟨0, Nat.zero_le _, rfl, rfl, by simp [leavesN], by simp [leavesN], Below.refl _ _⟩
  case round =>
    obtain ⟨k, hk, rfl, rfl, hb0, hb1, hW⟩ := hrel
    have hw1 := hW.size
    by_cases hlt : k < l.length
    · obtain ⟨b, off, rfl, hb, c0, c1, c2, c3⟩ := RdT.at4 (Rd.below HA.out hW) hlt
      have hs : leavesN (l.take (k + 1)) = leavesN (l.take k) + if l[k].op < 3 then 1 else 0 := by rw [List.take_succ_eq_append_getElem hlt]; exact leavesN_snoc _ _
      have Hs := Lib.hid hs
      clear hs
      generalize l[k] = t at *
      generalize leavesN (l.take k) = u at *
      by_cases h3 : t.op < 3
      · have Hs2 := Lib.hid (show leavesN (l.take (k + 1)) = u + 1 by rw [Hs.out, if_pos h3])
        go_wp2
        go_roundw
        case rel => exact ⟨k + 1, by omega, by go_num, by rw [Hs2.out], by rw [Hs2.out]; omega, by rw [Hs2.out]; omega, hW.alloc hw1 _⟩
        case measure => simp [intOf]; omega
      · have Hs2 := Lib.hid (show leavesN (l.take (k + 1)) = u by rw [Hs.out, if_neg h3]; omega)
        go_wp2
        go_roundw
        case rel => exact ⟨k + 1, by omega, by go_num, by rw [Hs2.out], by rw [Hs2.out]; omega, by rw [Hs2.out]; omega, hW.alloc hw1 _⟩
        case measure => simp [intOf]; omega
    · have : k = l.length := by omega
      subst this
      rw [List.take_length]
      go_wp2
      go_ret
      exact ⟨rfl, hW⟩

theorem ershov {vars : Int} {l : List Term} (h : needErr vars l = 0) : ∃ n : Nat, tNeed l = n + 1 ∧ (2 : Int) ^ n ≤ leavesN l ∧ n ≤ 4 ∧ tNeed l ≤ leavesN l := by
  obtain ⟨h0, ht⟩ := needErr_ok h
  obtain ⟨_, _, hl1, hl16, hok⟩ := tErr_ok h0
  obtain ⟨n, h1, h2⟩ := need_leaves hok (l.length - 1) (by omega)
  rw [leaves_eq hl1 hok ht] at h2
  have hle : leavesN l ≤ 16 := by
    have : ∀ m : List Term, leavesN m ≤ m.length := fun m => by
      induction m with
      | nil => simp [leavesN]
      | cons t r ih =>
        unfold leavesN at ih ⊢
        rw [List.map_cons, List.sum_cons, List.length_cons]
        split <;> omega
    have := this l
    omega
  have hn : n ≤ 4 := by
    rcases Nat.lt_or_ge n 5 with h | h
    · omega
    · have : (2 : Int) ^ 5 ≤ 2 ^ n := by
        obtain ⟨m, rfl⟩ : ∃ m, n = 5 + m := ⟨n - 5, by omega⟩
        rw [Int.pow_add]
        have : (1 : Int) ≤ 2 ^ m := by
          clear h1 h2 h
          induction m with
          | zero => decide
          | succ m ih => rw [Int.pow_succ]; omega
        omega
      omega
  refine ⟨n, h1, h2, hn, ?_⟩
  rw [show tNeed l = (n : Int) + 1 from h1]
  have : (n : Int) + 1 ≤ 2 ^ n := by
    match n, hn with
    | 0, _ => decide
    | 1, _ => decide
    | 2, _ => decide
    | 3, _ => decide
    | 4, _ => decide
  omega

set_option maxHeartbeats 400000 in
theorem ershov_bad (vars : Int) (A : Option Addr) (l : List Term) (cap : Nat) (w : World) (hA : RdT w A l) (hm : l.length ≤ maxLen) (h0 : needErr vars l ≠ 0) :
    Calls Try.prog 4 #[.int .i64 vars, .slice A l.length cap] w fun e w' => e = .returned (.bool true) ∧ Below w.heap.size w w' := by
  have q : (needErr vars l != 0) = true := by rw [bne_iff_ne]; exact h0
  have H0 := Lib.hid h0
  have Hd := Lib.hid (decide_eq_false h0)
  have HA := Lib.hid hA
  clear hA h0
  go_enter Try.func4, Try.ntmps4
  go_wp2_with (first
    | (go_at_call 19; refine (need_bad _ _ _ _ _ HA.out hm H0.out).mono ?_; rintro e w1 ⟨rfl, hW⟩; have HW := Lib.hid hW; clear hW)
    | (go_at_call 20; refine (treed_calls _ _ _ _ _ (Rd.below HA.out HW.out) hm).mono ?_; rintro e w2 ⟨rfl, hW2⟩; rw [Hd.out]; have HW2 := Lib.hid hW2; clear hW2))
  go_ret
  exact ⟨rfl, HW.out.trans (HW2.out.mono HW.out.size)⟩

set_option maxHeartbeats 1000000 in
theorem ershov_ok (vars : Int) (A : Option Addr) (l : List Term) (cap : Nat) (w : World) (hA : RdT w A l) (h0 : needErr vars l = 0) :
    Calls Try.prog 4 #[.int .i64 vars, .slice A l.length cap] w fun e w' => e = .returned (.bool true) ∧ Below w.heap.size w w' := by
  obtain ⟨n, hn, hpow, hn4, hle⟩ := ershov h0
  obtain ⟨_, _, hl1, hl16, _⟩ := tErr_ok (needErr_ok h0).1
  have H0 := Lib.hid h0
  have Hd := Lib.hid (decide_eq_true h0)
  have HA := Lib.hid hA
  have Hpow := Lib.hid hpow
  have Hn := Lib.hid hn
  rw [hn] at hle
  clear hA h0 hpow hn
  go_enter Try.func4, Try.ntmps4
  go_wp2_with (first
    | (go_at_call 19; refine (need_ok _ _ _ _ _ HA.out H0.out).mono ?_; rintro e w1 ⟨rfl, hW⟩; rw [Hn.out]; have HW := Lib.hid hW; clear hW)
    | (go_at_call 20; refine (treed_calls _ _ _ _ _ (Rd.below HA.out HW.out) (by unfold maxLen; omega)).mono ?_; rintro e w2 ⟨rfl, hW2⟩; rw [Hd.out]; have HW2 := Lib.hid hW2; clear hW2))
  have HR2 := Lib.hid (Rd.below (Rd.below HA.out HW.out) HW2.out)
  go_loop [7, 8] (fun m i => ∃ k : Nat, k ≤ n ∧ i = .int .i64 (k + 1) ∧ m = .int .i64 (2 ^ k)) (fun _ i => n + 1 - (intOf i).toNat)
  case atStart => exact ⟨0, Nat.zero_le _, rfl, rfl⟩
  case round =>
    obtain ⟨k, hk, rfl, rfl⟩ := hrel
    by_cases hlt : k < n
    · have hs := Int.pow_succ 2 k
      have hb : (1 : Int) ≤ 2 ^ k ∧ (2 : Int) ^ k ≤ 16 := by
        match k, (show k ≤ 4 by omega) with
        | 0, _ => decide
        | 1, _ => decide
        | 2, _ => decide
        | 3, _ => decide
        | 4, _ => decide
      have Hs := Lib.hid hs
      clear hs
      obtain ⟨hb1, hb2⟩ := hb
      generalize (2 : Int) ^ k = p at *
      go_wp2
      go_round
      case rel => exact ⟨k + 1, by omega, by go_num, by rw [Hs.out]⟩
      case measure => simp [intOf]; omega
    · have : k = n := by omega
      subst this
      have hb : (1 : Int) ≤ 2 ^ k ∧ (2 : Int) ^ k ≤ 16 := by
        match k, hn4 with
        | 0, _ => decide
        | 1, _ => decide
        | 2, _ => decide
        | 3, _ => decide
        | 4, _ => decide
      have Hpow2 := Lib.hid Hpow.out
      obtain ⟨hb1, hb2⟩ := hb
      have hp := Hpow.out
      have Hlv := Lib.hid (leaves_calls A l cap)
      clear Hpow
      generalize (2 : Int) ^ k = p at *
      generalize leavesN l = m at *
      go_wp2_with (first
        | (go_at_call 21; refine (Hlv.out w2 HR2.out hl16).mono ?_; rintro e w3 ⟨rfl, hW3⟩; have HW3 := Lib.hid hW3; clear hW3)
        | (go_at_call 21; refine (Hlv.out w3 (Rd.below HR2.out HW3.out) hl16).mono ?_; rintro e w4 ⟨rfl, hW4⟩; have HW4 := Lib.hid hW4; clear hW4))
      all_goals first
        | (exfalso; omega)
        | (go_ret
           exact ⟨rfl, (HW.out.trans (HW2.out.mono HW.out.size)).trans ((HW3.out.trans (HW4.out.mono HW3.out.size)).mono (Nat.le_trans HW.out.size HW2.out.size))⟩)

theorem needErshov_calls (vars : Int) (A : Option Addr) (l : List Term) (cap : Nat) (w : World) (hA : RdT w A l) (hm : l.length ≤ maxLen) :
    Calls Try.prog 4 #[.int .i64 vars, .slice A l.length cap] w fun e w' => e = .returned (.bool true) ∧ Below w.heap.size w w' := by
  by_cases h0 : needErr vars l = 0
  · exact ershov_ok vars A l cap w hA h0
  · exact ershov_bad vars A l cap w hA hm h0
end Go.Proofs.Ytmglhppfdhphbaa
