/- PlanOne walked. -/
import Derived.Test.YtdkkmmljaijomaaPlnE
namespace Go.Proofs.Ytdkkmmljaijomaa
open Go.RowKit

theorem tasks_calls (n : Int) (A : Option Addr) (ps : List (Int × Int)) (cap : Nat) (w : World) (hA : RdP w A ps) (hm : ps.length ≤ maxLen) :
    Calls Try.prog 21 #[.int .i64 n, .slice A ps.length cap] w fun e w' => e = .returned (.bool (plErr n ps == 0)) ∧ Below w.heap.size w w' := by
  have Hc := Lib.hid (tasksCheck_calls n A ps cap w hA hm)
  clear hA hm
  generalize plErr n ps = x at *
  go_enter Try.func21, Try.ntmps21
  go_wp2_with (go_at_call 42; refine Hc.out.mono ?_; rintro e w' ⟨rfl, hW⟩; have HW := Lib.hid hW; clear hW)
  go_ret
  exact ⟨rfl, HW.out⟩
set_option maxHeartbeats 4000000 in
theorem planOne_u (n h : Int) (A : Option Addr) (ps : List (Int × Int)) (cap : Nat) (w : World) (hA : RdP w A ps) (hm : ps.length ≤ maxLen) :
    Calls Try.prog 7 #[.int .i64 n, .slice A ps.length cap, .int .i64 h] w fun e w' => e = .returned (.bool true) ∧ Below w.heap.size w w' := by
  have HA := Lib.hid hA
  have Ht := Lib.hid (fun w hA => tasks_calls n A ps cap w hA hm)
  by_cases h0 : plErr n ps = 0
  case neg =>
    have Hb := Lib.hid (best_bad n 1 A ps cap w hA hm (.inl h0))
    have q : (plErr n ps == 0) = false := by rw [beq_eq_false_iff_ne]; exact h0
    rw [q] at Ht
    clear hA hm h0 q
    go_enter Try.func7, Try.ntmps7
    go_wp2_with fail
    refine Hb.out.mono ?_
    rintro e w1 ⟨⟨x, hx, rfl⟩, hW⟩
    have HW := Lib.hid hW
    have q : (x != 0) = true := by rw [bne_iff_ne]; exact hx
    clear hW hx
    go_wp2_with (go_at_call 21; refine (Ht.out _ (Rd.below HA.out HW.out)).mono ?_; rintro e w2 ⟨rfl, hW⟩; have HW2 := Lib.hid (HW.out.trans (hW.mono HW.out.size)); clear hW)
    go_ret
    exact ⟨rfl, HW2.out⟩
  obtain ⟨m, rfl, hok⟩ := plOk_of h0
  obtain ⟨rk, hD⟩ := hok.dag
  have HD := Lib.hid hD
  have Hok := Lib.hid hok
  have Hb := Lib.hid (fun w hA h (h1 : 1 ≤ h) h8 => best_ok m A ps cap h w hA hm h0 h1 h8)
  have Hb1 := Lib.hid (best_ok m A ps cap 1 w hA hm h0 (by decide) (by decide))
  have q : (plErr m ps == 0) = true := by rw [beq_iff_eq]; exact h0
  rw [q] at Ht
  clear hA hm h0 q hD hok
  go_enter Try.func7, Try.ntmps7
  go_wp2_with fail
  refine Hb1.out.mono ?_
  rintro e w1 ⟨k, rfl, hk, hW⟩
  obtain rfl := hk.one HD.out
  have HW := Lib.hid hW
  clear hW hk Hb1
  by_cases h1 : h < 1
  · go_wp2_with (go_at_call 21; refine (Ht.out _ (Rd.below HA.out HW.out)).mono ?_; rintro e w2 ⟨rfl, hW⟩; have HW2 := Lib.hid (HW.out.trans (hW.mono HW.out.size)); clear hW)
    all_goals first | (exfalso; omega; done) | (go_ret; exact ⟨rfl, HW2.out⟩)
  by_cases h8 : 8 ≤ h
  · go_wp2_with (go_at_call 21; refine (Ht.out _ (Rd.below HA.out HW.out)).mono ?_; rintro e w2 ⟨rfl, hW⟩; have HW2 := Lib.hid (HW.out.trans (hW.mono HW.out.size)); clear hW)
    all_goals first | (exfalso; omega; done) | (go_ret; exact ⟨rfl, HW2.out⟩)
  obtain ⟨j, rfl⟩ := Int.eq_ofNat_of_zero_le (show 0 ≤ h by omega)
  have e1 : ((j : Nat) : Int) + 1 = ((j + 1 : Nat) : Int) := by omega
  have Hba := Lib.hid (fun w hA => Hb.out w hA j (by omega) (by omega))
  have Hbb := Lib.hid (fun w hA => Hb.out w hA (j + 1) (by omega) (by omega))
  rw [← e1] at Hbb
  have hj1 : 1 ≤ j := by omega
  clear Hb e1
  go_wp2_with (go_at_call 21; refine (Ht.out _ (Rd.below HA.out HW.out)).mono ?_; rintro e w2 ⟨rfl, hW⟩; have HW2 := Lib.hid (HW.out.trans (hW.mono HW.out.size)); clear hW)
  all_goals (try (exfalso; omega; done))
  refine (Hba.out _ (Rd.below HA.out HW2.out)).mono ?_
  rintro e w3 ⟨a, rfl, ha, hW⟩
  have Ha := Lib.hid ha
  have HW3 := Lib.hid (HW2.out.trans (hW.mono HW2.out.size))
  clear ha hW
  go_wp2_with fail
  refine (Hbb.out _ (Rd.below HA.out HW3.out)).mono ?_
  rintro e w4 ⟨b, rfl, hb, hW⟩
  have hab : ((b : Nat) : Int) ≤ ((a : Nat) : Int) := by have := Ha.out.more HD.out hj1 hb; omega
  have HW4 := Lib.hid (HW3.out.trans (hW.mono HW3.out.size))
  clear hb hW
  go_wp2
  go_ret
  exact ⟨rfl, HW4.out⟩
end Go.Proofs.Ytdkkmmljaijomaa
