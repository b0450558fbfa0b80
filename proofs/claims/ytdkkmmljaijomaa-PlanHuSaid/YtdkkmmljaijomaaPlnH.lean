/- codemasonkeep.most over levels or turns; PlanLevel walked. -/
import Derived.Test.YtdkkmmljaijomaaPlnG
import Derived.Test.YtdkkmmljaijomaaPlnF
namespace Go.Proofs.Ytdkkmmljaijomaa
open Go.RowKit

def mostF (L : Nat → Nat) : Nat → Nat
  | 0 => 0
  | n + 1 => if mostF L n < L n + 1 then L n + 1 else mostF L n
theorem mostF_lt {L : Nat → Nat} : ∀ {n j : Nat}, j < n → L j < mostF L n
  | n + 1, j, h => by
    unfold mostF
    by_cases e : j = n
    · subst e; split <;> omega
    · have := mostF_lt (L := L) (show j < n by omega); split <;> omega
theorem mostF_le {L : Nat → Nat} {b : Nat} : ∀ {n : Nat}, (∀ j, j < n → L j < b) → mostF L n ≤ b
  | 0, _ => Nat.zero_le _
  | n + 1, h => by
    unfold mostF
    have h1 := h n (by omega)
    have := mostF_le (n := n) fun j hj => h j (by omega)
    split <;> omega
set_option maxHeartbeats 1000000 in
theorem mostL_calls (A : Option Addr) (n : Nat) (L : Nat → Nat) (cap : Nat) (w : World) (hA : RdI w A (lvL n L)) (hm : n ≤ 1000) (hb : ∀ j, j < n → L j < 1000) :
    Calls Try.prog 23 #[.slice A n cap] w fun e w' => e = .returned (.int .i64 (mostF L n : Nat)) ∧ w' = w := by
  have HA := Lib.hid hA; clear hA
  have Hb := Lib.hid hb; clear hb
  go_enter Try.func23, Try.ntmps23
  go_wp2
  go_loop [3, 8] (fun m i => ∃ k m' : Nat, k ≤ n ∧ i = .int .i64 k ∧ m = .int .i64 m' ∧ Hid (mostF L k = m')) (fun _ i => n - (intOf i).toNat)
  case atStart => exact ⟨0, 0, Nat.zero_le _, rfl, rfl, Lib.hid rfl⟩
  case round =>
    obtain ⟨k, m, hk, rfl, rfl, hP⟩ := hrel
    by_cases hlt : k < n
    · obtain ⟨b, off, rfl, hb, c0⟩ := RdI.at1 HA.out (k := k) (by rw [lvL_len]; exact hlt)
      rw [lvL_get] at c0
      have hs := Hb.out _ hlt
      have Hst : Hid (mostF L (k + 1) = if m < L k + 1 then L k + 1 else m) := Lib.hid (by rw [← hP.out]; rfl)
      have hm' : m ≤ 1000 := by rw [← hP.out]; exact mostF_le fun j hj => Hb.out j (by omega)
      clear hP
      generalize L k = x at *
      by_cases hc : m < x + 1
      · have q : decide ((m : Int) < (x : Int) + 1) = true := decide_eq_true (by omega)
        have Hst2 : Hid (mostF L (k + 1) = x + 1) := by have := Hst.out; rw [if_pos hc] at this; exact Lib.hid this
        clear Hst
        go_wp2
        all_goals first | (exfalso; omega) | skip
        go_round
        case rel => exact ⟨k + 1, x + 1, by omega, by go_num, by go_num, Hst2⟩
        case measure => simp [intOf]; omega
      · have q : decide ((m : Int) < (x : Int) + 1) = false := decide_eq_false (by omega)
        have Hst2 : Hid (mostF L (k + 1) = m) := by have := Hst.out; rw [if_neg hc] at this; exact Lib.hid this
        clear Hst
        go_wp2
        all_goals first | (exfalso; omega) | skip
        go_round
        case rel => exact ⟨k + 1, m, by omega, by go_num, rfl, Hst2⟩
        case measure => simp [intOf]; omega
    · have : k = n := by omega
      subst this
      have H := Lib.hid hP.out.symm
      clear hP
      go_wp2
      go_ret
      exact ⟨ret_int (by rw [H.out]), rfl⟩

theorem IsLev.top {n : Nat} {R : Nat → Nat → Prop} {rk : Nat → Nat} (hD : Dag n R rk) {L : Nat → Nat} (hL : IsLev n R L) {a : Nat} (h1 : 1 ≤ n) (ha : IsBest n R n a) : mostF L n = a + 1 := by
  have h1a : 1 ≤ a := by
    rcases Nat.eq_zero_or_pos a with rfl | h
    · have h0 : fullW n = 0 := ha.full
      have := (full_in n 0).2 (by omega)
      rw [h0] at this
      exact absurd this (by unfold inW; simp)
    · exact h
  obtain ⟨D, hS⟩ := ha.sched hD
  obtain ⟨j, hj⟩ := ha.wide hD h1a
  have hlt := hj.lt hD
  have h2 := (hL j hlt).2 a hj
  have h3 : mostF L n ≤ a + 1 := mostF_le fun i hi => by have := hS.top hD (hL i hi).1; omega
  have := mostF_lt (L := L) hlt
  omega
theorem IsBest.wide_le {n : Nat} {R : Nat → Nat → Prop} {rk : Nat → Nat} (hD : Dag n R rk) {h a k : Nat} (h1 : 1 ≤ a) (ha : IsBest n R n a) (hk : IsBest n R h k) : a ≤ k := by
  obtain ⟨D, hS⟩ := hk.sched hD
  obtain ⟨j, hj⟩ := ha.wide hD h1
  exact hS.top hD hj
theorem IsBest.pos {n : Nat} {R : Nat → Nat → Prop} {h a : Nat} (h1 : 1 ≤ n) (ha : IsBest n R h a) : 1 ≤ a := by
  rcases Nat.eq_zero_or_pos a with rfl | h
  · have h0 : fullW n = 0 := ha.full
    have := (full_in n 0).2 (by omega)
    rw [h0] at this
    exact absurd this (by unfold inW; simp)
  · exact h
theorem IsBest.mul {n : Nat} {R : Nat → Nat → Prop} {rk : Nat → Nat} (hD : Dag n R rk) {h k : Nat} (hk : IsBest n R h k) : n ≤ k * h := by
  obtain ⟨D, hS⟩ := hk.sched hD
  have := hS.all hD.n8
  rwa [Nat.mul_comm] at this

set_option maxHeartbeats 4000000 in
theorem planLevel_u (n h : Int) (A : Option Addr) (ps : List (Int × Int)) (cap : Nat) (w : World) (hA : RdP w A ps) (hm : ps.length ≤ maxLen) :
    Calls Try.prog 8 #[.int .i64 n, .slice A ps.length cap, .int .i64 h] w fun e w' => e = .returned (.bool true) ∧ Below w.heap.size w w' := by
  have HA := Lib.hid hA
  have Ht := Lib.hid (fun w hA => tasks_calls n A ps cap w hA hm)
  by_cases h0 : plErr n ps = 0
  case neg =>
    have Hb := Lib.hid (levels_bad n A ps cap w hA hm h0)
    have q : (plErr n ps == 0) = false := by rw [beq_eq_false_iff_ne]; exact h0
    rw [q] at Ht
    clear hA hm h0 q
    go_enter Try.func8, Try.ntmps8
    go_wp2_with fail
    refine Hb.out.mono ?_
    rintro e w1 ⟨⟨x, hx, rfl⟩, hW⟩
    have HW := Lib.hid hW
    have q : (x != 0) = true := by rw [bne_iff_ne]; exact hx
    clear hW hx
    go_wp2_with (go_at_call 21; refine (Ht.out _ (Rd.below HA.out HW.out)).mono ?_; rintro e w2 ⟨rfl, hW⟩; have HW2 := Lib.hid (HW.out.trans (hW.mono HW.out.size)); clear hW)
    go_ret
    exact ⟨rfl, HW2.out⟩
  obtain ⟨m, rfl, hok⟩ := plOk_of h0
  obtain ⟨rk, hD⟩ := hok.dag
  have HD := Lib.hid hD
  have Hok := Lib.hid hok
  have hn1 := hok.n1
  have hn8 := hok.n8
  have Hb := Lib.hid (fun w hA h (h1 : 1 ≤ h) h8 => best_ok m A ps cap h w hA hm h0 h1 h8)
  have Hbb := Lib.hid (fun w hA (hh : h < 1 ∨ 8 < h) => best_bad m h A ps cap w hA hm (.inr hh))
  have Hl := Lib.hid (levels_ok m A ps cap w hA hm h0)
  have q : (plErr m ps == 0) = true := by rw [beq_iff_eq]; exact h0
  rw [q] at Ht
  clear hA hm h0 q hD hok
  go_enter Try.func8, Try.ntmps8
  go_wp2_with fail
  refine Hl.out.mono ?_
  rintro e w1 ⟨v, L, rfl, hL, hO, hW⟩
  obtain ⟨A1, c1, rfl, hR⟩ := OwnI.rd hO
  rw [lvL_len]
  have HR := Lib.hid hR
  have HL := Lib.hid hL
  have HW := Lib.hid hW
  clear hW hL hO hR Hl
  go_wp2_with (go_at_call 21; refine (Ht.out _ (Rd.below HA.out HW.out)).mono ?_; rintro e w2 ⟨rfl, hW⟩; have HR2 := Lib.hid (Rd.below HR.out hW); have HW2 := Lib.hid (HW.out.trans (hW.mono HW.out.size)); clear hW)
  refine (Hb.out _ (Rd.below HA.out HW2.out) m (by omega) (by omega)).mono ?_
  rintro e w3 ⟨a, rfl, ha, hW⟩
  have Ha := Lib.hid ha
  have HR3 := Lib.hid (Rd.below HR2.out hW)
  have HW3 := Lib.hid (HW2.out.trans (hW.mono HW2.out.size))
  have Htop := Lib.hid (HL.out.top HD.out hn1 ha)
  have ha1 := ha.pos hn1
  have han := ha.le_n HD.out
  clear ha hW
  have Hmo := Lib.hid (fun w hA => mostL_calls A1 m L c1 w hA (by omega) fun j hj => by have := mostF_lt (L := L) hj; have := Htop.out; omega)
  rw [Htop.out] at Hmo
  have qa : ((a + 1 : Nat) : Int) = (a : Int) + 1 := by omega
  rw [qa] at Hmo
  by_cases hbad : h < 1 ∨ 8 < h
  · go_wp2_with fail
    refine (Hbb.out _ (Rd.below HA.out HW3.out) hbad).mono ?_
    rintro e w4 ⟨⟨x, hx, rfl⟩, hW⟩
    have HR4 := Lib.hid (Rd.below HR3.out hW)
    have HW4 := Lib.hid (HW3.out.trans (hW.mono HW3.out.size))
    have q : (x != 0) = true := by rw [bne_iff_ne]; exact hx
    clear hx hW
    go_wp2_with (go_at_call 23; refine (Hmo.out _ HR4.out).mono ?_; rintro e w5 ⟨rfl, rfl⟩)
    all_goals (try (exfalso; omega; done))
    all_goals (go_ret; exact ⟨rfl, HW4.out⟩)
  · obtain ⟨j, rfl⟩ := Int.eq_ofNat_of_zero_le (show 0 ≤ h by omega)
    go_wp2_with fail
    refine (Hb.out _ (Rd.below HA.out HW3.out) j (by omega) (by omega)).mono ?_
    rintro e w4 ⟨k, rfl, hk, hW⟩
    have HR4 := Lib.hid (Rd.below HR3.out hW)
    have HW4 := Lib.hid (HW3.out.trans (hW.mono HW3.out.size))
    have hka := Ha.out.wide_le HD.out ha1 hk
    have hkn := hk.le_n HD.out
    have hmul := hk.mul HD.out
    have hz : ((m : Nat) : Int) ≤ (k : Int) * (j : Int) := by
      have : ((m : Nat) : Int) ≤ ((k * j : Nat) : Int) := by omega
      rwa [Int.natCast_mul] at this
    have hz2 : (k : Int) * (j : Int) ≤ 64 := by
      have : k * j ≤ 8 * 8 := Nat.mul_le_mul (by omega) (by omega)
      have : ((k * j : Nat) : Int) ≤ 64 := by omega
      rwa [Int.natCast_mul] at this
    clear hk hW hmul
    go_wp2_with (go_at_call 23; refine (Hmo.out _ HR4.out).mono ?_; rintro e w5 ⟨rfl, rfl⟩)
    all_goals (try (exfalso; omega; done))
    all_goals (go_ret; exact ⟨by first | rfl | exact ret_bool (decide_eq_true (by omega)) | exact ret_bool (by simp; omega), HW4.out⟩)
end Go.Proofs.Ytdkkmmljaijomaa
