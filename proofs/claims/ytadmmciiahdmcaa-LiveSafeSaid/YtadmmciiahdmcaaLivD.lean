/- live.In; LiveMore. -/
import Derived.Test.YtadmmciiahdmcaaLivC
import Derived.Test.YtadmmciiahdmcaaBlkE
import Derived.Test.YtadmmciiahdmcaaFitsR
namespace Go.Proofs.Ytadmmciiahdmcaa
open Go.RowKit

theorem lvErr_ok {vars : Int} {p : List Blk} {want : Nat} (h : lvErr vars p want = 0) : pkErr vars p = 0 ∧ want < 2 ^ vars.toNat := by
  unfold lvErr at h
  split at h
  · rename_i h0
    split at h
    · rename_i h1; exact ⟨h0, h1⟩
    · cases h
  · rename_i h0; exact absurd h h0
def LvIn (vars : Int) (p : List Blk) (want : Nat) (w : World) (e : Ending) (w' : World) : Prop :=
  ∃ v F, e = .returned (.tuple #[v, .int .i64 0]) ∧ SolL p want F ∧ ltU F (2 ^ vars.toNat) ∧ OwnU w' w.heap.size 39 v F ∧ Below w.heap.size w w'
theorem lvIn_ok (vars : Int) (A : Option Addr) (p : List Blk) (cap want : Nat) (w : World) (hA : RdBk w A p) (hm : p.length ≤ maxLen) (hmc : smallB p) (_hw : want < 4294967296) (h0 : lvErr vars p want = 0) :
    Calls Try.prog 22 #[.int .i64 vars, .slice A p.length cap, .int .u32 want] w (LvIn vars p want w) := by
  have Hc := Lib.hid (lvWrong_calls vars A p cap want w hA hm hmc)
  have hk := lvErr_ok h0
  rw [h0] at Hc
  have HA := Lib.hid hA
  have HS := Lib.hid (fun w hA => solveL_calls vars A p cap want w hA (pok_of hk.1) hk.2)
  clear hA hm hmc h0 hk
  go_enter Try.func22, Try.ntmps22
  go_wp2_with (first
    | (go_at_call 43; refine Hc.out.mono ?_; rintro e w1 ⟨rfl, hW⟩; have HW1 := Lib.hid hW; clear hW)
    | (go_at_call 44; refine (HS.out _ (HA.out.below HW1.out)).mono ?_; rintro e w2 ⟨v, F, rfl, h1, h2, h3, h4⟩; have H1 := Lib.hid h1; have H2 := Lib.hid h2; have H3 := Lib.hid h3; have H4 := Lib.hid h4; clear h1 h2 h3 h4))
  go_ret2
  exact ⟨_, F, rfl, H1.out, H2.out, H3.out.base_ HW1.out.size, HW1.out.trans (H4.out.mono HW1.out.size)⟩
theorem lvIn_bad (vars : Int) (A : Option Addr) (p : List Blk) (cap want : Nat) (w : World) (hA : RdBk w A p) (hm : p.length ≤ maxLen) (hmc : smallB p) (_hw : want < 4294967296) (h0 : lvErr vars p want ≠ 0) :
    Calls Try.prog 22 #[.int .i64 vars, .slice A p.length cap, .int .u32 want] w fun e w' => (e = .returned (.tuple #[.slice none 0 0, .int .i64 (lvErr vars p want)])) ∧ Below w.heap.size w w' := by
  have Hc := Lib.hid (lvWrong_calls vars A p cap want w hA hm hmc)
  have q : (lvErr vars p want != 0) = true := by rw [bne_iff_ne]; exact h0
  clear hA hm hmc h0
  generalize lvErr vars p want = x at *
  go_enter Try.func22, Try.ntmps22
  go_wp2_with (go_at_call 43; refine Hc.out.mono ?_; rintro e w1 ⟨rfl, hW⟩; have HW1 := Lib.hid hW; clear hW)
  go_ret2
  exact ⟨rfl, HW1.out⟩
/-- Whatever comes: what is wrong. -/
def LvAny (x : Int) (w : World) (e : Ending) (w' : World) : Prop := ∃ v, e = .returned (.tuple #[v, .int .i64 x]) ∧ Below w.heap.size w w'
theorem lvIn_any (vars : Int) (A : Option Addr) (p : List Blk) (cap want : Nat) (w : World) (hA : RdBk w A p) (hm : p.length ≤ maxLen) (hmc : smallB p) (hw : want < 4294967296) :
    Calls Try.prog 22 #[.int .i64 vars, .slice A p.length cap, .int .u32 want] w (LvAny (lvErr vars p want) w) := by
  by_cases h0 : lvErr vars p want = 0
  · refine (lvIn_ok vars A p cap want w hA hm hmc hw h0).mono ?_
    rintro e w' ⟨v, F, rfl, _, _, _, h⟩
    exact ⟨v, by rw [h0], h⟩
  · refine (lvIn_bad vars A p cap want w hA hm hmc hw h0).mono ?_
    rintro e w' ⟨rfl, h⟩
    exact ⟨_, rfl, h⟩

theorem or_lt_iff (a b n : Nat) : a ||| b < 2 ^ n ↔ a < 2 ^ n ∧ b < 2 ^ n := by
  constructor
  · intro h
    exact ⟨lt_pow_of_bits fun k hk => bit_lt h (by rw [Nat.testBit_or, hk, Bool.true_or]), lt_pow_of_bits fun k hk => bit_lt h (by rw [Nat.testBit_or, hk, Bool.or_true])⟩
  · rintro ⟨h1, h2⟩; exact Nat.or_lt_two_pow h1 h2

set_option maxRecDepth 100000 in
set_option maxHeartbeats 8000000 in
theorem liveMore_u (vars : Int) (A : Option Addr) (p : List Blk) (cap a b : Nat) (w : World) (hA : RdBk w A p) (hm : p.length ≤ maxLen) (hmc : smallB p) (ha : a < 4294967296) (hb : b < 4294967296) :
    Calls Try.prog 5 #[.int .i64 vars, .slice A p.length cap, .int .u32 a, .int .u32 b] w fun e w' => e = .returned (.bool true) ∧ Below w.heap.size w w' := by
  have HA := Lib.hid hA
  have r1 := or_u32 a b ha hb
  have hc : a ||| b < 4294967296 := Nat.or_lt_two_pow (n := 32) ha hb
  have Hany := Lib.hid (fun w hA x hx => lvIn_any vars A p cap x w hA hm hmc hx)
  have HP := Lib.hid (fun w hA => progCheck_calls vars A p cap w hA hm hmc)
  by_cases h0 : pkErr vars p = 0
  case neg =>
    have He := Lib.hid (fun x => show lvErr vars p x = pkErr vars p by unfold lvErr; rw [if_neg h0])
    have q : (pkErr vars p != 0) = true := by rw [bne_iff_ne]; exact h0
    clear h0 hA hm hmc
    go_enter Try.func5, Try.ntmps5
    go_wp2_with fail
    refine (Hany.out _ HA.out a ha).mono ?_; rintro e w1 ⟨x1, rfl, hW⟩; rw [He.out]; have HW1 := Lib.hid hW; clear hW
    go_wp2_with fail
    refine (Hany.out _ (HA.out.below HW1.out) b hb).mono ?_; rintro e w2 ⟨x2, rfl, hW⟩; rw [He.out]; have HW2 := Lib.hid (HW1.out.trans (hW.mono HW1.out.size)); clear hW
    go_wp2_with fail
    refine (Hany.out _ (HA.out.below HW2.out) _ hc).mono ?_; rintro e w3 ⟨x3, rfl, hW⟩; rw [He.out]; have HW3 := Lib.hid (HW2.out.trans (hW.mono HW2.out.size)); clear hW
    go_wp2_with fail
    refine (HP.out _ (HA.out.below HW3.out)).mono ?_; rintro e w4 ⟨rfl, hW⟩; have HW4 := Lib.hid (HW3.out.trans (hW.mono HW3.out.size)); clear hW
    go_wp2
    go_ret
    exact ⟨rfl, HW4.out⟩
  have Hp := Lib.hid (pok_of h0)
  obtain ⟨n, rfl⟩ := Int.eq_ofNat_of_zero_le (show 0 ≤ vars by have := Hp.out.v1; omega)
  have hn6 : n ≤ 6 := by have := Hp.out.v6; omega
  have He := Lib.hid (fun x => show lvErr (n : Int) p x = if x < 2 ^ n then 0 else 4 by unfold lvErr; rw [if_pos h0, Int.toNat_natCast])
  have HF := Lib.hid (fun w => fits_calls n (a ||| b) w (by omega))
  rw [h0] at HP
  by_cases hf : a ||| b < 2 ^ n
  case neg =>
    have hd : decide (a ||| b < 2 ^ n) = false := decide_eq_false hf
    have hor : ¬ a < 2 ^ n ∨ ¬ b < 2 ^ n := by rw [or_lt_iff] at hf; omega
    rw [hd] at HF
    have ex : ∀ x, ∃ e, Hid (lvErr (n : Int) p x = e) ∧ (¬ x < 2 ^ n → e = 4) := fun x => ⟨_, Lib.hid rfl, fun h => by rw [He.out, if_neg h]⟩
    obtain ⟨ea, Ha, ha4⟩ := ex a
    obtain ⟨eb, Hb, hb4⟩ := ex b
    obtain ⟨ec, Hc, -⟩ := ex (a ||| b)
    have hor : (ea != 0) = true ∨ (ea = 0 ∧ (eb != 0) = true) := by
      by_cases e : ea = 0
      · refine .inr ⟨e, ?_⟩
        rcases hor with h | h
        · rw [ha4 h] at e; cases e
        · rw [hb4 h]; rfl
      · exact .inl (by rw [bne_iff_ne]; exact e)
    clear h0 hA hm hmc hf hd ha4 hb4 ex
    rcases hor with hx | ⟨rfl, hx⟩
    all_goals
      go_enter Try.func5, Try.ntmps5
      go_wp2_with fail
      refine (Hany.out _ HA.out a ha).mono ?_; rintro e w1 ⟨x1, rfl, hW⟩; rw [Ha.out]; have HW1 := Lib.hid hW; clear hW
      go_wp2_with fail
      refine (Hany.out _ (HA.out.below HW1.out) b hb).mono ?_; rintro e w2 ⟨x2, rfl, hW⟩; rw [Hb.out]; have HW2 := Lib.hid (HW1.out.trans (hW.mono HW1.out.size)); clear hW
      go_wp2_with fail
      refine (Hany.out _ (HA.out.below HW2.out) _ hc).mono ?_; rintro e w3 ⟨x3, rfl, hW⟩; rw [Hc.out]; have HW3 := Lib.hid (HW2.out.trans (hW.mono HW2.out.size)); clear hW
      go_wp2_with fail
      refine (HP.out _ (HA.out.below HW3.out)).mono ?_; rintro e w4 ⟨rfl, hW⟩; have HW4 := Lib.hid (HW3.out.trans (hW.mono HW3.out.size)); clear hW
      go_wp2_with fail
      refine (HF.out _).mono ?_; rintro e w5 ⟨rfl, rfl⟩
      go_wp2
      go_ret
      exact ⟨rfl, HW4.out⟩
  have hd : decide (a ||| b < 2 ^ n) = true := decide_eq_true hf
  rw [hd] at HF
  have hab := (or_lt_iff _ _ _).1 hf
  have Hok := Lib.hid (fun w hA x hx hx2 => lvIn_ok (n : Int) A p cap x w hA hm hmc hx (by rw [He.out, if_pos hx2]))
  have Hmore := Lib.hid (fun F G H => @SolL.more (n : Int) p Hp.out n rfl a b hab.1 hab.2 F G H)
  have Hfa := Lib.hid hab.1
  have Hfb := Lib.hid hab.2
  have Hfc := Lib.hid hf
  have hn8 := Hp.out.n8
  clear h0 hA hm hmc hf hd hab Hany He
  go_enter Try.func5, Try.ntmps5
  go_wp2_with fail
  refine (Hok.out _ HA.out a ha Hfa.out).mono ?_; rintro e w1 ⟨x1, F1, rfl, hS, hL, hO, hW⟩; have HS1 := Lib.hid hS; have HO1 := Lib.hid hO; have HW1 := Lib.hid hW; clear hS hL hO hW
  go_wp2_with fail
  refine (Hok.out _ (HA.out.below HW1.out) b hb Hfb.out).mono ?_; rintro e w2 ⟨x2, F2, rfl, hS, hL, hO, hW⟩; have HS2 := Lib.hid hS; have HO2 := Lib.hid hO; have HW2 := Lib.hid (HW1.out.trans (hW.mono HW1.out.size)); have HO1 := Lib.hid (HO1.out.below hW); clear hS hL hO hW
  go_wp2_with fail
  refine (Hok.out _ (HA.out.below HW2.out) _ hc Hfc.out).mono ?_; rintro e w3 ⟨x3, F3, rfl, hS, hL, hO, hW⟩; have HS3 := Lib.hid hS; have HO3 := Lib.hid hO; have HW3 := Lib.hid (HW2.out.trans (hW.mono HW2.out.size)); have HO1 := Lib.hid (HO1.out.below hW); have HO2 := Lib.hid (HO2.out.below hW); clear hS hL hO hW
  go_wp2_with fail
  refine (HP.out _ (HA.out.below HW3.out)).mono ?_; rintro e w4 ⟨rfl, hW⟩; have HW4 := Lib.hid (HW3.out.trans (hW.mono HW3.out.size)); have HO1 := Lib.hid (HO1.out.below hW); have HO2 := Lib.hid (HO2.out.below hW); have HO3 := Lib.hid (HO3.out.below hW); clear hW
  go_wp2_with fail
  refine (HF.out _).mono ?_; rintro e w5 ⟨rfl, rfl⟩
  have Heq := Lib.hid (Hmore.out F1 F2 F3 HS1.out HS2.out HS3.out)
  have l1 : F1.length = p.length := by obtain ⟨⟨k, rfl⟩, _⟩ := HS1.out; exact lvK_len _ _ _
  have l2 : F2.length = p.length := by obtain ⟨⟨k, rfl⟩, _⟩ := HS2.out; exact lvK_len _ _ _
  have l3 : F3.length = p.length := by obtain ⟨⟨k, rfl⟩, _⟩ := HS3.out; exact lvK_len _ _ _
  obtain ⟨A1, c1, rfl, hR1⟩ := OwnU.rd HO1.out
  obtain ⟨A2, c2, rfl, hR2⟩ := OwnU.rd HO2.out
  obtain ⟨A3, c3, rfl, hR3⟩ := OwnU.rd HO3.out
  have HR1 := Lib.hid hR1
  have HR2 := Lib.hid hR2
  have HR3 := Lib.hid hR3
  have Hl1 := Lib.hid l1
  have Hl2 := Lib.hid l2
  have Hl3 := Lib.hid l3
  rw [l1, l2, l3]
  clear hR1 hR2 hR3 l1 l2 l3 Hok Hmore HO1 HO2 HO3
  go_wp2
  go_loopw [15] (fun i wr => ∃ k : Nat, k ≤ p.length ∧ i = .int .i64 k ∧ ∃ nq, wr = w5.drewN nq) (fun i _ => p.length - (intOf i).toNat)
  case atStart => exact ⟨0, Nat.zero_le _, rfl, 0, rfl⟩
  case round =>
    obtain ⟨k, hk, rfl, nq, rfl⟩ := hrel
    by_cases hlt : k < p.length
    · obtain ⟨b1, o1, rfl, hb1, m1⟩ := RdU.at1 HR1.out (k := k) (by have := Hl1.out; omega)
      obtain ⟨b2, o2, rfl, hb2, m2⟩ := RdU.at1 HR2.out (k := k) (by have := Hl2.out; omega)
      obtain ⟨b3, o3, rfl, hb3, m3⟩ := RdU.at1 HR3.out (k := k) (by have := Hl3.out; omega)
      have e : F3[k]'(by have := Hl3.out; omega) = F1[k]'(by have := Hl1.out; omega) ||| F2[k]'(by have := Hl2.out; omega) := by
        have h1 := congrArg (fun F => getU F k) Heq.out
        rw [getU_orU (by rw [Hl1.out, Hl2.out]), getU_get (by have := Hl3.out; omega), getU_get (by have := Hl1.out; omega), getU_get (by have := Hl2.out; omega)] at h1
        exact h1
      have g1 : F1[k]'(by have := Hl1.out; omega) < 4294967296 := by
        rw [← getU_get (by have := Hl1.out; omega)]
        obtain ⟨⟨j, rfl⟩, _⟩ := HS1.out
        exact Nat.lt_of_lt_of_le (lvK_lt Hp.out rfl Hfa.out j k) (Nat.le_trans (Nat.pow_le_pow_right (by decide) hn6) (by decide))
      have g2 : F2[k]'(by have := Hl2.out; omega) < 4294967296 := by
        rw [← getU_get (by have := Hl2.out; omega)]
        obtain ⟨⟨j, rfl⟩, _⟩ := HS2.out
        exact Nat.lt_of_lt_of_le (lvK_lt Hp.out rfl Hfb.out j k) (Nat.le_trans (Nat.pow_le_pow_right (by decide) hn6) (by decide))
      have r5 := or_u32 _ _ g1 g2
      rw [← e] at r5
      clear e
      generalize F1[k]'(by have := Hl1.out; omega) = y1 at *
      generalize F2[k]'(by have := Hl2.out; omega) = y2 at *
      generalize F3[k]'(by have := Hl3.out; omega) = y3 at *
      have q5 : ((k : Nat) : Int) < ((p.length : Nat) : Int) := by omega
      go_wp2
      go_quiet (fail)
      go_wp2
      go_roundw
      case rel => exact ⟨k + 1, by omega, by go_num, _, rfl⟩
      case measure => simp [intOf]; omega
    · have : k = p.length := by omega
      subst this
      go_wp2
      go_ret
      exact ⟨rfl, below_dN HW4.out _⟩
end Go.Proofs.Ytadmmciiahdmcaa
