/- rule.Meet walked; RuleMeet. -/
import Derived.Test.YtljmignfbagomaaEdgeB
namespace Go.Proofs.Ytljmignfbagomaa
open Go.RowKit

theorem shr_zero (s n : Nat) : (((s : Int) / 2 ^ n) != 0) = !decide (s < 2 ^ n) := by
  rw [shr_u32, Nat.shiftRight_eq_div_pow]
  by_cases h : s < 2 ^ n
  · rw [Nat.div_eq_of_lt h, decide_eq_true h]; rfl
  · rw [decide_eq_false h, Bool.not_false, bne_iff_ne]
    have := Nat.div_pos (by omega : 2 ^ n ≤ s) (Nat.pow_pos (by decide))
    omega

set_option maxHeartbeats 1000000 in
theorem meet_bad (A : Option Addr) (ls : List (List Int)) (cap s : Nat) (w : World) (hA : RdN w A ls) (hm : ls.length ≤ maxLen) (h0 : wayErr ls ≠ 0) :
    Calls Try.prog 29 #[.slice A ls.length cap, .int .u32 s] w fun e w' => e = .returned (.tuple #[.int .u32 0, .int .i64 (wayErr ls)]) ∧ Below w.heap.size w w' := by
  have HA := Lib.hid hA; clear hA
  have hd : (wayErr ls != 0) = true := by simpa using h0
  have H0 := Lib.hid h0
  clear h0
  go_enter Try.func29, Try.ntmps29
  go_wp2_with (go_at_call 50; refine (edge_bad _ _ _ _ HA.out hm H0.out).mono ?_; rintro e w1 ⟨rfl, hW⟩; have HW := Lib.hid hW; clear hW)
  go_ret2
  exact ⟨rfl, HW.out⟩
set_option maxHeartbeats 1000000 in
theorem meet_range (A : Option Addr) (ls : List (List Int)) (cap s : Nat) (w : World) (hA : RdN w A ls) (h0 : wayErr ls = 0) (hs : ¬ s < 2 ^ ls.length) :
    Calls Try.prog 29 #[.slice A ls.length cap, .int .u32 s] w fun e w' => e = .returned (.tuple #[.int .u32 0, .int .i64 4]) ∧ Below w.heap.size w w' := by
  have h8 := (valid_of h0).2.1
  have HA := Lib.hid hA; clear hA
  have H0 := Lib.hid h0; clear h0
  have q1 := shr_zero s ls.length
  rw [decide_eq_false hs] at q1
  have n32 : ls.length < 32 := by omega
  clear hs
  go_enter Try.func29, Try.ntmps29
  go_wp2_with (go_at_call 50; refine (edge_ok _ _ _ _ HA.out H0.out).mono ?_; rintro e w1 ⟨v, rfl, _, hW⟩; have HW := Lib.hid hW; clear hW)
  go_ret2
  exact ⟨rfl, HW.out⟩
set_option maxHeartbeats 4000000 in
theorem meet_ok (A : Option Addr) (ls : List (List Int)) (cap s : Nat) (w : World) (hA : RdN w A ls) (h0 : wayErr ls = 0) (hs : s < 2 ^ ls.length) :
    Calls Try.prog 29 #[.slice A ls.length cap, .int .u32 s] w fun e w' => e = .returned (.tuple #[.int .u32 (meetS ls s : Nat), .int .i64 0]) ∧ Below w.heap.size w w' := by
  obtain ⟨h1, h8, hv⟩ := valid_of h0
  have HA := Lib.hid hA; clear hA
  have H0 := Lib.hid h0; clear h0 hv
  have q1 := shr_zero s ls.length
  rw [decide_eq_true hs] at q1
  have n32 : ls.length < 32 := by omega
  have hs8 : s < 256 := Nat.lt_of_lt_of_le hs (Nat.pow_le_pow_right (by decide) h8 : 2 ^ ls.length ≤ 2 ^ 8)
  clear hs
  have Hlen := Lib.hid (edgesL_len ls)
  go_enter Try.func29, Try.ntmps29
  go_wp2_with (go_at_call 50; refine (edge_ok _ _ _ _ HA.out H0.out).mono ?_
               rintro e w1 ⟨v, rfl, hown, hW⟩
               obtain ⟨gF, capF, rfl, hgF, hgF2, hcF, _, hcells⟩ := OwnU.at_ hown (by rw [Hlen.out]; omega)
               rw [Hlen.out]
               have HC := Lib.hid hcells
               have HW := Lib.hid hW
               clear hW hown hcells)
  go_loopg [8, 9] 9 (fun g out more wr => ∃ (o : Nat) (b : Bool), out = .int .u32 o ∧ more = .bool b ∧ Hid (Mp ls s o o 0) ∧ (b = true → 8 - cnt8 o < g) ∧ (b = false → o = meetS ls s) ∧ wr = w1)
  case atStart => exact ⟨0, true, rfl, rfl, ⟨(fun j h => by rw [Nat.zero_testBit] at h; cases h), fun _ h => h, fun i h => by omega⟩, fun _ => by omega, (fun h => by cases h), rfl⟩
  case round =>
    obtain ⟨o, b, rfl, rfl, hM, hg, hd, rfl⟩ := hrel
    have Hg := Lib.hid hg
    have Hd := Lib.hid hd
    clear hg hd
    cases b
    · go_wp2
      go_ret2
      exact ⟨by rw [← Hd.out trivial]; rfl, HW.out⟩
    · go_wp2
      go_loop [8, 30] (fun out i => ∃ (k o' : Nat), k ≤ ls.length ∧ i = .int .i64 k ∧ out = .int .u32 o' ∧ Hid (Mp ls s o o' k)) (fun _ i => ls.length - (intOf i).toNat)
      case atStart => exact ⟨0, o, Nat.zero_le _, rfl, rfl, hM⟩
      case round =>
        obtain ⟨k, o', hk, rfl, rfl, hP⟩ := hrel
        have ho := hP.out.fits
        by_cases hlt : k < ls.length
        · have c1 := HC.out k (by rw [Hlen.out]; exact hlt)
          rw [edgesL_get] at c1
          have p1 := or_u32 s o' (by omega) (by omega)
          have hx : s ||| o' < 256 := Nat.or_lt_two_pow (n := 8) (by omega) (by omega)
          have p2 := test1_u32 (s ||| o') k (by omega)
          have p3 := or_u32 o' (edgeS ls k) (by omega) (by have := edgeS_lt ls k; omega)
          have Hs := Lib.hid (fun h => hP.out.skip h)
          have Hp := Lib.hid (fun h => hP.out.push hlt h)
          have k32 : k < 32 := by omega
          generalize s ||| o' = x at *
          generalize o' ||| edgeS ls k = y at *
          generalize edgeS ls k = D at *
          cases hb : x.testBit k
          · rw [hb] at p2
            have Hn := Lib.hid (Hs.out hb)
            clear hb
            go_wp2
            go_round
            case rel => exact ⟨k + 1, o', by omega, by go_num, rfl, Lib.hid Hn.out⟩
            case measure => simp [intOf]; omega
          · rw [hb] at p2
            have Hn := Lib.hid (Hp.out hb)
            clear hb
            go_wp2
            go_round
            case rel => exact ⟨k + 1, y, by omega, by go_num, rfl, Lib.hid Hn.out⟩
            case measure => simp [intOf]; omega
        · have : k = ls.length := by omega
          subst this
          clear hlt hk
          by_cases he : o' = o
          · subst he
            have Hf := Lib.hid hP.out.finish
            have q3 : ((o' : Int) != (o' : Int)) = false := by rw [bne_eq_false_iff_eq]
            go_wp2
            go_roundg 0
            case measure => have := Hg.out trivial; omega
            case rel => exact ⟨o', false, rfl, rfl, hM, (fun h => by cases h), fun _ => Hf.out, rfl⟩
          · have q3 : ((o' : Int) != (o : Int)) = true := by rw [bne_iff_ne]; omega
            have Hc := Lib.hid (cnt8_mono_lt hP.out.sup (fun e => he e.symm) ho)
            have h8c := cnt8_le o'
            go_wp2
            go_roundg (8 - cnt8 o)
            case measure => exact Hg.out trivial
            case rel => exact ⟨o', true, rfl, rfl, ⟨hP.out.sound, fun _ h => h, fun i h => by omega⟩, fun _ => by have := Hc.out; omega, (fun h => by cases h), rfl⟩

theorem or_lt_pow {a b n : Nat} : a ||| b < 2 ^ n ↔ a < 2 ^ n ∧ b < 2 ^ n := by
  constructor
  · intro h
    exact ⟨Nat.lt_of_le_of_lt Nat.left_le_or h, Nat.lt_of_le_of_lt Nat.right_le_or h⟩
  · rintro ⟨h1, h2⟩; exact Nat.or_lt_two_pow h1 h2
/-- What rule.Meet answers. -/
def mE (ls : List (List Int)) (s : Nat) : Int := if wayErr ls = 0 then (if s < 2 ^ ls.length then 0 else 4) else wayErr ls
noncomputable def mS (ls : List (List Int)) (s : Nat) : Nat := if wayErr ls = 0 then (if s < 2 ^ ls.length then meetS ls s else 0) else 0
theorem meet_calls (A : Option Addr) (ls : List (List Int)) (cap s : Nat) (w : World) (hA : RdN w A ls) (hm : ls.length ≤ maxLen) :
    Calls Try.prog 29 #[.slice A ls.length cap, .int .u32 s] w fun e w' => e = .returned (.tuple #[.int .u32 (mS ls s : Nat), .int .i64 (mE ls s)]) ∧ Below w.heap.size w w' := by
  unfold mS mE
  by_cases h0 : wayErr ls = 0
  · rw [if_pos h0, if_pos h0]
    by_cases hs : s < 2 ^ ls.length
    · rw [if_pos hs, if_pos hs]; exact meet_ok A ls cap s w hA h0 hs
    · rw [if_neg hs, if_neg hs]; exact meet_range A ls cap s w hA h0 hs
  · rw [if_neg h0, if_neg h0]; exact meet_bad A ls cap s w hA hm h0
theorem mS_lt (ls : List (List Int)) (s : Nat) : mS ls s < 256 := by
  unfold mS
  split
  · split
    · exact meetS_lt ls s
    · decide
  · decide
theorem MeetF.low {ls : List (List Int)} (hv : Valid ls) {s j : Nat} (h : MeetF ls s j) : j < ls.length := by
  have key : ∀ i, (edgeS ls i).testBit j = true → j < ls.length := fun i hb => by
    obtain ⟨_, k, _, he, _⟩ := (setN_bit _ _).1 hb
    exact (he.lt hv).2
  cases h with
  | one _ _ h => exact key _ h
  | more _ _ h => exact key _ h
theorem meetS_fits {ls : List (List Int)} (hv : Valid ls) (s : Nat) : meetS ls s < 2 ^ ls.length := lt_pow_of_bits fun k hk => ((meetS_bit ls s k).1 hk).low hv

set_option maxRecDepth 100000 in
set_option maxHeartbeats 4000000 in
theorem ruleMeet_calls (A : Option Addr) (ls : List (List Int)) (a b : Nat) (cap : Nat) (w : World) (hA : RdN w A ls) (hm : ls.length ≤ maxLen) (ha : a < 4294967296) (hb : b < 4294967296) :
    Calls Try.prog 8 #[.slice A ls.length cap, .int .u32 a, .int .u32 b] w fun e w' => e = .returned (.bool true) ∧ Below w.heap.size w w' := by
  have HA := Lib.hid hA; clear hA
  have p1 := or_u32 a b ha hb
  have HW := Lib.hid (Below.refl w.heap.size w)
  by_cases h0 : wayErr ls = 0
  case neg =>
    have hd2 : (wayErr ls == 0) = false := by simpa using h0
    have e1 : (mE ls a != 0) = true := by unfold mE; rw [if_neg h0]; simpa using h0
    clear h0
    generalize a ||| b = c at *
    go_enter Try.func8, Try.ntmps8
    go_wp2_with (first
      | (go_at_call 29; refine (meet_calls _ _ _ _ _ (RdN.below HA.out HW.out) hm).mono ?_; rintro e w1 ⟨rfl, hW1⟩; have HW := Lib.hid (HW.out.trans (hW1.mono HW.out.size)); clear hW1)
      | (go_at_call 18; refine (may_calls _ _ _ _ (RdN.below HA.out HW.out) hm).mono ?_; rintro e w2 ⟨rfl, rfl⟩; rw [hd2]))
    go_ret
    exact ⟨rfl, HW.out⟩
  obtain ⟨h1, h8, hv⟩ := valid_of h0
  have hd2 : (wayErr ls == 0) = true := by simpa using h0
  by_cases hc : a ||| b < 2 ^ ls.length
  case neg =>
    have hfit := decide_eq_false hc
    have e1 : (mE ls a != 0) = true ∨ ((mE ls a != 0) = false ∧ (mE ls b != 0) = true) := by
      unfold mE
      rw [if_pos h0, if_pos h0]
      by_cases h3 : a < 2 ^ ls.length
      · by_cases h4 : b < 2 ^ ls.length
        · exact absurd (or_lt_pow.2 ⟨h3, h4⟩) hc
        · rw [if_pos h3, if_neg h4]; right; exact ⟨rfl, rfl⟩
      · rw [if_neg h3]; left; rfl
    have Hfit := Lib.hid hfit
    clear h0 hc hfit hv
    generalize a ||| b = c at *
    rcases e1 with e1 | ⟨e1, e2⟩
    all_goals
      go_enter Try.func8, Try.ntmps8
      go_wp2_with (first
        | (go_at_call 29; refine (meet_calls _ _ _ _ _ (RdN.below HA.out HW.out) hm).mono ?_; rintro e w1 ⟨rfl, hW1⟩; have HW := Lib.hid (HW.out.trans (hW1.mono HW.out.size)); clear hW1)
        | (go_at_call 18; refine (may_calls _ _ _ _ (RdN.below HA.out HW.out) hm).mono ?_; rintro e w2 ⟨rfl, rfl⟩; rw [hd2])
        | (go_at_call 30; refine (fits_calls ls.length c _ (by omega)).mono ?_; rintro e w2 ⟨rfl, rfl⟩; rw [Hfit.out]))
      go_ret
      exact ⟨rfl, HW.out⟩
  have Hfit := Lib.hid (decide_eq_true hc)
  obtain ⟨ha', hb'⟩ := or_lt_pow.1 hc
  have ex : mS ls a = meetS ls a := by unfold mS; rw [if_pos h0, if_pos ha']
  have hcx : a ||| mS ls a < 2 ^ ls.length := by rw [ex]; exact or_lt_pow.2 ⟨ha', meetS_fits hv a⟩
  have e1 : mE ls a = 0 := by unfold mE; rw [if_pos h0, if_pos ha']
  have e2 : mE ls b = 0 := by unfold mE; rw [if_pos h0, if_pos hb']
  have e3 : mE ls (a ||| b) = 0 := by unfold mE; rw [if_pos h0, if_pos hc]
  have e4 : mE ls (a ||| mS ls a) = 0 := by unfold mE; rw [if_pos h0, if_pos hcx]
  have e5 : mS ls (a ||| b) = mS ls a ||| mS ls b := by
    unfold mS; rw [if_pos h0, if_pos h0, if_pos h0, if_pos hc, if_pos ha', if_pos hb', meetS_or]
  have e6 : mS ls (a ||| mS ls a) = mS ls a := by
    rw [ex] at hcx ⊢
    rw [show mS ls (a ||| meetS ls a) = meetS ls (a ||| meetS ls a) from by unfold mS; rw [if_pos h0, if_pos hcx], meetS_again]
  have la := mS_lt ls a
  have lb := mS_lt ls b
  have p2 := or_u32 a (mS ls a) ha (by omega)
  have p3 := or_u32 (mS ls a) (mS ls b) (by omega) (by omega)
  rw [← e5] at p3
  clear h0 hc ha' hb' hcx hv ex e5
  generalize a ||| b = c at *
  generalize a ||| mS ls a = d at *
  generalize hx : mS ls a = x at *
  generalize hy : mS ls b = y at *
  generalize hz : mS ls c = z at *
  go_enter Try.func8, Try.ntmps8
  go_wp2_with (first
    | (go_at_call 29; refine (meet_calls _ _ _ _ _ (RdN.below HA.out HW.out) hm).mono ?_; rintro e w1 ⟨rfl, hW1⟩; have HW := Lib.hid (HW.out.trans (hW1.mono HW.out.size)); clear hW1)
    | (go_at_call 18; refine (may_calls _ _ _ _ (RdN.below HA.out HW.out) hm).mono ?_; rintro e w2 ⟨rfl, rfl⟩; rw [hd2])
    | (go_at_call 30; refine (fits_calls ls.length c _ (by omega)).mono ?_; rintro e w2 ⟨rfl, rfl⟩; rw [Hfit.out]))
  go_ret
  exact ⟨rfl, HW.out⟩
end Go.Proofs.Ytljmignfbagomaa
