/- rule.Table; RulePath. -/
import Derived.Test.YtljmignfbagomaaRuleB
import Derived.Test.YtljmignfbagomaaByteW
namespace Go.Proofs.Ytljmignfbagomaa
open Go.RowKit

set_option maxHeartbeats 1000000 in
theorem table_bad (A : Option Addr) (ls : List (List Int)) (cap : Nat) (w : World) (hA : RdN w A ls) (hm : ls.length ≤ maxLen) (h0 : wayErr ls ≠ 0) :
    Calls Try.prog 24 #[.slice A ls.length cap] w fun e w' => e = .returned (.tuple #[.slice none 0 0, .int .i64 (wayErr ls)]) ∧ Below w.heap.size w w' := by
  have HA := Lib.hid hA; clear hA
  have hd : (wayErr ls != 0) = true := by simpa using h0
  clear h0
  go_enter Try.func24, Try.ntmps24
  go_wp2_with (go_at_call 44; refine (check_calls _ _ _ _ HA.out hm).mono ?_; rintro e w1 ⟨rfl, hW⟩; have HW := Lib.hid hW; clear hW)
  go_ret2
  exact ⟨rfl, HW.out⟩
set_option maxHeartbeats 1000000 in
theorem table_ok (A : Option Addr) (ls : List (List Int)) (cap : Nat) (w : World) (hA : RdN w A ls) (h0 : wayErr ls = 0) :
    Calls Try.prog 24 #[.slice A ls.length cap] w fun e w' => ∃ v, e = .returned (.tuple #[v, .int .i64 0]) ∧ OwnU w' w.heap.size 29 v (rulesL ls) ∧ Below w.heap.size w w' := by
  have h8 := (valid_of h0).2.1
  have HA := Lib.hid hA; clear hA
  have H0 := Lib.hid h0; clear h0
  go_enter Try.func24, Try.ntmps24
  go_wp2_with (first
    | (go_at_call 44; refine (check_calls _ _ _ _ HA.out (by unfold maxLen; omega)).mono ?_; rintro e w1 ⟨rfl, hW⟩; rw [H0.out]; have HW := Lib.hid hW; clear hW)
    | (go_at_call 48; refine (rules_calls _ _ _ _ (RdN.below HA.out HW.out) H0.out).mono ?_; rintro e w2 ⟨v, rfl, hown, hW2⟩; have Hown := Lib.hid hown; have HW2 := Lib.hid hW2; clear hown hW2))
  go_ret2
  exact ⟨v, rfl, Hown.out.base_ HW.out.size, HW.out.trans (HW2.out.mono HW.out.size)⟩

/-- A walk from 0 to a that has seen the set s: each node that is not in s is off it. -/
structure Pa (ls : List (List Int)) (a s : Nat) : Prop where
  rch : Rch ls a
  zero : s.testBit 0 = true
  off : ∀ x, s.testBit x = false → Comes_ ls (x : Int) 0 a
theorem Pa.first (ls : List (List Int)) : Pa ls 0 1 := ⟨Comes_.refl _ _ _, rfl, fun _ _ => Comes_.refl _ _ _⟩
theorem Pa.step {ls : List (List Int)} {a b s : Nat} (h : Pa ls a s) (he : Edge ls (-1) a b) : Pa ls b (s ||| 2 ^ b) :=
  ⟨h.rch.step he, by rw [set_bit, h.zero]; rfl, fun x hx => by
    rw [set_bit, Bool.or_eq_false_iff, decide_eq_false_iff_not] at hx
    obtain ⟨l, h1, h2, _⟩ := he
    exact (h.off x hx.1).step ⟨l, h1, h2, by omega⟩⟩
theorem Pa.in_ {ls : List (List Int)} {a s : Nat} (h1 : 1 ≤ ls.length) (h8 : ls.length ≤ 8) (hv : Valid ls) (h : Pa ls a s) : (domS ls a ||| s == s) = true := by
  rw [in_iff]
  intro x hx
  rw [domS_bit h1 h8 hv] at hx
  cases hs : s.testBit x
  · rcases hx.2 with rfl | hn
    · rw [h.zero] at hs; cases hs
    · exact absurd (h.off x hs) hn
  · rfl
theorem domS_zero {ls : List (List Int)} (h1 : 1 ≤ ls.length) (h8 : ls.length ≤ 8) (hv : Valid ls) : domS ls 0 = 1 := set_ext fun k => by
  rw [Bool.eq_iff_iff, domS_bit h1 h8 hv, show (1 : Nat) = 2 ^ 0 from rfl, testBit_pow, decide_eq_true_eq]
  constructor
  · exact fun h => (dom_zero_only h).symm
  · rintro rfl; exact Dom.zero (Comes_.refl _ _ _)

set_option maxHeartbeats 1000000 in
theorem rulePath_calls (A B : Option Addr) (ls : List (List Int)) (ps : List Int) (cap capB : Nat) (w : World) (hA : RdN w A ls) (hm : ls.length ≤ maxLen) (hB : RdB w B ps) (hmB : ps.length ≤ maxLen) (hok : bytesOk ps) :
    Calls Try.prog 5 #[.slice A ls.length cap, .slice B ps.length capB] w fun e w' => e = .returned (.bool true) ∧ Below w.heap.size w w' := by
  have HA := Lib.hid hA; clear hA
  have HB := Lib.hid hB; clear hB
  have HO := Lib.hid hok; clear hok
  unfold maxLen at hmB
  by_cases h0 : wayErr ls = 0
  case neg =>
    have hd : (wayErr ls != 0) = true := by simpa using h0
    have hd2 : (wayErr ls == 0) = false := by simpa using h0
    have H0 := Lib.hid h0
    clear h0
    go_enter Try.func5, Try.ntmps5
    go_wp2_with (first
      | (go_at_call 24; refine (table_bad _ _ _ _ HA.out hm H0.out).mono ?_; rintro e w1 ⟨rfl, hW⟩; have HW := Lib.hid hW; clear hW)
      | (go_at_call 18; refine (may_calls _ _ _ _ (RdN.below HA.out HW.out) hm).mono ?_; rintro e w2 ⟨rfl, rfl⟩; rw [hd2]))
    go_ret
    exact ⟨rfl, HW.out⟩
  obtain ⟨h1, h8, hv⟩ := valid_of h0
  have HV := Lib.hid hv; clear hv
  have H0 := Lib.hid h0
  have hd2 : (wayErr ls == 0) = true := by simpa using h0
  clear h0
  have Hlen := Lib.hid (rulesL_len ls)
  go_enter Try.func5, Try.ntmps5
  go_wp2_with (first
    | (go_at_call 24; refine (table_ok _ _ _ _ HA.out H0.out).mono ?_
       rintro e w1 ⟨v, rfl, hown, hW⟩
       obtain ⟨gF, capF, rfl, hgF, hgF2, hcF, _, hcells⟩ := OwnU.at_ hown (by rw [Hlen.out]; omega)
       rw [Hlen.out]
       have HC := Lib.hid hcells
       have HW := Lib.hid hW
       clear hW hown hcells)
    | (go_at_call 18; refine (may_calls _ _ _ _ (RdN.below HA.out HW.out) hm).mono ?_; rintro e w2 ⟨rfl, rfl⟩; rw [hd2]))
  obtain ⟨wp, rfl⟩ : ∃ wp : World, wp = w2 := ⟨_, rfl⟩
  go_loopw [7, 8, 32] (fun at_ s i wr => ∃ (k a s' : Nat), k ≤ ps.length ∧ at_ = .int .i64 a ∧ s = .int .u32 s' ∧ i = .int .i64 k ∧ Hid (Pa ls a s') ∧ s' < 256 ∧ ∃ nq, wr = wp.drewN nq) (fun _ _ i _ => ps.length - (intOf i).toNat)
  case atStart => exact ⟨0, 0, 1, Nat.zero_le _, rfl, rfl, rfl, Pa.first ls, by decide, 0, rfl⟩
  case round =>
    obtain ⟨k, a, s, hk, rfl, rfl, rfl, hP, hs, nq, hwr⟩ := hrel
    have Hwr := Lib.hid hwr
    have hWr : Below w.heap.size w wr := by rw [hwr]; exact below_dN HW.out nq
    have ha : a < ls.length := hP.out.rch.lt h1 HV.out
    have c9 : wr.cell? ⟨gF, 0, none⟩ = some (.int .u32 1) := by
      rw [hwr]
      have := HC.out 0 (by rw [Hlen.out]; omega)
      rw [rulesL_get, domS_zero h1 h8 HV.out] at this
      exact this
    have HWr := Lib.hid hWr
    clear hwr
    by_cases hlt : k < ps.length
    · obtain ⟨b1, off1, rfl, hb1, c1⟩ := RdB.at1 (Rd.below HB.out hWr) hlt
      obtain ⟨b2, off2, A2, cap2, rfl, hb2, c2, hR⟩ := RdN.at_ (RdN.below HA.out hWr) ha
      have hl := Lib.hid (List.getElem?_eq_getElem ha)
      have hl3 := (HV.out _ (List.getElem_mem ha)).1
      have Hin := Lib.hid ((HV.out _ (List.getElem_mem ha)).2)
      have HR := Lib.hid hR
      obtain ⟨p0, p1⟩ := HO.out _ (List.getElem_mem hlt)
      obtain ⟨p, hp⟩ := Int.eq_ofNat_of_zero_le p0
      rw [hp] at c1 p1
      clear hR p0 hp hWr
      generalize ls[a] = l at *
      by_cases hz : l.length = 0
      · have q1 : ((l.length : Int) == 0) = true := by rw [hz]; rfl
        have Hz := Lib.hid hz
        clear hz
        go_wp2
        go_ret
        exact ⟨rfl, HWr.out⟩
      · have q1 : ((l.length : Int) == 0) = false := by simpa using hz
        have hmod : p % l.length < l.length := Nat.mod_lt _ (by omega)
        obtain ⟨b3, off3, rfl, hb3, c3⟩ := RdI.at1 HR.out hmod
        obtain ⟨x0, x1⟩ := Hin.out _ (List.getElem_mem hmod)
        obtain ⟨j, hj⟩ := Int.eq_ofNat_of_zero_le x0
        have He : Hid (Edge ls (-1) a j) := ⟨l, hl.out, by rw [← hj]; exact List.getElem_mem hmod, by omega⟩
        rw [hj] at c3
        have hj8 : j < ls.length := by omega
        clear hj x0 x1
        have t1 : Int.tmod (p : Int) (l.length : Int) = ((p % l.length : Nat) : Int) := by rw [Int.ofNat_tmod]
        have t2 : IntKind.i64.wrap (p : Int) = (p : Int) := IntWalk.i64_in _ (by omega)
        have t3 : IntKind.i64.wrap ((p % l.length : Nat) : Int) = ((p % l.length : Nat) : Int) := IntWalk.i64_in _ (by omega)
        generalize p % l.length = m at *
        have q2 : ((a : Nat) : Int) < ((ls.length : Nat) : Int) := by omega
        have q3 : ((m : Nat) : Int) < ((l.length : Nat) : Int) := by omega
        have hP2 := hP.out.step He.out
        have HP2 := Lib.hid hP2
        have Hb1 := Lib.hid (show (domS ls j).testBit j = true from (domS_bit h1 h8 HV.out j j).2 (Dom.refl hP2.rch))
        have Hb0 := Lib.hid (show (domS ls j).testBit 0 = true from (domS_bit h1 h8 HV.out j 0).2 (Dom.zero hP2.rch))
        have Hi2 := Lib.hid (hP2.in_ h1 h8 HV.out)
        have c4 : wr.cell? ⟨gF, j, none⟩ = some (.int .u32 (domS ls j : Nat)) := by
          rw [Hwr.out]
          have := HC.out j (by rw [Hlen.out]; omega)
          rw [rulesL_get] at this
          exact this
        have hD := domS_lt ls j
        have j32 : j < 32 := by omega
        have pj : 2 ^ j < 2 ^ 8 := Nat.pow_lt_pow_right (by decide) (by omega)
        have r1 := pow_u32 j j32
        have r2 := or_u32 s (2 ^ j) (by omega) (by omega)
        have r3 : (j : Int) % 18446744073709551616 = j := by omega
        have hy : s ||| 2 ^ j < 256 := Nat.or_lt_two_pow (n := 8) (by omega) pj
        rw [Int.natCast_pow, show ((2 : Nat) : Int) = 2 from rfl] at r1 r2
        clear hP2 pj
        generalize s ||| 2 ^ j = y at *
        generalize domS ls j = D at *
        have Hc2 : Hid (∀ w, Calls Try.prog 25 #[.int .u32 (D : Nat), .int .u32 (y : Nat)] w fun e w' => e = .returned (.bool true) ∧ w' = w) := fun w => by
          have := in_calls D y w (by omega) (by omega)
          rw [Hi2.out] at this; exact this
        have Hc1 : Hid (∀ w, Calls Try.prog 19 #[.int .u32 (D : Nat), .int .i64 (j : Nat)] w fun e w' => e = .returned (.bool true) ∧ w' = w) := fun w => by
          have := bit_calls D j w (by omega) (by omega)
          rw [Hb1.out] at this; exact this
        have Hc0 : Hid (∀ w, Calls Try.prog 19 #[.int .u32 (D : Nat), .int .i64 0] w fun e w' => e = .returned (.bool true) ∧ w' = w) := fun w => by
          have := bit_calls D 0 w (by omega) (by omega)
          rw [Hb0.out] at this; exact this
        go_wp2
        go_quiet (fail)
        go_wp2_with (first
          | (go_at_call 25; with_reducible refine (Hc2.out _).mono ?_; rintro e w3 ⟨rfl, rfl⟩)
          | (go_at_call 19; with_reducible refine (Hc1.out _).mono ?_; rintro e w3 ⟨rfl, rfl⟩)
          | (go_at_call 19; with_reducible refine (Hc0.out _).mono ?_; rintro e w3 ⟨rfl, rfl⟩))
        refine ⟨⟨k + 1, j, y, by omega, rfl, rfl, by go_num, HP2.out, hy, _, by rw [Hwr.out, World.drewN_drewN]⟩, by simp [intOf]; omega⟩
    · go_wp2
      go_ret
      exact ⟨rfl, HWr.out⟩
end Go.Proofs.Ytljmignfbagomaa
