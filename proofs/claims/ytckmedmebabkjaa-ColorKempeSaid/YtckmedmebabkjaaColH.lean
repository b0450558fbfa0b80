/- ColorKempe. -/
import Derived.Test.YtckmedmebabkjaaColG
import Derived.Test.YtckmedmebabkjaaFitsR
namespace Go.Proofs.Ytckmedmebabkjaa
open Go.RowKit

theorem Left.can {m k : Nat} {ps : List (Int × Int)} (h : ClOk m ps) (hl : Left m ps k 0) {l : List Nat} {K : Nat} (hL : LeastL (clL m ps) l K) : mostN l 0 ≤ k := by
  have hlen : l.length = m := by rw [hL.len, clL_len]
  have hC := hL.toC h
  rw [hC.most hlen h.n1 hL.k1]
  obtain ⟨c, h1, h2⟩ := (hl.all (.none fun i _ hi => by rw [Nat.zero_testBit] at hi; cases hi)).can (fun _ _ h => h.symm)
  have hk : 1 ≤ k := by have := h2 0 (by have := h.n1; omega) trivial; omega
  exact hC.least k hk ⟨c, fun i j hi hj hc => h1 i j hi hj trivial trivial (hc.lt h).2.2 hc, fun i hi => h2 i hi trivial⟩

set_option maxHeartbeats 4000000 in
theorem colorKempe_calls (n : Int) (A : Option Addr) (ps : List (Int × Int)) (cap : Nat) (k : Int) (hk2 : k ≤ 9223372036854775807) (w : World) (hA : RdP w A ps) (hm : ps.length ≤ maxLen) :
    Calls Try.prog 4 #[.int .i64 n, .slice A ps.length cap, .int .i64 k] w fun e w' => e = .returned (.bool true) ∧ Below w.heap.size w w' := by
  have HA := Lib.hid hA; clear hA
  go_enter Try.func4, Try.ntmps4
  go_wp2_with fail
  refine (peel_calls _ _ _ _ _ hk2 _ HA.out hm).mono ?_
  rintro e w1 ⟨hW, hr⟩
  have HW := Lib.hid hW
  have hw1 := hW.size
  have HA1 := Lib.hid (Rd.below HA.out hW)
  clear hW
  rcases hr with ⟨h0, E, hE, rfl⟩ | ⟨m, k, s, rfl, rfl, hok, rfl, hL⟩
  · have q : (E != 0) = true := by rw [bne_iff_ne]; exact hE
    clear hE
    have H0 := Lib.hid h0
    clear h0
    go_wp2_with fail
    refine (least_calls _ _ _ _ _ HA1.out hm).mono ?_
    rintro e w2 ⟨hW2, hr2⟩
    have HW2 := Lib.hid (HW.out.trans (hW2.mono hw1))
    have HA2 := Lib.hid (Rd.below HA1.out hW2)
    have hw2 := HW2.out.size
    clear hW2
    by_cases he : clErr n ps = 0
    · have q2 : (clErr n ps == 0) = true := by rw [beq_iff_eq]; exact he
      have hk : k < 0 := by rcases H0.out with h | h; exact absurd he h; exact h
      clear he
      rcases hr2 with ⟨h0, rfl⟩ | ⟨m, rfl, hok, A5, cap5, l, K, rfl, hR, hLL⟩
      all_goals
        (try clear h0)
        (try clear hok hR hLL)
        go_wp2_with (go_at_call 7; refine (keepClashes_calls _ _ _ _ _ HA2.out hm).mono ?_; rintro e w3 ⟨rfl, hB⟩; rw [q2]; have HB := Lib.hid (HW2.out.trans (hB.mono hw2)); clear hB)
        go_ret
        exact ⟨rfl, HB.out⟩
    · have q2 : (clErr n ps == 0) = false := by rw [beq_eq_false_iff_ne]; exact he
      clear he
      rcases hr2 with ⟨h0, rfl⟩ | ⟨m, rfl, hok, A5, cap5, l, K, rfl, hR, hLL⟩
      all_goals
        (try clear h0)
        (try clear hok hR hLL)
        go_wp2_with (go_at_call 7; refine (keepClashes_calls _ _ _ _ _ HA2.out hm).mono ?_; rintro e w3 ⟨rfl, hB⟩; rw [q2]; have HB := Lib.hid (HW2.out.trans (hB.mono hw2)); clear hB)
        go_ret
        exact ⟨rfl, HB.out⟩
  · have Hok := Lib.hid hok
    have HL := Lib.hid hL
    have h8 := hok.n8
    have h1 := hok.n1
    have q0 := hok.err
    have q2 : (clErr m ps == 0) = true := by rw [beq_iff_eq]; exact q0
    have hs : decide (s < 2 ^ m) = true := decide_eq_true hL.lt
    have Hs := Lib.hid hs
    have Hq0 := Lib.hid q0
    clear hok hL hs q0
    go_wp2_with fail
    refine (least_calls _ _ _ _ _ HA1.out hm).mono ?_
    rintro e w2 ⟨hW2, hr2⟩
    have HW2 := Lib.hid (HW.out.trans (hW2.mono hw1))
    have HA2 := Lib.hid (Rd.below HA1.out hW2)
    have hw2 := HW2.out.size
    clear hW2
    rcases hr2 with ⟨h0, rfl⟩ | ⟨m', hm', hok, A5, cap5, l, K, rfl, hR, hLL⟩
    · exact absurd Hq0.out h0
    · have : m' = m := by omega
      subst this
      have hlen : l.length = m' := by rw [hLL.len, clL_len]
      have hKm := hLL.kn
      rw [clL_len] at hKm
      have Hmc := Lib.hid (fun (w : World) (h : RdC w A5 l) => most_calls A5 l cap5 w h (by omega) (fun x hx => by have := hLL.good.1 x hx; omega))
      have HR := Lib.hid hR
      have Hfin := Lib.hid (fun (e : s = 0) => (show Left m' ps k 0 by rw [← e]; exact HL.out).can hok hLL)
      have hb : mostN l 0 ≤ 1000 := by rw [(hLL.toC hok).most hlen hok.n1 hLL.k1]; omega
      clear hok hR hLL hlen hm'
      generalize mostN l 0 = M at *
      by_cases hz : s = 0
      · have q3 : ((s : Int) != 0) = false := by rw [bne_eq_false_iff_eq, hz]; rfl
        have q4 : decide ((M : Int) ≤ (k : Int)) = true := decide_eq_true (by have := Hfin.out hz; omega)
        have q5 : (M : Int) ≤ (k : Int) := by have := Hfin.out hz; omega
        clear hz Hfin
        go_wp2_with (first
          | (go_at_call 7; refine (keepClashes_calls _ _ _ _ _ HA2.out hm).mono ?_; rintro e w3 ⟨rfl, hB⟩; rw [q2]; have HB := Lib.hid (HW2.out.trans (hB.mono hw2)); have HRR := Lib.hid (Rd.below HR.out hB); clear hB)
          | (go_at_call 11; refine (fits_calls _ _ _ (by omega)).mono ?_; rintro e w4 ⟨rfl, rfl⟩; rw [Hs.out])
          | (go_at_call 9; refine (Hmc.out _ HRR.out).mono ?_; rintro e w5 ⟨rfl, rfl⟩))
        all_goals first
          | (exfalso; omega)
          | (go_ret
             exact ⟨rfl, HB.out⟩)
      · have q3 : ((s : Int) != 0) = true := by rw [bne_iff_ne]; omega
        clear hz Hfin
        go_wp2_with (first
          | (go_at_call 7; refine (keepClashes_calls _ _ _ _ _ HA2.out hm).mono ?_; rintro e w3 ⟨rfl, hB⟩; rw [q2]; have HB := Lib.hid (HW2.out.trans (hB.mono hw2)); have HRR := Lib.hid (Rd.below HR.out hB); clear hB)
          | (go_at_call 11; refine (fits_calls _ _ _ (by omega)).mono ?_; rintro e w4 ⟨rfl, rfl⟩; rw [Hs.out])
          | (go_at_call 9; refine (Hmc.out _ HRR.out).mono ?_; rintro e w5 ⟨rfl, rfl⟩))
        all_goals first
          | (exfalso; omega)
          | (go_ret
             exact ⟨rfl, HB.out⟩)
end Go.Proofs.Ytckmedmebabkjaa
