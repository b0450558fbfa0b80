/- ColorBrooks. -/
import Derived.Test.YtckmedmebabkjaaColQ
import Derived.Test.YtckmedmebabkjaaSizeR
import Derived.Test.YtckmedmebabkjaaBrkP
namespace Go.Proofs.Ytckmedmebabkjaa
set_option maxRecDepth 100000
open Go.RowKit

noncomputable def dmx (ps : List (Int × Int)) (m : Nat) : Nat → Nat
  | 0 => 0
  | k + 1 => if dmx ps m k < degK ps k m then degK ps k m else dmx ps m k
theorem dmx_ge (ps : List (Int × Int)) (m : Nat) : ∀ {k i : Nat}, i < k → degK ps i m ≤ dmx ps m k
  | k + 1, i, h => by
    rw [dmx]
    rcases Nat.lt_or_ge i k with h1 | h1
    · have := dmx_ge ps m h1
      split <;> omega
    · obtain rfl : i = k := by omega
      split <;> omega
theorem dmx_le (ps : List (Int × Int)) (m : Nat) : ∀ k, dmx ps m k ≤ m
  | 0 => Nat.zero_le _
  | k + 1 => by
    rw [dmx]
    have := dmx_le ps m k
    have := degK_le ps k m
    split <;> omega
/-- What the law says. -/
theorem brooks_law {m q K : Nat} {ps : List (Int × Int)} {l : List Nat} (h : ClOk m ps) (hL : LeastL (clL m ps) l K) (hq : BestQ m ps q (2 ^ m)) (h3 : 3 ≤ dmx ps m m) (hc : cnt8 q ≤ dmx ps m m) : mostN l 0 ≤ dmx ps m m := by
  have hlen : l.length = m := by rw [hL.len, clL_len]
  have hC := hL.toC h
  rw [hC.most hlen h.n1 hL.k1]
  have hg : GrB m (dmx ps m m) (Cl ps) := ⟨fun _ _ h => h.symm, fun i hi => (hi.lt h).2.2 rfl, fun i j hij => (hij.lt h).2.1, fun i l hn hl => by
    by_cases hi : i < m
    · refine Nat.le_trans (nodup_sub_len_ (m := (List.range m).filter fun j => @decide (Cl ps i j) (Classical.propDecidable _)) hn (fun j hj => ?_)) (dmx_ge ps m hi)
      rw [List.mem_filter, List.mem_range]
      exact ⟨((hl j hj).lt h).2.1, @decide_eq_true _ (Classical.propDecidable _) (hl j hj)⟩
    · cases l with
      | nil => exact Nat.zero_le _
      | cons j l => exact absurd ((hl j (by simp)).lt h).1 hi⟩
  refine hC.least _ (by omega) (brooks hg h3 (fun l hn ha => ?_))
  rcases Nat.lt_or_ge l.length 2 with h2 | h2
  · omega
  · have hlt : ∀ i ∈ l, i < m := fun i hi => by
      have : ∃ j ∈ l, j ≠ i := by
        apply Classical.byContradiction
        intro hx
        have := nodup_sub_len_ (m := [i]) hn (fun j hj => by
          apply Classical.byContradiction
          intro h1
          exact hx ⟨j, hj, by simpa using h1⟩)
        simp at this
        omega
      obtain ⟨j, hj, hne⟩ := this
      exact ((ha j hj i hi hne).lt h).2.1
    have hm8 := h.n8
    have hbit : ∀ i, (setN (fun i => i ∈ l)).testBit i = true ↔ i ∈ l := fun i => by
      rw [setN_bit]
      exact ⟨fun h => h.2, fun h => ⟨by have := hlt i h; omega, h⟩⟩
    have hul : setN (fun i => i ∈ l) < 2 ^ m := lt_pow_of_bits fun k hk => hlt k ((hbit k).1 hk)
    have hb := hq.best _ hul ((allQ_iff h hul).2 (fun i j hi hj hne => ha i ((hbit i).1 hi) j ((hbit j).1 hj) hne))
    have hcl : l.length ≤ cnt8 (setN (fun i => i ∈ l)) := nodup_sub_len_ hn (fun i hi => by
      rw [List.mem_filter, List.mem_range]
      exact ⟨by have := hlt i hi; omega, (hbit i).2 hi⟩)
    omega
set_option maxHeartbeats 8000000 in
theorem colorBrooks_calls (n : Int) (A : Option Addr) (ps : List (Int × Int)) (cap : Nat) (w : World) (hA : RdP w A ps) (hm : ps.length ≤ maxLen) :
    Calls Try.prog 5 #[.int .i64 n, .slice A ps.length cap] w fun e w' => e = .returned (.bool true) ∧ Below w.heap.size w w' := by
  have HA := Lib.hid hA; clear hA
  go_enter Try.func5, Try.ntmps5
  go_wp2_with fail
  refine (least_calls _ _ _ _ _ HA.out hm).mono ?_
  rintro e w1 ⟨hW, hr⟩
  have HW := Lib.hid hW
  have hw1 := hW.size
  have HA1 := Lib.hid (Rd.below HA.out hW)
  clear hW
  rcases hr with ⟨h0, rfl⟩ | ⟨m, rfl, hok, A5, cap5, l, K, rfl, hR, hLL⟩
  · have H0 := Lib.hid h0
    clear h0
    go_wp2_with fail
    refine (clique_calls _ _ _ _ _ HA1.out hm).mono ?_
    rintro e w2 ⟨hW2, hr2⟩
    have HW2 := Lib.hid (HW.out.trans (hW2.mono hw1))
    have HA2 := Lib.hid (Rd.below HA1.out hW2)
    have hw2 := HW2.out.size
    clear hW2
    rcases hr2 with ⟨h0, E, hE, rfl⟩ | ⟨m, q, rfl, hok, rfl, hq⟩
    · have q1 : (clErr n ps == 0) = false := by rw [beq_eq_false_iff_ne]; exact h0
      have q2 : (clErr n ps != 0) = true := by rw [bne_iff_ne]; exact h0
      have q3 : (E != 0) = true := by rw [bne_iff_ne]; exact hE
      clear h0 hE
      have Hcl := Lib.hid (keepClashes_calls n A ps cap w2 HA2.out hm)
      rw [q1] at Hcl
      clear q1
      go_wp2_with (go_at_call 7; refine Hcl.out.mono ?_; rintro e w3 ⟨rfl, hB⟩; have HB := Lib.hid (HW2.out.trans (hB.mono hw2)); clear hB)
      go_ret
      exact ⟨rfl, HB.out⟩
    · exact absurd hok.err H0.out
  · have Hok := Lib.hid hok
    have h1 := hok.n1
    have h8 := hok.n8
    have hlen : l.length = m := by rw [hLL.len, clL_len]
    have hKm := hLL.kn
    rw [clL_len] at hKm
    have Hmc := Lib.hid (fun (w : World) (h : RdC w A5 l) => most_calls A5 l cap5 w h (by omega) (fun x hx => by have := hLL.good.1 x hx; omega))
    have HR := Lib.hid hR
    have HLL := Lib.hid hLL
    have hb : mostN l 0 ≤ 1000 := by rw [(hLL.toC hok).most hlen hok.n1 hLL.k1]; omega
    clear hok hR hLL hlen hKm
    go_wp2_with fail
    refine (clique_calls _ _ _ _ _ HA1.out hm).mono ?_
    rintro e w2 ⟨hW2, hr2⟩
    have HW2 := Lib.hid (HW.out.trans (hW2.mono hw1))
    have HA2 := Lib.hid (Rd.below HA1.out hW2)
    have HR2 := Lib.hid (Rd.below HR.out hW2)
    have hw2 := HW2.out.size
    clear hW2
    rcases hr2 with ⟨h0, E, hE, rfl⟩ | ⟨m', q, hm', hok, rfl, hq⟩
    · exact absurd Hok.out.err h0
    · have : m' = m := by omega
      subst this
      have Hfin := Lib.hid (brooks_law Hok.out HLL.out hq)
      have hq8 : q < 256 := by have := hq.lt; have : 2 ^ m' ≤ 2 ^ 8 := Nat.pow_le_pow_right (by decide) h8; omega
      have Hcl := Lib.hid (keepClashes_calls m' A ps cap w2 HA2.out hm)
      rw [show (clErr m' ps == 0) = true by rw [beq_iff_eq]; exact Hok.out.err] at Hcl
      have Hsz := Lib.hid (fun w => size_calls q w hq8)
      clear hok hq hm'
      go_wp2_with (go_at_call 7; refine Hcl.out.mono ?_; rintro e w3 ⟨rfl, hB⟩; have HB := Lib.hid (HW2.out.trans (hB.mono hw2)); have HA3 := Lib.hid (Rd.below HA2.out hB); have HR3 := Lib.hid (Rd.below HR2.out hB); clear hB)
      clear HW HW2 HA1 HA2 HR HR2
      have hw3 := HB.out.size
      go_loopw [9, 10] (fun d i wr => ∃ k : Nat, k ≤ m' ∧ i = .int .i64 k ∧ d = .int .i64 (dmx ps m' k : Nat) ∧ Hid (Below w3.heap.size w3 wr)) (fun _ i _ => m' - (intOf i).toNat)
      case atStart => exact ⟨0, Nat.zero_le _, rfl, rfl, Lib.hid (Below.refl _ _)⟩
      case round =>
        obtain ⟨k, hk, rfl, rfl, HWk⟩ := hrel
        have hwk := HWk.out.size
        by_cases hlt : k < m'
        · have q1 : ((k : Nat) : Int) < ((m' : Nat) : Int) := by omega
          have hd1 := dmx_le ps m' k
          have hd2 := degK_le ps k m'
          have Hdg := Lib.hid (fun (w : World) (h : Below w3.heap.size w3 w) => degree_calls m' A ps cap k w (Rd.below HA3.out h) hm h8)
          by_cases hc : dmx ps m' k < degK ps k m'
          · have Hn := Lib.hid (show dmx ps m' (k + 1) = degK ps k m' by rw [dmx, if_pos hc])
            have q2 : ((dmx ps m' k : Nat) : Int) < ((degK ps k m' : Nat) : Int) := by omega
            have q3 : decide (((degK ps k m' : Nat) : Int) > ((dmx ps m' k : Nat) : Int)) = true := decide_eq_true (by omega)
            clear hc
            generalize dmx ps m' k = x at *
            generalize degK ps k m' = y at *
            go_wp2_with fail
            refine (Hdg.out _ HWk.out).mono ?_
            rintro e w5 ⟨rfl, hb5⟩
            have Hb5 := Lib.hid (HWk.out.trans (hb5.mono hwk))
            clear hb5
            go_wp2_with fail
            refine (Hdg.out _ Hb5.out).mono ?_
            rintro e w6 ⟨rfl, hb6⟩
            have Hb6 := Lib.hid (Hb5.out.trans (hb6.mono Hb5.out.size))
            clear hb6
            go_wp2
            go_roundw
            case rel => exact ⟨k + 1, by omega, by go_num, by rw [Hn.out], Hb6⟩
            case measure => simp [intOf]; omega
          · have Hn := Lib.hid (show dmx ps m' (k + 1) = dmx ps m' k by rw [dmx, if_neg hc])
            have q2 : ((degK ps k m' : Nat) : Int) ≤ ((dmx ps m' k : Nat) : Int) := by omega
            have q3 : decide (((degK ps k m' : Nat) : Int) > ((dmx ps m' k : Nat) : Int)) = false := decide_eq_false (by omega)
            clear hc
            generalize dmx ps m' k = x at *
            generalize degK ps k m' = y at *
            go_wp2_with fail
            refine (Hdg.out _ HWk.out).mono ?_
            rintro e w5 ⟨rfl, hb5⟩
            have Hb5 := Lib.hid (HWk.out.trans (hb5.mono hwk))
            clear hb5
            go_wp2
            go_roundw
            case rel => exact ⟨k + 1, by omega, by go_num, by rw [Hn.out], Hb5⟩
            case measure => simp [intOf]; omega
        · have hke : k = m' := by omega
          subst hke
          have hd1 := dmx_le ps k k
          have hc8 := cnt8_le q
          have Hend := Lib.hid (HB.out.trans (HWk.out.mono hw3))
          have Hmo := Lib.hid (fun (w : World) (h : Below w3.heap.size w3 w) => Hmc.out w (Rd.below HR3.out h))
          clear Hmc
          generalize mostN l 0 = M at *
          generalize dmx ps k k = D at *
          generalize cnt8 q = c at *
          by_cases h3 : D < 3
          · have q1 : decide ((D : Int) < 3) = true := decide_eq_true (by omega)
            have q1' : (D : Int) < 3 := by omega
            go_wp2
            go_ret
            exact ⟨rfl, Hend.out⟩
          · have q1 : decide ((D : Int) < 3) = false := decide_eq_false (by omega)
            have q1' : (3 : Int) ≤ (D : Int) := by omega
            by_cases hcd : D < c
            · have q2 : decide ((c : Int) > (D : Int)) = true := decide_eq_true (by omega)
              have q2' : (D : Int) < (c : Int) := by omega
              go_wp2_with (go_at_call 14; refine (Hsz.out _).mono ?_; rintro e w5 ⟨rfl, rfl⟩)
              go_ret
              exact ⟨rfl, Hend.out⟩
            · have q2 : decide ((c : Int) > (D : Int)) = false := decide_eq_false (by omega)
              have q2' : (c : Int) ≤ (D : Int) := by omega
              have hf := Hfin.out (by omega) (by omega)
              have q3 : decide ((M : Int) ≤ (D : Int)) = true := decide_eq_true (by omega)
              have q3' : (M : Int) ≤ (D : Int) := by omega
              go_wp2_with (first
                | (go_at_call 14; refine (Hsz.out _).mono ?_; rintro e w5 ⟨rfl, rfl⟩)
                | (go_at_call 9; refine (Hmo.out _ HWk.out).mono ?_; rintro e w6 ⟨rfl, rfl⟩))
              all_goals first
                | (exfalso; omega)
                | (go_ret
                   exact ⟨rfl, Hend.out⟩)
end Go.Proofs.Ytckmedmebabkjaa
