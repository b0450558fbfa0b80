/- StackBack walked. -/
import Derived.Test.YtmglhppfdhphbaaStkK
import Derived.Test.YtmglhppfdhphbaaStkN
import Derived.BigQuiet
import Derived.Deep.QuietTactic
namespace Go.Proofs.Ytmglhppfdhphbaa
open Go.RowKit

set_option maxRecDepth 100000 in
set_option maxHeartbeats 4000000 in
theorem stackBack_calls (vars : Int) (A : Option Addr) (c : List SOp) (capA : Nat) (w : World) (hA : RdS w A c) (hm : c.length ≤ maxLen) :
    Calls Try.prog 11 #[.int .i64 vars, .slice A c.length capA] w fun e w' => e = .returned (.bool true) ∧ Below w.heap.size w w' := by
  have HA := Lib.hid hA
  clear hA
  by_cases hb : bErr vars c = 0
  case neg =>
    have Hb := Lib.hid hb
    have q : (bErr vars c != 0) = true := by rw [bne_iff_ne]; exact hb
    clear hb
    go_enter Try.func11, Try.ntmps11
    go_wp2_with fail
    refine (back_calls vars A c capA w HA.out hm).mono ?_
    rintro e w1 ⟨h | h, hW⟩
    · obtain ⟨_, rfl⟩ := h
      have HW1 := Lib.hid hW
      clear hW
      go_wp2
      go_ret
      exact ⟨rfl, HW1.out⟩
    · exact absurd h.1 Hb.out
  have hfacts : 0 ≤ vars ∧ vars ≤ 6 ∧ sErrs vars 0 c = 0 ∧ 1 ≤ c.length ∧ c.length ≤ 16 ∧ (bkTo c c.length).2.length = 1 := by
    unfold bErr at hb
    by_cases h1 : vars < 0
    · rw [if_pos h1] at hb; cases hb
    rw [if_neg h1] at hb
    by_cases h2 : sErr vars c ≠ 0
    · rw [if_pos h2] at hb; exact absurd hb h2
    rw [if_neg h2] at hb
    by_cases h3 : c.length = 0 ∨ 16 < c.length
    · rw [if_pos h3] at hb; cases hb
    rw [if_neg h3] at hb
    by_cases h4 : (bkTo c c.length).2.length ≠ 1
    · rw [if_pos h4] at hb; cases hb
    have h2 : sErr vars c = 0 := by omega
    unfold sErr at h2
    by_cases h5 : 6 < vars ∨ 40 < c.length
    · rw [if_pos h5] at h2; cases h2
    rw [if_neg h5] at h2
    exact ⟨by omega, by omega, h2, by omega, by omega, by omega⟩
  obtain ⟨hv0, hv6, hE, h1, h16, hs⟩ := hfacts
  obtain ⟨hn, hl, hla⟩ := back_tree hv0 hv6 hE h1 h16 hs
  have Hb := Lib.hid hb
  clear hb hE hs
  obtain ⟨l, hlq⟩ : ∃ l, (bkTo c c.length).1 = l := ⟨_, rfl⟩
  rw [hlq] at hn hl hla
  have Heq0 := Lib.hid hlq
  clear hlq
  have Hn := Lib.hid hn
  have Hd := Lib.hid (decide_eq_true hn)
  have Hl := Lib.hid hl
  have Hla := Lib.hid hla
  clear hn hl hla
  go_enter Try.func11, Try.ntmps11
  go_wp2_with fail
  obtain ⟨lb, hlb⟩ : ∃ lb, lb = (bkTo c c.length).1 := ⟨_, rfl⟩
  refine (back_calls vars A c capA w HA.out hm).mono ?_
  rintro e w1 ⟨h | h, hW⟩
  · exact absurd Hb.out h.1
  obtain ⟨_, v1, rfl, hO⟩ := h
  have HW1 := Lib.hid hW
  have Heq : Hid ((bkTo c c.length).1 = l) := Heq0
  rw [Heq.out] at hO
  obtain ⟨A1, c1, rfl, hR1⟩ := OwnT.rd hO
  have HR1 := Lib.hid hR1
  clear hO hW hR1 hlb
  have q1 : (((l.length : Nat) : Int) != ((c.length : Nat) : Int)) = false := by rw [Hl.out]; simp
  go_wp2_with (first
    | (go_at_call 20; refine (treed_calls _ _ _ _ _ HR1.out (by have := Hl.out; unfold maxLen; omega)).mono ?_; rintro e w2 ⟨rfl, hW⟩; rw [Hd.out]; have HW2 := Lib.hid (HW1.out.trans (hW.mono HW1.out.size)); have HR2 := Lib.hid (Rd.below HR1.out hW); clear hW))
  refine (stkCode_ok vars A1 l c1 _ HR2.out Hn.out).mono ?_
  rintro e w3 ⟨v3, rfl, hO, hW⟩
  rw [Hla.out] at hO
  have HW3 := Lib.hid (HW2.out.trans (hW.mono HW2.out.size))
  obtain ⟨A3, c3, rfl, hR3, -⟩ := Own.form sopCells_len hO
  have hmn : (c.map normS).length = c.length := List.length_map ..
  rw [hmn]
  have HR3 := Lib.hid hR3
  have Hmn := Lib.hid hmn
  clear hO hW hR3 hmn q1
  go_wp2
  have hw3 := HW3.out.size
  have HAz := Lib.hid (Rd.below HA.out HW3.out)
  go_loopw [49] (fun i wr => ∃ k : Nat, k ≤ c.length ∧ i = .int .i64 k ∧ ∃ nq, wr = w3.drewN nq) (fun i _ => c.length - (intOf i).toNat)
  case atStart => exact ⟨0, Nat.zero_le _, rfl, 0, rfl⟩
  case round =>
    obtain ⟨k, hk, rfl, nq, rfl⟩ := hrel
    by_cases hlt : k < c.length
    · obtain ⟨b1, off1, rfl, hb1, c0, c1'⟩ := RdS.at2 HAz.out hlt
      obtain ⟨b2, off2, rfl, hb2, d0, d1⟩ := RdS.at2 HR3.out (k := k) (by rw [Hmn.out]; exact hlt)
      have q1 : ((k : Nat) : Int) < ((c.length : Nat) : Int) := by omega
      rw [List.getElem_map] at d0 d1
      generalize c[k] = x at *
      obtain ⟨op, val⟩ := x
      by_cases h2 : op ≤ 2
      · have e : normS ⟨op, val⟩ = ⟨op, val⟩ := by unfold normS; rw [if_pos (by exact h2)]
        rw [e] at d0 d1
        dsimp only at c0 c1' d0 d1
        have q3 : decide (op < 3) = true := decide_eq_true (by omega)
        clear e
        go_wp2
        go_quiet (fail)
        go_wp2
        go_roundw
        case rel => exact ⟨k + 1, by omega, by go_num, _, rfl⟩
        case measure => simp [intOf]; omega
      · have e : normS ⟨op, val⟩ = ⟨op, 0⟩ := by unfold normS; rw [if_neg (by exact h2)]
        rw [e] at d0 d1
        dsimp only at c0 c1' d0 d1
        have q3 : decide (op < 3) = false := decide_eq_false (by omega)
        clear e
        go_wp2
        go_quiet (fail)
        go_wp2
        go_roundw
        case rel => exact ⟨k + 1, by omega, by go_num, _, rfl⟩
        case measure => simp [intOf]; omega
    · go_wp2
      go_ret
      exact ⟨rfl, below_dN HW3.out nq⟩
end Go.Proofs.Ytmglhppfdhphbaa
