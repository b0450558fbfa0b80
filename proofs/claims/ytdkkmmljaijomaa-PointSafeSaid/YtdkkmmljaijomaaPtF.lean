/- PointSafe. -/
import Derived.Test.YtdkkmmljaijomaaPtE
import Derived.Test.YtdkkmmljaijomaaBitR
namespace Go.Proofs.Ytdkkmmljaijomaa
open Go.RowKit

theorem ptErr_nil {n : Int} {l : List Pt} {s : List Int} (h : ptErr n l [] ≠ 0) : ptErr n l s ≠ 0 := by
  unfold ptErr at h ⊢
  by_cases h1 : ptBig n l s
  · rw [if_pos h1]; decide
  · have h2 : ¬ ptBig n l [] := fun hx => h1 (by unfold ptBig at *; simp at hx; omega)
    rw [if_neg h1]
    rw [if_neg h2] at h
    by_cases h3 : ptErrs n l ≠ 0
    · rw [if_pos h3]; exact h3
    · rw [if_neg h3] at h
      exact absurd rfl h
theorem ptErr_none {n : Nat} {l : List Pt} (h : PtOk n l) : ptErr n l [] = 0 := by
  unfold ptErr
  rw [if_neg (by unfold ptBig; have := h.n1; have := h.n8; have := h.len; simp; omega), if_neg (fun hx => hx (ptErrs_of fun p hp => ⟨h.kind p hp, h.ins p hp⟩))]
  rfl
set_option maxHeartbeats 4000000 in
theorem pointSafe_calls (n : Int) (A B : Option Addr) (l : List Pt) (s : List Int) (cap capB : Nat) (w : World) (hA : RdPt w A l) (hm : l.length ≤ maxLen) (hB : RdI w B s) (hmB : s.length ≤ maxLen) :
    Calls Try.prog 12 #[.int .i64 n, .slice A l.length cap, .slice B s.length capB] w fun e w' => e = .returned (.bool true) ∧ Below w.heap.size w w' := by
  have HA := Lib.hid hA; clear hA
  have HBs := Lib.hid hB; clear hB
  go_enter Try.func12, Try.ntmps12
  go_wp2_with fail
  refine (within_calls _ _ _ _ _ HA.out hm).mono ?_
  rintro e w1 ⟨hW, hr⟩
  have HW := Lib.hid hW
  have hw1 := hW.size
  have HA1 := Lib.hid (Rd.below HA.out hW)
  have HB1 := Lib.hid (Rd.below HBs.out hW)
  clear hW
  rcases hr with ⟨h0, rfl⟩ | ⟨m, rfl, ok, v, rfl, hown⟩
  · have q : (ptErr n l [] != 0) = true := by rw [bne_iff_ne]; exact h0
    have q2 : (ptErr n l s != 0) = true := by rw [bne_iff_ne]; exact ptErr_nil h0
    have H0 := Lib.hid (ptErr_nil (s := s) h0)
    clear h0
    go_wp2_with fail
    refine (ptRun_calls _ _ _ _ _ _ _ _ HA1.out hm HB1.out hmB).mono ?_
    rintro e w2 ⟨hW2, hr2⟩
    have HW2 := Lib.hid (HW.out.trans (hW2.mono hw1))
    have hw2 := HW2.out.size
    have HA2 := Lib.hid (Rd.below HA1.out hW2)
    clear hW2
    rcases hr2 with ⟨_, rfl⟩ | ⟨h, _⟩
    · go_wp2_with (go_at_call 27; refine (pointCheck_calls n _ none l [] _ 0 _ HA2.out hm Rd.nil_ (by simp)).mono ?_; rintro e w3 ⟨rfl, hB⟩; have HB := Lib.hid (HW2.out.trans (hB.mono hw2)); clear hB)
      go_ret
      exact ⟨rfl, HB.out⟩
    · exact absurd h H0.out
  · obtain ⟨A1, c1, rfl, hR1⟩ := hown.rd
    rw [ptL_len]
    have HR1 := Lib.hid hR1
    have Hok := Lib.hid ok
    have He := Lib.hid (ptErr_none ok)
    have h8 := ok.n8
    clear hown hR1 ok
    go_wp2_with fail
    refine (ptRun_calls _ _ _ _ _ _ _ _ HA1.out hm HB1.out hmB).mono ?_
    rintro e w2 ⟨hW2, hr2⟩
    have HW2 := Lib.hid (HW.out.trans (hW2.mono hw1))
    have hw2 := HW2.out.size
    have HA2 := Lib.hid (Rd.below HA1.out hW2)
    have HR2 := Lib.hid (Rd.below HR1.out hW2)
    clear hW2
    rcases hr2 with ⟨h0, rfl⟩ | ⟨_, m', hm', _, A3, c3, T, rfl, hRT, hT, hS⟩
    · have q2 : (ptErr m l s != 0) = true := by rw [bne_iff_ne]; exact h0
      clear h0
      go_wp2_with (go_at_call 27; refine (pointCheck_calls m _ none l [] _ 0 _ HA2.out hm Rd.nil_ (by simp)).mono ?_; rintro e w3 ⟨rfl, hB⟩; rw [He.out]; have HB := Lib.hid (HW2.out.trans (hB.mono hw2)); clear hB)
      go_ret
      exact ⟨rfl, HB.out⟩
    · have : m' = m := by omega
      subst this
      rw [hT]
      have HT := Lib.hid hT
      have HRT := Lib.hid hRT
      have HS := Lib.hid hS
      clear hm' hRT hT hS
      go_wp2_with (go_at_call 27; refine (pointCheck_calls m' _ none l [] _ 0 _ HA2.out hm Rd.nil_ (by simp)).mono ?_; rintro e w3 ⟨rfl, hB⟩; rw [He.out]; have HB := Lib.hid (HW2.out.trans (hB.mono hw2)); have HR3 := Lib.hid (Rd.below HR2.out hB); have HT3 := Lib.hid (Rd.below HRT.out hB); clear hB)
      go_loop [55] (fun i => ∃ k : Nat, k ≤ m' ∧ i = .int .i64 k) (fun i => m' - (intOf i).toNat)
      case atStart => exact ⟨0, Nat.zero_le _, rfl⟩
      case round =>
        obtain ⟨k, hk, rfl⟩ := hrel
        by_cases hlt : k < m'
        · have hkT : k < T.length := by rw [HT.out]; exact hlt
          have hkS : k < (ptL m' l).length := by rw [ptL_len]; exact hlt
          obtain ⟨b1, off1, rfl, hb1, c1⟩ := RdI.at1 HT3.out hkT
          obtain ⟨b2, off2, rfl, hb2, c2⟩ := RdU.at1 HR3.out hkS
          rw [ptL_get] at c2
          have hS := ptS_lt l k
          rcases HS.out k hkT with hneg | ⟨j, hj, hp⟩
          · rw [hneg] at c1
            clear hneg hkT hkS
            generalize ptS l k = x at *
            go_wp2
            go_round
            case rel => exact ⟨k + 1, by omega, by go_num⟩
            case measure => simp [intOf]; omega
          · rw [hj] at c1
            have hb := (ptS_bit Hok.out k j).2 hp
            have hj8 : j < 32 := by have := (hp.lt Hok.out).2; omega
            have Hb := Lib.hid (bit_calls (ptS l k) j w3 (by omega) hj8)
            rw [hb] at Hb
            clear hj hp hb hkT hkS
            generalize ptS l k = x at *
            go_wp2_with (go_at_call 31; refine Hb.out.mono ?_; rintro e w4 ⟨rfl, rfl⟩)
            go_round
            case rel => exact ⟨k + 1, by omega, by go_num⟩
            case measure => simp [intOf]; omega
        · go_wp2
          go_ret
          exact ⟨rfl, HB.out⟩
end Go.Proofs.Ytdkkmmljaijomaa
