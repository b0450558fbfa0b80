/- loop.Tame once more, with the pair that is at fault; LoopFold walked. -/
import Derived.Test.YtljmignfbagomaaLpL
import Derived.BigGuardPart
namespace Go.Proofs.Ytljmignfbagomaa
open Go.RowKit Go.Shelf

def Tame2E (ls : List (List Int)) (w : World) (e : Ending) (w' : World) : Prop :=
  (wayErr ls ≠ 0 ∧ (∃ v, e = .returned (.tuple #[v, .int .i64 (wayErr ls)])) ∧ Below w.heap.size w w') ∨
  (wayErr ls = 0 ∧ ∃ b bk, e = .returned (.tuple #[.bool b, .int .i64 0]) ∧ (b = true → ∀ t h : Nat, ((t : Int), (h : Int)) ∈ bk → Dom ls h t) ∧ (b = false → ∃ t h : Nat, ((t : Int), (h : Int)) ∈ bk ∧ ¬ Dom ls h t) ∧ Left (EdW ls) ls.length (walkL ls) ∧ BkAll ls bk ∧ Below w.heap.size w w')
set_option maxRecDepth 100000 in
set_option maxHeartbeats 8000000 in
theorem tame2_calls (A : Option Addr) (ls : List (List Int)) (cap : Nat) (w : World) (hA : RdN w A ls) (hm : ls.length ≤ maxLen) :
    Calls Try.prog 38 #[.slice A ls.length cap] w (Tame2E ls w) := by
  have Hb := Lib.hid (back_calls A ls cap w hA hm)
  have HA := Lib.hid hA
  by_cases h0 : wayErr ls = 0
  case neg =>
    have H0 := Lib.hid h0
    have q : (wayErr ls != 0) = true := by rw [bne_iff_ne]; exact h0
    obtain ⟨x, hx⟩ : ∃ x, x = wayErr ls := ⟨_, rfl⟩
    have Hx := Lib.hid hx
    clear hA h0
    go_enter Try.func38, Try.ntmps38
    go_wp2_with fail
    refine Hb.out.mono ?_
    rintro e w1 (⟨-, ⟨v, rfl⟩, hW⟩ | ⟨h9, -⟩)
    case inr => exact absurd h9 H0.out
    have HW := Lib.hid hW
    rw [← hx] at q ⊢
    clear hW hx
    go_wp2
    go_ret2
    exact .inl ⟨H0.out, ⟨_, by rw [← Hx.out]; rfl⟩, HW.out⟩
  obtain ⟨h1, h8, hv⟩ := wayErr_ok h0
  have H0 := Lib.hid h0
  have Hru := Lib.hid (fun w' (h : Below w.heap.size w w') => rules_calls A ls cap w' (HA.out.below h) h0)
  have HD := Lib.hid (fun j a => domS_bit h1 h8 hv j a)
  clear hA hv h0
  go_enter Try.func38, Try.ntmps38
  go_wp2_with fail
  refine Hb.out.mono ?_
  rintro e w1 (⟨h9, -⟩ | ⟨-, v, bk, rfl, hO, hbl, hL, hbm, hW⟩)
  case inl => exact absurd H0.out h9
  obtain ⟨A3, c3, rfl, hR3⟩ := OwnP.rd hO
  have HP1 := Lib.hid hR3
  have HL := Lib.hid hL
  have HBA : Hid (BkAll ls bk) := Lib.hid hbm
  have HW1 := Lib.hid hW
  have Hru1 := Lib.hid (Hru.out _ hW)
  have hbl2 : bk.length ≤ 64 := hbl
  clear hW hO hR3 hbm hL hbl
  go_wp2_with fail
  refine Hru1.out.mono ?_
  rintro e w2 ⟨v, rfl, hO, hW⟩
  obtain ⟨g4, c4, rfl, hg4, hg4s, -, -, hc4⟩ := OwnU.at_ hO (by rw [rulesL_len]; omega)
  rw [rulesL_len]
  have HC4 := Lib.hid hc4
  have HP2 := Lib.hid (Rd.below HP1.out hW)
  have HW2 := Lib.hid (HW1.out.trans (hW.mono HW1.out.size))
  have hz2 := HW2.out.size
  clear hW hO hc4 Hb Hru Hru1
  go_wp2
  go_loopw [21] (fun i wr => ∃ k : Nat, k ≤ bk.length ∧ i = .int .i64 k ∧ Hid (∀ t h : Nat, ((t : Int), (h : Int)) ∈ bk.take k → Dom ls h t) ∧ Below w2.heap.size w2 wr) (fun i _ => bk.length - (intOf i).toNat)
  case atStart => exact ⟨0, Nat.zero_le _, rfl, Lib.hid (fun t h hm => by simp at hm), Below.refl _ _⟩
  case round =>
    obtain ⟨k, hk, rfl, HT, hW⟩ := hrel
    have HWr := Lib.hid hW
    have hwr := hW.size
    by_cases hlt : k < bk.length
    · obtain ⟨b2, off2, rfl, hb2, d0', d1'⟩ := RdP.at2 HP2.out hlt
      have d0 := (hW.cell (p := ⟨b2, off2 + k * 2, none⟩) hb2).trans d0'
      have d1 := (hW.cell (p := ⟨b2, off2 + k * 2 + 1, none⟩) hb2).trans d1'
      obtain ⟨t, h, ep, ht, hh, -⟩ := (HBA.out _).1 (List.getElem_mem hlt)
      have e1 : bk[k].1 = (t : Int) := by rw [ep]
      have e2 : bk[k].2 = (h : Int) := by rw [ep]
      rw [e1] at d0
      rw [e2] at d1
      have Htk : Hid (bk.take (k + 1) = bk.take k ++ [((t : Int), (h : Int))]) := Lib.hid (by rw [List.take_succ_eq_append_getElem hlt, ep])
      have q1 : ((k : Nat) : Int) < ((bk.length : Nat) : Int) := by omega
      have q2 : ((t : Nat) : Int) < ((ls.length : Nat) : Int) := by omega
      have c4 := ((hW.alloc hwr (.cells #[.int .i64 t, .int .i64 h] 51)).cell (p := ⟨g4, t, none⟩) hg4s).trans (HC4.out t (by rw [rulesL_len]; exact ht))
      rw [rulesL_get] at c4
      have hDs := domS_lt ls t
      have p1 := test_u32 (domS ls t) h (by omega)
      have h32 : h < 32 := by omega
      have HDt := Lib.hid (HD.out t h)
      have HWa := Lib.hid (fun nq => below_dN (hW.alloc hwr (.cells #[.int .i64 t, .int .i64 h] 51)) nq)
      have Hmem : Hid (((t : Int), (h : Int)) ∈ bk) := Lib.hid (ep ▸ List.getElem_mem hlt)
      clear hW d0' d1' ep e1 e2
      generalize domS ls t = D at *
      cases hb : D.testBit h
      · rw [hb] at p1
        have Hnd : Hid (¬ Dom ls h t) := Lib.hid (fun hd => by rw [HDt.out.2 hd] at hb; cases hb)
        clear hb
        go_wp2
        go_quiet (fail)
        go_wp2
        go_ret2
        exact .inr ⟨H0.out, false, bk, rfl, (fun h => by cases h), (fun _ => ⟨t, h, Hmem.out, Hnd.out⟩), HL.out, HBA.out, HW2.out.trans ((HWa.out _).mono hz2)⟩
      · rw [hb] at p1
        have HT2 : Hid (∀ t h : Nat, ((t : Int), (h : Int)) ∈ bk.take (k + 1) → Dom ls h t) := Lib.hid (fun t' h' hm => by
          rw [Htk.out, List.mem_append, List.mem_singleton] at hm
          rcases hm with hm | hm
          · exact HT.out t' h' hm
          · injection hm with e1 e2
            have e1 : t' = t := by omega
            have e2 : h' = h := by omega
            subst e1 e2; exact HDt.out.1 hb)
        clear hb
        go_wp2
        go_quiet (fail)
        go_wp2
        go_roundw
        case rel => exact ⟨k + 1, by omega, by go_num, HT2, HWa.out _⟩
        case measure => simp [intOf]; omega
    · have hke : k = bk.length := by omega
      subst hke
      have HT2 : Hid (∀ t h : Nat, ((t : Int), (h : Int)) ∈ bk → Dom ls h t) := Lib.hid (by have := HT.out; rwa [List.take_length] at this)
      clear hW
      go_wp2
      go_ret2
      exact .inr ⟨H0.out, true, bk, rfl, (fun _ => HT2.out), (fun h => by cases h), HL.out, HBA.out, HW2.out.trans (HWr.out.mono hz2)⟩

set_option maxRecDepth 100000 in
set_option maxHeartbeats 8000000 in
theorem loopFold_calls (A : Option Addr) (ls : List (List Int)) (cap : Nat) (w : World) (hA : RdN w A ls) (hm : ls.length ≤ maxLen) :
    Calls Try.prog 12 #[.slice A ls.length cap] w fun e w' => e = .returned (.bool true) ∧ Below w.heap.size w w' := by
  have Hta := Lib.hid (tame2_calls A ls cap w hA hm)
  have Hfo := Lib.hid (fun w' (h : Below w.heap.size w w') (hl : wayErr ls = 0 → Left (EdW ls) ls.length (walkL ls)) => fold_calls A ls cap w' (hA.below h) hm hl)
  have Hmy := Lib.hid (fun w' (h : Below w.heap.size w w') => may_calls A ls cap w' (hA.below h) hm)
  by_cases h0 : wayErr ls = 0
  case neg =>
    have q : (wayErr ls != 0) = true := by rw [bne_iff_ne]; exact h0
    have q0 : (wayErr ls == 0) = false := by rw [beq_eq_false_iff_ne]; exact h0
    rw [q0] at Hmy
    have H0 := Lib.hid h0
    clear hA h0 q0
    go_enter Try.func12, Try.ntmps12
    go_wp2_with fail
    refine Hta.out.mono ?_
    rintro e w1 (⟨-, ⟨v, rfl⟩, hW⟩ | ⟨h9, -⟩)
    case inr => exact absurd h9 H0.out
    have HW1 := Lib.hid hW
    have Hf1 := Lib.hid (Hfo.out _ hW (fun h => absurd h H0.out))
    clear hW
    go_wp2_with fail
    refine Hf1.out.mono ?_
    rintro e w2 (⟨-, ⟨v2, rfl⟩, hW⟩ | ⟨h9, -⟩)
    case inr => exact absurd h9 H0.out
    have HW2 := Lib.hid (HW1.out.trans (hW.mono HW1.out.size))
    have Hm2 := Lib.hid (Hmy.out _ HW2.out)
    clear hW
    generalize wayErr ls = x at *
    go_wp2_with fail
    refine Hm2.out.mono ?_
    rintro e w5 ⟨rfl, h4⟩
    rw [h4]
    clear h4
    go_wp2
    go_ret
    exact ⟨by first | rfl | exact ret_bool (by simp), HW2.out⟩
  obtain ⟨h1, h8, hv⟩ := wayErr_ok h0
  have HV := Lib.hid hv
  have q0 : (wayErr ls == 0) = true := by rw [beq_iff_eq]; exact h0
  rw [q0] at Hmy
  have H0 := Lib.hid h0
  clear hA h0 q0 hv
  go_enter Try.func12, Try.ntmps12
  go_wp2_with fail
  refine Hta.out.mono ?_
  rintro e w1 (⟨h9, -⟩ | ⟨-, ib, bk, rfl, ht1, ht2, hL, hbk, hW⟩)
  case inl => exact absurd H0.out h9
  have HW1 := Lib.hid hW
  have HT1 := Lib.hid ht1
  have HT2 := Lib.hid ht2
  have HL := Lib.hid hL
  have HB := Lib.hid hbk
  have Hf1 := Lib.hid (Hfo.out _ hW (fun _ => hL))
  clear hW ht1 ht2 hL hbk
  go_wp2_with fail
  refine Hf1.out.mono ?_
  rintro e w2 (⟨h9, -⟩ | ⟨-, L, F, rfl, hS, hT, hW⟩)
  case inl => exact absurd H0.out h9
  have HW2 := Lib.hid (HW1.out.trans (hW.mono HW1.out.size))
  have Hm2 := Lib.hid (Hmy.out _ HW2.out)
  obtain ⟨pi, hI⟩ := hS.inv
  obtain ⟨c1, c2, c3⟩ := hI.count h1 h8 HV.out hT
  have Hib : Hid (cnt8 L = 1 ↔ ib = true) := Lib.hid (by
    rw [c2]
    constructor
    · intro h
      cases hib : ib
      · obtain ⟨t, x, hm, hn⟩ := HT2.out hib
        exact absurd (hI.one_tame HL.out HB.out h t x hm) hn
      · rfl
    · intro h
      exact hI.tame_one HL.out h1 h8 HV.out hT HB.out (HT1.out h))
  have hq : (ib == ((cnt8 L : Int) == 1)) = true := by
    rw [beq_iff_eq, Bool.eq_iff_iff, ← Hib.out, beq_iff_eq]
    omega
  have q1 : (1 : Int) ≤ (cnt8 L : Int) := by omega
  have q2 : ((cnt8 L : Int) != 2) = true := by rw [bne_iff_ne]; omega
  clear hW hS hT hI c2 Hib
  generalize cnt8 L = c at *
  have q3 : decide ((c : Int) ≥ 1) = true := decide_eq_true q1
  go_wp2_with fail
  refine Hm2.out.mono ?_
  rintro e w5 ⟨rfl, h4⟩
  rw [h4]
  clear h4
  go_wp2
  go_ret
  exact ⟨by first | rfl | exact ret_bool (by simpa using hq) | exact ret_bool (by simp_all), HW2.out⟩
end Go.Proofs.Ytljmignfbagomaa
