/- HangOne. -/
import Derived.Test.YtljmignfbagomaaHangD
import Derived.Test.YtljmignfbagomaaRuleC
namespace Go.Proofs.Ytljmignfbagomaa
open Go.RowKit

theorem onL_len (ls : List (List Int)) : (onL ls).length = ls.length := by simp [onL]
theorem onL_get (ls : List (List Int)) (i : Nat) (h : i < (onL ls).length) : (onL ls)[i] = onS ls i := by simp [onL]
theorem on1_bit (ls : List (List Int)) (i j k : Nat) : (on1 ls i j).testBit k = true ↔ ((lastS ls j).testBit k = true ∧ ¬ ((lastS ls i).testBit k = true ∧ i ≠ k)) := by
  have h1 := lastS_lt ls j
  have h2 := lastS_lt ls i
  unfold on1
  rw [andN_bit _ (by omega), andN_bit _ (by omega), testBit_pow]
  by_cases e : i = k
  · simp [e]
  · simp [e]
structure AloneTo (ls : List (List Int)) (i : Nat) (l : List Int) (t : Nat) : Prop where
  pos : 0 < l.length
  all : ∀ u (h : u < l.length), u < t → l[u] = l.getD 0 0 ∧ l[u] ≠ (i : Int) ∧ (lastS ls l[u].toNat).testBit i = false
theorem on_alone {ls : List (List Int)} (h8 : ls.length ≤ 8) (hv : Valid ls) {i : Nat} {l : List Int} (hl : ls[i]? = some l) (h : AloneTo ls i l l.length) : onS ls i = 0 := set_ext fun k => by
  rw [Nat.zero_testBit]
  cases hb : (onS ls i).testBit k
  · rfl
  · unfold onS at hb
    rw [List.getD_eq_getElem?_getD, hl] at hb
    obtain ⟨x, hx, hx1⟩ := (onP_bit ls i l k).1 hb
    obtain ⟨u, hu, rfl⟩ := List.getElem_of_mem hx
    obtain ⟨a1, a2, a3⟩ := h.all u hu hu
    obtain ⟨x0, x1⟩ := (hv l (List.mem_of_getElem? hl)).2 _ hx
    obtain ⟨j, hj⟩ := Int.eq_ofNat_of_zero_le x0
    rw [hj, Int.toNat_natCast] at hx1 a3
    obtain ⟨b1, b2⟩ := (on1_bit ls i j k).1 hx1
    have hne : i ≠ k := fun e => by subst e; rw [a3] at b1; cases b1
    obtain ⟨hk, e1, e2⟩ := (lastS_bit h8 j k).1 b1
    refine absurd ⟨(lastS_bit h8 i k).2 ⟨hk, .go hl (by omega) (by rw [← hj]; exact hx) e1, fun he => e2 ?_⟩, hne⟩ b2
    cases he with
    | stop h1 _ => rw [hl] at h1; injection h1 with h1; subst h1; simp at hu
    | @go _ j' l' h1 h2 h3 h4 =>
      rw [hl] at h1; injection h1 with h1; subst h1
      obtain ⟨u', hu', e⟩ := List.getElem_of_mem h3
      have := (h.all u' hu' hu').1
      rw [e, ← a1, hj] at this
      have : j' = j := by omega
      subst this; exact h4
theorem on_empty {ls : List (List Int)} {i : Nat} (hl : ls[i]? = some []) : onS ls i = 0 := by
  unfold onS
  rw [List.getD_eq_getElem?_getD, hl]; rfl
theorem on_last (ls : List (List Int)) (i : Nat) : andN (onS ls i &&& lastS ls i) (2 ^ i) = 0 := set_ext fun k => by
  have h2 := lastS_lt ls i
  rw [Nat.zero_testBit, andN_bit _ (Nat.lt_of_le_of_lt Nat.and_le_right (by omega)), Nat.testBit_and, testBit_pow]
  by_cases e : i = k
  · simp [e]
  · cases hb : (onS ls i).testBit k
    · rfl
    · cases hc : (lastS ls i).testBit k
      · rfl
      · obtain ⟨x, _, hx1⟩ := (onP_bit ls i _ k).1 hb
        exact absurd ⟨hc, e⟩ ((on1_bit ls i _ k).1 hx1).2

set_option maxRecDepth 100000 in
set_option maxHeartbeats 4000000 in
theorem hangOne_calls (A : Option Addr) (ls : List (List Int)) (cap : Nat) (w : World) (hA : RdN w A ls) (hm : ls.length ≤ maxLen) :
    Calls Try.prog 4 #[.slice A ls.length cap] w fun e w' => e = .returned (.bool true) ∧ Below w.heap.size w w' := by
  have HA := Lib.hid hA; clear hA
  by_cases h0 : wayErr ls = 0
  case neg =>
    have hd : (wayErr ls != 0) = true := by simpa using h0
    have hd2 : (wayErr ls == 0) = false := by simpa using h0
    have H0 := Lib.hid h0
    clear h0
    go_enter Try.func4, Try.ntmps4
    go_wp2_with (first
      | (go_at_call 22; refine (on_bad _ _ _ _ HA.out hm H0.out).mono ?_; rintro e w1 ⟨rfl, hW⟩; have HW := Lib.hid hW; clear hW)
      | (go_at_call 23; refine (last_bad _ _ _ _ (RdN.below HA.out HW.out) hm H0.out).mono ?_; rintro e w2 ⟨rfl, hW2⟩; have HW2 := Lib.hid (HW.out.trans (hW2.mono HW.out.size)); clear hW2)
      | (go_at_call 18; refine (may_calls _ _ _ _ (RdN.below HA.out HW2.out) hm).mono ?_; rintro e w3 ⟨rfl, rfl⟩; rw [hd2]))
    go_ret
    exact ⟨rfl, HW2.out⟩
  obtain ⟨h1, h8, hv⟩ := valid_of h0
  have HV := Lib.hid hv; clear hv
  have H0 := Lib.hid h0
  have hd2 : (wayErr ls == 0) = true := by simpa using h0
  clear h0
  have HlenO := Lib.hid (onL_len ls)
  have HlenL := Lib.hid (lastL_len ls)
  go_enter Try.func4, Try.ntmps4
  go_wp2_with (first
    | (go_at_call 22; refine (on_ok _ _ _ _ HA.out H0.out).mono ?_
       rintro e w1 ⟨v, rfl, hown, hW⟩
       obtain ⟨gO, capO, rfl, hgO, hgO2, hcO, _, hcells⟩ := OwnU.at_ hown (by rw [HlenO.out]; omega)
       rw [HlenO.out]
       have HCO := Lib.hid hcells
       have HW := Lib.hid hW
       clear hW hown hcells)
    | (go_at_call 23; refine (last_ok _ _ _ _ (RdN.below HA.out HW.out) H0.out).mono ?_
       rintro e w2 ⟨v, rfl, hown, hW2⟩
       obtain ⟨gL, capL, rfl, hgL, hgL2, hcL, _, hcells⟩ := OwnU.at_ hown (by rw [HlenL.out]; omega)
       rw [HlenL.out]
       have HCL := Lib.hid hcells
       have HW2 := Lib.hid (HW.out.trans (hW2.mono HW.out.size))
       have HCO2 : Hid (∀ i, i < ls.length → w2.cell? ⟨gO, i, none⟩ = some (.int .u32 (onS ls i : Nat))) := fun i hi => by
         have h := HCO.out i (by rw [HlenO.out]; exact hi)
         rw [onL_get] at h
         exact (hW2.cell (p := ⟨gO, i, none⟩) hgO2).trans h
       clear hW2 hown hcells)
    | (go_at_call 18; refine (may_calls _ _ _ _ (RdN.below HA.out HW2.out) hm).mono ?_; rintro e w3 ⟨rfl, rfl⟩; rw [hd2]))
  obtain ⟨wp, rfl⟩ : ∃ wp : World, wp = w3 := ⟨_, rfl⟩
  go_loopw [53] (fun i wr => ∃ k : Nat, k ≤ ls.length ∧ i = .int .i64 k ∧ ∃ nq, wr = wp.drewN nq) (fun i _ => ls.length - (intOf i).toNat)
  case atStart => exact ⟨0, Nat.zero_le _, rfl, 0, rfl⟩
  case round =>
    obtain ⟨i, hi, rfl, nq, hwr⟩ := hrel
    have hW : Below w.heap.size w wr := by rw [hwr]; exact below_dN HW2.out nq
    by_cases hlt : i < ls.length
    · obtain ⟨b, off, A', cap', rfl, hb, c0, hR⟩ := RdN.at_ (RdN.below HA.out hW) hlt
      have hl := Lib.hid (List.getElem?_eq_getElem hlt)
      have hl3 := (HV.out _ (List.getElem_mem hlt)).1
      have Hin := Lib.hid ((HV.out _ (List.getElem_mem hlt)).2)
      have HR := Lib.hid hR
      have cO : wr.cell? ⟨gO, i, none⟩ = some (.int .u32 (onS ls i : Nat)) := by rw [hwr]; exact HCO2.out i hlt
      have HL : Hid (∀ j, j < ls.length → wr.cell? ⟨gL, j, none⟩ = some (.int .u32 (lastS ls j : Nat))) := fun j hj => by
        have h := HCL.out j (by rw [HlenL.out]; exact hj)
        rw [lastL_get] at h
        rw [hwr]; exact h
      have Hwr := Lib.hid hwr
      clear hR hW hwr
      generalize ls[i] = l at *
      go_wp2
      go_loop [9, 63] (fun al t3 => ∃ (t : Nat) (a : Bool), t ≤ l.length ∧ t3 = .int .i64 t ∧ al = .bool a ∧ Hid (a = true → AloneTo ls i l t)) (fun _ t3 => l.length - (intOf t3).toNat)
      case atStart => exact ⟨0, decide (0 < l.length), Nat.zero_le _, rfl, by first | rfl | simp, Lib.hid (fun h => ⟨of_decide_eq_true h, fun u _ h => by omega⟩)⟩
      case round =>
        obtain ⟨t, a, ht, rfl, rfl, hP⟩ := hrel
        by_cases hltt : t < l.length
        · obtain ⟨b3, off3, rfl, hb3, c3⟩ := RdI.at1 HR.out hltt
          obtain ⟨b4, off4, e4, hb4, c4⟩ := RdI.at1 HR.out (show 0 < l.length by omega)
          injection e4 with e4
          injection e4 with e4a e4b
          subst e4a e4b
          rw [Nat.add_zero] at c4
          obtain ⟨x0, x1⟩ := Hin.out _ (List.getElem_mem hltt)
          obtain ⟨j, hj⟩ := Int.eq_ofNat_of_zero_le x0
          have hj8 : j < ls.length := by omega
          have cL := HL.out j hj8
          have hD := lastS_lt ls j
          have Hcl := Lib.hid (fun w => bit_calls (lastS ls j) i w (by omega) (by omega))
          have Hg : Hid (l[0]'(by omega) = l.getD 0 0) := by
            rw [List.getD_eq_getElem?_getD, List.getElem?_eq_getElem (by omega)]; exact Lib.hid rfl
          have q1 : ((j : Nat) : Int) < ((ls.length : Nat) : Int) := by omega
          have Hst := Lib.hid (fun (ha : a = true) (e1 : (j : Int) = l[0]'(by omega)) (e2 : (j : Int) ≠ (i : Int)) (e3 : (lastS ls j).testBit i = false) =>
            (⟨by omega, fun u hu hut => by
              rcases Nat.lt_or_ge u t with h | h
              · exact (hP.out ha).all u hu h
              · have : u = t := by omega
                subst this
                rw [hj]
                exact ⟨e1.trans Hg.out, e2, by rw [Int.toNat_natCast]; exact e3⟩⟩ : AloneTo ls i l (t + 1)))
          rw [hj] at c3
          clear hj x0 x1 hP
          generalize l[0] = y at *
          generalize lastS ls j = D at *
          cases a
          · go_wp2
            go_round
            case rel => exact ⟨t + 1, false, by omega, by go_num, rfl, Lib.hid (fun h => by cases h)⟩
            case measure => simp [intOf]; omega
          · by_cases e1 : (j : Int) = y
            · have d1 : ((j : Int) == y) = true := by rw [beq_iff_eq]; exact e1
              by_cases e2 : (j : Int) = (i : Int)
              · have d2 : ((j : Int) != (i : Int)) = false := by rw [bne_eq_false_iff_eq]; exact e2
                clear e1 e2
                go_wp2
                go_round
                case rel => exact ⟨t + 1, false, by omega, by go_num, rfl, Lib.hid (fun h => by cases h)⟩
                case measure => simp [intOf]; omega
              · have d2 : ((j : Int) != (i : Int)) = true := by rw [bne_iff_ne]; exact e2
                cases e3 : D.testBit i
                · have Hn := Lib.hid (Hst.out rfl e1 e2 e3)
                  rw [e3] at Hcl
                  clear e1 e2 e3
                  go_wp2_with (go_at_call 19; refine (Hcl.out _).mono ?_; rintro e w5 ⟨rfl, rfl⟩)
                  go_round
                  case rel => exact ⟨t + 1, true, by omega, by go_num, rfl, Lib.hid (fun _ => Hn.out)⟩
                  case measure => simp [intOf]; omega
                · rw [e3] at Hcl
                  clear e1 e2 e3
                  go_wp2_with (go_at_call 19; refine (Hcl.out _).mono ?_; rintro e w5 ⟨rfl, rfl⟩)
                  go_round
                  case rel => exact ⟨t + 1, false, by omega, by go_num, rfl, Lib.hid (fun h => by cases h)⟩
                  case measure => simp [intOf]; omega
            · have d1 : ((j : Int) == y) = false := by rw [beq_eq_false_iff_ne]; exact e1
              clear e1
              go_wp2
              go_round
              case rel => exact ⟨t + 1, false, by omega, by go_num, rfl, Lib.hid (fun h => by cases h)⟩
              case measure => simp [intOf]; omega
        · have : t = l.length := by omega
          subst this
          have cL := HL.out i hlt
          have hx := lastS_lt ls i
          have ho := onP_lt ls i (ls.getD i [])
          change onS ls i < _ at ho
          have i32 : i < 32 := by omega
          have r1 := pow_u32 i i32
          have r2 := and_u32 (onS ls i) (lastS ls i) ho (by omega)
          have r3 := andN_u32 (onS ls i &&& lastS ls i) (2 ^ i) (Nat.lt_of_le_of_lt Nat.and_le_right (by omega)) (Nat.lt_of_lt_of_le (Nat.pow_lt_pow_right (by decide) i32) (by decide))
          rw [on_last] at r3
          rw [Int.natCast_pow, show ((2 : Nat) : Int) = 2 from rfl] at r1 r3
          have r4 : (i : Int) % 18446744073709551616 = i := by omega
          have q2 : ((i : Nat) : Int) < ((ls.length : Nat) : Int) := by omega
          have hz : (a = true ∨ l.length = 0) → onS ls i = 0 := fun h => by
            rcases h with h | h
            · exact on_alone h8 HV.out hl.out (hP.out h)
            · have : l = [] := List.eq_nil_of_length_eq_zero h
              subst this
              exact on_empty hl.out
          generalize onS ls i &&& lastS ls i = z at *
          generalize hO : onS ls i = O at *
          generalize lastS ls i = D at *
          clear hO ho hP
          cases a
          · by_cases hl0 : l.length = 0
            · have d1 : ((l.length : Int) == 0) = true := by rw [hl0]; rfl
              have e0 : ((O : Int) != 0) = false := by rw [hz (Or.inr hl0)]; rfl
              clear hz hl0
              go_wp2
              go_quiet (fail)
              go_wp2
              exact ⟨⟨i + 1, by omega, by go_num, _, by rw [Hwr.out, World.drewN_drewN]⟩, by simp [intOf]; omega⟩
            · have d1 : ((l.length : Int) == 0) = false := by rw [beq_eq_false_iff_ne]; omega
              clear hz hl0
              go_wp2
              go_quiet (fail)
              go_wp2
              exact ⟨⟨i + 1, by omega, by go_num, _, by rw [Hwr.out, World.drewN_drewN]⟩, by simp [intOf]; omega⟩
          · have e0 : ((O : Int) != 0) = false := by rw [hz (Or.inl rfl)]; rfl
            clear hz
            go_wp2
            go_quiet (fail)
            go_wp2
            exact ⟨⟨i + 1, by omega, by go_num, _, by rw [Hwr.out, World.drewN_drewN]⟩, by simp [intOf]; omega⟩
    · go_wp2
      go_ret
      exact ⟨rfl, below_dN HW2.out nq⟩
end Go.Proofs.Ytljmignfbagomaa
