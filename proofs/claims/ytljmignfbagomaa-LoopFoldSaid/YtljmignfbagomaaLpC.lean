/- loop.Loops walked. -/
import Derived.Test.YtljmignfbagomaaLpB
namespace Go.Proofs.Ytljmignfbagomaa
open Go.RowKit Go.Shelf

def BkAll (ls : List (List Int)) (bk : List (Int × Int)) : Prop := ∀ p, p ∈ bk ↔ ∃ i j : Nat, p = ((i : Int), (j : Int)) ∧ i < ls.length ∧ j < ls.length ∧ BkP ls (walkL ls) i j
def LoopsE (ls : List (List Int)) (w : World) (e : Ending) (w' : World) : Prop :=
  (wayErr ls ≠ 0 ∧ (∃ v, e = .returned (.tuple #[v, .int .i64 (wayErr ls)])) ∧ Below w.heap.size w w') ∨
  (wayErr ls = 0 ∧ ∃ v bk, e = .returned (.tuple #[v, .int .i64 0]) ∧ OwnU w' w.heap.size 29 v (lpR ls bk) ∧ Left (EdW ls) ls.length (walkL ls) ∧ BkAll ls bk ∧ Below w.heap.size w w')
set_option maxRecDepth 100000 in
set_option maxHeartbeats 8000000 in
theorem loops_calls (A : Option Addr) (ls : List (List Int)) (cap : Nat) (w : World) (hA : RdN w A ls) (hm : ls.length ≤ maxLen) :
    Calls Try.prog 37 #[.slice A ls.length cap] w (LoopsE ls w) := by
  have Hb := Lib.hid (back_calls A ls cap w hA hm)
  have HA := Lib.hid hA
  by_cases h0 : wayErr ls = 0
  case neg =>
    have H0 := Lib.hid h0
    have q : (wayErr ls != 0) = true := by rw [bne_iff_ne]; exact h0
    obtain ⟨x, hx⟩ : ∃ x, x = wayErr ls := ⟨_, rfl⟩
    have Hx := Lib.hid hx
    clear hA h0
    go_enter Try.func37, Try.ntmps37
    go_wp2_with fail
    refine Hb.out.mono ?_
    rintro e w1 (⟨-, ⟨v, rfl⟩, hW⟩ | ⟨h9, -⟩)
    case inr => exact absurd h9 H0.out
    have HW := Lib.hid hW
    rw [← hx] at q ⊢
    clear hW hx
    go_wp2
    go_ret2
    exact .inl ⟨H0.out, ⟨_, by rw [← Hx.out]; rfl⟩, HW.out⟩
  obtain ⟨h1, h8, hv⟩ := wayErr_ok h0
  have HV := Lib.hid hv
  have H0 := Lib.hid h0
  have Hru := Lib.hid (fun w' (h : Below w.heap.size w w') => rules_calls A ls cap w' (HA.out.below h) h0)
  have Hto := Lib.hid (fun w' (h : Below w.heap.size w w') => to_calls A ls cap w' (HA.out.below h) h0)
  have HD := Lib.hid (fun j a => domS_bit h1 h8 hv j a)
  have HZ := Lib.hid (lpR_nil ls)
  clear hA hv h0
  go_enter Try.func37, Try.ntmps37
  go_wp2_with fail
  refine Hb.out.mono ?_
  rintro e w1 (⟨h9, -⟩ | ⟨-, v, bk, rfl, hO, hbl, hL, hbm, hW⟩)
  case inl => exact absurd H0.out h9
  obtain ⟨A3, c3, rfl, hR3⟩ := OwnP.rd hO
  have HP1 := Lib.hid hR3
  have HL := Lib.hid hL
  have HBA : Hid (BkAll ls bk) := Lib.hid hbm
  have HW1 := Lib.hid hW
  have Hru1 := Lib.hid (Hru.out _ hW)
  have hbl2 : bk.length ≤ 64 := hbl
  clear hW hO hR3 hbm hL hbl
  go_wp2_with fail
  refine Hru1.out.mono ?_
  rintro e w2 ⟨v, rfl, hO, hW⟩
  obtain ⟨g4, c4, rfl, hg4, hg4s, -, -, hc4⟩ := OwnU.at_ hO (by rw [rulesL_len]; omega)
  rw [rulesL_len]
  have HC4 := Lib.hid hc4
  have HP2 := Lib.hid (Rd.below HP1.out hW)
  have HW2 := Lib.hid (HW1.out.trans (hW.mono HW1.out.size))
  have Hto2 := Lib.hid (Hto.out _ HW2.out)
  clear hW hO hc4
  go_wp2_with fail
  refine Hto2.out.mono ?_
  rintro e w3 ⟨v, rfl, hO, hW⟩
  obtain ⟨g5, c5, rfl, hg5, hg5s, -, -, hc5⟩ := OwnU.at_ hO (by rw [toR_len]; omega)
  rw [toR_len]
  have HC5 := Lib.hid hc5
  have HC4' : Hid (∀ k (hk : k < (rulesL ls).length), w3.cell? ⟨g4, k, none⟩ = some (.int .u32 ((rulesL ls)[k] : Nat))) := Lib.hid (fun k hk => (hW.cell (p := ⟨g4, k, none⟩) hg4s).trans (HC4.out k hk))
  have hg4t : g4 < w3.heap.size := by have := hW.size; omega
  have HP3 := Lib.hid (Rd.below HP2.out hW)
  have HW3 := Lib.hid (HW2.out.trans (hW.mono HW2.out.size))
  have hz3 := HW3.out.size
  clear hW hO hc5 HC4 Hb Hru Hto Hru1 Hto2
  go_wp2_with (first
    | (at_make; refine wpList_makeU rfl _ _ rfl w3.heap.size ls.length rfl rfl (by omega) (Nat.le_refl _) ?_; intro w4 hown4 hgrow4)
    | fail)
  have hW4 := (Below.refl w3.heap.size w3).grown hgrow4 (Nat.le_refl _) (fun k hk => by cases hk)
  rw [← HZ.out] at hown4
  go_loopw [35] (fun i wr => ∃ k : Nat, k ≤ bk.length ∧ i = .int .i64 k ∧ OwnU wr w3.heap.size 29 (.slice (some ⟨w3.heap.size, 0, none⟩) ls.length ls.length) (lpR ls (bk.take k)) ∧ Below w3.heap.size w3 wr) (fun i _ => bk.length - (intOf i).toNat)
  case atStart => exact ⟨0, Nat.zero_le _, rfl, hown4, hW4⟩
  case round =>
    clear hown4 hW4 hgrow4
    obtain ⟨k, hk, rfl, hown, hW⟩ := hrel
    have Hown := Lib.hid hown
    have HWr := Lib.hid hW
    have hwr := hW.size
    by_cases hlt : k < bk.length
    · obtain ⟨b2, off2, rfl, hb2, d0', d1'⟩ := RdP.at2 HP3.out hlt
      have d0 := (hW.cell (p := ⟨b2, off2 + k * 2, none⟩) hb2).trans d0'
      have d1 := (hW.cell (p := ⟨b2, off2 + k * 2 + 1, none⟩) hb2).trans d1'
      obtain ⟨t, h, ep, ht, hh, -⟩ := (HBA.out _).1 (List.getElem_mem hlt)
      have e1 : bk[k].1 = (t : Int) := by rw [ep]
      have e2 : bk[k].2 = (h : Int) := by rw [ep]
      rw [e1] at d0
      rw [e2] at d1
      have Htk : Hid (bk.take (k + 1) = bk.take k ++ [((t : Int), (h : Int))]) := Lib.hid (by rw [List.take_succ_eq_append_getElem hlt, ep])
      have q1 : ((k : Nat) : Int) < ((bk.length : Nat) : Int) := by omega
      have q2 : ((t : Nat) : Int) < ((ls.length : Nat) : Int) := by omega
      have q3 : ((h : Nat) : Int) < ((ls.length : Nat) : Int) := by omega
      have c4' := HC4'.out t (by rw [rulesL_len]; exact ht)
      rw [rulesL_get] at c4'
      have C4 := Lib.hid c4'
      have hDs := domS_lt ls t
      have p1 := test_u32 (domS ls t) h (by omega)
      have h32 : h < 32 := by omega
      have t32 : t < 32 := by omega
      have HDt := Lib.hid (HD.out t h)
      have HOa := Lib.hid (fun nq => (Own.alloc hown (.cells #[.int .i64 t, .int .i64 h] 51)).drewN nq)
      have HWa := Lib.hid (fun nq => below_dN (hW.alloc hwr (.cells #[.int .i64 t, .int .i64 h] 51)) nq)
      clear hown hW d0' d1' ep e1 e2 c4'
      generalize domS ls t = D at *
      go_wp2
      go_quiet (fail)
      obtain ⟨w6, hw6⟩ : ∃ w6, w6 = (wr.alloc (.cells #[.int .i64 t, .int .i64 h] 51)).drewN nq := ⟨_, rfl⟩
      have HO6 : Hid (OwnU w6 w3.heap.size 29 (.slice (some ⟨w3.heap.size, 0, none⟩) ls.length ls.length) (lpR ls (bk.take k))) := Lib.hid (by rw [hw6]; exact HOa.out nq)
      have HW6 : Hid (Below w3.heap.size w3 w6) := Lib.hid (by rw [hw6]; exact HWa.out nq)
      have c4 := (HW6.out.cell (p := ⟨g4, t, none⟩) hg4t).trans C4.out
      rw [← hw6]
      clear HOa HWa hw6 C4 d0 d1 HWr Hown
      cases hb : D.testBit h
      · rw [hb] at p1
        have HO : Hid (OwnU w6 w3.heap.size 29 (.slice (some ⟨w3.heap.size, 0, none⟩) ls.length ls.length) (lpR ls (bk.take (k + 1)))) := Lib.hid (by
          rw [Htk.out, lpR_no (fun hd => by rw [HDt.out.2 hd] at hb; cases hb)]
          exact HO6.out)
        clear hb HO6
        go_wp2
        go_roundw
        case rel => exact ⟨k + 1, by omega, by go_num, HO.out, HW6.out⟩
        case measure => simp [intOf]; omega
      · rw [hb] at p1
        have Hd := Lib.hid (HDt.out.1 hb)
        have r1 := pow_u32 h h32
        have r2 := pow_u32 t t32
        have ph : 2 ^ h < 2 ^ 8 := Nat.pow_lt_pow_right (by decide) (by omega)
        have pt : 2 ^ t < 2 ^ 8 := Nat.pow_lt_pow_right (by decide) (by omega)
        have r3 := or_u32 (2 ^ h) (2 ^ t) (by omega) (by omega)
        have Hst := Lib.hid (LpI.start hh ht)
        rw [Int.natCast_pow, Int.natCast_pow, show ((2 : Nat) : Int) = 2 from rfl] at r3
        rw [Int.natCast_pow, show ((2 : Nat) : Int) = 2 from rfl] at r1 r2
        clear hb ph pt
        generalize 2 ^ h ||| 2 ^ t = s0 at *
        go_wp2
        go_quiet (fail)
        obtain ⟨w7, hw7⟩ : ∃ w7, w7 = w6.drewN nq := ⟨_, rfl⟩
        have HO7 : Hid (OwnU w7 w3.heap.size 29 (.slice (some ⟨w3.heap.size, 0, none⟩) ls.length ls.length) (lpR ls (bk.take k))) := Lib.hid (by rw [hw7]; exact HO6.out.drewN nq)
        have HW7 : Hid (Below w3.heap.size w3 w7) := Lib.hid (by rw [hw7]; exact below_dN HW6.out nq)
        rw [← hw7]
        clear HO6 HW6 hw7 r1 r2 r3 p1 c4
        go_wp2
        go_loopg [13, 14] (8 - cnt8 s0 + 1) (fun g s m wr => ∃ (s' : Nat) (b : Bool), s = .int .u32 s' ∧ m = .bool b ∧ Hid (LpI ls h t s') ∧ Hid (b = true → 8 - cnt8 s' < g) ∧ Hid (b = false → LpC ls h s') ∧ wr = w7)
        case atStart => exact ⟨s0, true, rfl, rfl, Hst, Lib.hid (fun _ => by omega), Lib.hid (fun h => by cases h), rfl⟩
        case round =>
          clear Hst
          obtain ⟨s', b, rfl, rfl, HI, Hlt, HC, rfl⟩ := hrel
          cases b
          · have Hall := Lib.hid (fun a => HI.out.all (HC.out rfl) a)
            have hs8 := HI.out.small h8
            have Hnew := Lib.hid (lpR_yes (bk := bk.take k) Hd.out Hall.out hs8)
            rw [← Htk.out] at Hnew
            obtain ⟨g, eg, _, _, _, hfz, hcell⟩ := OwnU.at2 HO7.out (by rw [lpR_len]; omega)
            injection eg with eg; injection eg with eg
            subst eg
            have f1 := hfz h
            have c9 := hcell h (by rw [lpR_len]; exact hh)
            rw [lpR_get] at c9
            have hy0 : setN (lpP ls (bk.take k) h) < 256 := setN_lt _
            have r2 := or_u32 (setN (lpP ls (bk.take k) h)) s' (by omega) (by omega)
            have Hown' := Lib.hid (OwnU.set_ HO7.out (k := h) (by rw [lpR_len]; exact hh) (setN (lpP ls (bk.take k) h) ||| s'))
            rw [Hnew.out] at Hown'
            clear hfz hcell Hnew Hall HI HC Hlt
            generalize setN (lpP ls (bk.take k) h) ||| s' = y at *
            generalize setN (lpP ls (bk.take k) h) = z at *
            go_wp2
            go_roundw
            case rel => exact ⟨k + 1, by omega, by go_num, Hown'.out, HW7.out.setCell (Nat.le_refl _) _⟩
            case measure => simp [intOf]; omega
          · have Hlt := Lib.hid (fun (_ : True) => Hlt.out rfl)
            clear HC
            go_wp2
            go_loopw [13, 60] (fun s i wr2 => ∃ (s2 k2 : Nat), k2 ≤ ls.length ∧ s = .int .u32 s2 ∧ i = .int .i64 k2 ∧ Hid (LpJ ls h t s' s2 k2) ∧ wr2 = wr) (fun _ i _ => ls.length - (intOf i).toNat)
            case atStart => exact ⟨s', 0, Nat.zero_le _, rfl, rfl, Lib.hid (LpJ.start HI.out), rfl⟩
            case round =>
              obtain ⟨s2, k2, hk2, rfl, rfl, HJ, rfl⟩ := hrel
              by_cases hlt2 : k2 < ls.length
              · have q4 : ((k2 : Nat) : Int) < ((ls.length : Nat) : Int) := by omega
                have c5' := (HW7.out.cell (p := ⟨g5, k2, none⟩) hg5s).trans (HC5.out k2 (by rw [toR_len]; exact hlt2))
                have hfl := from_lt (ls := ls) (i := ls.length) (t := 0) (b := k2) (by rw [toR_len]; exact hlt2)
                have Hfb := Lib.hid (fun a => from_bit h8 (b := k2) (by rw [toR_len]; exact hlt2) a)
                have hs2 := HJ.out.i.small h8
                have p4 := test1_u32 s2 k2 (by omega)
                have k232 : k2 < 32 := by omega
                generalize (toR ls ls.length 0)[k2]'(by rw [toR_len]; exact hlt2) = f at *
                have r4 := or_u32 s2 f (by omega) (by omega)
                by_cases he : k2 = h
                · have q5 : ((k2 : Int) != (h : Int)) = false := by rw [bne_eq_false_iff_eq]; omega
                  have HJ2 := Lib.hid (HJ.out.skip (.inl he))
                  clear he p4 r4
                  go_wp2
                  go_roundw
                  case rel => exact ⟨s2, k2 + 1, by omega, rfl, by go_num, HJ2, by first | rfl | trivial⟩
                  case measure => simp [intOf]; omega
                · have q5 : ((k2 : Int) != (h : Int)) = true := by rw [bne_iff_ne]; omega
                  cases hb : s2.testBit k2
                  · rw [hb] at p4
                    have HJ2 := Lib.hid (HJ.out.skip (.inr hb))
                    clear he hb r4
                    go_wp2
                    go_roundw
                    case rel => exact ⟨s2, k2 + 1, by omega, rfl, by go_num, HJ2, by first | rfl | trivial⟩
                    case measure => simp [intOf]; omega
                  · rw [hb] at p4
                    have HJ2 := Lib.hid (HJ.out.put he hb Hfb.out)
                    clear he hb
                    generalize s2 ||| f = y at *
                    go_wp2
                    go_roundw
                    case rel => exact ⟨y, k2 + 1, by omega, rfl, by go_num, HJ2, by first | rfl | trivial⟩
                    case measure => simp [intOf]; omega
              · have hke : k2 = ls.length := by omega
                subst hke
                by_cases he : s2 = s'
                · subst he
                  have q6 : ((s2 : Int) != (s2 : Int)) = false := by simp
                  have HC := Lib.hid HJ.out.fin
                  have HI2 := Lib.hid HJ.out.i
                  clear HJ
                  go_wp2
                  go_roundg 0
                  case measure => have := Hlt.out trivial; omega
                  case rel => exact ⟨s2, false, rfl, rfl, HI2, Lib.hid (fun h => by cases h), Lib.hid (fun _ => HC.out), rfl⟩
                · have q6 : ((s2 : Int) != (s' : Int)) = true := by rw [bne_iff_ne]; omega
                  have hc1 := HJ.out.more h8 he
                  have hc2 := cnt8_le s2
                  have HI2 := Lib.hid HJ.out.i
                  have Hc := Lib.hid (show 8 - cnt8 s2 < 8 - cnt8 s' by omega)
                  clear HJ hc1 hc2 he
                  go_wp2
                  go_roundg (8 - cnt8 s')
                  case measure => exact Hlt.out trivial
                  case rel => exact ⟨s2, true, rfl, rfl, HI2, Lib.hid (fun _ => Hc.out), Lib.hid (fun h => by cases h), rfl⟩
    · have hke : k = bk.length := by omega
      subst hke
      have HO : Hid (OwnU wr w3.heap.size 29 (.slice (some ⟨w3.heap.size, 0, none⟩) ls.length ls.length) (lpR ls bk)) := Lib.hid (by have := hown; rwa [List.take_length] at this)
      clear hown hW Hown
      go_wp2
      go_ret2
      exact .inr ⟨H0.out, _, bk, rfl, HO.out.base_ hz3, HL.out, HBA.out, HW3.out.trans (HWr.out.mono hz3)⟩
end Go.Proofs.Ytljmignfbagomaa
