/- The law JumpNear answers true. -/
import Derived.Test.YtiphhadhbokgmaaJumpD
namespace Go.Proofs.Ytiphhadhbokgmaa
open Go.RowKit

set_option maxHeartbeats 400000 in
theorem jumpNear_bad (A : Option Addr) (l : List Piece) (cap : Nat) (w : World) (hA : RdP w A l) (hm : l.length ≤ maxLen) (h0 : pErr l ≠ 0) :
    Calls Try.prog 3 #[.slice A l.length cap] w fun e w' => e = .returned (.bool true) ∧ Below w.heap.size w w' := by
  have hb : ((pErr l) != 0) = true := by simpa using h0
  have HA := Lib.hid hA; clear hA
  have Hm := Lib.hid hm; clear hm
  have H0 := Lib.hid h0; clear h0
  go_enter Try.func3, Try.ntmps3
  go_wp2_with (first
    | (go_at_call 9; refine (lay_bad _ _ _ _ HA.out Hm.out H0.out).mono ?_; rintro e w1 ⟨rfl, hW⟩; have HW := Lib.hid hW; clear hW)
    | (go_at_call 10; refine (pieceCheck_calls _ _ _ _ (Rd.below HA.out HW.out) Hm.out).mono ?_; rintro e w2 ⟨rfl, hW2⟩; have HW2 := Lib.hid hW2; clear hW2))
  go_ret
  exact ⟨rfl, HW.out.trans (HW2.out.mono HW.out.size)⟩

set_option maxRecDepth 100000 in
set_option maxHeartbeats 1000000 in
theorem jumpNear_ok (A : Option Addr) (l : List Piece) (cap : Nat) (w : World) (hA : RdP w A l) (h0 : pErr l = 0) :
    Calls Try.prog 3 #[.slice A l.length cap] w fun e w' => e = .returned (.bool true) ∧ Below w.heap.size w w' := by
  have hok := pErr_ok h0
  have hn : l.length ≤ 10 := hok.1
  have H0 := Lib.hid h0; clear h0
  have Hok := Lib.hid hok.2; clear hok
  have HA := Lib.hid hA; clear hA
  go_enter Try.func3, Try.ntmps3
  go_wp2_with fail
  refine (lay_ok _ _ _ _ HA.out H0.out).mono ?_
  rintro e w1 ⟨va, vs, s, rfl, hva, hvs, hI, hN, hW⟩
  have hls := hI.len
  obtain ⟨ga, ca, rfl, hga1, hga2, hga3, hga4, hga5⟩ := OwnI.at_ hva (by simp [begs])
  obtain ⟨As, cs, rfl, hRs⟩ := OwnI.rd hvs
  have hsm := small_of_inv H0.out hI
  have hbl : (begs s).length = l.length + 1 := by simp [begs, hls]
  rw [hbl, hls]
  have hga6 : ∀ j, j ≤ l.length → w1.cell? ⟨ga, j, none⟩ = some (.int .i64 (psum s j)) := fun j hj => by
    rw [hga5 j (by omega)]; simp [begs]
  have Hga := Lib.hid hga6
  have HI := Lib.hid hI
  have HN := Lib.hid hN
  have HW := Lib.hid hW
  have HRs := Lib.hid hRs
  have Hsm := Lib.hid hsm
  have Hls := Lib.hid hls
  have z0 := hga6 0 (by omega)
  rw [show psum s 0 = 0 from rfl] at z0
  have hsz := hW.size
  clear hga3 hga4 hga5 hga6 hI hN hW hRs hsm hva hvs hbl hls
  go_wp2_with (go_at_call 10; refine (pieceCheck_calls _ _ _ _ (Rd.below HA.out HW.out) (by unfold maxLen; omega)).mono ?_; rintro e w2 ⟨rfl, hW2⟩; rw [H0.out]; have z1 := (hW2.cell (p := ⟨ga, 0, none⟩) hga2).trans z0; have HW2 := Lib.hid hW2; clear hW2)
  have hsz2 := HW2.out.size
  go_loopw [45] (fun i wr => ∃ k : Nat, k ≤ l.length ∧ i = .int .i64 k ∧ Below w2.heap.size w2 wr) (fun i _ => l.length - (intOf i).toNat)
  case atStart => exact ⟨0, Nat.zero_le _, rfl, Below.refl _ _⟩
  case round =>
    obtain ⟨k, hk, rfl, hWr⟩ := hrel
    have hwr := hWr.size
    by_cases hlt : k < l.length
    · have hw1 : Below w1.heap.size w1 wr := HW2.out.trans (hWr.mono hsz2)
      have hks : k < s.length := by rw [Hls.out]; exact hlt
      obtain ⟨b, off, rfl, hb, c0, c1, c2⟩ := RdP.at3 (Rd.below (Rd.below HA.out HW.out) hw1) hlt
      obtain ⟨bs, offs, rfl, hbs, d0⟩ := RdI.at1 (Rd.below HRs.out hw1) hks
      have d1 := (hw1.cell (p := ⟨ga, k, none⟩) hga2).trans (Hga.out k (by omega))
      have d2 := (hw1.cell (p := ⟨ga, k + 1, none⟩) hga2).trans (Hga.out (k + 1) (by omega))
      have hps := psum_succ hks
      have b1 := psum_bd Hsm.out k
      have b2 := Hsm.out _ (List.getElem_mem hks)
      have Hp := Lib.hid (Hok.out _ (List.getElem_mem hlt))
      have Hpl := Lib.hid (HI.out.plain k hlt hks)
      have Hjp := Lib.hid (HI.out.jump k hlt hks)
      have Hnr := Lib.hid (HN.out k hlt hks hlt)
      have Hst := Lib.hid (far_stays (l := l) Hsm.out hlt hks)
      have Hfar := Lib.hid (show far s k l[k] = psum s l[k].to.toNat - psum s (k + 1) from rfl)
      have hgr : ga < wr.heap.size := by omega
      rw [hps] at d2
      have Hps := Lib.hid hps
      have HW1 := Lib.hid hw1
      clear hps hw1
      cases hj : l[k].jump
      · rw [hj] at c1
        have e := Hpl.out hj
        rw [e] at d0 b2 d2
        have q : (l[k].bytes != l[k].bytes) = false := by simp
        clear hj e
        generalize l[k] = p at *
        generalize psum s k = x at *
        have q3 : IntKind.i64.wrap ((k : Int) + 1) = (k : Int) + 1 := IntWalk.i64_in _ (by omega)
        have q4 : ((k : Int) + 1).toNat = k + 1 := by omega
        have q5 : (0 : Int) ≤ (k : Int) + 1 := by omega
        have q6 : IntKind.i64.wrap (x + p.bytes) = x + p.bytes := IntWalk.i64_in _ (by omega)
        have q7 : ((x + p.bytes) != (x + p.bytes)) = false := by simp
        have q8 : (k : Int) + 1 < (l.length : Int) + 1 := by omega
        go_wp2
        go_quiet (fail)
        go_wp2
        go_roundw
        case rel => exact ⟨k + 1, by omega, by go_num, below_dN (hWr.alloc hwr _) _⟩
        case measure => simp [intOf]; omega
      · rw [hj] at c1
        obtain ⟨hp0, hpl⟩ := (Hp.out).2 hj
        obtain ⟨n, hn⟩ := Int.eq_ofNat_of_zero_le hp0
        have hfr := Hfar.out
        rw [hn] at c2 hfr hpl
        rw [Int.toNat_natCast, Hps.out] at hfr
        have d3 := (HW1.out.cell (p := ⟨ga, n, none⟩) hga2).trans (Hga.out n (by omega))
        have b3 := psum_bd Hsm.out n
        have q3 : IntKind.i64.wrap ((k : Int) + 1) = (k : Int) + 1 := IntWalk.i64_in _ (by omega)
        have q4 : ((k : Int) + 1).toNat = k + 1 := by omega
        have q5 : (0 : Int) ≤ (k : Int) + 1 := by omega
        have q8 : (k : Int) + 1 < (l.length : Int) + 1 := by omega
        have q9 : (n : Int) < (l.length : Int) + 1 := by omega
        rcases Hjp.out hj with e2 | ⟨e4, hwf⟩
        · have hnr : far s k l[k] ≤ 50 ∧ -50 ≤ far s k l[k] := by
            rcases Hnr.out hj with e | e
            · omega
            · exact e
          rw [hfr] at hnr
          obtain ⟨f1, f2⟩ := hnr
          rw [e2] at d0 d2 f1 f2
          clear hj e2 hfr hn b2
          generalize l[k] = p at *
          generalize psum s k = x at *
          generalize psum s n = y at *
          have q6 : IntKind.i64.wrap (x + 2) = x + 2 := IntWalk.i64_in _ (by omega)
          have q7 : ((x + 2) != (x + 2)) = false := by simp
          have q10 : IntKind.i64.wrap (y - (x + 2)) = y - (x + 2) := IntWalk.i64_in _ (by omega)
          go_wp2
          go_quiet (fail)
          go_wp2
          go_quiet (fail)
          clear q3 q4 q5 q6 q7 q8 q9 q10
          go_wp2
          all_goals
            go_roundw
            case rel => exact ⟨k + 1, by omega, by go_num, below_dN (hWr.alloc hwr _) _⟩
            case measure => simp [intOf]; omega
        · have hst := Hst.out e4 hwf
          rw [hfr] at hst
          obtain ⟨f1, f2⟩ := hst
          rw [e4] at d0 d2 f1 f2
          have Hf1 := Lib.hid f1
          have Hf2 := Lib.hid f2
          clear hj e4 hfr hn hwf f1 f2 b2
          generalize l[k] = p at *
          generalize psum s k = x at *
          generalize psum s n = y at *
          have q6 : IntKind.i64.wrap (x + 4) = x + 4 := IntWalk.i64_in _ (by omega)
          have q7 : ((x + 4) != (x + 4)) = false := by simp
          have q10 : IntKind.i64.wrap (y - (x + 4)) = y - (x + 4) := IntWalk.i64_in _ (by omega)
          by_cases hneg : y - (x + 4) < 0
          · have f3 := Hf1.out hneg
            go_wp2
            go_quiet (fail)
            go_wp2
            go_quiet (fail)
            clear q3 q4 q5 q6 q7 q8 q9 q10
            go_wp2
            all_goals
              go_roundw
              case rel => exact ⟨k + 1, by omega, by go_num, below_dN (hWr.alloc hwr _) _⟩
              case measure => simp [intOf]; omega
          · have f3 := Hf2.out (by omega)
            go_wp2
            go_quiet (fail)
            go_wp2
            go_quiet (fail)
            clear q3 q4 q5 q6 q7 q8 q9 q10
            go_wp2
            all_goals
              go_roundw
              case rel => exact ⟨k + 1, by omega, by go_num, below_dN (hWr.alloc hwr _) _⟩
              case measure => simp [intOf]; omega
    · go_wp2
      go_ret
      exact ⟨rfl, (HW.out.trans (HW2.out.mono HW.out.size)).trans (hWr.mono (by omega))⟩
end Go.Proofs.Ytiphhadhbokgmaa
