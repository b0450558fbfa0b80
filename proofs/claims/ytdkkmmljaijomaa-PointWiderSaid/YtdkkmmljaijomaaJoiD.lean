/- PointWider walked. -/
import Derived.Test.YtdkkmmljaijomaaJoiC
import Derived.Test.YtdkkmmljaijomaaInR
import Derived.Test.YtdkkmmljaijomaaPtG
namespace Go.Proofs.Ytdkkmmljaijomaa
set_option maxRecDepth 100000
open Go.RowKit

/-- Of classes: wider than the sets; the same, or nothing in common. -/
structure WidR (m : Nat) (l : List Pt) (r : List Nat) : Prop where
  len : r.length = m
  lt : ∀ (i : Nat) (h : i < r.length), r[i] < 256
  sup : ∀ (i : Nat) (h : i < r.length), (ptS l i ||| r[i] == r[i]) = true
  one : ∀ (i j : Nat) (h : i < r.length) (k : j < r.length), r[i] &&& r[j] ≠ 0 → r[i] = r[j]
theorem joined2 (n : Int) (A : Option Addr) (l : List Pt) (cap : Nat) (w : World) (hA : RdPt w A l) (hm : l.length ≤ maxLen) :
    Calls Try.prog 32 #[.int .i64 n, .slice A l.length cap] w fun e w' => Below w.heap.size w w' ∧ ∃ B r c, e = .returned (.tuple #[.slice B r.length c, .int .i64 (ptErr n l [])]) ∧ RdU w' B r ∧ r.length ≤ 8 ∧ (ptErr n l [] = 0 → ∃ m : Nat, n = m ∧ WidR m l r) := by
  refine (joined_calls n A l cap w hA hm).mono ?_
  rintro e w' ⟨hB, ⟨h0, rfl⟩ | ⟨m, o, t, rfl, ok, hc, hcl, v, rfl, hown⟩⟩
  · exact ⟨hB, none, [], 0, rfl, Rd.nil_, by simp, fun h => absurd h h0⟩
  · obtain ⟨A1, c1, rfl, hR⟩ := hown.rd
    have he : ptErr m l [] = 0 := by
      unfold ptErr
      rw [if_neg (by unfold ptBig; have := ok.n1; have := ok.n8; have := ok.len; simp; omega), if_neg (fun hx => hx (ptErrs_of fun p hp => ⟨ok.kind p hp, ok.ins p hp⟩))]
      rfl
    refine ⟨hB, A1, joL m o t, c1, by rw [he], hR, by rw [joL_len]; exact ok.n8, fun _ => ⟨m, rfl, joL_len, fun i h => ?_, fun i h => ?_, fun i j h k => ?_⟩⟩
    · rw [joL_get]; exact joS_lt i
    · rw [joL_get, in_iff]; exact jo_sup hc ok hcl i
    · rw [joL_get, joL_get]
      intro hne
      by_cases hx : ∃ x, (joS o t m i &&& joS o t m j).testBit x = true
      · obtain ⟨x, hx⟩ := hx
        rw [Nat.testBit_and, Bool.and_eq_true] at hx
        exact jo_one ok.n8 i j ⟨x, hx⟩
      · exact absurd (set_ext fun x => by
          rw [Nat.zero_testBit]
          cases hb : (joS o t m i &&& joS o t m j).testBit x
          · rfl
          · exact absurd ⟨x, hb⟩ hx) hne
set_option maxHeartbeats 8000000 in
theorem pointWider_calls (n : Int) (A : Option Addr) (l : List Pt) (cap : Nat) (w : World) (hA : RdPt w A l) (hm : l.length ≤ maxLen) :
    Calls Try.prog 13 #[.int .i64 n, .slice A l.length cap] w fun e w' => e = .returned (.bool true) ∧ Below w.heap.size w w' := by
  have HA := Lib.hid hA; clear hA
  have Hp := Lib.hid (show ptErr n l [] = 0 ∨ ptErr n l [] ≠ 0 from Classical.em _)
  go_enter Try.func13, Try.ntmps13
  go_wp2_with fail
  refine (within2 n A l cap w HA.out hm).mono ?_
  rintro e w1 ⟨hB, B1, r1, c1, rfl, hR1, hl1, h1⟩
  have HB1 := Lib.hid hB
  have hw1 := hB.size
  have HR1 := Lib.hid hR1
  have H1 := Lib.hid h1
  have HA1 := Lib.hid (Rd.below HA.out hB)
  clear hB hR1 h1
  go_wp2_with fail
  refine (joined2 n A l cap w1 HA1.out hm).mono ?_
  rintro e w2 ⟨hB, B2, r2, c2, rfl, hR2, hl2, h2⟩
  have HB2 := Lib.hid (show Below w.heap.size w w2 from HB1.out.trans (hB.mono hw1))
  have HR12 := Lib.hid (Rd.below HR1.out hB)
  have HR2 := Lib.hid hR2
  have H2 := Lib.hid h2
  have HA2 := Lib.hid (Rd.below HA1.out hB)
  have hw2 : w.heap.size ≤ w2.heap.size := HB2.out.size
  clear hB hR2 h2
  rcases Hp.out with he | he
  · have He := Lib.hid he
    obtain ⟨m, rfl, ok, hr1⟩ := H1.out he
    obtain ⟨m', hm', hW⟩ := H2.out he
    have hmm : m = m' := by omega
    subst hmm
    have hl1' : r1.length = m := by rw [hr1, ptL_len]
    have hl2' := hW.len
    have HW := Lib.hid hW
    have Hr1 := Lib.hid hr1
    have Hl1 := Lib.hid hl1'
    have Hl2 := Lib.hid hl2'
    rw [hl1', hl2']
    clear he hm' hW hr1 H1 H2 Hp
    rw [hl1'] at hl1
    clear hl1' hl2' hl2
    go_wp2_with (go_at_call 27; refine (pointCheck_calls m _ none l [] _ 0 _ HA2.out hm Rd.nil_ (by simp)).mono ?_; rintro e w3 ⟨rfl, hB⟩; rw [He.out]; have HB3 := Lib.hid (show Below w.heap.size w w3 from HB2.out.trans (hB.mono hw2)); have HR13 := Lib.hid (Rd.below HR12.out hB); have HR23 := Lib.hid (Rd.below HR2.out hB); clear hB)
    clear HB1 HB2 HR1 HR12 HR2 HA1 HA2
    go_loopw [9] (fun ii wr => ∃ (i : Nat), i ≤ m ∧ ii = .int .i64 i ∧ ∃ nq, wr = w3.drewN nq) (fun ii _ => m - (intOf ii).toNat)
    case atStart => exact ⟨0, Nat.zero_le _, rfl, 0, rfl⟩
    case round =>
      obtain ⟨i, hi, rfl, n1, hwr⟩ := hrel
      have Hwr := Lib.hid hwr
      have HRa : Hid (RdU wr B1 r1) := Lib.hid (by rw [hwr]; exact HR13.out.drewN n1)
      have HRb : Hid (RdU wr B2 r2) := Lib.hid (by rw [hwr]; exact HR23.out.drewN n1)
      clear hwr
      by_cases him : i < m
      · have hi1 : i < r1.length := by have := Hl1.out; omega
        have hi2 : i < r2.length := by have := Hl2.out; omega
        obtain ⟨b1, off1, rfl, hb1, d1⟩ := RdU.at1 HRa.out hi1
        obtain ⟨b2, off2, rfl, hb2, d2⟩ := RdU.at1 HRb.out hi2
        have hx : r1[i] = ptS l i := by
          have h1 := Hr1.out
          subst h1
          exact ptL_get m l i hi1
        rw [hx] at d1
        have x1 := ptS_lt l i
        have x2 := HW.out.lt i hi2
        have q1 : ((i : Nat) : Int) < ((m : Nat) : Int) := by omega
        have Hcl := Lib.hid (fun w => in_calls (ptS l i) r2[i] w (by omega) (by omega))
        rw [HW.out.sup i hi2] at Hcl
        have Hone : Hid (∀ (j : Nat) (k : j < r2.length), r2[i] &&& r2[j] ≠ 0 → r2[i] = r2[j]) := Lib.hid (fun j k => HW.out.one i j hi2 k)
        have Hd2 : Hid (∀ j (k : j < r2.length), r2[j] < 256) := Lib.hid (fun j k => HW.out.lt j k)
        clear hx
        generalize ptS l i = x at *
        generalize hy : r2[i] = y at *
        have Hy := Lib.hid hy
        clear hy
        go_wp2
        go_quiet ((go_at_call 29; exact Calls.quiet_of_same (Hcl.out _)))
        go_wp2
        have Hw0 : Hid (∃ nz, wr.drewN nq = w3.drewN nz) := Lib.hid ⟨n1 + nq, by rw [Hwr.out, World.drewN_drewN]⟩
        clear HRa HRb Hcl d1 d2 x1 x2
        generalize wr.drewN nq = wr0 at *
        go_loopw [10] (fun jj wr => ∃ (j : Nat), j ≤ m ∧ jj = .int .i64 j ∧ ∃ nq, wr = w3.drewN nq) (fun jj _ => m - (intOf jj).toNat)
        case atStart => exact ⟨0, Nat.zero_le _, rfl, Hw0.out⟩
        case round =>
          clear Hw0
          obtain ⟨j, hj, rfl, n2, hwr⟩ := hrel
          have Hwr := Lib.hid hwr
          have HRb : Hid (RdU wr (some ⟨b2, off2, none⟩) r2) := Lib.hid (by rw [hwr]; exact HR23.out.drewN n2)
          clear hwr
          by_cases hjm : j < m
          · have hj2 : j < r2.length := by have := Hl2.out; omega
            have hi2 : i < r2.length := by have := Hl2.out; omega
            obtain ⟨b3, off3, e3, hb3, d1⟩ := RdU.at1 HRb.out hi2
            injection e3 with e3; injection e3 with e3 e4
            subst e3 e4
            obtain ⟨b3, off3, e3, hb3, d2⟩ := RdU.at1 HRb.out hj2
            injection e3 with e3; injection e3 with e3 e4
            subst e3 e4
            rw [Hy.out] at d1
            have h1 := Hone.out j hj2
            have x1 : y < 256 := by rw [← Hy.out]; exact Hd2.out i hi2
            have x2 := Hd2.out j hj2
            have q2 : ((j : Nat) : Int) < ((m : Nat) : Int) := by omega
            have a1 := and_u32 y r2[j] (by omega) (by omega)
            generalize r2[j] = z at *
            by_cases hz : y &&& z = 0
            · rw [hz] at a1
              clear h1 hz x1 x2
              go_wp2
              go_quiet (fail)
              go_wp2
              go_roundw
              case rel => exact ⟨j + 1, by omega, by go_num, _, by rw [Hwr.out, World.drewN_drewN]⟩
              case measure => simp [intOf]; omega
            · have h2 := h1 hz
              subst h2
              have a2 : (((y &&& y : Nat) : Int) != 0) = true := by rw [bne_iff_ne]; omega
              clear h1 hz x1 x2
              generalize y &&& y = u at *
              go_wp2
              go_quiet (fail)
              go_wp2
              go_roundw
              case rel => exact ⟨j + 1, by omega, by go_num, _, by rw [Hwr.out, World.drewN_drewN]⟩
              case measure => simp [intOf]; omega
          · go_wp2
            go_roundw
            case rel => exact ⟨i + 1, by omega, by go_num, n2, Hwr.out⟩
            case measure => simp [intOf]; omega
      · go_wp2
        go_ret
        exact ⟨rfl, by rw [Hwr.out]; exact below_dN HB3.out n1⟩
  · have q1 : (ptErr n l [] != 0) = true := by rw [bne_iff_ne]; exact he
    clear he H1 H2 Hp
    go_wp2_with (go_at_call 27; refine (pointCheck_calls n _ none l [] _ 0 _ HA2.out hm Rd.nil_ (by simp)).mono ?_; rintro e w3 ⟨rfl, hB⟩; have HB3 := Lib.hid (show Below w.heap.size w w3 from HB2.out.trans (hB.mono hw2)); clear hB)
    go_ret
    exact ⟨rfl, HB3.out⟩
end Go.Proofs.Ytdkkmmljaijomaa
