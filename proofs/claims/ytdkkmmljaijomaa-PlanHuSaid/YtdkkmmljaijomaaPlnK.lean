/- codemasonref.Once; PlanGraham walked. -/
import Derived.Test.YtdkkmmljaijomaaPlnJ
import Derived.Test.YtdkkmmljaijomaaHasR
namespace Go.Proofs.Ytdkkmmljaijomaa
open Go.RowKit

def OnceEnd (m : Nat) (O : List Int) (w : World) (e : Ending) (w' : World) : Prop := (∃ b : Bool, (b = true ↔ OrdOk m O) ∧ e = .returned (.bool b)) ∧ w' = w
set_option maxHeartbeats 1000000 in
theorem once_calls (m : Nat) (B : Option Addr) (O : List Int) (c2 : Nat) (w : World) (hB : RdI w B O) (hm : O.length ≤ maxLen) :
    Calls Try.prog 25 #[.int .i64 m, .slice B O.length c2] w (OnceEnd m O w) := by
  have hm' := hm
  unfold maxLen at hm'
  have Hh := Lib.hid (fun x => has_calls B O c2 x w hB hm)
  clear hB
  by_cases hl : O.length = m
  case neg =>
    have q2 : (((O.length : Nat) : Int) != ((m : Nat) : Int)) = true := by rw [bne_iff_ne]; omega
    have Hn := Lib.hid (fun h : OrdOk m O => hl h.len)
    clear hl
    go_enter Try.func25, Try.ntmps25
    go_wp2
    go_ret
    exact ⟨⟨false, ⟨(fun h => by cases h), fun h => absurd h Hn.out⟩, rfl⟩, rfl⟩
  have q2 : (((O.length : Nat) : Int) != ((m : Nat) : Int)) = false := by rw [hl]; simp
  have Hl := Lib.hid hl
  have hm1 : m ≤ 9223372036854775807 := by omega
  clear hl hm hm'
  go_enter Try.func25, Try.ntmps25
  go_wp2
  go_loop [5] (fun i => ∃ k : Nat, k ≤ m ∧ i = .int .i64 k ∧ Hid (∀ i, i < k → ((i : Nat) : Int) ∈ O)) (fun i => m - (intOf i).toNat)
  case atStart => exact ⟨0, Nat.zero_le _, rfl, Lib.hid fun i h => by omega⟩
  case round =>
    obtain ⟨k, hk, rfl, hP⟩ := hrel
    by_cases hlt : k < m
    · have q1 : ((k : Nat) : Int) < ((m : Nat) : Int) := by omega
      have Hk := Lib.hid (Hh.out k)
      by_cases hx : ((k : Nat) : Int) ∈ O
      · have Hd := Lib.hid (decide_eq_true hx)
        have Hp2 : Hid (∀ i, i < k + 1 → ((i : Nat) : Int) ∈ O) := Lib.hid fun i hi => by
          by_cases e : i = k
          · subst e; exact hx
          · exact hP.out i (by omega)
        clear hx hP
        go_wp2_with (go_at_call 19; refine Hk.out.mono ?_; rintro e w1 ⟨rfl, rfl⟩; rw [Hd.out])
        go_round
        case rel => exact ⟨k + 1, by omega, by go_num, Hp2⟩
        case measure => simp [intOf]; omega
      · have Hd := Lib.hid (decide_eq_false hx)
        have Hn := Lib.hid (fun h : OrdOk m O => hx (h.all k hlt))
        clear hx hP
        go_wp2_with (go_at_call 19; refine Hk.out.mono ?_; rintro e w1 ⟨rfl, rfl⟩; rw [Hd.out])
        go_ret
        exact ⟨⟨false, ⟨(fun h => by cases h), fun h => absurd h Hn.out⟩, rfl⟩, rfl⟩
    · have : k = m := by omega
      subst this
      go_wp2
      go_ret
      exact ⟨⟨true, ⟨fun _ => ordOk_of Hl.out hP.out, fun _ => rfl⟩, rfl⟩, rfl⟩

set_option maxRecDepth 100000 in
set_option maxHeartbeats 8000000 in
theorem planGraham_u (n h : Int) (A B : Option Addr) (ps : List (Int × Int)) (O : List Int) (cap c2 : Nat) (w : World) (hA : RdP w A ps) (hB : RdI w B O) (hm : ps.length ≤ maxLen) (hm2 : O.length ≤ maxLen) :
    Calls Try.prog 9 #[.int .i64 n, .slice A ps.length cap, .int .i64 h, .slice B O.length c2] w fun e w' => e = .returned (.bool true) ∧ Below w.heap.size w w' := by
  have HA := Lib.hid hA
  have HB := Lib.hid hB
  have Ht := Lib.hid (fun w hA => tasks_calls n A ps cap w hA hm)
  by_cases hbad : plErr n ps ≠ 0 ∨ h < 1 ∨ 8 < h
  · have Hb := Lib.hid (fun w hA => best_bad n h A ps cap w hA hm hbad)
    have Hl := Lib.hid (list_bad n h A B ps O cap c2 w hA hm hbad)
    have hd : (plErr n ps == 0) = false ∨ ((plErr n ps == 0) = true ∧ h < 1) ∨ ((plErr n ps == 0) = true ∧ 1 ≤ h ∧ 8 < h) := by
      simp only [beq_eq_false_iff_ne, beq_iff_eq]; omega
    clear hA hB hm hm2 hbad
    generalize (plErr n ps == 0) = q at *
    rcases hd with rfl | ⟨rfl, h1⟩ | ⟨rfl, h1, h2⟩
    all_goals
      go_enter Try.func9, Try.ntmps9
      go_wp2_with fail
      refine Hl.out.mono ?_
      rintro e w1 ⟨⟨x, hx, rfl⟩, hW⟩
      have HW := Lib.hid hW
      have q : (x != 0) = true := by rw [bne_iff_ne]; exact hx
      clear hW hx
      go_wp2_with fail
      refine (Hb.out _ (Rd.below HA.out HW.out)).mono ?_
      rintro e w2 ⟨⟨y, hy, rfl⟩, hW⟩
      have HW2 := Lib.hid (HW.out.trans (hW.mono HW.out.size))
      clear hW hy
      go_wp2_with (go_at_call 21; refine (Ht.out _ (Rd.below HA.out HW2.out)).mono ?_; rintro e w3 ⟨rfl, hW⟩; have HW3 := Lib.hid (HW2.out.trans (hW.mono HW2.out.size)); clear hW)
      all_goals (try (exfalso; omega; done))
      all_goals (go_ret; exact ⟨rfl, HW3.out⟩)
  have h0 : plErr n ps = 0 := Classical.byContradiction fun h => hbad (.inl h)
  have hh : 1 ≤ h ∧ h ≤ 8 := by omega
  obtain ⟨m, rfl, hok⟩ := plOk_of h0
  obtain ⟨j, rfl⟩ := Int.eq_ofNat_of_zero_le (show 0 ≤ h by omega)
  obtain ⟨rk, hD⟩ := hok.dag
  have HD := Lib.hid hD
  have Hok := Lib.hid hok
  have hn1 := hok.n1
  have hn8 := hok.n8
  have hj1 : 1 ≤ j := by omega
  have hj8 : j ≤ 8 := by omega
  have hml : ps.length ≤ 9223372036854775807 := by unfold maxLen at hm; omega
  have Hb := Lib.hid (fun w hA => best_ok m A ps cap j w hA hm h0 hj1 hj8)
  have Hl := Lib.hid (list_ok m A B ps O cap c2 j w hA hB hm hm2 h0 hj1 hj8)
  have Ho := Lib.hid (fun w hB => once_calls m B O c2 w hB hm2)
  have q : (plErr m ps == 0) = true := by rw [beq_iff_eq]; exact h0
  rw [q] at Ht
  clear hA hB hm hm2 h0 q hD hok hbad hh
  go_enter Try.func9, Try.ntmps9
  go_wp2_with fail
  refine Hl.out.mono ?_
  rintro e w1 (⟨hn, rfl, hW⟩ | ⟨hO, v, T, X, D, rfl, hg, hX, hown, hW⟩)
  · have Hn := Lib.hid hn
    have HW := Lib.hid hW
    clear hn hW
    go_wp2_with fail
    refine (Hb.out _ (Rd.below HA.out HW.out)).mono ?_
    rintro e w2 ⟨k, rfl, -, hW⟩
    have HW2 := Lib.hid (HW.out.trans (hW.mono HW.out.size))
    clear hW
    go_wp2_with (first
      | (go_at_call 21; refine (Ht.out _ (Rd.below HA.out HW2.out)).mono ?_; rintro e w3 ⟨rfl, hW⟩; have HW3 := Lib.hid (HW2.out.trans (hW.mono HW2.out.size)); clear hW)
      | (go_at_call 25; refine (Ho.out _ (Rd.below HB.out HW3.out)).mono ?_; rintro e w4 ⟨⟨b, hb, rfl⟩, rfl⟩; obtain rfl : b = false := (by cases b; rfl; exact absurd (hb.1 rfl) Hn.out); clear hb))
    all_goals (try (exfalso; omega; done))
    all_goals (go_ret; exact ⟨rfl, HW3.out⟩)
  obtain ⟨A1, c1, rfl, hR⟩ := OwnI.rd hown
  rw [lvL_len] at *
  have HO := Lib.hid hO
  have HOw := Lib.hid hown
  have HW := Lib.hid hW
  have Hg := Lib.hid hg
  have HX := Lib.hid hX
  obtain ⟨hmo, hT1⟩ := hg.most hX hn1
  have Hmo := Lib.hid hmo
  have hT8 : T ≤ 8 := by
    have := rch_cnt_le HD.out (rch_of_path (hg.path HD.out hj1) T (Nat.le_refl _))
    have := cnt8_le (D T)
    omega
  clear hW hR hown hO hg hX Hl hmo
  go_wp2_with fail
  refine (Hb.out _ (Rd.below HA.out HW.out)).mono ?_
  rintro e w2 ⟨k, rfl, hk, hW⟩
  have Hgr := Lib.hid (graham HD.out hj1 Hg.out hk hT1)
  have Hge := Lib.hid (Hg.out.best HD.out hj1 hk)
  have hk8 : k ≤ 8 := by have := hk.le_n HD.out; omega
  have HW2 := Lib.hid (HW.out.trans (hW.mono HW.out.size))
  have HO2 := Lib.hid (Own.below HOw.out hW)
  clear hW hk
  go_wp2_with (first
    | (go_at_call 21; refine (Ht.out _ (Rd.below HA.out HW2.out)).mono ?_; rintro e w3 ⟨rfl, hW⟩; have HW3 := Lib.hid (HW2.out.trans (hW.mono HW2.out.size)); have HO3 := Lib.hid (Own.below HO2.out hW); clear hW)
    | (go_at_call 25; refine (Ho.out _ (Rd.below HB.out HW3.out)).mono ?_; rintro e w4 ⟨⟨b, hb, rfl⟩, rfl⟩; obtain rfl : b = true := (hb.2 HO.out); clear hb))
  all_goals (try (exfalso; omega; done))
  go_loopw [68] (fun i wr => ∃ k : Nat, k ≤ ps.length ∧ i = .int .i64 k ∧ OwnI wr w.heap.size 3 (.slice A1 m c1) (lvL m X) ∧ Below w.heap.size w wr) (fun i _ => ps.length - (intOf i).toNat)
  case atStart => exact ⟨0, Nat.zero_le _, rfl, HO3.out, HW3.out⟩
  case round =>
    clear HO2 HW2 HO3 HW3 HOw HW
    obtain ⟨i, hi, rfl, hO, hW⟩ := hrel
    have HOw := Lib.hid hO
    have HW := Lib.hid hW
    have hws := hW.size
    clear hO hW
    by_cases hlt : i < ps.length
    · obtain ⟨b, off, rfl, hb, c0, c1'⟩ := RdP.at2 (Rd.below HA.out HW.out) hlt
      have hp := Hok.out.inn _ (List.getElem_mem hlt)
      have hmem := List.getElem_mem hlt
      have q1 : ((i : Nat) : Int) < ((ps.length : Nat) : Int) := by omega
      generalize ps[i] = p at *
      obtain ⟨x, y⟩ := p
      unfold inP at hp
      dsimp only at hp c0 c1'
      obtain ⟨a1, a2, a3, a4⟩ := hp
      obtain ⟨a, rfl⟩ := Int.eq_ofNat_of_zero_le a1
      obtain ⟨b', rfl⟩ := Int.eq_ofNat_of_zero_le a3
      have am : a < m := by omega
      have bm : b' < m := by omega
      have hlt2 := HX.out.lt HD.out Hg.out (i := a) (j := b') ⟨_, hmem, rfl, rfl⟩
      obtain ⟨g, rfl, _, hg, _, hfz, hcell⟩ := OwnI.at2 HOw.out (by rw [lvL_len]; omega)
      have c3 := hcell a (by rw [lvL_len]; omega)
      have c4 := hcell b' (by rw [lvL_len]; omega)
      rw [lvL_get] at c3 c4
      have h1000 := (HX.out b' bm).1
      generalize X a = xa at *
      generalize X b' = xb at *
      clear hcell hfz hmem a1 a3
      go_wp2
      all_goals
        obtain ⟨w2, hw2e⟩ : ∃ w2, w2 = wr.alloc (.cells #[.int .i64 a, .int .i64 b'] 39) := ⟨_, rfl⟩
        rw [← hw2e]
        have e0 : w2.cell? ⟨wr.heap.size, 0, none⟩ = some (.int .i64 a) := by rw [hw2e]; exact cell_new _ _ _ _ rfl 0
        have e1 : w2.cell? ⟨wr.heap.size, 1, none⟩ = some (.int .i64 b') := by rw [hw2e]; exact cell_new _ _ _ _ rfl 1
        have hB2 : Below wr.heap.size wr w2 := by rw [hw2e]; exact (Below.refl _ _).alloc (Nat.le_refl _) _
        have c3' := (hB2.cell (p := ⟨g, a, none⟩) hg).trans c3
        have c4' := (hB2.cell (p := ⟨g, b', none⟩) hg).trans c4
        have HO2 := Lib.hid (Own.below HOw.out hB2)
        have HW2 := Lib.hid (HW.out.trans (hB2.mono hws))
        clear hw2e hB2 c3 c4 c0 c1'
        go_quiet (fail)
        go_wp2
        all_goals (try (exfalso; omega; done))
        go_roundw
        case rel => exact ⟨i + 1, by omega, by go_num, HO2.out.drewN _, below_dN HW2.out _⟩
        case measure => simp [intOf]; omega
    · obtain ⟨wo, rfl⟩ : ∃ wo : World, wo = wr := ⟨_, rfl⟩
      have HX2 := Lib.hid (OwnI.rd HOw.out)
      have hR : RdI wo A1 (lvL m X) := by
        obtain ⟨A', c', e, h⟩ := OwnI.rd HOw.out
        rw [lvL_len] at e
        injection e with e1 e2 e3
        rw [e1]; exact h
      have HR := Lib.hid hR
      have Hm := Lib.hid (mostL_calls A1 m X c1 wo hR (by omega) fun j hj => by have := (HX.out j hj).1; omega)
      rw [Hmo.out] at Hm
      clear hR HX2
      have hz1 : (j : Int) * (T : Int) ≤ (2 * (j : Int) - 1) * (k : Int) := by
        have h1 : ((j * T : Nat) : Int) ≤ (((2 * j - 1) * k : Nat) : Int) := by have := Hgr.out; omega
        rw [Int.natCast_mul, Int.natCast_mul, show ((2 * j - 1 : Nat) : Int) = 2 * (j : Int) - 1 by omega] at h1
        exact h1
      have hz2 : 0 ≤ (j : Int) * (T : Int) := Int.mul_nonneg (by omega) (by omega)
      have hz3 : (2 * (j : Int) - 1) * (k : Int) ≤ 120 := by
        have h1 : (2 * j - 1) * k ≤ 15 * 8 := Nat.mul_le_mul (by omega) hk8
        have h2 : (((2 * j - 1) * k : Nat) : Int) ≤ 120 := by omega
        rw [Int.natCast_mul, show ((2 * j - 1 : Nat) : Int) = 2 * (j : Int) - 1 by omega] at h2
        exact h2
      have hge : ((k : Nat) : Int) ≤ (T : Int) := by have := Hge.out; omega
      go_wp2
      go_loop [15] (fun t => ∃ t' : Nat, t' ≤ m ∧ t = .int .i64 t') (fun t => m - (intOf t).toNat)
      case atStart => exact ⟨0, Nat.zero_le _, rfl⟩
      case round =>
        obtain ⟨t, ht, rfl⟩ := hrel
        by_cases htl : t < m
        · have Htl := Lib.hid htl
          have q1 : ((t : Nat) : Int) < ((m : Nat) : Int) := by omega
          clear htl
          go_wp2
          go_loop [16, 91] (fun c i => ∃ k : Nat, k ≤ m ∧ i = .int .i64 k ∧ c = .int .i64 (cntB (fun i => decide (i < k ∧ X i = t)) : Nat)) (fun _ i => m - (intOf i).toNat)
          case atStart => exact ⟨0, Nat.zero_le _, rfl, by rw [cntB_none]; rfl⟩
          case round =>
            obtain ⟨i, hi, rfl, rfl⟩ := hrel
            have h9 := cntB_le8 (fun x => decide (x < i ∧ X x = t))
            by_cases hil : i < m
            · have Hil := Lib.hid hil
              have q2 : ((i : Nat) : Int) < ((m : Nat) : Int) := by omega
              obtain ⟨b, off, rfl, hb, c0⟩ := RdI.at1 HR.out (k := i) (by rw [lvL_len]; exact hil)
              rw [lvL_get] at c0
              have Hst := Lib.hid (cntB_step X t i (by omega))
              have hXi := (HX.out i hil).1
              by_cases he : X i = t
              · have Hs2 := Lib.hid (show cntB (fun x => decide (x < i + 1 ∧ X x = t)) = _ + 1 by rw [Hst.out, if_pos he])
                rw [he] at c0
                generalize cntB (fun x => decide (x < i ∧ X x = t)) = c at *
                clear hil he Hst
                go_wp2
                all_goals (try (exfalso; omega; done))
                go_round
                case rel => exact ⟨i + 1, by have := Hil.out; omega, by go_num, by rw [Hs2.out]; go_num⟩
                case measure => have := Hil.out; simp [intOf]; omega
              · have Hs2 := Lib.hid (show cntB (fun x => decide (x < i + 1 ∧ X x = t)) = _ by rw [Hst.out, if_neg he, Nat.add_zero])
                generalize X i = xi at *
                have q3 : (((xi : Nat) : Int) == ((t : Nat) : Int)) = false := by rw [beq_eq_false_iff_ne]; omega
                generalize cntB (fun x => decide (x < i ∧ X x = t)) = c at *
                clear hil Hst
                go_wp2
                all_goals (try (exfalso; omega; done))
                go_round
                case rel => exact ⟨i + 1, by have := Hil.out; omega, by go_num, by rw [Hs2.out]⟩
                case measure => have := Hil.out; simp [intOf]; omega
            · have : i = m := by omega
              subst this
              have hf := HX.out.few Hg.out i t (Nat.le_refl _)
              generalize cntB (fun x => decide (x < i ∧ X x = t)) = c at *
              go_wp2
              all_goals (try (exfalso; omega; done))
              go_round
              case rel => exact ⟨t + 1, by have := Htl.out; omega, by go_num⟩
              case measure => have := Htl.out; simp [intOf]; omega
        · have : t = m := by omega
          subst this
          go_wp2_with (go_at_call 23; refine Hm.out.mono ?_; rintro e w5 ⟨rfl, rfl⟩)
          all_goals (try (exfalso; omega; done))
          all_goals (go_ret; exact ⟨by first | rfl | exact ret_bool (decide_eq_true (by omega)), HW.out⟩)
end Go.Proofs.Ytdkkmmljaijomaa
