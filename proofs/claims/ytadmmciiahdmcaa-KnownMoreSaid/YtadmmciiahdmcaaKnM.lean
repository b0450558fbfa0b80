/- KnownMore walked (written by knmore.py). -/
import Derived.Test.YtadmmciiahdmcaaKnW
import Derived.Test.YtadmmciiahdmcaaBlkD
import Derived.Test.YtadmmciiahdmcaaBlkE
import Derived.BigQuiet
import Derived.Deep.QuietTactic
namespace Go.Proofs.Ytadmmciiahdmcaa
open Go.RowKit

/-- What reads as rows reads on where a block that came later is stored into. -/
theorem RdN.set3 {w6 w3 : World} {A : Option Addr} {ls : List (List Int)} {g : Nat} (_h : RdN w6 A ls) (h3 : RdN w3 A ls) (hb : Below w3.heap.size w3 w6) (i : Nat) (u : Value) (hg : w3.heap.size ≤ g) : RdN (w6.setCell ⟨g, i, none⟩ u) A ls :=
  RdN.below h3 (hb.setCell (p := ⟨g, i, none⟩) hg u)
theorem PostL.weaker {vars : Int} {p : List Blk} {h0 h1 : List Int} {F : List (List Int)} (h : PostL vars p h1 F) (hs : leK h0 h1) : PostL vars p h0 F := ⟨h.len, h.wid, ⟨h.start.1, hs.trans h.start.2⟩, h.step⟩
theorem lessErr {vars : Int} {st : List Int} (h : startErr vars st = 0) (i : Nat) (hi : i < st.length) : startErr vars (st.set i (-1)) = 0 ∧ leK st (st.set i (-1)) := by
  obtain ⟨h1, h2⟩ := startErr_ok h
  constructor
  · unfold startErr
    rw [if_neg (by rw [List.length_set]; omega), if_neg]
    rw [List.any_eq_true]
    rintro ⟨x, hx, hb⟩
    have hb := of_decide_eq_true hb
    rcases List.mem_or_eq_of_mem_set hx with h3 | rfl
    · have := h2 x h3; omega
    · omega
  · refine ⟨(List.length_set ..).symm, fun j hj => ?_⟩
    rw [List.length_set] at hj
    rw [getK_set _ _ hi]
    by_cases e : i = j
    · rw [if_pos e]; exact .inl rfl
    · rw [if_neg e]; exact .inr rfl

set_option maxRecDepth 100000 in
set_option maxHeartbeats 4000000 in
theorem knownMore_u (vars : Int) (A B : Option Addr) (p : List Blk) (st : List Int) (v : Int) (cap capB : Nat) (w : World) (hA : RdBk w A p) (hB : RdI w B st) (hm : p.length ≤ maxLen) (hmc : smallB p) (hm' : st.length ≤ maxLen) :
    Calls Try.prog 8 #[.int .i64 vars, .slice A p.length cap, .slice B st.length capB, .int .i64 v] w fun e w' => e = .returned (.bool true) ∧ Below w.heap.size w w' := by
  have HA := Lib.hid hA
  have HB := Lib.hid hB
  clear hA hB
  have Hpc := Lib.hid (fun w hA => progCheck_calls vars A p cap w hA hm hmc)
  have Hsc := Lib.hid (fun w hB => startCheck_calls vars B st capB w hB hm')
  by_cases hr : pkErr vars p = 0 ∧ startErr vars st = 0
  · obtain ⟨r1, r2⟩ := hr
    have HP := Lib.hid (pok_of r1)
    have R1 := Lib.hid r1
    have R2 := Lib.hid r2
    have Hst := Lib.hid (startErr_ok r2)
    rw [r1] at Hpc
    rw [r2] at Hsc
    have Hin := Lib.hid (knIn_ok vars A B p st cap capB w HA.out HB.out hm hmc hm' r1 r2)
    have n1 := HP.out.n1
    have n8 := HP.out.n8
    have v1 := HP.out.v1
    have v6 := HP.out.v6
    have hl1 : ((st.length : Nat) : Int) ≤ vars := by have := Hst.out.1; omega
    have hl2 : vars ≤ ((st.length : Nat) : Int) := by have := Hst.out.1; omega
    clear r1 r2
    go_enter Try.func8, Try.ntmps8
    go_wp2_with fail
    refine Hin.out.mono ?_
    rintro e w1 ⟨Fa, vals, b, B', rfl, hS, hL, hbb, hW⟩
    have HW1 := Lib.hid hW
    have HR1 := Lib.hid hL.ll.rd
    have HS := Lib.hid hS
    clear hS hL hW Hin vals hbb
    go_wp2_with (first
      | (go_at_call 23; refine (Hpc.out _ (HA.out.below HW1.out)).mono ?_; rintro e w2 ⟨rfl, hW⟩; have HW2 := Lib.hid (HW1.out.trans (hW.mono HW1.out.size)); have HR2 := Lib.hid (RdN.below HR1.out hW); clear hW)
      | (go_at_call 30; refine (Hsc.out _ (Rd.below HB.out HW2.out)).mono ?_; rintro e w3 ⟨rfl, rfl⟩
         have hw3 := HW2.out.size
         have HE := Lib.hid (own_new intCells 1 3 intCells_len w3 w3.heap.size (Nat.le_refl _) [] (by simp [maxLen]))
         have HR := Lib.hid (Rd.below (Rd.below HB.out HW2.out) ((Below.refl w3.heap.size w3).alloc (Nat.le_refl _) (.cells #[] 3)))
         obtain ⟨v3, w6, hrun, hO3, hg3, -⟩ := run_appN (P := Try.prog) 23 23 intCells 1 8 3 (.int .i64 0) Try.underlying23 infoInt rfl (by decide) intCells_len intCells_one w3.heap.size _ [] HE.out B st capB HR.out (by simp [maxLen]; omega) (by simp; omega) (by simp)
         rw [List.nil_append] at hO3
         obtain ⟨g, vc, rfl, hgb, hgl, -⟩ := OwnI.at_ hO3 (by omega)
         have HO3 := Lib.hid hO3
         have HB6 := Lib.hid (((Below.refl w3.heap.size w3).alloc (Nat.le_refl _) (.cells #[] 3)).grown hg3 (by simp) (fun k e => by have e : some w3.heap.size = some k := e; injection e with e; omega))
         have HW6 := Lib.hid (HW2.out.trans (HB6.out.mono hw3))
         have HR6 := Lib.hid (RdN.below HR2.out HB6.out)
         have h36 := HB6.out.size
         have hw6 := HW6.out.size
         have Hrun := Lib.hid hrun
         clear hO3 hg3 hrun HE HR)
      | (at_builtin; refine wpList_app_run rfl 23 _ _ rfl rfl rfl Hrun.out ?_; clear Hrun)
      | fail)
    by_cases hv : 0 ≤ v ∧ v < vars
    · obtain ⟨i, rfl⟩ := Int.eq_ofNat_of_zero_le hv.1
      have hvl : ((i : Nat) : Int) < ((st.length : Nat) : Int) := by omega
      have hil : i < st.length := by omega
      obtain ⟨he, hle⟩ := lessErr R2.out i hil
      have HE2 := Lib.hid he
      have Hle := Lib.hid hle
      have hv0 := hv.1
      have hv1 := hv.2
      have HOs := Lib.hid ((OwnI.set_ HO3.out hil (-1)).alloc (.cells #[.int .i64 (i : Nat)] 3))
      have HWs := Lib.hid ((HW6.out.setCell (p := ⟨g, i, none⟩) (show w.heap.size ≤ g by omega) (.int .i64 (-1))).alloc (by simp [World.setCell]; omega) (.cells #[.int .i64 (i : Nat)] 3))
      have HRs := Lib.hid (RdN.below (RdN.set3 HR6.out HR2.out HB6.out (g := g) i (.int .i64 (-1)) hgb) ((Below.refl _ _).alloc (Nat.le_refl _) (.cells #[.int .i64 (i : Nat)] 3)))
      obtain ⟨g', eg, -, -, -, hfz, hcell⟩ := OwnI.at2 HO3.out (by omega)
      injection eg with eg; injection eg with eg
      subst eg
      have cg := hcell i hil
      have fg := hfz i
      have hml : (st.set i (-1)).length ≤ maxLen := by rw [List.length_set]; exact hm'
      have Hls := Lib.hid (show st.length = (st.set i (-1)).length from (List.length_set ..).symm)
      clear hcell hfz he hle hv HO3 HW6 HR6 HR2 HB6
      go_wp2_with (first
        | (go_at_call 20; refine (in1_yes _ _ _ (by simp) hv0 hv1).mono ?_; rintro e w7 ⟨rfl, rfl⟩)
        | fail)
      obtain ⟨less, hless⟩ : ∃ less, st.set i (-1) = less := ⟨_, rfl⟩
      rw [hless] at HE2 Hle HOs hml Hls
      clear hless
      have Hin2 := Lib.hid (fun W hA hB => knIn_ok vars A (some ⟨g, 0, none⟩) p less cap vc W hA hB hm hmc hml R1.out HE2.out)
      rw [← Hls.out] at Hin2
      refine (Hin2.out _ (HA.out.below HWs.out) (rd_ownI HOs.out)).mono ?_
      rintro e w8 ⟨Fb, vals, b2, B2, rfl, hS2, hL2, -, hW8⟩
      have HW8 := Lib.hid (HWs.out.trans (hW8.mono HWs.out.size))
      have HRb := Lib.hid hL2.ll.rd
      have HRa := Lib.hid (RdN.below HRs.out hW8)
      have Hlf := Lib.hid (HS.out.1.least Fb (hS2.2.weaker Hle.out))
      have HFa := Lib.hid HS.out.2.len
      have HFb := Lib.hid hS2.2.len
      have Hwa := Lib.hid HS.out.2.wid
      have hw8 := HW8.out.size
      clear hS2 hL2 hW8 HWs HRs HOs HS Hin2 Hle HE2 Hls vals
      go_wp2
      go_loopw [14] (fun i wr => ∃ k : Nat, k ≤ p.length ∧ i = .int .i64 k ∧ Below w8.heap.size w8 wr) (fun i _ => p.length - (intOf i).toNat)
      case atStart => exact ⟨0, Nat.zero_le _, rfl, Below.refl _ _⟩
      case round =>
        obtain ⟨k, hk, rfl, hW⟩ := hrel
        have HW := Lib.hid hW
        have hws := hW.size
        clear hW
        by_cases hlt : k < p.length
        · obtain ⟨b3, o3, A3, cap3, e3, hb3, r3, hR3⟩ := RdN.at_ (RdN.below HRa.out HW.out) (k := k) (by rw [HFa.out]; exact hlt)
          injection e3 with e3; injection e3 with e31 e32
          subst e31 e32
          obtain ⟨b4, o4, A4, cap4, e4, hb4, r4, hR4⟩ := RdN.at_ (RdN.below HRb.out HW.out) (k := k) (by rw [HFb.out]; exact hlt)
          injection e4 with e4; injection e4 with e41 e42
          subst e41 e42
          rw [Nat.zero_add] at r3 r4
          rw [← rowF_get (by rw [HFa.out]; exact hlt)] at r3 hR3
          rw [← rowF_get (by rw [HFb.out]; exact hlt)] at r4 hR4
          have hlk := Hlf.out k
          have hwk := Hwa.out k
          have Hlk := Lib.hid hlk
          have Hwk := Lib.hid hwk
          have HR3 := Lib.hid hR3
          have HR4 := Lib.hid hR4
          have qF1 : ((k : Nat) : Int) < ((Fa.length : Nat) : Int) := by rw [HFa.out]; omega
          have qF2 : ((k : Nat) : Int) < ((Fb.length : Nat) : Int) := by rw [HFb.out]; omega
          have qp : ((k : Nat) : Int) < ((p.length : Nat) : Int) := by omega
          clear hlk hwk hR3 hR4
          generalize rowF Fa k = ra at *
          generalize rowF Fb k = rb at *
          by_cases hra : ra = []
          · subst hra
            go_wp2
            go_roundw
            case rel => exact ⟨k + 1, by omega, by go_num, HW.out⟩
            case measure => simp [intOf]; omega
          have hwr := Hwk.out hra
          obtain ⟨hrb, hleab⟩ := Hlk.out hra
          have hll := hleab.1
          have hapos : 0 < ra.length := by omega
          have qa0 : ((((ra.length : Nat) : Int)) == 0) = false := by rw [beq_eq_false_iff_ne]; omega
          have qa : ((((ra.length : Nat) : Int)) != vars) = false := by rw [bne_eq_false_iff_eq]; exact hwr
          have qb : ((((rb.length : Nat) : Int)) != vars) = false := by rw [bne_eq_false_iff_eq]; omega
          have la1 : ((ra.length : Nat) : Int) ≤ vars := by omega
          have la2 : vars ≤ ((ra.length : Nat) : Int) := by omega
          have lb1 : ((rb.length : Nat) : Int) ≤ vars := by omega
          have lb2 : vars ≤ ((rb.length : Nat) : Int) := by omega
          have Hab := Lib.hid hleab.2
          clear hra hwr hrb hleab hll Hlk Hwk
          go_wp2
          go_loopw [15] (fun i wr2 => ∃ j : Nat, (j : Int) ≤ vars ∧ i = .int .i64 j ∧ Below wr.heap.size wr wr2) (fun i _ => vars.toNat - (intOf i).toNat)
          case atStart => exact ⟨0, by omega, rfl, Below.refl _ _⟩
          case round =>
            obtain ⟨j, hj, rfl, hW2⟩ := hrel
            have HW2 := Lib.hid hW2
            have s3 := (hW2.cell (p := ⟨_, k, none⟩) hb3).trans r3
            have s4 := (hW2.cell (p := ⟨_, k, none⟩) hb4).trans r4
            have HW2' := Lib.hid hW2.size
            clear hW2 r3 r4
            by_cases hlj : (j : Int) < vars
            · obtain ⟨b1, o1, rfl, hb1, c1⟩ := RdI.at1 (Rd.below HR3.out HW2.out) (show j < ra.length by omega)
              obtain ⟨b5, o5, rfl, hb5, c5⟩ := RdI.at1 (Rd.below HR4.out HW2.out) (show j < rb.length by omega)
              rw [← getI_get (by omega)] at c1
              rw [← getI_get (by omega)] at c5
              have hxx := Hab.out j (by omega)
              have qj1 : ((j : Nat) : Int) < ((ra.length : Nat) : Int) := by omega
              have qj2 : ((j : Nat) : Int) < ((rb.length : Nat) : Int) := by omega
              generalize ra.getD j 0 = x1 at *
              generalize rb.getD j 0 = x2 at *
              by_cases hx0 : 0 ≤ x2
              · have q0 : decide (0 ≤ x2) = true := decide_eq_true hx0
                obtain rfl : x2 = x1 := by omega
                clear hxx
                go_wp2
                go_quiet (fail)
                go_wp2
                go_roundw
                case rel => exact ⟨j + 1, by omega, by go_num, below_dN HW2.out _⟩
                case measure => simp [intOf]; omega
              · have q0 : decide (0 ≤ x2) = false := decide_eq_false hx0
                clear hxx
                go_wp2
                go_quiet (fail)
                go_wp2
                go_roundw
                case rel => exact ⟨j + 1, by omega, by go_num, below_dN HW2.out _⟩
                case measure => simp [intOf]; omega
            · have hje : ¬ ((j : Int) < vars) := hlj
              go_wp2
              go_roundw
              case rel => exact ⟨k + 1, by omega, by go_num, HW.out.trans (HW2.out.mono hws)⟩
              case measure => simp [intOf]; omega
        · have hke : k = p.length := by omega
          subst hke
          go_wp2
          go_ret
          exact ⟨rfl, HW8.out.trans (HW.out.mono hw8)⟩
    · have hv' : v < 0 ∨ vars ≤ v := by omega
      have HOs := Lib.hid (HO3.out.alloc (.cells #[.int .i64 v] 3))
      have HWs := Lib.hid (HW6.out.alloc hw6 (.cells #[.int .i64 v] 3))
      have HRs := Lib.hid (RdN.below HR6.out ((Below.refl _ _).alloc (Nat.le_refl _) (.cells #[.int .i64 v] 3)))
      have HE2 := R2
      have Hle := Lib.hid (leK.refl st)
      have hml := hm'
      clear HO3 HW6 HR6 HR2 HB6 hv
      go_wp2_with (first
        | (go_at_call 20; refine (in1_no _ _ _ (by simp) hv').mono ?_; rintro e w7 ⟨rfl, rfl⟩)
        | fail)
      obtain ⟨less, hless⟩ : ∃ less, st = less := ⟨_, rfl⟩
      have Hls := Lib.hid (show st.length = less.length by rw [hless])
      rw [hless] at HE2 HOs hml
      have Hle : Hid (leK st less) := by rw [hless] at Hle; rw [hless]; exact Hle
      clear hless
      have Hin2 := Lib.hid (fun W hA hB => knIn_ok vars A (some ⟨g, 0, none⟩) p less cap vc W hA hB hm hmc hml R1.out HE2.out)
      rw [← Hls.out] at Hin2
      refine (Hin2.out _ (HA.out.below HWs.out) (rd_ownI HOs.out)).mono ?_
      rintro e w8 ⟨Fb, vals, b2, B2, rfl, hS2, hL2, -, hW8⟩
      have HW8 := Lib.hid (HWs.out.trans (hW8.mono HWs.out.size))
      have HRb := Lib.hid hL2.ll.rd
      have HRa := Lib.hid (RdN.below HRs.out hW8)
      have Hlf := Lib.hid (HS.out.1.least Fb (hS2.2.weaker Hle.out))
      have HFa := Lib.hid HS.out.2.len
      have HFb := Lib.hid hS2.2.len
      have Hwa := Lib.hid HS.out.2.wid
      have hw8 := HW8.out.size
      clear hS2 hL2 hW8 HWs HRs HOs HS Hin2 Hle HE2 Hls vals
      go_wp2
      go_loopw [14] (fun i wr => ∃ k : Nat, k ≤ p.length ∧ i = .int .i64 k ∧ Below w8.heap.size w8 wr) (fun i _ => p.length - (intOf i).toNat)
      case atStart => exact ⟨0, Nat.zero_le _, rfl, Below.refl _ _⟩
      case round =>
        obtain ⟨k, hk, rfl, hW⟩ := hrel
        have HW := Lib.hid hW
        have hws := hW.size
        clear hW
        by_cases hlt : k < p.length
        · obtain ⟨b3, o3, A3, cap3, e3, hb3, r3, hR3⟩ := RdN.at_ (RdN.below HRa.out HW.out) (k := k) (by rw [HFa.out]; exact hlt)
          injection e3 with e3; injection e3 with e31 e32
          subst e31 e32
          obtain ⟨b4, o4, A4, cap4, e4, hb4, r4, hR4⟩ := RdN.at_ (RdN.below HRb.out HW.out) (k := k) (by rw [HFb.out]; exact hlt)
          injection e4 with e4; injection e4 with e41 e42
          subst e41 e42
          rw [Nat.zero_add] at r3 r4
          rw [← rowF_get (by rw [HFa.out]; exact hlt)] at r3 hR3
          rw [← rowF_get (by rw [HFb.out]; exact hlt)] at r4 hR4
          have hlk := Hlf.out k
          have hwk := Hwa.out k
          have Hlk := Lib.hid hlk
          have Hwk := Lib.hid hwk
          have HR3 := Lib.hid hR3
          have HR4 := Lib.hid hR4
          have qF1 : ((k : Nat) : Int) < ((Fa.length : Nat) : Int) := by rw [HFa.out]; omega
          have qF2 : ((k : Nat) : Int) < ((Fb.length : Nat) : Int) := by rw [HFb.out]; omega
          have qp : ((k : Nat) : Int) < ((p.length : Nat) : Int) := by omega
          clear hlk hwk hR3 hR4
          generalize rowF Fa k = ra at *
          generalize rowF Fb k = rb at *
          by_cases hra : ra = []
          · subst hra
            go_wp2
            go_roundw
            case rel => exact ⟨k + 1, by omega, by go_num, HW.out⟩
            case measure => simp [intOf]; omega
          have hwr := Hwk.out hra
          obtain ⟨hrb, hleab⟩ := Hlk.out hra
          have hll := hleab.1
          have hapos : 0 < ra.length := by omega
          have qa0 : ((((ra.length : Nat) : Int)) == 0) = false := by rw [beq_eq_false_iff_ne]; omega
          have qa : ((((ra.length : Nat) : Int)) != vars) = false := by rw [bne_eq_false_iff_eq]; exact hwr
          have qb : ((((rb.length : Nat) : Int)) != vars) = false := by rw [bne_eq_false_iff_eq]; omega
          have la1 : ((ra.length : Nat) : Int) ≤ vars := by omega
          have la2 : vars ≤ ((ra.length : Nat) : Int) := by omega
          have lb1 : ((rb.length : Nat) : Int) ≤ vars := by omega
          have lb2 : vars ≤ ((rb.length : Nat) : Int) := by omega
          have Hab := Lib.hid hleab.2
          clear hra hwr hrb hleab hll Hlk Hwk
          go_wp2
          go_loopw [15] (fun i wr2 => ∃ j : Nat, (j : Int) ≤ vars ∧ i = .int .i64 j ∧ Below wr.heap.size wr wr2) (fun i _ => vars.toNat - (intOf i).toNat)
          case atStart => exact ⟨0, by omega, rfl, Below.refl _ _⟩
          case round =>
            obtain ⟨j, hj, rfl, hW2⟩ := hrel
            have HW2 := Lib.hid hW2
            have s3 := (hW2.cell (p := ⟨_, k, none⟩) hb3).trans r3
            have s4 := (hW2.cell (p := ⟨_, k, none⟩) hb4).trans r4
            have HW2' := Lib.hid hW2.size
            clear hW2 r3 r4
            by_cases hlj : (j : Int) < vars
            · obtain ⟨b1, o1, rfl, hb1, c1⟩ := RdI.at1 (Rd.below HR3.out HW2.out) (show j < ra.length by omega)
              obtain ⟨b5, o5, rfl, hb5, c5⟩ := RdI.at1 (Rd.below HR4.out HW2.out) (show j < rb.length by omega)
              rw [← getI_get (by omega)] at c1
              rw [← getI_get (by omega)] at c5
              have hxx := Hab.out j (by omega)
              have qj1 : ((j : Nat) : Int) < ((ra.length : Nat) : Int) := by omega
              have qj2 : ((j : Nat) : Int) < ((rb.length : Nat) : Int) := by omega
              generalize ra.getD j 0 = x1 at *
              generalize rb.getD j 0 = x2 at *
              by_cases hx0 : 0 ≤ x2
              · have q0 : decide (0 ≤ x2) = true := decide_eq_true hx0
                obtain rfl : x2 = x1 := by omega
                clear hxx
                go_wp2
                go_quiet (fail)
                go_wp2
                go_roundw
                case rel => exact ⟨j + 1, by omega, by go_num, below_dN HW2.out _⟩
                case measure => simp [intOf]; omega
              · have q0 : decide (0 ≤ x2) = false := decide_eq_false hx0
                clear hxx
                go_wp2
                go_quiet (fail)
                go_wp2
                go_roundw
                case rel => exact ⟨j + 1, by omega, by go_num, below_dN HW2.out _⟩
                case measure => simp [intOf]; omega
            · have hje : ¬ ((j : Int) < vars) := hlj
              go_wp2
              go_roundw
              case rel => exact ⟨k + 1, by omega, by go_num, HW.out.trans (HW2.out.mono hws)⟩
              case measure => simp [intOf]; omega
        · have hke : k = p.length := by omega
          subst hke
          go_wp2
          go_ret
          exact ⟨rfl, HW8.out.trans (HW.out.mono hw8)⟩
  · have hne : pkErr vars p ≠ 0 ∨ startErr vars st ≠ 0 := by omega
    have Hin := Lib.hid (knIn_bad vars A B p st cap capB w HA.out HB.out hm hmc hm' hne)
    by_cases h1 : pkErr vars p = 0
    · have h2 : startErr vars st ≠ 0 := by rcases hne with h | h; exact absurd h1 h; exact h
      rw [h1] at Hpc
      clear hr hne
      generalize startErr vars st = er at *
      have q : (er != 0) = true := by rw [bne_iff_ne]; exact h2
      go_enter Try.func8, Try.ntmps8
      go_wp2_with (first
        | (go_at_call 29; refine Hin.out.mono ?_; rintro e w1 ⟨⟨x, hx, rfl⟩, hW⟩; have HW1 := Lib.hid hW; have qx : (x != 0) = true := by rw [bne_iff_ne]; exact hx
           clear hW hx)
        | (go_at_call 23; refine (Hpc.out _ (HA.out.below HW1.out)).mono ?_; rintro e w2 ⟨rfl, hW⟩; have HW2 := Lib.hid (HW1.out.trans (hW.mono HW1.out.size)); clear hW)
        | (go_at_call 30; refine (Hsc.out _ (Rd.below HB.out HW2.out)).mono ?_; rintro e w3 ⟨rfl, rfl⟩))
      go_ret
      exact ⟨rfl, HW2.out⟩
    · clear hr hne
      generalize pkErr vars p = er at *
      have q : (er != 0) = true := by rw [bne_iff_ne]; exact h1
      go_enter Try.func8, Try.ntmps8
      go_wp2_with (first
        | (go_at_call 29; refine Hin.out.mono ?_; rintro e w1 ⟨⟨x, hx, rfl⟩, hW⟩; have HW1 := Lib.hid hW; have qx : (x != 0) = true := by rw [bne_iff_ne]; exact hx
           clear hW hx)
        | (go_at_call 23; refine (Hpc.out _ (HA.out.below HW1.out)).mono ?_; rintro e w2 ⟨rfl, hW⟩; have HW2 := Lib.hid (HW1.out.trans (hW.mono HW1.out.size)); clear hW))
      go_ret
      exact ⟨rfl, HW2.out⟩
end Go.Proofs.Ytadmmciiahdmcaa
