/- FactPath walked. -/
import Derived.Test.YtljmignfbagomaaFacI
namespace Go.Proofs.Ytljmignfbagomaa
open Go.RowKit

set_option maxRecDepth 100000 in
set_option maxHeartbeats 8000000 in
theorem factPath_calls (A MA MB PA : Option Addr) (ls : List (List Int)) (L : LawD) (fst : Nat) (pk : List Int) (cap ca cb cp : Nat) (w : World) (hA : RdN w A ls) (hm : ls.length ≤ maxLen) (hL : RdL w MA MB L) (hl1 : L.makes.length ≤ maxLen) (hl2 : L.ends.length ≤ maxLen)
    (hf : fst < 256) (hP : RdB w PA pk) (hok8 : bytesOk pk) (hpk : pk.length ≤ 2000000) :
    Calls Try.prog 16 #[.slice A ls.length cap, .agg #[.bool L.back, .bool L.all, .slice MA L.makes.length ca, .slice MB L.ends.length cb, .int .u32 (L.start : Nat)], .int .u8 (fst : Nat), .slice PA pk.length cp] w fun e w' => e = .returned (.bool true) ∧ Below w.heap.size w w' := by
  have hB1 := (Below.refl w.heap.size w).alloc (Nat.le_refl _) (.cells #[.bool L.back, .bool L.all, .slice MA L.makes.length ca, .slice MB L.ends.length cb, .int .u32 (L.start : Nat)] 58)
  have HB1 := Lib.hid hB1
  have hlb := LB.new w MA MB L ca cb
  have HLB := Lib.hid hlb
  have H8 := Lib.hid hok8
  clear hok8
  go_enter Try.func16, Try.ntmps16
  go_upto_region 1 with fail
  have HA := Lib.hid (RdN.below hA hB1)
  have HL := Lib.hid (hL.below hB1)
  have HP := Lib.hid (Rd.below hP hB1)
  clear hA hL hP hB1
  obtain ⟨wa, hwa⟩ : ∃ wa, wa = w.alloc (Obj.cells #[Value.bool L.back, Value.bool L.all, Value.slice MA L.makes.length ca, Value.slice MB L.ends.length cb, Value.int IntKind.u32 (L.start : Nat)] 58) := ⟨_, rfl⟩
  rw [← hwa] at HA HL HP HB1 HLB hlb ⊢
  clear hwa
  have hw0 := HB1.out.size
  obtain ⟨p, hpe⟩ : ∃ p, p = w.heap.size := ⟨_, rfl⟩
  rw [← hpe] at HLB hlb ⊢
  obtain ⟨hpw, c0, c1, c2, c3, c4⟩ := hlb
  clear hpe
  go_wp2_with fail
  refine (solve_calls A MA MB ls L cap ca cb wa HA.out hm HL.out hl1 hl2).mono ?_
  rintro e w1 ⟨hW1, B1, r1, k1, rfl, hR1, hr1, hS1, _⟩
  have HW1 := Lib.hid hW1
  have HR1 := Lib.hid hR1
  have HS1 := Lib.hid hS1
  have hw1 := hW1.size
  clear c0 c1 c2 c3 c4
  obtain ⟨_, c0, c1, c2, c3, c4⟩ := HLB.out.below hW1
  clear hW1 hR1 hS1
  have HA1 := Lib.hid (RdN.below HA.out HW1.out)
  have HL1 := Lib.hid (HL.out.below HW1.out)
  have Hlaw := Lib.hid (lawful_calls A MA MB ls L cap ca cb w1 HA1.out hm HL1.out)
  by_cases h0 : facErr ls L = 0
  case neg =>
    have hd : (facErr ls L != 0) = true := by rw [bne_iff_ne]; exact h0
    have hd2 : (facErr ls L == 0) = false := by simpa using h0
    rw [hd2] at Hlaw
    clear h0 hd2
    go_wp2_with (go_at_call 42; refine Hlaw.out.mono ?_; rintro e w2 ⟨rfl, hW2⟩; have HW2 := Lib.hid hW2; clear hW2)
    go_ret
    exact ⟨rfl, HB1.out.trans ((HW1.out.trans (HW2.out.mono hw1)).mono hw0)⟩
  have hok := facErr_ok h0
  obtain ⟨h1n, h8, hv⟩ := valid_of hok.way
  have HV := Lib.hid hv
  have Hok := Lib.hid hok
  have hd2 : (facErr ls L == 0) = true := by simpa using h0
  rw [hd2] at Hlaw
  have HSa := Lib.hid (HS1.out h0)
  have H0 := Lib.hid h0
  have e1 : r1.length = ls.length := HSa.out.len
  rw [e1, h0]
  have E1 := Lib.hid e1
  clear h0 hd2 hok hv e1 hr1
  obtain ⟨bk, hbk⟩ : ∃ bk, bk = L.back := ⟨_, rfl⟩
  have Hbk := Lib.hid hbk
  clear hbk
  go_wp2_with fail
  refine Hlaw.out.mono ?_
  rintro e w2 ⟨rfl, hW2⟩
  have HW2 := Lib.hid (HW1.out.trans (hW2.mono hw1))
  have HR2 := Lib.hid (Rd.below HR1.out hW2)
  clear c0 c1 c2 c3 c4 hW2
  obtain ⟨_, c0, c1, c2, c3, c4⟩ := HLB.out.below HW2.out
  rw [← Hbk.out] at c0
  have hw2 := HW2.out.size
  have HA2 := Lib.hid (RdN.below HA.out HW2.out)
  go_upto_if 43 with fail
  clear c0
  go_cut [11, 12] from 42 (fun v11 v12 wx => ∃ (A' : Option Addr) (cap' : Nat) (g : List (List Int)) (at_ : Int), v11 = .slice A' ls.length cap' ∧ v12 = .int .i64 at_ ∧ (at_ = -1 ∨ ∃ a : Nat, at_ = a ∧ a < ls.length ∧ FL ls L a) ∧ Hid (RdN wx A' g) ∧ Hid (GT ls L g) ∧ Hid (Below w2.heap.size w2 wx))
  case first =>
    cases bk
    · have Hb := Lib.hid (GO.fwd (L := L) Hbk.out.symm HV.out).gt
      have HF : Hid (FL ls L 0) := Lib.hid (by unfold FL; rw [if_neg (by rw [← Hbk.out]; decide)])
      go_wp2
      go_meet
      case rel => exact ⟨A, cap, ls, 0, rfl, rfl, .inr ⟨0, rfl, by omega, HF.out⟩, HA2, Hb, Lib.hid (Below.refl _ _)⟩
    · have Hb := Lib.hid Hbk.out.symm
      have Hg := Lib.hid (GT.bwd (L := L) Hb.out HV.out h8)
      have HFl : Hid (∀ a, ls[a]? = some [] → FL ls L a) := Lib.hid fun a h => by unfold FL; rw [if_pos Hb.out]; exact h
      go_wp2_with (go_at_call 20; refine (turned_calls A ls cap _ HA2.out h1n h8 (fun l hl => by have := (HV.out l hl).1; omega)).mono ?_; rintro e w3 ⟨B, rfl, hR3, hW3⟩; have HR3 := Lib.hid hR3; have HW3 := Lib.hid hW3; have HA3 := Lib.hid (RdN.below HA2.out hW3); clear hR3 hW3)
      go_loopw [13, 12] (fun i a wr => ∃ (k : Nat) (at_ : Int), k ≤ ls.length ∧ i = .int .i64 k ∧ a = .int .i64 at_ ∧ (at_ = -1 ∨ ∃ a : Nat, at_ = a ∧ a < ls.length ∧ FL ls L a) ∧ wr = w3) (fun i _ _ => ls.length - (intOf i).toNat)
      case atStart => exact ⟨0, -1, Nat.zero_le _, rfl, rfl, .inl rfl, rfl⟩
      case round =>
        obtain ⟨k, at_, hk, rfl, rfl, hat, rfl⟩ := hrel
        rcases hat with rfl | ⟨a, rfl, hal, hFa⟩
        · by_cases hlt : k < ls.length
          · have hi : (fst + k) % ls.length < ls.length := Nat.mod_lt _ (by omega)
            obtain ⟨b5, off5, A5, cap5, rfl, hb5, c5, hR5⟩ := RdN.at_ HA3.out hi
            have Hl := Lib.hid (List.getElem?_eq_getElem hi)
            have hrem : ((fst : Int) + (k : Int)).tmod ((ls.length : Nat) : Int) = (((fst + k) % ls.length : Nat) : Int) := by rw [← Int.natCast_add, Int.ofNat_tmod]
            have hrem2 : ((fst : Int) + (k : Int)) % ((ls.length : Nat) : Int) = (((fst + k) % ls.length : Nat) : Int) := by rw [← Int.natCast_add, Int.natCast_emod]
            have hwi : IntKind.i64.wrap ((fst : Int) + (k : Int)) = (fst : Int) + (k : Int) := by rw [IntKind.wrap_i64]; omega
            have q1 : (((fst + k) % ls.length : Nat) : Int) < ((ls.length : Nat) : Int) := by omega
            clear hR5
            generalize (fst + k) % ls.length = i at *
            generalize ls[i] = l at *
            by_cases hz : l.length = 0
            · have q2 : ((l.length : Int) == 0) = true := by rw [hz]; rfl
              have Hz := Lib.hid (HFl.out i (by rw [Hl.out, List.length_eq_zero_iff.1 hz]))
              clear hz
              go_wp2
              go_roundw
              case rel => exact ⟨k + 1, (i : Int), by omega, by go_num, rfl, .inr ⟨i, rfl, hi, Hz.out⟩, by first | rfl | trivial⟩
              case measure => simp [intOf]; omega
            · have q2 : ((l.length : Int) == 0) = false := by simpa using hz
              clear hz
              go_wp2
              go_roundw
              case rel => exact ⟨k + 1, -1, by omega, by go_num, rfl, .inl rfl, by first | rfl | trivial⟩
              case measure => simp [intOf]; omega
          · go_wp2
            go_meet
            case rel => exact ⟨B, _, turned ls, -1, rfl, rfl, .inl rfl, HR3, Hg, HW3⟩
        · have q3 : decide ((a : Int) < 0) = false := decide_eq_false (by omega)
          have HFa := Lib.hid hFa
          by_cases hlt : k < ls.length
          · go_wp2
            go_meet
            case rel => exact ⟨B, _, turned ls, (a : Int), rfl, rfl, .inr ⟨a, rfl, hal, HFa.out⟩, HR3, Hg, HW3⟩
          · go_wp2
            go_meet
            case rel => exact ⟨B, _, turned ls, (a : Int), rfl, rfl, .inr ⟨a, rfl, hal, HFa.out⟩, HR3, Hg, HW3⟩
  case rest =>
    obtain ⟨A', cap', g, at_, rfl, rfl, hat, HR, HG, HWc⟩ := hcut
    have HWw := Lib.hid (HB1.out.trans ((HW2.out.trans (HWc.out.mono hw2)).mono hw0))
    rcases hat with rfl | ⟨a, rfl, hal, hFa⟩
    · go_wp2
      go_ret
      exact ⟨rfl, HWw.out⟩
    · have q3 : decide ((a : Int) < 0) = false := decide_eq_false (by omega)
      have HPa := Lib.hid (PathP.one hFa hal)
      clear hFa
      obtain ⟨wd, rfl⟩ : ∃ wd : World, wd = wc := ⟨_, rfl⟩
      have HPd := Lib.hid (Rd.below (Rd.below HP.out HW2.out) HWc.out)
      have HLBd := Lib.hid ((HLB.out.below HW2.out).below HWc.out)
      have HLd := Lib.hid ((HL.out.below HW2.out).below HWc.out)
      have HAd := Lib.hid (RdN.below HA2.out HWc.out)
      have HRd := Lib.hid (Rd.below HR2.out HWc.out)
      have hwd : wa.heap.size ≤ wd.heap.size := by have := HWc.out.size; have := HW2.out.size; omega
      go_upto_block 2 with fail
      have HO0 := Lib.hid (OwnI.lit wd [(a : Int)] wd.heap.size (Nat.le_refl _) (by simp [maxLen]))
      have HB0 := Lib.hid ((Below.refl wd.heap.size wd).alloc (Nat.le_refl _) (.cells #[.int .i64 (a : Nat)] 3))
      clear c1 c2 c3 c4 q3 HA2 HR2 HL1 HLB HL HP HA HA1 HR1 HWc
      go_cut [12, 15] from 74 (fun v12 v15 wx => ∃ (ps : List Nat), v12 = .int .i64 (ps.getD (ps.length - 1) 0 : Nat) ∧ (∃ PB cpb, v15 = .slice PB ps.length cpb ∧ Hid (RdI wx PB (natL ps))) ∧ Hid (PathP ls L ps) ∧ ps.length ≤ 2000001 ∧ Hid (Below wd.heap.size wd wx))
      case first =>
        go_wp2_with fail
        go_loopw [76, 12, 15] (fun i v12 v15 wr => ∃ (t : Nat) (ps : List Nat), t ≤ pk.length ∧ i = .int .i64 t ∧ v12 = .int .i64 (ps.getD (ps.length - 1) 0 : Nat) ∧ OwnI wr wd.heap.size 3 v15 (natL ps) ∧ Hid (PathP ls L ps) ∧ ps.length ≤ t + 1 ∧ Below wd.heap.size wd wr) (fun i _ _ _ => pk.length - (intOf i).toNat)
        case atStart => exact ⟨0, [a], Nat.zero_le _, rfl, rfl, HO0.out, HPa, by simp, HB0.out⟩
        case round =>
          clear HO0 HB0 HPa
          obtain ⟨t, ps, ht, rfl, rfl, hown, hpp, hpsl, hW⟩ := hrel
          have HW := Lib.hid hW
          have HO := Lib.hid hown
          have hpos := hpp.out.pos
          by_cases hlt : t < pk.length
          · obtain ⟨b7, off7, rfl, hb7, c7⟩ := RdB.at1 (Rd.below HPd.out hW) hlt
            obtain ⟨x0, x1⟩ := H8.out _ (List.getElem_mem hlt)
            obtain ⟨x, hx⟩ := Int.eq_ofNat_of_zero_le x0
            rw [hx] at c7 x1
            have hal' := hpp.out.lt (ps.length - 1) (by omega)
            obtain ⟨b5, off5, A5, cap5, rfl, hb5, c5, hR5⟩ := RdN.at_ (RdN.below HR.out hW) (show ps.getD (ps.length - 1) 0 < g.length by rw [HG.out.len]; exact hal')
            have hrow := List.getElem?_eq_getElem (show ps.getD (ps.length - 1) 0 < g.length by rw [HG.out.len]; exact hal')
            have Hins := Lib.hid (HG.out.ins _ (List.getElem_mem (show ps.getD (ps.length - 1) 0 < g.length by rw [HG.out.len]; exact hal')))
            have hsh := HG.out.short _ (List.getElem_mem (show ps.getD (ps.length - 1) 0 < g.length by rw [HG.out.len]; exact hal'))
            have Hed := Lib.hid (fun j => (HG.out.edge (ps.getD (ps.length - 1) 0) j).1)
            have Happ := Lib.hid (fun x (h1 : x < ls.length) (h2 : EL ls L (ps.getD (ps.length - 1) 0) x) => hpp.out.app h1 h2)
            have Hrow := Lib.hid hrow
            have HR5 := Lib.hid hR5
            have qa : ((ps.getD (ps.length - 1) 0 : Nat) : Int) < ((ls.length : Nat) : Int) := by omega
            clear hx x0 hrow hown hW hR5
            generalize g[ps.getD (ps.length - 1) 0]'_ = row at *
            generalize hlae : ps.getD (ps.length - 1) 0 = la at *
            have Hlae := Lib.hid hlae
            clear hlae
            by_cases hz : row.length = 0
            · have q2 : ((row.length : Int) == 0) = true := by rw [hz]; rfl
              obtain ⟨PB, cpb, rfl, hRP⟩ := OwnI.rd HO.out
              rw [natL_len]
              have HRP := Lib.hid hRP
              clear hz hRP
              go_wp2
              go_meet
              case rel => exact ⟨ps, by rw [Hlae.out], ⟨PB, cpb, rfl, HRP⟩, hpp, by omega, HW⟩
            · have q2 : ((row.length : Int) == 0) = false := by simpa using hz
              have hi : x % row.length < row.length := Nat.mod_lt _ (by omega)
              obtain ⟨b6, off6, rfl, hb6, c6⟩ := RdI.at1 HR5.out hi
              obtain ⟨j, hj, hjl⟩ := Hins.out _ (List.getElem_mem hi)
              have Hj := Lib.hid (Happ.out j hjl (Hed.out j ⟨row, Hrow.out, by rw [← hj]; exact List.getElem_mem hi⟩))
              rw [hj] at c6
              have hrem2 : ((x : Int)) % ((row.length : Nat) : Int) = ((x % row.length : Nat) : Int) := by rw [Int.natCast_emod]
              have hrem : ((x : Int)).tmod ((row.length : Nat) : Int) = ((x % row.length : Nat) : Int) := by rw [Int.ofNat_tmod]
              have qi : ((x % row.length : Nat) : Int) < ((row.length : Nat) : Int) := by omega
              have HOn := Lib.hid (fun n => (HO.out.drewN n).alloc (.cells #[.int .i64 (j : Nat)] 3))
              have HWn := Lib.hid (fun n => (below_dN HW.out n).alloc (by have := HW.out.size; simpa using this) (.cells #[.int .i64 (j : Nat)] 3))
              have hws := HW.out.size
              have hnl := natL_len ps
              have Hra := Lib.hid (fun n => run_app1 (P := Try.prog) (w := (wr.drewN n).alloc (.cells #[.int .i64 (j : Nat)] 3)) 32 32 intCells 1 8 3 (.int .i64 0) Try.underlying32 infoInt rfl (by decide) intCells_len intCells_one wd.heap.size _ (natL ps) (j : Int) (HOn.out n) (wr.drewN n).heap.size 1 (fun i hi => by (obtain rfl : i = 0 := by omega); exact cell_new (wr.drewN n) #[.int .i64 (j : Nat)] 3 (wr.drewN n).heap.size rfl 0) (by rw [hnl]; unfold maxLen; omega) (by rw [hnl]; omega) (by simp; omega))
              have Hnl := Lib.hid hnl
              clear hj hz hi hnl
              generalize x % row.length = i' at *
              go_wp2
              go_quiet (fail)
              obtain ⟨v', w', hrun, hown', hgrow, _⟩ := Hra.out nq
              have HO' := Lib.hid hown'
              have HW' := Lib.hid ((HWn.out nq).grown hgrow (by simp; omega) (fun k hk => (own_lt (HOn.out nq) k hk).1))
              have Hrun := Lib.hid hrun
              clear hown' hgrow hrun
              go_wp2_with (at_builtin; refine wpList_app_run rfl 32 _ _ rfl rfl rfl Hrun.out ?_)
              go_roundw
              case rel => exact ⟨t + 1, ps ++ [j], by omega, by go_num, by rw [last_app], by rw [natL_app]; exact HO'.out, Hj, by simp; omega, HW'.out⟩
              case measure => simp [intOf]; omega
          · obtain ⟨PB, cpb, rfl, hRP⟩ := OwnI.rd HO.out
            rw [natL_len]
            have HRP := Lib.hid hRP
            clear hRP hown hW
            go_wp2
            go_meet
            case rel => exact ⟨ps, rfl, ⟨PB, cpb, rfl, HRP⟩, hpp, by omega, HW⟩
      case rest =>
        obtain ⟨ps, rfl, ⟨PB, cpb, rfl, HPs⟩, Hpp, hpsl, HWe⟩ := hcut
        have hla := Hpp.out.lt (ps.length - 1) (by have := Hpp.out.pos; omega)
        have Hin := Lib.hid (path_in Hpp.out Hok.out HSa.out)
        have hs8 := (Hpp.out.at_ Hok.out (ps.length - 1) (by have := Hpp.out.pos; omega)).2.1
        have hr8 := HSa.out.lt (ps.getD (ps.length - 1) 0)
        have HLBe := Lib.hid (HLBd.out.below HWe.out)
        obtain ⟨_, c0, c1, c2, c3, c4⟩ := HLBe.out
        have Hal := Lib.hid (along_calls A MA MB PB ls L ps cap ca cb cpb wc (RdN.below HAd.out HWe.out) hm (HLd.out.below HWe.out) hl1 hl2 HPs.out (by unfold maxLen; omega) H0.out Hpp.out)
        have hwe := HWe.out.size
        generalize alongTo L ps (ps.length - 1) = s at *
        have hk1 : ps.getD (ps.length - 1) 0 < r1.length := by rw [E1.out]; exact hla
        obtain ⟨b1, off1, rfl, hb1, d1⟩ := RdU.at1 (Rd.below HRd.out HWe.out) hk1
        rw [← getD_at] at d1
        have Hcl1 := Lib.hid (fun w => in_calls s (r1.getD (ps.getD (ps.length - 1) 0) 0) w (by omega) (by omega))
        have Hcl2 := Lib.hid (fun w => in_calls (r1.getD (ps.getD (ps.length - 1) 0) 0) s w (by omega) (by omega))
        have qa : ((ps.getD (ps.length - 1) 0 : Nat) : Int) < ((ls.length : Nat) : Int) := by omega
        clear hk1
        generalize r1.getD (ps.getD (ps.length - 1) 0) 0 = y at *
        generalize ps.getD (ps.length - 1) 0 = la at *
        go_wp2_with fail
        refine Hal.out.mono ?_
        rintro e w8 ⟨rfl, hW8⟩
        have HW8 := Lib.hid (HWw.out.trans ((HWe.out.trans (hW8.mono hwe)).mono HWw.out.size))
        have d1 := (hW8.cell (p := ⟨b1, off1 + la, none⟩) hb1).trans d1
        clear c0 c1 c2 c3 c4
        obtain ⟨_, _, c1, _⟩ := HLBe.out.below hW8
        rcases Bool.eq_false_or_eq_true L.all with hall | hall
        · rw [hall] at c1
          rw [Hin.out.2 hall] at Hcl2
          clear hall hW8
          go_wp2_with (go_at_call 25; refine (Hcl2.out _).mono ?_; rintro e w9 ⟨rfl, rfl⟩)
          go_ret
          exact ⟨rfl, HW8.out⟩
        · rw [hall] at c1
          rw [Hin.out.1 hall] at Hcl1
          clear hall hW8
          go_wp2_with (go_at_call 25; refine (Hcl1.out _).mono ?_; rintro e w9 ⟨rfl, rfl⟩)
          go_ret
          exact ⟨rfl, HW8.out⟩
theorem factPath_u (A MA MB PA : Option Addr) (ls : List (List Int)) (L : LawD) (fst : Int) (pk : List Int) (cap ca cb cp : Nat) (w : World) (hA : RdN w A ls) (hm : ls.length ≤ maxLen) (hL : RdL w MA MB L) (hl1 : L.makes.length ≤ maxLen) (hl2 : L.ends.length ≤ maxLen)
    (hf : 0 ≤ fst ∧ fst ≤ 255) (hP : RdB w PA pk) (hok8 : bytesOk pk) (hpk : pk.length ≤ 2000000) :
    Calls Try.prog 16 #[.slice A ls.length cap, .agg #[.bool L.back, .bool L.all, .slice MA L.makes.length ca, .slice MB L.ends.length cb, .int .u32 (L.start : Nat)], .int .u8 fst, .slice PA pk.length cp] w fun e w' => e = .returned (.bool true) ∧ Below w.heap.size w w' := by
  obtain ⟨a, rfl⟩ := Int.eq_ofNat_of_zero_le hf.1
  exact factPath_calls A MA MB PA ls L a pk cap ca cb cp w hA hm hL hl1 hl2 (by omega) hP hok8 hpk
end Go.Proofs.Ytljmignfbagomaa
