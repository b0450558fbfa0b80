/- known.Fold walked (written by knfold.py). -/
import Derived.Test.YtmgejacndhnikaaKnW
import Derived.Test.YtmgejacndhnikaaKnX
import Derived.Test.YtmgejacndhnikaaOwnBk
import Derived.Deep.RegionHeld3
import Derived.StillTailTactics
namespace Go.Proofs.Ytmgejacndhnikaa
open Go.RowKit
theorem OwnBk.base_ {w : World} {b b' : Nat} {v : Value} {l : List Blk} (h : OwnBk w b v l) (hb : b' ≤ b) : OwnBk w b' v l := by
  obtain ⟨raws, h1, h2⟩ := h
  exact ⟨raws, Own.base_ h1 hb, h2⟩
theorem Own.under {α : Type} {f : α → List Value} {size base E B : Nat} {w w' : World} {v : Value} {l : List α} (h : Own f size w base E v l) (hv : ∀ g, v.ownBlock = some g → g < B) (hb : Below B w w') : Own f size w' base E v l := by
  refine ⟨h.1, ?_⟩
  rcases h.2 with h0 | ⟨g, cap, cur, h1, h2, h3, h4⟩
  · exact .inl h0
  · exact .inr ⟨g, cap, cur, h1, h2, (hb.block g (hv g (by rw [h1]; rfl))).trans h3, h4⟩
def FoldEnd (vars : Int) (p : List Blk) (h0 : List Int) (w : World) (e : Ending) (w' : World) : Prop :=
  ∃ F v, e = .returned (.tuple #[v, .int .i64 0]) ∧ SolK vars p h0 F ∧ OwnBk w' w.heap.size v (foldP p F) ∧ Below w.heap.size w w'
set_option maxRecDepth 100000 in
set_option maxHeartbeats 8000000 in
theorem knFold_ok (vars : Int) (A B : Option Addr) (p : List Blk) (h0 : List Int) (cap capB : Nat) (w : World) (hA : RdBk w A p) (hB : RdI w B h0) (hm : p.length ≤ maxLen) (hmc : smallB p) (hm' : h0.length ≤ maxLen) (h1 : pkErr vars p = 0) (h2 : startErr vars h0 = 0) :
    Calls Try.prog 39 #[.int .i64 vars, .slice A p.length cap, .slice B h0.length capB] w (FoldEnd vars p h0 w) := by
  have HA := Lib.hid hA
  have HB := Lib.hid hB
  have Hc := Lib.hid (knWrong_calls vars A B p h0 cap capB w hA hB hm hmc hm')
  rw [if_pos h1, h2] at Hc
  obtain ⟨hl, hb⟩ := startErr_ok h2
  have HP := Lib.hid (pok_of h1)
  have hn1 := HP.out.n1
  have hn8 := HP.out.n8
  have hv1 := HP.out.v1
  have hv6 := HP.out.v6
  have Hs := Lib.hid (fun w hA hB => solve_calls vars A B p h0 cap capB w hA hB (pok_of h1) hl hb)
  clear hA hB h1 h2 hl hb
  have q22 : ∀ (w : World) (a : Option Addr) (n c n' c' : Nat), (binOp .eql 23 (.slice a n c) (.slice none n' c')).run Try.prog w = .ok (.bool a.isNone) w := fun w a n c n' c' => Lib.run_eql_slice_nil w _ _ a n c n' c' Try.underlying23
  go_enter Try.func39, Try.ntmps39
  go_wp2_with (first
    | (go_at_call 86; refine Hc.out.mono ?_; rintro e w1 ⟨rfl, hW⟩; have HW1 := Lib.hid hW; clear hW)
    | (go_at_call 87; refine (Hs.out _ (HA.out.below HW1.out) (Rd.below HB.out HW1.out)).mono ?_; rintro e w2 ⟨F, vals, B', rfl, hS, hL, hW2⟩; have HL := Lib.hid hL; have HS := Lib.hid hS; have HW2 := Lib.hid (HW1.out.trans (hW2.mono HW1.out.size)); have hz12 := hW2.size; clear hL hS hW2))
  have hz2 := HW2.out.size
  clear Hc Hs HB hm'
  go_loopw [9, 28] (fun o i wr => ∃ (k : Nat), k ≤ p.length ∧ i = .int .i64 k ∧ OwnBk wr w2.heap.size o (foldP (p.take k) (F.take k)) ∧ Below w2.heap.size w2 wr) (fun _ i _ => p.length - (intOf i).toNat)
  case atStart => exact ⟨0, Nat.zero_le _, rfl, OwnBk.nil_ _ _, Below.refl _ _⟩
  case round =>
    obtain ⟨k, hk, rfl, hO, hW⟩ := hrel
    have HO := Lib.hid hO
    have HW := Lib.hid hW
    have hws := hW.size
    have HWw := Lib.hid (HW2.out.trans (hW.mono hz2))
    clear hO hW
    by_cases hlt : k < p.length
    · obtain ⟨pb, off, A', cap', rfl, hpb, c0, c1, c2, c3, hSt⟩ := RdBk.at_ (HA.out.below HWw.out) hlt
      have Hr := Lib.hid (rowF_get? (F := F) (i := k) (by rw [HS.out.1.len]; exact hlt))
      obtain ⟨u, hu, cu, -, hun, hus⟩ := (HL.out.below HW.out).at_ Hr.out
      have Hk := Lib.hid hlt
      have hlt : ((k : Nat) : Int) < ((p.length : Nat) : Int) := by omega
      have HSt := Lib.hid hSt
      have hbo := HP.out.bs _ (List.getElem_mem Hk.out)
      have hmb := manyB_mem (List.getElem_mem Hk.out)
      have hm20 := HP.out.many
      have Hsucc := Lib.hid (foldP_succ HS.out.1.len Hk.out)
      have hll : (foldP (p.take k) (F.take k)).length ≤ 8 := by unfold foldP; rw [List.length_zipWith, List.length_take]; omega
      have Hrb := Lib.hid (HS.out.1.bd k)
      have Hwid := Lib.hid (HS.out.1.wid k)
      clear hSt hu
      generalize hrr : rowF F k = r at *
      clear hrr
      by_cases hr0 : r = []
      · obtain rfl := hun hr0
        subst hr0
        have HWa := Lib.hid (HW.out.alloc hws (.cells #[.slice none 0 0, .int .i64 (-1), .int .i64 (-1), .int .i64 0] 85))
        obtain ⟨v', w', hrun, hO', hg'⟩ := OwnBk.app (HO.out.below ((Below.refl wr.heap.size wr).alloc (Nat.le_refl _) (.cells #[.slice none 0 0, .int .i64 (-1), .int .i64 (-1), .int .i64 0] 85))) (by simp; omega) (by omega) wr.heap.size 1 none 0 bnul (cell_new wr _ _ wr.heap.size rfl 0) (cell_new wr _ _ wr.heap.size rfl 1) (cell_new wr _ _ wr.heap.size rfl 2) (cell_new wr _ _ wr.heap.size rfl 3) Rd.nil_ (fun q hq => by cases hq)
        have HO' := Lib.hid hO'
        have HW' := Lib.hid (HWa.out.grown hg' (by simp; omega) (fun q e => (HO.out.lt q e).1))
        have Hrun := Lib.hid hrun
        clear hrun hO' hg' HWa hun hus
        go_wp2_with (at_builtin; refine wpList_app_run rfl 22 _ _ rfl rfl rfl Hrun.out ?_; clear Hrun)
        go_roundw
        case rel => exact ⟨k + 1, by omega, by go_num, by rw [Hsucc.out]; exact HO'.out, HW'.out⟩
        case measure => simp [intOf]; omega
      obtain ⟨g, c, rfl, hgB, hgw, hfz, hRr, -⟩ := hus hr0
      have hrl := Hwid.out hr0
      have hr1 : 1 ≤ r.length := by omega
      have hr8 : r.length ≤ 8 := by omega
      have Hfd := Lib.hid (show fdB (p[k]'Hk.out) r = fdT (p[k]'Hk.out) r by unfold fdB; rw [if_neg hr0])
      have HRr := Lib.hid hRr
      have Hr0 := Lib.hid hr0
      have Hbo := Lib.hid hbo
      clear hun hus hgB hgw hfz hRr hr0 hbo Hr Hwid
      generalize hbk : p[k] = bk at *
      clear hbk
      obtain ⟨code, test, thn, els⟩ := bk
      dsimp only at c0 c1 c2 c3 HSt hmb
      have Hb1 := Lib.hid ((Below.refl wr.heap.size wr).alloc (Nat.le_refl _) (.cells #[.slice A' code.length cap', .int .i64 test, .int .i64 thn, .int .i64 els] 85))
      have HT1 := Lib.hid (heap_alloc_new wr (.cells #[.slice A' code.length cap', .int .i64 test, .int .i64 thn, .int .i64 els] 85))
      have hza : (wr.alloc (.cells #[.slice A' code.length cap', .int .i64 test, .int .i64 thn, .int .i64 els] 85)).heap.size = wr.heap.size + 1 := by simp
      have Hbe := Lib.hid (behind_calls vars ⟨code, test, thn, els⟩ A' (some ⟨g, 0, none⟩) r cap' c (wr.alloc (.cells #[.slice A' code.length cap', .int .i64 test, .int .i64 thn, .int .i64 els] 85)) (Rd.below HSt.out Hb1.out) (Rd.below HRr.out Hb1.out) hrl hr1 hr8 (by dsimp only; omega) Hbo.out.code Hrb.out Hbo.out.hi)
      dsimp only at Hbe
      go_wp2_with (first
        | (go_at_call 88; refine Hbe.out.mono ?_; intro e w9 h9; obtain ⟨hW9, x, y, rfl, -, hY9⟩ := h9
           obtain ⟨Y, cy, rfl, -⟩ := OwnI.rd hY9
           have HY9 := Lib.hid hY9
           have HW9 := Lib.hid (Hb1.out.trans (hW9.mono (by omega)))
           have HT9 := Lib.hid ((hW9.block _ (by omega)).trans HT1.out)
           have hz9 : wr.heap.size < w9.heap.size := by have := hW9.size; omega
           have HYl := Lib.hid (own_lt hY9)
           have p0 := cell_h HT9.out 0
           clear hW9 hY9 Hbe HT1 Hb1)
        | (go_at_call 89; refine (cloneSt_calls A' code cap' w9 (Rd.below HSt.out HW9.out) (by omega)).mono ?_; rintro e w10 ⟨v10, rfl, hO10, hW10⟩
           obtain ⟨C, cc, rfl, hCr⟩ := hO10.rd
           have hT10 := (hW10.block _ hz9).trans HT9.out
           have f10 : w10.frozen? ⟨wr.heap.size, 0, none⟩ = false := fz_h hT10 0
           have q0 := cell_h hT10 0
           have HT10 : Hid ((w10.setCell ⟨wr.heap.size, 0, none⟩ (.slice C code.length cc)).heap[wr.heap.size]? = some (.cells #[.slice C code.length cc, .int .i64 test, .int .i64 thn, .int .i64 els] 85 (0, 0))) := Lib.hid (heapSetCell w10 wr.heap.size 0 (.slice C code.length cc) _ _ hT10)
           have HCl := Lib.hid (own_lt hO10)
           have HC10 := Lib.hid (Own.far hO10 (p := ⟨wr.heap.size, 0, none⟩) (fun e => by have := (HCl.out _ e).1; dsimp only at this; omega) (.slice C code.length cc))
           have HY10 := Lib.hid (Own.far (Own.below HY9.out hW10) (p := ⟨wr.heap.size, 0, none⟩) (fun e => by have := (HYl.out _ e).1; dsimp only at this; omega) (.slice C code.length cc))
           have HW10 := Lib.hid ((HW9.out.trans (hW10.mono (by omega))).setCell (p := ⟨wr.heap.size, 0, none⟩) (Nat.le_refl _) (.slice C code.length cc))
           have hz10 : w9.heap.size ≤ w10.heap.size := hW10.size
           have hz10s : (w10.setCell ⟨wr.heap.size, 0, none⟩ (.slice C code.length cc)).heap.size = w10.heap.size := by simp [World.setCell]
           have HCz : Hid (∀ q, C = some q → (Value.slice (some q) (fdC code r).length cc).ownBlock = some q.block) := Lib.hid (fun q _ => rfl)
           clear hO10 hW10 hCr hT10 HY9 HW9 HT9 p0)
        | (go_at_call 59; refine (cloneI_calls (some ⟨g, 0, none⟩) r c _ (Rd.below HRr.out HW10.out) hr1 (by omega)).mono ?_; rintro e w11 ⟨u11, rfl, hO11, hW11⟩
           obtain ⟨gv, vc, rfl, hgvb, hgvl, -⟩ := OwnI.at_ hO11 hr1
           rw [hz10s] at hgvb
           have HV11 := Lib.hid (Own.base_ hO11 (show w10.heap.size ≤ _ by rw [hz10s]; exact Nat.le_refl _))
           have HC11 := Lib.hid (Own.below HC10.out hW11)
           have HY11 := Lib.hid (Own.below HY10.out hW11)
           have HT11 := Lib.hid ((hW11.block _ (show wr.heap.size < _ by rw [hz10s]; omega)).trans HT10.out)
           have HW11 := Lib.hid (HW10.out.trans (hW11.mono (by rw [hz10s]; omega)))
           have b0 := cell_h HT11.out 0
           have hz11 : w10.heap.size ≤ w11.heap.size := by have := hW11.size; omega
           clear hO11 hW11 HC10 HY10 HT10 HW10 q0 f10 HRr))
      obtain ⟨wo, rfl⟩ : ∃ wo : World, wo = wr := ⟨_, rfl⟩
      go_loopw [58] (fun i wi => ∃ (k2 : Nat) (a : List Int) (cd : List Step), k2 ≤ code.length ∧ i = .int .i64 k2 ∧ OwnI wi w10.heap.size 3 (.slice (some ⟨gv, 0, none⟩) r.length vc) a ∧ OwnSt wi w9.heap.size 87 (.slice C code.length cc) cd ∧ Below w9.heap.size w11 wi ∧ Hid (a = knR r (code.take k2) ∧ cd = fdK code r k2 ∧ a.length = r.length ∧ ∀ x ∈ a, -1 ≤ x ∧ x ≤ 255)) (fun i _ => code.length - (intOf i).toNat)
      case atStart => exact ⟨0, _, _, Nat.zero_le _, rfl, HV11.out, HC11.out, Below.refl _ _, Lib.hid ⟨rfl, rfl, rfl, Hrb.out⟩⟩
      case round =>
        obtain ⟨wi, rfl⟩ : ∃ wi : World, wi = wr := ⟨_, rfl⟩
        obtain ⟨wr, rfl⟩ : ∃ wr : World, wr = wo := ⟨_, rfl⟩
        clear b0 HV11 HC11
        obtain ⟨k2, a, cd, hk2, rfl, hV, hC, hB, hE⟩ := hrel
        have HV := Lib.hid hV
        have HC := Lib.hid hC
        have HB := Lib.hid hB
        have hws2 := hB.size
        have hE := Lib.hid hE.out
        by_cases hlt2 : k2 < code.length
        · have hcl1 : cd.length ≤ code.length := by rw [hE.out.2.1, fdK_len]; exact Nat.le_refl _
          have hcl2 : code.length ≤ cd.length := by rw [hE.out.2.1, fdK_len]; exact Nat.le_refl _
          obtain ⟨gc, egc, hgc1, hgc2, -, hgcc⟩ := OwnSt.at5 hC (by omega)
          subst egc
          have hgc3 := (HCl.out gc rfl).2
          have e5 : cd[k2]'(by omega) = code[k2] := by
            have h := fdK_at hlt2 r
            rw [← hE.out.2.1, List.getElem?_eq_getElem (by omega)] at h
            injection h
          obtain ⟨d0, d1, d2, d3, d4⟩ := hgcc k2 (by omega)
          rw [e5] at d0 d1 d2 d3 d4
          have hok := Hbo.out.code code[k2] (List.getElem_mem hlt2)
          have hst : kn1 a code[k2] = knR r (code.take (k2 + 1)) ∧ (kn1 a code[k2]).length = r.length ∧ ∀ x ∈ kn1 a code[k2], -1 ≤ x ∧ x ≤ 255 := by
            refine ⟨?_, by rw [kn1_len]; exact hE.out.2.2.1, kn1_bd hE.out.2.2.2 hok⟩
            rw [List.take_succ_eq_append_getElem hlt2, knR_append, ← hE.out.1]; rfl
          have Hst := Lib.hid hst
          have Hok := Lib.hid hok
          have Hcd1 : Hid (mkK a code[k2] = -1 → cd = fdK code r (k2 + 1)) := Lib.hid (fun h => by rw [hE.out.2.1]; exact fdK_keep hlt2 r (by rw [← hE.out.1]; exact h))
          have Hcd2 : Hid (mkK a code[k2] ≠ -1 → cd.set k2 ⟨1, code[k2].to, 0, 0, mkK a code[k2]⟩ = fdK code r (k2 + 1)) := Lib.hid (fun h => by
            rw [← fdK_succ hlt2 r, ← hE.out.2.1, ← hE.out.1]; unfold fd1; rw [if_neg h])
          have hal1 : a.length ≤ r.length := by rw [hE.out.2.2.1]; exact Nat.le_refl _
          have hal2 : r.length ≤ a.length := by rw [hE.out.2.2.1]; exact Nat.le_refl _
          have Hbd := Lib.hid hE.out.2.2.2
          have hav : ((a.length : Nat) : Int) = vars := by omega
          have Hal := Lib.hid (show a.length = r.length by omega)
          obtain ⟨-, -, -, -, ⟨t0, t1⟩, -⟩ := hok
          have Hlt2 := Lib.hid hlt2
          have hlt2 : ((k2 : Nat) : Int) < ((code.length : Nat) : Int) := by omega
          clear hst hE e5 hgcc
          generalize code[k2]'Hlt2.out = s at *
          obtain ⟨op, sto, sa, sb, sv⟩ := s
          dsimp only at t0 t1 d0 d1 d2 d3 d4
          obtain ⟨d, rfl⟩ := Int.eq_ofNat_of_zero_le t0
          have qd : ((d : Nat) : Int) < ((r.length : Nat) : Int) := by omega
          have hd : d < r.length := by omega
          have hda : d < a.length := by omega
          obtain ⟨g', eg, -, hgr, -, hfz, hcell⟩ := OwnI.at2 hV (by omega)
          injection eg with eg; injection eg with eg
          subst eg
          have e1 : kn1 a ⟨op, (d : Nat), sa, sb, sv⟩ = a.set d (mkK a ⟨op, (d : Nat), sa, sb, sv⟩) := by unfold kn1; dsimp only; rw [Int.toNat_natCast]
          rw [e1] at Hst
          have HV0 := Lib.hid ((HV.out.alloc (.cells #[.int .i64 op, .int .i64 (d : Nat), .int .i64 sa, .int .i64 sb, .int .i64 sv] 87)).drew)
          have HC0 := Lib.hid ((HC.out.alloc (.cells #[.int .i64 op, .int .i64 (d : Nat), .int .i64 sa, .int .i64 sb, .int .i64 sv] 87)).drew)
          have HB0 := Lib.hid ((HB.out.alloc (show w9.heap.size ≤ wi.heap.size by omega) (.cells #[.int .i64 op, .int .i64 (d : Nat), .int .i64 sa, .int .i64 sb, .int .i64 sv] 87)).drew)
          have HT0 : Hid (wi.heap.size < (wi.alloc (.cells #[.int .i64 op, .int .i64 (d : Nat), .int .i64 sa, .int .i64 sb, .int .i64 sv] 87)).drew.heap.size) := Lib.hid (by show wi.heap.size < (wi.alloc (.cells #[.int .i64 op, .int .i64 (d : Nat), .int .i64 sa, .int .i64 sb, .int .i64 sv] 87)).heap.size; simp)
          have Hcl : Hid (Calls Try.prog 90 #[(⟨op, (d : Nat), sa, sb, sv⟩ : Step).agg, .slice (some ⟨gv, 0, none⟩) a.length vc] (wi.alloc (.cells #[.int .i64 op, .int .i64 (d : Nat), .int .i64 sa, .int .i64 sb, .int .i64 sv] 87)).drew _) := Lib.hid (makes_calls a.length ⟨op, (d : Nat), sa, sb, sv⟩ (some ⟨gv, 0, none⟩) a vc (wi.alloc (.cells #[.int .i64 op, .int .i64 (d : Nat), .int .i64 sa, .int .i64 sb, .int .i64 sv] 87)).drew (by obtain ⟨A9, c9, e9, h9⟩ := OwnI.rd HV0.out; injection e9 with e9; subst e9; exact h9) (by omega) (by rw [hav]; exact Hok.out) Hbd.out)
          have HSs : Hid (∀ (w' : World) (u : Value), (w'.cell? ⟨wi.heap.size, 0, none⟩ = some (.int .i64 op) ∧ w'.cell? ⟨wi.heap.size, 1, none⟩ = some (.int .i64 (d : Nat)) ∧ w'.cell? ⟨wi.heap.size, 2, none⟩ = some (.int .i64 sa) ∧ w'.cell? ⟨wi.heap.size, 3, none⟩ = some (.int .i64 sb) ∧ w'.cell? ⟨wi.heap.size, 4, none⟩ = some (.int .i64 sv)) → ((w'.setCell ⟨gv, d, none⟩ u).cell? ⟨wi.heap.size, 0, none⟩ = some (.int .i64 op) ∧ (w'.setCell ⟨gv, d, none⟩ u).cell? ⟨wi.heap.size, 1, none⟩ = some (.int .i64 (d : Nat)) ∧ (w'.setCell ⟨gv, d, none⟩ u).cell? ⟨wi.heap.size, 2, none⟩ = some (.int .i64 sa) ∧ (w'.setCell ⟨gv, d, none⟩ u).cell? ⟨wi.heap.size, 3, none⟩ = some (.int .i64 sb) ∧ (w'.setCell ⟨gv, d, none⟩ u).cell? ⟨wi.heap.size, 4, none⟩ = some (.int .i64 sv))) := Lib.hid fun w' u h => by
            obtain ⟨p0, p1, p2, p3, p4⟩ := h
            exact ⟨(World.cell?_setCell_far _ _ _ _ (by show gv ≠ wi.heap.size; omega)).trans p0, (World.cell?_setCell_far _ _ _ _ (by show gv ≠ wi.heap.size; omega)).trans p1, (World.cell?_setCell_far _ _ _ _ (by show gv ≠ wi.heap.size; omega)).trans p2, (World.cell?_setCell_far _ _ _ _ (by show gv ≠ wi.heap.size; omega)).trans p3, (World.cell?_setCell_far _ _ _ _ (by show gv ≠ wi.heap.size; omega)).trans p4⟩
          have hS0 : (wi.alloc (.cells #[.int .i64 op, .int .i64 (d : Nat), .int .i64 sa, .int .i64 sb, .int .i64 sv] 87)).drew.cell? ⟨wi.heap.size, 0, none⟩ = some (.int .i64 op) ∧ (wi.alloc (.cells #[.int .i64 op, .int .i64 (d : Nat), .int .i64 sa, .int .i64 sb, .int .i64 sv] 87)).drew.cell? ⟨wi.heap.size, 1, none⟩ = some (.int .i64 (d : Nat)) ∧ (wi.alloc (.cells #[.int .i64 op, .int .i64 (d : Nat), .int .i64 sa, .int .i64 sb, .int .i64 sv] 87)).drew.cell? ⟨wi.heap.size, 2, none⟩ = some (.int .i64 sa) ∧ (wi.alloc (.cells #[.int .i64 op, .int .i64 (d : Nat), .int .i64 sa, .int .i64 sb, .int .i64 sv] 87)).drew.cell? ⟨wi.heap.size, 3, none⟩ = some (.int .i64 sb) ∧ (wi.alloc (.cells #[.int .i64 op, .int .i64 (d : Nat), .int .i64 sa, .int .i64 sb, .int .i64 sv] 87)).drew.cell? ⟨wi.heap.size, 4, none⟩ = some (.int .i64 sv) := ⟨cell_new wi _ _ wi.heap.size rfl 0, cell_new wi _ _ wi.heap.size rfl 1, cell_new wi _ _ wi.heap.size rfl 2, cell_new wi _ _ wi.heap.size rfl 3, cell_new wi _ _ wi.heap.size rfl 4⟩
          rw [Hal.out] at Hcl
          unfold Step.agg at Hcl
          dsimp only at Hcl Hcd1 Hcd2
          clear e1 hfz hcell hV hC hB Hok Hbd HV HC HB
          generalize mkK a ⟨op, (d : Nat), sa, sb, sv⟩ = z at *
          go_wp2
          refine wp_region_held_drew (S := fun w' => w'.cell? ⟨wi.heap.size, 0, none⟩ = some (.int .i64 op) ∧ w'.cell? ⟨wi.heap.size, 1, none⟩ = some (.int .i64 (d : Nat)) ∧ w'.cell? ⟨wi.heap.size, 2, none⟩ = some (.int .i64 sa) ∧ w'.cell? ⟨wi.heap.size, 3, none⟩ = some (.int .i64 sb) ∧ w'.cell? ⟨wi.heap.size, 4, none⟩ = some (.int .i64 sv)) (by kernel_rfl) hS0 (fun hH0 => ?_)
          clear hS0
          generalize (wi.alloc (.cells #[.int .i64 op, .int .i64 (d : Nat), .int .i64 sa, .int .i64 sb, .int .i64 sv] 87)).drew = w0 at *
          refine wpAnyH_take (i := 0) (oi := { dst := some 63, op := Go.Op.move (Go.Operand.tmp 11), type := 23, pos := "known.go:114", after := #[], guard := none }) rfl (by kernel_rfl) (by kernel_rfl) (by kernel_rfl) (fun _ _ _ h => h) (Or.inl ⟨by rfl, fun w hw => by (go_simp; try with_reducible rfl)⟩) (by assumption) ?_
          try simp only [Act.put, List.setIfInBounds_toArray, List.set_cons_zero, List.set_cons_succ]
          refine wpAnyH_take (i := 1) (oi := { dst := some 64, op := Go.Op.fieldAddr 87 (Go.Operand.tmp 16) 1, type := 0, pos := "known.go:114", after := #[], guard := none }) rfl (by kernel_rfl) (by kernel_rfl) (by kernel_rfl) (fun _ _ _ h => h) (Or.inl ⟨by rfl, fun w hw => by (go_simp; try with_reducible rfl)⟩) (by assumption) ?_
          try simp only [Act.put, List.setIfInBounds_toArray, List.set_cons_zero, List.set_cons_succ]
          refine wpAnyH_take (i := 2) (oi := { dst := some 65, op := Go.Op.load 3 (Go.Operand.tmp 64), type := 3, pos := "known.go:114", after := #[{ on := 1, ground := Go.Ground.data }], guard := none }) rfl (by kernel_rfl) (by kernel_rfl) (by kernel_rfl) (fun _ _ _ h => h) (Or.inl ⟨by rfl, fun w hw => by (obtain ⟨p0, p1, p2, p3, p4⟩ := hw; go_simp; try with_reducible rfl)⟩) (by assumption) ?_
          try simp only [Act.put, List.setIfInBounds_toArray, List.set_cons_zero, List.set_cons_succ]
          refine wpAnyH_take (i := 3) (oi := { dst := some 66, op := Go.Op.load 87 (Go.Operand.tmp 16), type := 87, pos := "known.go:114", after := #[], guard := none }) rfl (by kernel_rfl) (by kernel_rfl) (by kernel_rfl) (fun _ _ _ h => h) (Or.inl ⟨by rfl, fun w hw => by (obtain ⟨p0, p1, p2, p3, p4⟩ := hw; go_simp; try with_reducible rfl)⟩) (by assumption) ?_
          try simp only [Act.put, List.setIfInBounds_toArray, List.set_cons_zero, List.set_cons_succ]
          refine wpAnyH_take (i := 4) (oi := { dst := some 67, op := Go.Op.move (Go.Operand.tmp 11), type := 23, pos := "known.go:114", after := #[], guard := none }) rfl (by kernel_rfl) (by kernel_rfl) (by kernel_rfl) (fun _ _ _ h => h) (Or.inl ⟨by rfl, fun w hw => by (go_simp; try with_reducible rfl)⟩) (by assumption) ?_
          try simp only [Act.put, List.setIfInBounds_toArray, List.set_cons_zero, List.set_cons_succ]
          refine wpAnyH_ready (rs := [5]) (by kernel_rfl) (by simp) ?_
          refine AllReadyH.cons (o := { dst := some 68, op := Go.Op.call { callee := Go.Callee.value (Go.Operand.func 90), args := #[Go.Operand.tmp 66, Go.Operand.tmp 67], argTypes := #[87, 23] }, type := 3, pos := "known.go:114", after := #[{ on := 3, ground := Go.Ground.data }, { on := 4, ground := Go.Ground.data }], guard := none }) rfl (fun K hK => ?_) AllReadyH.nil
          go_simp
          go_at_call 90
          refine Hcl.out.mono ?_
          rintro e wm ⟨rfl, hWm⟩
          have hSm : wm.cell? ⟨wi.heap.size, 0, none⟩ = some (.int .i64 op) ∧ wm.cell? ⟨wi.heap.size, 1, none⟩ = some (.int .i64 (d : Nat)) ∧ wm.cell? ⟨wi.heap.size, 2, none⟩ = some (.int .i64 sa) ∧ wm.cell? ⟨wi.heap.size, 3, none⟩ = some (.int .i64 sb) ∧ wm.cell? ⟨wi.heap.size, 4, none⟩ = some (.int .i64 sv) := by obtain ⟨p0, p1, p2, p3, p4⟩ := hH0; exact ⟨(hWm.cell (p := ⟨_, 0, none⟩) HT0.out).trans p0, (hWm.cell (p := ⟨_, 1, none⟩) HT0.out).trans p1, (hWm.cell (p := ⟨_, 2, none⟩) HT0.out).trans p2, (hWm.cell (p := ⟨_, 3, none⟩) HT0.out).trans p3, (hWm.cell (p := ⟨_, 4, none⟩) HT0.out).trans p4⟩
          have HVm := Lib.hid (Own.below HV0.out hWm)
          have HCm := Lib.hid (Own.below HC0.out hWm)
          have HBm := Lib.hid (HB0.out.trans (hWm.mono (by have := HB0.out.size; omega)))
          obtain ⟨g9, eg9, _, hg9, _, hfz9, hcell9⟩ := OwnI.at2 HVm.out (by omega)
          injection eg9 with eg9; injection eg9 with eg9
          subst eg9
          have c9 := hcell9 d (by omega)
          have f9 := hfz9 d
          clear hcell9 hfz9 hWm
          refine hK.out _ _ hSm (fun hH1 => ?_)
          clear hSm
          clear hK hH0
          have hH0 := hH1
          clear hH1
          try simp only [Act.put, List.setIfInBounds_toArray, List.set_cons_zero, List.set_cons_succ]
          refine wpAnyH_take (i := 6) (oi := { dst := some 69, op := Go.Op.indexAddr 23 (Go.Operand.tmp 63) (Go.Operand.tmp 65), type := 0, pos := "known.go:114", after := #[{ on := 0, ground := Go.Ground.data }, { on := 2, ground := Go.Ground.data }, { on := 0, ground := Go.Ground.phase }, { on := 1, ground := Go.Ground.phase }, { on := 2, ground := Go.Ground.phase }, { on := 3, ground := Go.Ground.phase }, { on := 4, ground := Go.Ground.phase }, { on := 5, ground := Go.Ground.phase }], guard := none }) rfl (by kernel_rfl) (by kernel_rfl) (by kernel_rfl) (fun _ _ _ h => h) (Or.inl ⟨by rfl, fun w hw => by (go_simp; try with_reducible rfl)⟩) (by assumption) ?_
          try simp only [Act.put, List.setIfInBounds_toArray, List.set_cons_zero, List.set_cons_succ]
          refine wpAnyH_ready (rs := [7]) (by kernel_rfl) (by simp) ?_
          refine AllReadyH.cons (o := { dst := none, op := Go.Op.store 3 (Go.Operand.tmp 69) (Go.Operand.tmp 68), type := 0, pos := "known.go:114", after := #[{ on := 6, ground := Go.Ground.data }, { on := 5, ground := Go.Ground.data }, { on := 5, ground := Go.Ground.chain }, { on := 0, ground := Go.Ground.phase }, { on := 1, ground := Go.Ground.phase }, { on := 2, ground := Go.Ground.phase }, { on := 3, ground := Go.Ground.phase }, { on := 4, ground := Go.Ground.phase }, { on := 5, ground := Go.Ground.phase }], guard := none }) rfl (fun K hK => ?_) AllReadyH.nil
          go_simp
          refine hK.out _ _ (HSs.out _ _ hH0) (fun hH1 => ?_)
          clear hK hH0
          try simp only [Act.put, List.setIfInBounds_toArray, List.set_cons_zero, List.set_cons_succ]
          refine wpAnyH_done (by kernel_rfl) ?_ _
          have HVf := Lib.hid (OwnI.set_ HVm.out (k := d) (by omega) z)
          have HCf := Lib.hid (Own.far HCm.out (p := ⟨gv, d, none⟩) (fun e => by have e : some gc = some gv := e; injection e with e; omega) (.int .i64 z))
          have HBf := Lib.hid (HBm.out.setCell (p := ⟨gv, d, none⟩) (show w9.heap.size ≤ gv by omega) (.int .i64 z))
          clear HVm HCm HBm HV0 HC0 HB0 HSs Hcl c9 f9
          generalize wm.setCell ⟨gv, d, none⟩ (.int .i64 z) = wz at *
          obtain ⟨s0, s1, s2, s3, s4⟩ := hH1
          obtain ⟨gv', egv, -, -, -, hfv, hcv⟩ := OwnI.at2 HVf.out (by rw [List.length_set]; omega)
          injection egv with egv; injection egv with egv
          subst egv
          have cv := hcv d (by rw [List.length_set]; omega)
          rw [List.getElem_set_self] at cv
          obtain ⟨gc', egc, -, -, hfc, hcc⟩ := OwnSt.at5 HCf.out (by omega)
          injection egc with egc; injection egc with egc
          subst egc
          obtain ⟨e0, e1, e2, e3, e4⟩ := hcc k2 (by omega)
          have fc0 := hfc (k2 * 5)
          have fc1 := hfc (k2 * 5 + 1)
          have fc2 := hfc (k2 * 5 + 2)
          have fc3 := hfc (k2 * 5 + 3)
          have fc4 := hfc (k2 * 5 + 4)
          have HTz := Lib.hid ((HBf.out.block _ (show wr.heap.size < w9.heap.size by omega)).trans HT11.out)
          have b0 := cell_h HTz.out 0
          clear hfv hcv hfc hcc
          by_cases hz : z = -1
          · have Hq := Lib.hid (Hcd1.out hz)
            have qz : (z != -1) = false := by rw [hz]; rfl
            have HCf2 : Hid (OwnSt wz w9.heap.size 87 (.slice (some ⟨gc, 0, none⟩) code.length cc) (fdK code r (k2 + 1))) := Lib.hid (by rw [← Hq.out]; exact HCf.out)
            clear e0 e1 e2 e3 e4
            go_wp2
            go_roundw
            case rel => exact ⟨k2 + 1, _, _, by omega, by go_num, HVf.out, HCf2.out, HBf.out, Lib.hid ⟨Hst.out.1, rfl, Hst.out.2.1, Hst.out.2.2⟩⟩
            case measure => simp [intOf]; omega
          · have Hq := Lib.hid (Hcd2.out hz)
            have qz : (z != -1) = true := by rw [bne_iff_ne]; exact hz
            have HCs := Lib.hid (OwnSt.set5 HCf.out (k := k2) (by omega) ⟨1, (d : Nat), 0, 0, z⟩)
            have HVs := Lib.hid (Own.far (Own.far (Own.far (Own.far (Own.far HVf.out (p := ⟨gc, k2 * 5, none⟩) (fun e => by have e : some gv = some gc := e; injection e with e; omega) (.int .i64 1)) (p := ⟨gc, k2 * 5 + 1, none⟩) (fun e => by have e : some gv = some gc := e; injection e with e; omega) (.int .i64 (d : Nat))) (p := ⟨gc, k2 * 5 + 2, none⟩) (fun e => by have e : some gv = some gc := e; injection e with e; omega) (.int .i64 0)) (p := ⟨gc, k2 * 5 + 3, none⟩) (fun e => by have e : some gv = some gc := e; injection e with e; omega) (.int .i64 0)) (p := ⟨gc, k2 * 5 + 4, none⟩) (fun e => by have e : some gv = some gc := e; injection e with e; omega) (.int .i64 z))
            have HBs := Lib.hid (((((HBf.out.setCell (p := ⟨gc, k2 * 5, none⟩) (show w9.heap.size ≤ gc by omega) (.int .i64 1)).setCell (p := ⟨gc, k2 * 5 + 1, none⟩) (show w9.heap.size ≤ gc by omega) (.int .i64 (d : Nat))).setCell (p := ⟨gc, k2 * 5 + 2, none⟩) (show w9.heap.size ≤ gc by omega) (.int .i64 0)).setCell (p := ⟨gc, k2 * 5 + 3, none⟩) (show w9.heap.size ≤ gc by omega) (.int .i64 0)).setCell (p := ⟨gc, k2 * 5 + 4, none⟩) (show w9.heap.size ≤ gc by omega) (.int .i64 z))
            rw [Hq.out] at HCs
            dsimp only at HCs
            clear HVf HCf HBf Hcd1 Hcd2 HTz
            go_wp2
            go_still_tail 12, (by kernel_rfl)
            go_wp2
            go_roundw
            case rel => exact ⟨k2 + 1, _, _, by omega, by go_num, HVs.out.drew, HCs.out.drew, HBs.out.drew, Lib.hid ⟨Hst.out.1, rfl, Hst.out.2.1, Hst.out.2.2⟩⟩
            case measure => simp [intOf]; omega
        · have : k2 = code.length := by omega
          subst this
          obtain ⟨ha, hcd, -, -⟩ := hE.out
          rw [List.take_length] at ha
          rw [fdK_all] at hcd
          subst ha hcd
          have HTi := Lib.hid ((HB.out.block _ (show wr.heap.size < w9.heap.size by omega)).trans HT11.out)
          have HWi := Lib.hid (HW11.out.trans (HB.out.mono (show wr.heap.size ≤ w9.heap.size by omega)))
          have HYi := Lib.hid (Own.under HY11.out (fun g hg => (HYl.out g hg).2) HB.out)
          have b0 := cell_h HTi.out 0
          have b1 := cell_h HTi.out 1
          have b2 := cell_h HTi.out 2
          have b3 := cell_h HTi.out 3
          clear hV hB hE HV HY11 HT11 HW11 hC HB
          by_cases ht : 0 ≤ test ∧ (goK ⟨code, test, thn, els⟩ (knR r code)).length = 1
          · obtain ⟨ht0, ht1⟩ := ht
            have Hfd : Hid (fdB ⟨code, test, thn, els⟩ r = ⟨fdC code r, -1, (goK ⟨code, test, thn, els⟩ (knR r code)).headD 0, 0⟩) := Lib.hid (by rw [Hfd.out]; unfold fdT; dsimp only; rw [if_pos ⟨ht0, ht1⟩])
            generalize hts : goK ⟨code, test, thn, els⟩ (knR r code) = ts at *
            clear hts
            obtain ⟨x0, rfl⟩ := List.length_eq_one_iff.1 ht1
            rw [List.headD_cons] at Hfd
            obtain ⟨gy, egy, hgy1, hgy2, _, _, hcy⟩ := OwnI.at2 HYi.out (by simp)
            subst egy
            have cy0 := hcy 0 (by simp)
            rw [List.getElem_cons_zero] at cy0
            have hgyl := HYl.out gy rfl
            have q1 : decide (0 ≤ test) = true := decide_eq_true ht0
            have hT0 := HTi.out
            have HT1 : Hid ((wi.drew.setCell ⟨wr.heap.size, 1, none⟩ (.int .i64 (-1))).heap[wr.heap.size]? = some (.cells #[.slice C code.length cc, .int .i64 (-1), .int .i64 thn, .int .i64 els] 85 (0, 0))) := Lib.hid (heapSetCell wi.drew wr.heap.size 1 (.int .i64 (-1)) _ _ hT0)
            have HT2 : Hid (((wi.drew.setCell ⟨wr.heap.size, 1, none⟩ (.int .i64 (-1))).setCell ⟨wr.heap.size, 2, none⟩ (.int .i64 x0)).heap[wr.heap.size]? = some (.cells #[.slice C code.length cc, .int .i64 (-1), .int .i64 x0, .int .i64 els] 85 (0, 0))) := Lib.hid (heapSetCell _ wr.heap.size 2 (.int .i64 x0) _ _ HT1.out)
            have HTt : Hid ((((wi.drew.setCell ⟨wr.heap.size, 1, none⟩ (.int .i64 (-1))).setCell ⟨wr.heap.size, 2, none⟩ (.int .i64 x0)).setCell ⟨wr.heap.size, 3, none⟩ (.int .i64 0)).heap[wr.heap.size]? = some (.cells #[.slice C code.length cc, .int .i64 (-1), .int .i64 x0, .int .i64 0] 85 (0, 0))) := Lib.hid (heapSetCell _ wr.heap.size 3 (.int .i64 0) _ _ HT2.out)
            have f1 : wi.drew.frozen? ⟨wr.heap.size, 1, none⟩ = false := fz_h hT0 1
            have b1 : wi.drew.cell? ⟨wr.heap.size, 1, none⟩ = some (.int .i64 test) := b1
            have f2 := fz_h HT1.out 2
            have b2 := cell_h HT1.out 2
            have f3 := fz_h HT2.out 3
            have b3 := cell_h HT2.out 3
            have HCn : Hid (∀ g, (Value.slice C code.length cc).ownBlock = some g → g ≠ wr.heap.size) := Lib.hid (fun g hg e => by have := (HCl.out g hg).1; omega)
            have HCt := Lib.hid (Own.far (Own.far (Own.far HC.out.drew (p := ⟨wr.heap.size, 1, none⟩) (fun e => HCn.out _ e rfl) (.int .i64 (-1))) (p := ⟨wr.heap.size, 2, none⟩) (fun e => HCn.out _ e rfl) (.int .i64 x0)) (p := ⟨wr.heap.size, 3, none⟩) (fun e => HCn.out _ e rfl) (.int .i64 0))
            have HWt := Lib.hid (((HWi.out.drew.setCell (p := ⟨wr.heap.size, 1, none⟩) (Nat.le_refl _) (.int .i64 (-1))).setCell (p := ⟨wr.heap.size, 2, none⟩) (Nat.le_refl _) (.int .i64 x0)).setCell (p := ⟨wr.heap.size, 3, none⟩) (Nat.le_refl _) (.int .i64 0))
            have hS0 : wi.drew.cell? ⟨gy, 0, none⟩ = some (.int .i64 x0) := cy0
            have HSy : Hid (∀ (w' : World) (j : Nat) (u : Value), w'.cell? ⟨gy, 0, none⟩ = some (.int .i64 x0) → (w'.setCell ⟨wr.heap.size, j, none⟩ u).cell? ⟨gy, 0, none⟩ = some (.int .i64 x0)) := Lib.hid (fun w' j u h => (World.cell?_setCell_far _ _ _ _ (by show wr.heap.size ≠ gy; omega)).trans h)
            clear hcy hT0 HT1 HT2 HTi HWi HYi HCn
            go_wp2
            refine wp_region_held_drew (S := fun w' => w'.cell? ⟨gy, 0, none⟩ = some (.int .i64 x0)) (by kernel_rfl) hS0 (fun hH0 => ?_)
            clear hS0
            generalize wi.drew = w0 at *
            refine wpAnyH_take (i := 0) (oi := { dst := some 97, op := Go.Op.move (Go.Operand.tmp 14), type := 23, pos := "known.go:120", after := #[{ on := 4, ground := Go.Ground.gcOnly Go.Departure.lateStores }], guard := none }) rfl (by kernel_rfl) (by kernel_rfl) (by kernel_rfl) (fun _ _ _ h => h) (Or.inl ⟨by rfl, fun w hw => by (go_simp; try with_reducible rfl)⟩) (by assumption) ?_
            try simp only [Act.put, List.setIfInBounds_toArray, List.set_cons_zero, List.set_cons_succ]
            refine wpAnyH_take (i := 1) (oi := { dst := some 98, op := Go.Op.indexAddr 23 (Go.Operand.tmp 97) (Go.Operand.const (Go.Value.int Go.IntKind.i64 0)), type := 0, pos := "known.go:120", after := #[{ on := 0, ground := Go.Ground.data }, { on := 4, ground := Go.Ground.gcOnly Go.Departure.lateStores }], guard := none }) rfl (by kernel_rfl) (by kernel_rfl) (by kernel_rfl) (fun _ _ _ h => h) (Or.inl ⟨by rfl, fun w hw => by (go_simp; try with_reducible rfl)⟩) (by assumption) ?_
            try simp only [Act.put, List.setIfInBounds_toArray, List.set_cons_zero, List.set_cons_succ]
            refine wpAnyH_take (i := 2) (oi := { dst := some 99, op := Go.Op.load 3 (Go.Operand.tmp 98), type := 3, pos := "known.go:120", after := #[{ on := 1, ground := Go.Ground.data }, { on := 4, ground := Go.Ground.gcOnly Go.Departure.lateStores }], guard := none }) rfl (by kernel_rfl) (by kernel_rfl) (by kernel_rfl) (fun _ _ _ h => h) (Or.inl ⟨by rfl, fun w hw => by (go_simp; try with_reducible rfl)⟩) (by assumption) ?_
            try simp only [Act.put, List.setIfInBounds_toArray, List.set_cons_zero, List.set_cons_succ]
            refine wpAnyH_take (i := 3) (oi := { dst := some 100, op := Go.Op.fieldAddr 85 (Go.Operand.tmp 12) 1, type := 0, pos := "known.go:120", after := #[{ on := 0, ground := Go.Ground.textOnly Go.Departure.lateStores }, { on := 1, ground := Go.Ground.textOnly Go.Departure.lateStores }, { on := 2, ground := Go.Ground.textOnly Go.Departure.lateStores }], guard := none }) rfl (by kernel_rfl) (by kernel_rfl) (by kernel_rfl) (fun _ _ _ h => h) (Or.inl ⟨by rfl, fun w hw => by (go_simp; try with_reducible rfl)⟩) (by assumption) ?_
            try simp only [Act.put, List.setIfInBounds_toArray, List.set_cons_zero, List.set_cons_succ]
            refine wpAnyH_ready (rs := [4]) (by kernel_rfl) (by simp) ?_
            refine AllReadyH.cons (o := { dst := none, op := Go.Op.store 3 (Go.Operand.tmp 100) (Go.Operand.const (Go.Value.int Go.IntKind.i64 (-1))), type := 0, pos := "known.go:120", after := #[{ on := 3, ground := Go.Ground.data }, { on := 0, ground := Go.Ground.textOnly Go.Departure.lateStores }, { on := 1, ground := Go.Ground.textOnly Go.Departure.lateStores }, { on := 2, ground := Go.Ground.textOnly Go.Departure.lateStores }], guard := none }) rfl (fun K hK => ?_) AllReadyH.nil
            go_simp
            refine hK.out _ _ (HSy.out _ _ _ hH0) (fun hH1 => ?_)
            clear hK hH0
            have hH0 := hH1
            clear hH1
            try simp only [Act.put, List.setIfInBounds_toArray, List.set_cons_zero, List.set_cons_succ]
            refine wpAnyH_take (i := 5) (oi := { dst := some 101, op := Go.Op.fieldAddr 85 (Go.Operand.tmp 12) 2, type := 0, pos := "known.go:120", after := #[{ on := 0, ground := Go.Ground.phase }, { on := 1, ground := Go.Ground.phase }, { on := 2, ground := Go.Ground.phase }, { on := 3, ground := Go.Ground.phase }, { on := 4, ground := Go.Ground.phase }], guard := none }) rfl (by kernel_rfl) (by kernel_rfl) (by kernel_rfl) (fun _ _ _ h => h) (Or.inl ⟨by rfl, fun w hw => by (go_simp; try with_reducible rfl)⟩) (by assumption) ?_
            try simp only [Act.put, List.setIfInBounds_toArray, List.set_cons_zero, List.set_cons_succ]
            refine wpAnyH_ready (rs := [6]) (by kernel_rfl) (by simp) ?_
            refine AllReadyH.cons (o := { dst := none, op := Go.Op.store 3 (Go.Operand.tmp 101) (Go.Operand.tmp 99), type := 0, pos := "known.go:120", after := #[{ on := 5, ground := Go.Ground.data }, { on := 2, ground := Go.Ground.data }, { on := 4, ground := Go.Ground.chain }, { on := 0, ground := Go.Ground.phase }, { on := 1, ground := Go.Ground.phase }, { on := 2, ground := Go.Ground.phase }, { on := 3, ground := Go.Ground.phase }, { on := 4, ground := Go.Ground.phase }], guard := none }) rfl (fun K hK => ?_) AllReadyH.nil
            go_simp
            refine hK.out _ _ (HSy.out _ _ _ hH0) (fun hH1 => ?_)
            clear hK hH0
            have hH0 := hH1
            clear hH1
            try simp only [Act.put, List.setIfInBounds_toArray, List.set_cons_zero, List.set_cons_succ]
            refine wpAnyH_take (i := 7) (oi := { dst := some 102, op := Go.Op.fieldAddr 85 (Go.Operand.tmp 12) 3, type := 0, pos := "known.go:120", after := #[{ on := 0, ground := Go.Ground.phase }, { on := 1, ground := Go.Ground.phase }, { on := 2, ground := Go.Ground.phase }, { on := 3, ground := Go.Ground.phase }, { on := 4, ground := Go.Ground.phase }, { on := 5, ground := Go.Ground.phase }, { on := 6, ground := Go.Ground.phase }], guard := none }) rfl (by kernel_rfl) (by kernel_rfl) (by kernel_rfl) (fun _ _ _ h => h) (Or.inl ⟨by rfl, fun w hw => by (go_simp; try with_reducible rfl)⟩) (by assumption) ?_
            try simp only [Act.put, List.setIfInBounds_toArray, List.set_cons_zero, List.set_cons_succ]
            refine wpAnyH_ready (rs := [8]) (by kernel_rfl) (by simp) ?_
            refine AllReadyH.cons (o := { dst := none, op := Go.Op.store 3 (Go.Operand.tmp 102) (Go.Operand.const (Go.Value.int Go.IntKind.i64 0)), type := 0, pos := "known.go:120", after := #[{ on := 7, ground := Go.Ground.data }, { on := 6, ground := Go.Ground.chain }, { on := 0, ground := Go.Ground.phase }, { on := 1, ground := Go.Ground.phase }, { on := 2, ground := Go.Ground.phase }, { on := 3, ground := Go.Ground.phase }, { on := 4, ground := Go.Ground.phase }, { on := 5, ground := Go.Ground.phase }, { on := 6, ground := Go.Ground.phase }], guard := none }) rfl (fun K hK => ?_) AllReadyH.nil
            go_simp
            refine hK.out _ _ (HSy.out _ _ _ hH0) (fun hH1 => ?_)
            clear hK hH0
            try simp only [Act.put, List.setIfInBounds_toArray, List.set_cons_zero, List.set_cons_succ]
            refine wpAnyH_done (by kernel_rfl) ?_ _
            generalize ((w0.setCell ⟨wr.heap.size, 1, none⟩ (.int .i64 (-1))).setCell ⟨wr.heap.size, 2, none⟩ (.int .i64 x0)).setCell ⟨wr.heap.size, 3, none⟩ (.int .i64 0) = wt at *
            obtain ⟨te', hte⟩ : ∃ te' : Int, te' = -1 := ⟨_, rfl⟩
            obtain ⟨th', hth⟩ : ∃ th' : Int, th' = x0 := ⟨_, rfl⟩
            obtain ⟨el', hel⟩ : ∃ el' : Int, el' = 0 := ⟨_, rfl⟩
            rw [← hte, ← hel, ← hth] at HTt
            rw [← hte, ← hel, ← hth] at Hfd
            clear hte hth hel hH1 HSy
            have b0 := cell_h HTt.out 0
            have b1 := cell_h HTt.out 1
            have b2 := cell_h HTt.out 2
            have b3 := cell_h HTt.out 3
            obtain ⟨C', cc', eC, hCR⟩ := OwnSt.rd HCt.out
            injection eC with eC1 eC2 eC3
            subst eC1 eC3
            clear eC2
            have HWa := Lib.hid (HWt.out.alloc HWt.out.size (.cells #[.slice C code.length cc, .int .i64 te', .int .i64 th', .int .i64 el'] 85))
            have hCf := Rd.below hCR ((Below.refl wt.heap.size wt).alloc (Nat.le_refl _) (.cells #[.slice C code.length cc, .int .i64 te', .int .i64 th', .int .i64 el'] 85))
            obtain ⟨v', w', hrun, hO', hg'⟩ := OwnBk.app (HO.out.below HWa.out) (by have := HWt.out.size; simp; omega) (by omega) wt.heap.size 1 C cc ⟨fdC code r, te', th', el'⟩ ((cell_new wt _ _ wt.heap.size rfl 0).trans (by dsimp only; rw [fdC_len]; rfl)) (cell_new wt _ _ wt.heap.size rfl 1) (cell_new wt _ _ wt.heap.size rfl 2) (cell_new wt _ _ wt.heap.size rfl 3) hCf (fun q hq _ e => by
              have h1 := (HO.out.lt _ e).2
              have h2 := (own_lt HCt.out q.block (by rw [hq]; exact HCz.out q hq)).1
              omega)
            have HO' := Lib.hid hO'
            have HW' := Lib.hid ((HW.out.trans (HWa.out.mono hws)).grown hg' (by have := HWt.out.size; simp; omega) (fun q e => by have := (HO.out.lt q e).1; omega))
            have Hrun := Lib.hid hrun
            clear hCR hCf hrun hO' hg' HWa
            go_wp2_with (at_builtin; refine wpList_app_run rfl 22 _ _ rfl rfl rfl Hrun.out ?_; clear Hrun)
            go_roundw
            case rel => exact ⟨k + 1, by omega, by go_num, by rw [Hsucc.out, Hfd.out]; exact HO'.out, HW'.out⟩
            case measure => simp [intOf]; omega
          · have HCt := HC
            have HTt := HTi
            have HWt := HWi
            have Hfd : Hid (fdB ⟨code, test, thn, els⟩ r = ⟨fdC code r, test, thn, els⟩) := Lib.hid (by rw [Hfd.out]; unfold fdT; dsimp only; rw [if_neg ht])
            obtain ⟨wt, hwt⟩ : ∃ wt, wi = wt := ⟨_, rfl⟩
            subst hwt
            obtain ⟨te', hte⟩ : ∃ te' : Int, test = te' := ⟨_, rfl⟩
            obtain ⟨th', hth⟩ : ∃ th' : Int, thn = th' := ⟨_, rfl⟩
            obtain ⟨el', hel⟩ : ∃ el' : Int, els = el' := ⟨_, rfl⟩
            subst hte hth hel
            by_cases ht0 : 0 ≤ test
            · have ht1 : ¬ (goK ⟨code, test, thn, els⟩ (knR r code)).length = 1 := fun h => ht ⟨ht0, h⟩
              have q1 : decide (0 ≤ test) = true := decide_eq_true ht0
              have q2 : (((goK ⟨code, test, thn, els⟩ (knR r code)).length : Int) == 1) = false := by rw [beq_eq_false_iff_ne]; omega
              clear ht b0 b1 b2 b3
              have b1 := cell_h HTt.out 1
              have b0 := cell_h HTt.out 0
              have b1 := cell_h HTt.out 1
              have b2 := cell_h HTt.out 2
              have b3 := cell_h HTt.out 3
              obtain ⟨C', cc', eC, hCR⟩ := OwnSt.rd HCt.out
              injection eC with eC1 eC2 eC3
              subst eC1 eC3
              clear eC2
              have HWa := Lib.hid (HWt.out.alloc HWt.out.size (.cells #[.slice C code.length cc, .int .i64 test, .int .i64 thn, .int .i64 els] 85))
              have hCf := Rd.below hCR ((Below.refl wi.heap.size wi).alloc (Nat.le_refl _) (.cells #[.slice C code.length cc, .int .i64 test, .int .i64 thn, .int .i64 els] 85))
              obtain ⟨v', w', hrun, hO', hg'⟩ := OwnBk.app (HO.out.below HWa.out) (by have := HWt.out.size; simp; omega) (by omega) wi.heap.size 1 C cc ⟨fdC code r, test, thn, els⟩ ((cell_new wi _ _ wi.heap.size rfl 0).trans (by dsimp only; rw [fdC_len]; rfl)) (cell_new wi _ _ wi.heap.size rfl 1) (cell_new wi _ _ wi.heap.size rfl 2) (cell_new wi _ _ wi.heap.size rfl 3) hCf (fun q hq _ e => by
                have h1 := (HO.out.lt _ e).2
                have h2 := (own_lt HCt.out q.block (by rw [hq]; exact HCz.out q hq)).1
                omega)
              have HO' := Lib.hid hO'
              have HW' := Lib.hid ((HW.out.trans (HWa.out.mono hws)).grown hg' (by have := HWt.out.size; simp; omega) (fun q e => by have := (HO.out.lt q e).1; omega))
              have Hrun := Lib.hid hrun
              clear hCR hCf hrun hO' hg' HWa
              go_wp2_with (at_builtin; refine wpList_app_run rfl 22 _ _ rfl rfl rfl Hrun.out ?_; clear Hrun)
              go_roundw
              case rel => exact ⟨k + 1, by omega, by go_num, by rw [Hsucc.out, Hfd.out]; exact HO'.out, HW'.out⟩
              case measure => simp [intOf]; omega
            · have q1 : decide (0 ≤ test) = false := decide_eq_false ht0
              clear ht b0 b1 b2 b3
              have b0 := cell_h HTt.out 0
              have b1 := cell_h HTt.out 1
              have b2 := cell_h HTt.out 2
              have b3 := cell_h HTt.out 3
              obtain ⟨C', cc', eC, hCR⟩ := OwnSt.rd HCt.out
              injection eC with eC1 eC2 eC3
              subst eC1 eC3
              clear eC2
              have HWa := Lib.hid (HWt.out.alloc HWt.out.size (.cells #[.slice C code.length cc, .int .i64 test, .int .i64 thn, .int .i64 els] 85))
              have hCf := Rd.below hCR ((Below.refl wi.heap.size wi).alloc (Nat.le_refl _) (.cells #[.slice C code.length cc, .int .i64 test, .int .i64 thn, .int .i64 els] 85))
              obtain ⟨v', w', hrun, hO', hg'⟩ := OwnBk.app (HO.out.below HWa.out) (by have := HWt.out.size; simp; omega) (by omega) wi.heap.size 1 C cc ⟨fdC code r, test, thn, els⟩ ((cell_new wi _ _ wi.heap.size rfl 0).trans (by dsimp only; rw [fdC_len]; rfl)) (cell_new wi _ _ wi.heap.size rfl 1) (cell_new wi _ _ wi.heap.size rfl 2) (cell_new wi _ _ wi.heap.size rfl 3) hCf (fun q hq _ e => by
                have h1 := (HO.out.lt _ e).2
                have h2 := (own_lt HCt.out q.block (by rw [hq]; exact HCz.out q hq)).1
                omega)
              have HO' := Lib.hid hO'
              have HW' := Lib.hid ((HW.out.trans (HWa.out.mono hws)).grown hg' (by have := HWt.out.size; simp; omega) (fun q e => by have := (HO.out.lt q e).1; omega))
              have Hrun := Lib.hid hrun
              clear hCR hCf hrun hO' hg' HWa
              go_wp2_with (at_builtin; refine wpList_app_run rfl 22 _ _ rfl rfl rfl Hrun.out ?_; clear Hrun)
              go_roundw
              case rel => exact ⟨k + 1, by omega, by go_num, by rw [Hsucc.out, Hfd.out]; exact HO'.out, HW'.out⟩
              case measure => simp [intOf]; omega
    · have : k = p.length := by omega
      subst this
      rw [List.take_length, ← HS.out.1.len, List.take_length] at HO
      go_wp2
      go_ret2
      exact ⟨F, _, rfl, HS.out, HO.out.base_ hz2, HWw.out⟩
end Go.Proofs.Ytmgejacndhnikaa
