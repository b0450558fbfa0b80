/- block.Run walked. -/
import Derived.Test.YtmgejacndhnikaaBlkC
import Derived.Test.YtmgejacndhnikaaBlkG
import Derived.Test.YtmgejacndhnikaaBlkH
import Derived.Test.YtmgejacndhnikaaHave
import Derived.Test.YtmgejacndhnikaaAppN
namespace Go.Proofs.Ytmgejacndhnikaa
open Go.RowKit

set_option maxRecDepth 100000 in
set_option maxHeartbeats 4000000 in
theorem blkRun_bad (vars : Int) (A B : Option Addr) (p : List Blk) (hv : List Int) (cap capB : Nat) (w : World) (hA : RdBk w A p) (hB : RdI w B hv) (hm : p.length ≤ maxLen) (hmc : smallB p) (hm' : hv.length ≤ maxLen) (h : pkErr vars p ≠ 0 ∨ haveErr vars hv ≠ 0) :
    Calls Try.prog 17 #[.int .i64 vars, .slice A p.length cap, .slice B hv.length capB] w fun e w' => (∃ x, x ≠ 0 ∧ e = .returned (.tuple #[.slice none 0 0, .slice none 0 0, .int .i64 x])) ∧ Below w.heap.size w w' := by
  have HA := Lib.hid hA
  have HB := Lib.hid hB
  clear hA hB
  by_cases h1 : pkErr vars p = 0
  · have h2 : haveErr vars hv ≠ 0 := by
      rcases h with h | h
      · exact absurd h1 h
      · exact h
    have H1 := Lib.hid h1
    have Hc := Lib.hid (fun w hB => have_calls vars B hv capB w hB hm')
    clear h h1
    generalize haveErr vars hv = er at *
    have q : (er != 0) = true := by rw [bne_iff_ne]; exact h2
    go_enter Try.func17, Try.ntmps17
    go_wp2_with (first
      | (go_at_call 41; refine (blkCheck_calls vars A p cap w HA.out hm hmc).mono ?_; rintro e w1 ⟨rfl, hW⟩; rw [H1.out]; have HW1 := Lib.hid hW; clear hW)
      | (go_at_call 46; refine (Hc.out _ (Rd.below HB.out HW1.out)).mono ?_; rintro e w2 ⟨rfl, rfl⟩))
    go_ret3
    exact ⟨⟨er, h2, rfl⟩, HW1.out⟩
  · have Hc := Lib.hid (blkCheck_calls vars A p cap w HA.out hm hmc)
    clear h
    generalize pkErr vars p = er at *
    have q : (er != 0) = true := by rw [bne_iff_ne]; exact h1
    go_enter Try.func17, Try.ntmps17
    go_wp2_with (go_at_call 41; refine Hc.out.mono ?_; rintro e w1 ⟨rfl, hW⟩; have HW1 := Lib.hid hW; clear hW)
    go_ret3
    exact ⟨⟨er, h1, rfl⟩, HW1.out⟩

def lenV : Value → Nat
  | .slice _ n _ => n
  | _ => 0
/-- How a run of a program that may be ends. -/
def RunEnd (p : List Blk) (v : List Int) (w : World) (e : Ending) (w' : World) : Prop :=
  Below w.heap.size w w' ∧ ((∃ (k : Nat) (x y : Value), 1 ≤ k ∧ k ≤ 200 ∧ runsB p v k ∧ (stB p v k).1 < 0 ∧ e = .returned (.tuple #[x, y, .int .i64 0]) ∧ OwnI w' w.heap.size 3 x (stB p v k).2 ∧ OwnI w' w.heap.size 3 y (wasB p v k))
    ∨ (runsB p v 201 ∧ e = .returned (.tuple #[.slice none 0 0, .slice none 0 0, .int .i64 7])))
set_option maxRecDepth 100000 in
set_option maxHeartbeats 8000000 in
theorem blkRun_ok (vars : Int) (A B : Option Addr) (p : List Blk) (hv : List Int) (cap capB : Nat) (w : World) (hA : RdBk w A p) (hB : RdI w B hv) (hm : p.length ≤ maxLen) (hmc : smallB p) (hm' : hv.length ≤ maxLen) (h : pkErr vars p = 0) (h1 : haveErr vars hv = 0) :
    Calls Try.prog 17 #[.int .i64 vars, .slice A p.length cap, .slice B hv.length capB] w (RunEnd p hv w) := by
  obtain ⟨hl, hh⟩ := haveErr_ok h1
  subst hl
  have hp := pok_of h
  have hv1 := hp.v1
  have hv6 := hp.v6
  have HP := Lib.hid hp
  have Hst := Lib.hid (st_ok hp rfl hh)
  have HA := Lib.hid hA
  have HB := Lib.hid hB
  have H0 := Lib.hid h
  have H1 := Lib.hid h1
  clear hA hB h h1 hp hh
  go_enter Try.func17, Try.ntmps17
  go_wp2_with (first
    | (go_at_call 41; refine (blkCheck_calls _ A p cap w HA.out hm hmc).mono ?_; rintro e w1 ⟨rfl, hW⟩; rw [H0.out]; have HW1 := Lib.hid hW; clear hW)
    | (go_at_call 46; refine (have_calls _ B hv capB _ (Rd.below HB.out HW1.out) hm').mono ?_; rintro e w2 ⟨rfl, rfl⟩; rw [H1.out]
       have hw2 := HW1.out.size
       have HE := Lib.hid (own_new intCells 1 3 intCells_len w2 w2.heap.size (Nat.le_refl _) [] (by simp [maxLen]))
       have HR2 := Lib.hid (Rd.below HB.out (HW1.out.alloc hw2 (.cells #[] 3)))
       obtain ⟨v3, w3, hrun, hO3, hg3, -⟩ := run_appN (P := Try.prog) 23 23 intCells 1 8 3 (.int .i64 0) Try.underlying23 infoInt rfl (by decide) intCells_len intCells_one w2.heap.size _ [] HE.out B hv capB HR2.out (by simp [maxLen]; omega) (by simp; omega) (by simp)
       rw [List.nil_append] at hO3
       obtain ⟨g, c3, rfl, hgb, hgl, -⟩ := OwnI.at_ hO3 (by omega)
       have HO3 := Lib.hid hO3
       have HW3 := Lib.hid (((HW1.out.alloc hw2 (.cells #[] 3))).grown hg3 (by simp; omega) (fun k e => by have e : some w2.heap.size = some k := e; injection e with e; omega))
       clear hO3 hg3)
    | (at_builtin; refine wpList_app_run rfl 23 _ _ rfl rfl rfl hrun ?_; clear hrun))
  have hw3 := HW3.out.size
  go_loopw [12, 13] (fun y i wr => ∃ k : Nat, k ≤ 200 ∧ i = .int .i64 (stB p hv k).1 ∧ Hid (runsB p hv k) ∧ OwnI wr w3.heap.size 3 y (wasB p hv k) ∧ OwnI wr w.heap.size 3 (.slice (some ⟨g, 0, none⟩) hv.length c3) (stB p hv k).2 ∧ Below w.heap.size w wr ∧ w3.heap.size ≤ wr.heap.size) (fun y _ _ => 200 - lenV y)
  case atStart => exact ⟨0, Nat.zero_le _, rfl, Lib.hid (fun j hj => by omega), Own.nil_ _ _ _, Own.base_ HO3.out hw2, HW3.out, Nat.le_refl _⟩
  case round =>
    clear HO3 HW3
    obtain ⟨k, hk, rfl, hR, hY, hO, hW, hz⟩ := hrel
    have HR := Lib.hid hR.out
    have HW := Lib.hid hW
    have HO := Lib.hid hO
    have HY := Lib.hid hY
    have hws := hW.size
    obtain ⟨Y, cy, rfl, -⟩ := OwnI.rd hY
    have hst := Hst.out k HR.out
    have Hg := Lib.hid (show stB p hv (k + 1) = goB p (stB p hv k).1 (stB p hv k).2 from rfl)
    have Hws := Lib.hid (wasB_succ p hv k)
    have hwl := wasB_len p hv k
    have h00 : k = 0 → 0 ≤ (stB p hv k).1 := fun e => by subst e; exact Int.le_refl _
    clear hR hY hO hW
    by_cases hneg : (stB p hv k).1 < 0
    · have HF : Hid (∀ y, OwnI wr w.heap.size 3 (.slice Y (wasB p hv k).length cy) (wasB p hv k)) := Lib.hid (fun _ => Own.base_ HY.out (by omega))
      have Hneg := Lib.hid hneg
      go_wp2
      go_ret3
      exact ⟨HW.out, .inl ⟨k, _, _, by omega, hk, HR.out, Hneg.out, rfl, HO.out, Own.base_ HY.out (by omega)⟩⟩
    have Hr1 : Hid (runsB p hv (k + 1)) := Lib.hid (fun j hj => by
      by_cases e : j = k
      · subst e; omega
      · exact HR.out j (by omega))
    by_cases hk2 : k = 200
    · have q : (((wasB p hv k).length : Nat) : Int) == 200 := by rw [beq_iff_eq]; omega
      subst hk2
      go_wp2
      go_ret3
      exact ⟨HW.out, .inr ⟨Hr1.out, rfl⟩⟩
    have q0 : ((((wasB p hv k).length : Nat) : Int) == 200) = false := by rw [beq_eq_false_iff_ne]; omega
    generalize wasB p hv k = ws at *
    generalize stB p hv k = st at *
    obtain ⟨ai, vs⟩ := st
    subst hwl
    dsimp only at *
    obtain ⟨hvl, hvb, -, hin⟩ := hst
    have hvl : vs.length = hv.length := by omega
    have Hvb := Lib.hid hvb
    obtain ⟨i, rfl⟩ := Int.eq_ofNat_of_zero_le (show 0 ≤ ai by omega)
    have hi : i < p.length := by omega
    obtain ⟨b, off, A', cap', rfl, hb, c0, c1, c2, c3', hS⟩ := RdBk.at_ HA.out hi
    have hbo := HP.out.bs _ (List.getElem_mem hi)
    have hmb := manyB_mem (List.getElem_mem hi)
    have hm20 := HP.out.many
    have hgo : goB p (i : Int) vs = (if 0 ≤ p[i].test ∧ (dgR vs p[i].code).getD p[i].test.toNat 0 = 0 then p[i].els else p[i].thn, dgR vs p[i].code) := by unfold goB; rw [Int.toNat_natCast, bget hi]
    have hgo2 := Hg.out.trans hgo
    have HS := Lib.hid hS
    have hvl2 := (dgR_len p[i].code vs).trans hvl
    clear hvb hS hgo Hg
    generalize p[i] = bk at *
    obtain ⟨code, test, thn, els⟩ := bk
    have HC := Lib.hid hbo.code
    have hlo := hbo.lo
    have hhi := hbo.hi
    clear hbo
    dsimp only at *
    have hcl' : code.length ≤ 1000000 := by omega
    have hv1' : 1 ≤ hv.length := by omega
    have hv8' : hv.length ≤ 8 := by omega
    have hgb' : w.heap.size ≤ g := by omega
    obtain ⟨vs', hvs'⟩ : ∃ vs', dgR vs code = vs' := ⟨_, rfl⟩
    rw [hvs'] at hgo2 hvl2
    have HV := Lib.hid hvs'
    clear hvs'
    by_cases ht : 0 ≤ test
    · obtain ⟨t, rfl⟩ := Int.eq_ofNat_of_zero_le ht
      have htl : t < vs'.length := by omega
      rw [Int.toNat_natCast, getI_get htl] at hgo2
      have q3 : (t : Int) < (hv.length : Int) := hhi
      by_cases hx : vs'[t] = 0
      · rw [if_pos ⟨ht, hx⟩] at hgo2
        have Hn := Lib.hid hgo2
        clear hgo2
        go_wp2_with (first
          | (go_at_call 48; refine (blkDo_calls A' code cap' w.heap.size g hv.length c3 vs w _ HS.out HWa.out (Nat.le_refl _) HOa.out hv1' hv8' hcl' HC.out Hvb.out hvl).mono ?_; rintro e w6 ⟨⟨u6, rfl⟩, hO6, hK6⟩
             have HW6 := Lib.hid (HWa.out.trans (hK6.below hgb' HWa.out.size))
             have HY6 := Lib.hid (Own.bel1 HYa.out hK6 (fun e => by have := (own_lt' HYa.out g e).1; omega))
             have p1 := cell_h ((hK6.block _ (lt_h HTa.out) (by omega)).trans HTa.out) 1
             have p2 := cell_h ((hK6.block _ (lt_h HTa.out) (by omega)).trans HTa.out) 2
             have p3 := cell_h ((hK6.block _ (lt_h HTa.out) (by omega)).trans HTa.out) 3
             have hz6 : w3.heap.size ≤ w6.heap.size := by have := hK6.size; simp at this; omega
             rw [HV.out] at hO6
             obtain ⟨g', eg, -, -, -, -, hcell⟩ := OwnI.at2 hO6 (by omega)
             injection eg with eg; injection eg with eg
             subst eg
             have p5 := hcell t (by omega); rw [hx] at p5
             have HO6 := Lib.hid hO6
             clear hO6 hK6 hcell)
          | (at_builtin; refine wpList_appI rfl _ _ rfl w3.heap.size _ _ (i : Int) rfl (HY.out.alloc _) _ _ rfl (cell_new _ _ _ _ (by simp) _) (by omega) (by simp; omega) ?_; intro v5 w5 hY5 hg5
             have hgr := hg5.size
             simp at hgr
             have HO5 := Lib.hid (Own.kept (HO.out.alloc (.cells #[.int .i64 (i : Nat)] 3)) hg5 (.inr (fun e => by
               have e : some g = Value.ownBlock (.slice Y ws.length cy) := e
               have := (own_lt' HY.out g e.symm).1
               omega)))
             have HW5 := Lib.hid (below_own (HW.out.alloc hws (.cells #[.int .i64 (i : Nat)] 3)) hg5 (HY.out.alloc _) (by omega) (by simp; omega))
             have d0 := (HW5.out.cell (p := ⟨b, _, none⟩) hb).trans c0
             have d1 := (HW5.out.cell (p := ⟨b, _, none⟩) hb).trans c1
             have d2 := (HW5.out.cell (p := ⟨b, _, none⟩) hb).trans c2
             have d3 := (HW5.out.cell (p := ⟨b, _, none⟩) hb).trans c3'
             have HYa := Lib.hid (hY5.alloc (.cells #[.slice A' code.length cap', .int .i64 (t : Nat), .int .i64 thn, .int .i64 els] 85))
             have HOa := Lib.hid (HO5.out.alloc (.cells #[.slice A' code.length cap', .int .i64 (t : Nat), .int .i64 thn, .int .i64 els] 85))
             have HWa := Lib.hid (HW5.out.alloc HW5.out.size (.cells #[.slice A' code.length cap', .int .i64 (t : Nat), .int .i64 thn, .int .i64 els] 85))
             have HTa := Lib.hid (heap_alloc_new w5 (.cells #[.slice A' code.length cap', .int .i64 (t : Nat), .int .i64 thn, .int .i64 els] 85))
             clear hY5 hg5))
        all_goals (try (exfalso; omega))
        go_roundw
        case rel => exact ⟨ws.length + 1, by omega, by rw [Hn.out], Lib.hid Hr1.out, by rw [Hws.out]; exact HY6.out, by rw [Hn.out]; exact HO6.out, HW6.out, hz6⟩
        case measure =>
          obtain ⟨Y6, cy6, e6, -⟩ := OwnI.rd HY6.out
          rw [e6]
          simp [lenV]
          omega
      · rw [if_neg (fun h => hx h.2)] at hgo2
        have Hn := Lib.hid hgo2
        have q5 : (vs'[t] == 0) = false := by rw [beq_eq_false_iff_ne]; exact hx
        clear hgo2
        go_wp2_with (first
          | (go_at_call 48; refine (blkDo_calls A' code cap' w.heap.size g hv.length c3 vs w _ HS.out HWa.out (Nat.le_refl _) HOa.out hv1' hv8' hcl' HC.out Hvb.out hvl).mono ?_; rintro e w6 ⟨⟨u6, rfl⟩, hO6, hK6⟩
             have HW6 := Lib.hid (HWa.out.trans (hK6.below hgb' HWa.out.size))
             have HY6 := Lib.hid (Own.bel1 HYa.out hK6 (fun e => by have := (own_lt' HYa.out g e).1; omega))
             have p1 := cell_h ((hK6.block _ (lt_h HTa.out) (by omega)).trans HTa.out) 1
             have p2 := cell_h ((hK6.block _ (lt_h HTa.out) (by omega)).trans HTa.out) 2
             have p3 := cell_h ((hK6.block _ (lt_h HTa.out) (by omega)).trans HTa.out) 3
             have hz6 : w3.heap.size ≤ w6.heap.size := by have := hK6.size; simp at this; omega
             rw [HV.out] at hO6
             obtain ⟨g', eg, -, -, -, -, hcell⟩ := OwnI.at2 hO6 (by omega)
             injection eg with eg; injection eg with eg
             subst eg
             have p5 := hcell t (by omega)
             have HO6 := Lib.hid hO6
             clear hO6 hK6 hcell)
          | (at_builtin; refine wpList_appI rfl _ _ rfl w3.heap.size _ _ (i : Int) rfl (HY.out.alloc _) _ _ rfl (cell_new _ _ _ _ (by simp) _) (by omega) (by simp; omega) ?_; intro v5 w5 hY5 hg5
             have hgr := hg5.size
             simp at hgr
             have HO5 := Lib.hid (Own.kept (HO.out.alloc (.cells #[.int .i64 (i : Nat)] 3)) hg5 (.inr (fun e => by
               have e : some g = Value.ownBlock (.slice Y ws.length cy) := e
               have := (own_lt' HY.out g e.symm).1
               omega)))
             have HW5 := Lib.hid (below_own (HW.out.alloc hws (.cells #[.int .i64 (i : Nat)] 3)) hg5 (HY.out.alloc _) (by omega) (by simp; omega))
             have d0 := (HW5.out.cell (p := ⟨b, _, none⟩) hb).trans c0
             have d1 := (HW5.out.cell (p := ⟨b, _, none⟩) hb).trans c1
             have d2 := (HW5.out.cell (p := ⟨b, _, none⟩) hb).trans c2
             have d3 := (HW5.out.cell (p := ⟨b, _, none⟩) hb).trans c3'
             have HYa := Lib.hid (hY5.alloc (.cells #[.slice A' code.length cap', .int .i64 (t : Nat), .int .i64 thn, .int .i64 els] 85))
             have HOa := Lib.hid (HO5.out.alloc (.cells #[.slice A' code.length cap', .int .i64 (t : Nat), .int .i64 thn, .int .i64 els] 85))
             have HWa := Lib.hid (HW5.out.alloc HW5.out.size (.cells #[.slice A' code.length cap', .int .i64 (t : Nat), .int .i64 thn, .int .i64 els] 85))
             have HTa := Lib.hid (heap_alloc_new w5 (.cells #[.slice A' code.length cap', .int .i64 (t : Nat), .int .i64 thn, .int .i64 els] 85))
             clear hY5 hg5))
        all_goals (try (exfalso; omega))
        go_roundw
        case rel => exact ⟨ws.length + 1, by omega, by rw [Hn.out], Lib.hid Hr1.out, by rw [Hws.out]; exact HY6.out, by rw [Hn.out]; exact HO6.out, HW6.out, hz6⟩
        case measure =>
          obtain ⟨Y6, cy6, e6, -⟩ := OwnI.rd HY6.out
          rw [e6]
          simp [lenV]
          omega
    · rw [if_neg (fun h => ht h.1)] at hgo2
      have Hn := Lib.hid hgo2
      clear hgo2
      go_wp2_with (first
        | (go_at_call 48; refine (blkDo_calls A' code cap' w.heap.size g hv.length c3 vs w _ HS.out HWa.out (Nat.le_refl _) HOa.out hv1' hv8' hcl' HC.out Hvb.out hvl).mono ?_; rintro e w6 ⟨⟨u6, rfl⟩, hO6, hK6⟩
           have HW6 := Lib.hid (HWa.out.trans (hK6.below hgb' HWa.out.size))
           have HY6 := Lib.hid (Own.bel1 HYa.out hK6 (fun e => by have := (own_lt' HYa.out g e).1; omega))
           have p1 := cell_h ((hK6.block _ (lt_h HTa.out) (by omega)).trans HTa.out) 1
           have p2 := cell_h ((hK6.block _ (lt_h HTa.out) (by omega)).trans HTa.out) 2
           have p3 := cell_h ((hK6.block _ (lt_h HTa.out) (by omega)).trans HTa.out) 3
           have hz6 : w3.heap.size ≤ w6.heap.size := by have := hK6.size; simp at this; omega
           rw [HV.out] at hO6
           obtain ⟨g', eg, -, -, -, -, hcell⟩ := OwnI.at2 hO6 (by omega)
           injection eg with eg; injection eg with eg
           subst eg
           have HO6 := Lib.hid hO6
           clear hO6 hK6 hcell)
        | (at_builtin; refine wpList_appI rfl _ _ rfl w3.heap.size _ _ (i : Int) rfl (HY.out.alloc _) _ _ rfl (cell_new _ _ _ _ (by simp) _) (by omega) (by simp; omega) ?_; intro v5 w5 hY5 hg5
           have hgr := hg5.size
           simp at hgr
           have HO5 := Lib.hid (Own.kept (HO.out.alloc (.cells #[.int .i64 (i : Nat)] 3)) hg5 (.inr (fun e => by
             have e : some g = Value.ownBlock (.slice Y ws.length cy) := e
             have := (own_lt' HY.out g e.symm).1
             omega)))
           have HW5 := Lib.hid (below_own (HW.out.alloc hws (.cells #[.int .i64 (i : Nat)] 3)) hg5 (HY.out.alloc _) (by omega) (by simp; omega))
           have d0 := (HW5.out.cell (p := ⟨b, _, none⟩) hb).trans c0
           have d1 := (HW5.out.cell (p := ⟨b, _, none⟩) hb).trans c1
           have d2 := (HW5.out.cell (p := ⟨b, _, none⟩) hb).trans c2
           have d3 := (HW5.out.cell (p := ⟨b, _, none⟩) hb).trans c3'
           have HYa := Lib.hid (hY5.alloc (.cells #[.slice A' code.length cap', .int .i64 test, .int .i64 thn, .int .i64 els] 85))
           have HOa := Lib.hid (HO5.out.alloc (.cells #[.slice A' code.length cap', .int .i64 test, .int .i64 thn, .int .i64 els] 85))
           have HWa := Lib.hid (HW5.out.alloc HW5.out.size (.cells #[.slice A' code.length cap', .int .i64 test, .int .i64 thn, .int .i64 els] 85))
           have HTa := Lib.hid (heap_alloc_new w5 (.cells #[.slice A' code.length cap', .int .i64 test, .int .i64 thn, .int .i64 els] 85))
           clear hY5 hg5))
      all_goals (try (exfalso; omega))
      go_roundw
      case rel => exact ⟨ws.length + 1, by omega, by rw [Hn.out], Lib.hid Hr1.out, by rw [Hws.out]; exact HY6.out, by rw [Hn.out]; exact HO6.out, HW6.out, hz6⟩
      case measure =>
        obtain ⟨Y6, cy6, e6, -⟩ := OwnI.rd HY6.out
        rw [e6]
        simp [lenV]
        omega
end Go.Proofs.Ytmgejacndhnikaa
