/- tile.Cover walked, for a tile of each operation. -/
import Derived.Test.YtmgejacndhnikaaTileQ
import Derived.Test.YtmgejacndhnikaaQueueL
import Derived.Deep.LoopGhost
import Derived.BigGuardPart
namespace Go.Proofs.Ytmgejacndhnikaa
set_option maxRecDepth 100000
open Go.RowKit

def CovE (l : List Term) (w : World) (e : Ending) (w' : World) : Prop :=
  ∃ v, e = .returned (.tuple #[v, .int .i64 0]) ∧ OwnI w' w.heap.size 3 v (l.map fun t => t.op - 1) ∧ Below w.heap.size w w'
theorem repl_set {n k : Nat} {x y : Int} (h : k < n) : (List.replicate k x ++ List.replicate (n - k) y).set k x = List.replicate (k + 1) x ++ List.replicate (n - (k + 1)) y := by
  rw [List.set_append_right _ _ (by simp)]
  rw [List.length_replicate, Nat.sub_self, show n - k = (n - (k + 1)) + 1 by omega, List.replicate_succ]
  rw [List.set_cons_zero, List.replicate_succ', List.append_assoc]; rfl
set_option maxHeartbeats 16000000 in
theorem cover_ok (vars : Int) (A B : Option Addr) (l : List Term) (capA capB : Nat) (w : World) (hA : RdT w A l) (hB : RdTl w B tiles6) (h0 : needErr vars l = 0) :
    Calls Try.prog 35 #[.int .i64 vars, .slice A l.length capA, .slice B 6 capB] w (CovE l w) := by
  obtain ⟨htE, htr⟩ := needErr_ok h0
  obtain ⟨hv0, hv6, hl1, hl16, hok⟩ := tErr_ok htE
  have HA := Lib.hid hA
  have HB := Lib.hid hB
  have Hok := Lib.hid hok
  have Htr := Lib.hid htr
  have Hw := Lib.hid (tileWrong_calls vars A B l tiles6 capA capB w hA hB (by unfold maxLen; omega) (by simp [tiles6, maxLen]))
  have he : tileErr vars l tiles6 = 0 := by unfold tileErr; rw [if_neg (by simp [h0])]; exact tiles6_err
  rw [he] at Hw
  have Hs := Lib.hid (fun w' (h : Below w.heap.size w w') => solveT_calls A B l tiles6 capA capB w' (Rd.below HA.out h) (Rd.below HB.out h) Hok.out hl16 tiles6_ok (by simp [tiles6]))
  have ht6 : tiles6.length = 6 := by simp [tiles6]
  rw [ht6] at Hw Hs
  have Hcost := Lib.hid (plain_cost h0).2.2
  clear hA hB htE htr he hok h0 ht6
  go_enter Try.func35, Try.ntmps35
  go_wp2_with fail
  refine Hw.out.mono ?_
  rintro e w1 ⟨rfl, hW⟩
  have HW := Lib.hid hW
  clear hW
  go_wp2_with fail
  refine (Hs.out _ HW.out).mono ?_
  rintro e w2 ⟨v, u, rfl, hO, hU, hW2⟩
  have HW2 := Lib.hid (HW.out.trans (hW2.mono HW.out.size))
  obtain ⟨A2, c2, rfl, hR⟩ := OwnI.rd hO
  obtain ⟨A3, c3, rfl, hR3⟩ := OwnI.rd hU
  have hlen := (solK_len l tiles6 l.length).1
  have hlen3 := (solK_len l tiles6 l.length).2
  obtain ⟨b, off, rfl, hb, d0⟩ := RdI.at1 hR (k := l.length - 1) (by omega)
  have eg : (solK l tiles6 l.length).1[l.length - 1]'(by omega) = costK l tiles6 := by unfold costK; rw [List.getD_eq_getElem?_getD, List.getElem?_eq_getElem (by omega)]; rfl
  rw [eg, Hcost.out] at d0
  have HR3 : Hid (RdI w2 A3 (l.map fun t => t.op - 1)) := Lib.hid (by
    have := hR3
    rw [sol6 Hok.out l.length (Nat.le_refl _)] at this
    simpa using this)
  rw [hlen, hlen3]
  have q1 : ((l.length : Int) - 1).toNat = l.length - 1 := by omega
  have hz2 := HW2.out.size
  clear hO hU hR hR3 hlen hlen3 eg hW2 Hcost
  go_wp2_with (at_make
               refine wpList_makeI rfl _ _ rfl w2.heap.size l.length rfl rfl (by omega) (Nat.le_refl _) ?_
               intro w3 hO3 hg3
               have HO3 := Lib.hid hO3
               have HW3 := Lib.hid ((Below.refl w2.heap.size w2).grown hg3 (Nat.le_refl _) (fun k hk => by cases hk))
               clear hO3 hg3)
  go_loopw [42] (fun i wr => ∃ k : Nat, k ≤ l.length ∧ i = .int .i64 k ∧ OwnI wr w2.heap.size 3 (.slice (some ⟨w2.heap.size, 0, none⟩) l.length l.length) (List.replicate k (-1) ++ List.replicate (l.length - k) 0) ∧ Below w2.heap.size w2 wr) (fun i _ => l.length - (intOf i).toNat)
  case atStart => exact ⟨0, Nat.zero_le _, rfl, HO3.out, HW3.out⟩
  case round =>
    clear HO3 HW3 d0
    obtain ⟨k, hk, rfl, hO, hW⟩ := hrel
    by_cases hlt : k < l.length
    · obtain ⟨g, eg, hg1, hg2, _, hfz, hcell⟩ := OwnI.at2 hO (by simp; omega)
      injection eg with eg; injection eg with eg
      subst eg
      have f5 := hfz k
      have c5 := hcell k (by simp; omega)
      have HOs := Lib.hid (OwnI.set_ hO (k := k) (by simp; omega) (-1))
      rw [repl_set hlt] at HOs
      have HWs := Lib.hid (hW.setCell (p := ⟨w2.heap.size, k, none⟩) (Nat.le_refl _) (.int .i64 (-1)))
      have q2 : ((k : Nat) : Int) < ((l.length : Nat) : Int) := by omega
      clear hO hW hfz hcell
      generalize (List.replicate k (-1 : Int) ++ List.replicate (l.length - k) 0)[k]'_ = z at *
      go_wp2
      go_roundw
      case rel => exact ⟨k + 1, by omega, by go_num, HOs.out, HWs.out⟩
      case measure => simp [intOf]; omega
    · have hke : k = l.length := by omega
      have HO : Hid (OwnI wr w2.heap.size 3 (.slice (some ⟨w2.heap.size, 0, none⟩) l.length l.length) (List.replicate l.length (-1))) := Lib.hid (by
        have := hO
        rw [hke, Nat.sub_self, List.replicate_zero, List.append_nil] at this
        exact this)
      have hq : ¬ ((k : Nat) : Int) < ((l.length : Nat) : Int) := by omega
      have HW4 := Lib.hid hW
      have hz4 := hW.size
      have hC2 : w2.heap.size < wr.heap.size := (World.ownsRow.lt HO.out _ rfl).2
      clear hO hW hke
      have qn : ((l.length : Int) - 1) = ((l.length - 1 : Nat) : Int) := by omega
      have Hqn := Lib.hid qn
      clear qn q1
      go_wp2
      obtain ⟨w4, rfl⟩ : ∃ w4 : World, w4 = wr := ⟨_, rfl⟩
      go_loopg [13] 16 (fun gg s13 wr => ∃ (out q : List Int), OwnI wr w2.heap.size 3 (.slice (some ⟨w2.heap.size, 0, none⟩) l.length l.length) out ∧ OwnQ wr w4.heap.size s13 q ∧ Hid (CvI l out q) ∧ Below w2.heap.size w2 wr ∧ w4.heap.size ≤ wr.heap.size ∧ wgK l q ≤ gg ∧ gg ≤ 16)
      case atStart =>
        refine ⟨_, [((l.length - 1 : Nat) : Int)], HO.out.alloc _, ?_, Lib.hid (CvI.start hl1), HW4.out.alloc hz4 _, by simp, ?_, by omega⟩
        · rw [Hqn.out]
          exact OwnQ.of_own (OwnI.lit w4 [((l.length - 1 : Nat) : Int)] w4.heap.size (Nat.le_refl _) (by simp [maxLen]))
        · unfold wgK
          simp only [List.map_cons, List.map_nil, List.sum_cons, List.sum_nil, Int.toNat_natCast]
          rw [sz_all hl1 Hok.out Htr.out]; omega
      case round =>
        clear HO HW4 hq
        obtain ⟨out, q, hO, hQ, hI, hW, hz, hwg, hg⟩ := hrel
        have HO := Lib.hid hO
        have HW := Lib.hid hW
        cases q with
        | nil =>
          obtain ⟨A', cap', rfl, h1, h2⟩ := hQ.form
          have Hd := Lib.hid (hI.out.done Hok.out hl1 Htr.out)
          clear hQ hO hW hI
          go_wp2
          go_ret2
          exact ⟨_, rfl, by rw [← Hd.out]; exact HO.out.base_ hz2, HW2.out.trans (HW.out.mono hz2)⟩
        | cons x r =>
          obtain ⟨A', cap', rfl, h1, h2⟩ := hQ.form
          obtain ⟨g0, off0, rfl, hg0, hg1, hcells⟩ := OwnQ.cells hQ (by simp)
          obtain ⟨x0, x1⟩ := hI.out.ins x (by simp)
          obtain ⟨i, rfl⟩ := Int.eq_ofNat_of_zero_le x0
          have hi : i < l.length := by omega
          have e0 := hcells 0 (by simp)
          simp only [Nat.add_zero, List.getElem_cons_zero] at e0
          obtain ⟨hne, hop⟩ := opM_ne Hok.out hi
          obtain ⟨o1, o6, _⟩ := Hok.out i hi
          obtain ⟨t, ht⟩ : ∃ t : Nat, opM l i = (t : Int) := ⟨(opM l i).toNat, by omega⟩
          have ht6 : t < 6 := by omega
          have ex : l.getD i nulX = l[i] := by rw [List.getD_eq_getElem?_getD, List.getElem?_eq_getElem hi]; rfl
          have hbk : belowK l i (tile6 t) = some (kids (l.getD i nulX)) := by rw [below6, if_pos (by rw [ex]; omega)]
          obtain ⟨b3, off3, rfl, hb3, d3⟩ := RdI.at1 HR3.out (k := i) (by simp; exact hi)
          rw [List.getElem_map, ← hop, ht] at d3
          replace d3 := (hW.cell (p := ⟨b3, off3 + i, none⟩) hb3).trans d3
          have hT6 : tiles6.length = 6 := by simp [tiles6]
          obtain ⟨b4, off4, rfl, hb4, t0, t1, t2, t3⟩ := RdTl.at4 HB.out (k := t) (by omega)
          have etile : tiles6[t]'(by omega) = tile6 t := by simp [tiles6]
          rw [etile] at t0 t1 t2 t3
          obtain ⟨g, eg, hg5, hg6, _, hfz, hcell⟩ := OwnI.at2 hO (by rw [hI.out.len]; omega)
          injection eg with eg; injection eg with eg
          subst eg
          have f5 := hfz i
          have c5 := hcell i (by rw [hI.out.len]; exact hi)
          have Hst := Lib.hid (hI.out.step Hok.out)
          have Hwg := Lib.hid (wgK_step Hok.out (r := r) hi)
          have Hkin := Lib.hid (kids_in Hok.out hi)
          have hrl : r.length ≤ 16 := by have := wgK_nonneg Hok.out _ hI.out.ins; simp at this; omega
          have HOs := Lib.hid (OwnI.set_ HO.out (k := i) (by rw [hI.out.len]; exact hi) (opM l i))
          have HWs := Lib.hid (HW.out.setCell (p := ⟨w2.heap.size, i, none⟩) (Nat.le_refl _) (.int .i64 (opM l i)))
          have HQs := Lib.hid (hQ.far (p := ⟨w2.heap.size, i, none⟩) hC2 (.int .i64 (opM l i)))
          rw [ht] at HOs HWs HQs
          have Hbe := Lib.hid (fun w' (h : Below w2.heap.size w2 w') => below_calls A l capA i (tile6 t) w' (Rd.below HA.out (HW2.out.trans (h.mono hz2))) Hok.out hi hl16 (tiles6_ok _ (by rw [← etile]; exact List.getElem_mem _)))
          have hWw := HW2.out.trans (hW.mono hz2)
          replace t0 := (hWw.cell (p := ⟨b4, off4 + t * 4, none⟩) hb4).trans t0
          replace t1 := (hWw.cell (p := ⟨b4, off4 + t * 4 + 1, none⟩) hb4).trans t1
          replace t2 := (hWw.cell (p := ⟨b4, off4 + t * 4 + 2, none⟩) hb4).trans t2
          replace t3 := (hWw.cell (p := ⟨b4, off4 + t * 4 + 3, none⟩) hb4).trans t3
          have Hbs := Lib.hid (Hbe.out _ HWs.out)
          have hz4' : w4.heap.size ≤ wr.heap.size := hz
          have hb4' : b4 < w2.heap.size := Nat.lt_of_lt_of_le hb4 hz2
          unfold tile6 at t0 t1 t2 t3
          dsimp only at t0 t1 t2 t3
          have u3 : (wr.setCell ⟨w2.heap.size, i, none⟩ (.int .i64 (t : Nat))).cell? ⟨b3, off3 + i, none⟩ = some (.int .i64 (t : Nat)) := by rw [World.cell?_setCell_far _ _ _ _ (by show w2.heap.size ≠ b3; omega)]; exact d3
          have s0 : (wr.setCell ⟨w2.heap.size, i, none⟩ (.int .i64 (t : Nat))).cell? ⟨b4, off4 + t * 4, none⟩ = some (.int .i64 ((t : Nat) + 1)) := by rw [World.cell?_setCell_far _ _ _ _ (by show w2.heap.size ≠ b4; omega)]; exact t0
          have s1 : (wr.setCell ⟨w2.heap.size, i, none⟩ (.int .i64 (t : Nat))).cell? ⟨b4, off4 + t * 4 + 1, none⟩ = some (.int .i64 0) := by rw [World.cell?_setCell_far _ _ _ _ (by show w2.heap.size ≠ b4; omega)]; exact t1
          have s2 : (wr.setCell ⟨w2.heap.size, i, none⟩ (.int .i64 (t : Nat))).cell? ⟨b4, off4 + t * 4 + 2, none⟩ = some (.int .i64 0) := by rw [World.cell?_setCell_far _ _ _ _ (by show w2.heap.size ≠ b4; omega)]; exact t2
          have s3 : (wr.setCell ⟨w2.heap.size, i, none⟩ (.int .i64 (t : Nat))).cell? ⟨b4, off4 + t * 4 + 3, none⟩ = some (.int .i64 1) := by rw [World.cell?_setCell_far _ _ _ _ (by show w2.heap.size ≠ b4; omega)]; exact t3
          have hsz : (wr.setCell ⟨w2.heap.size, i, none⟩ (.int .i64 (t : Nat))).heap.size = wr.heap.size := by simp [World.setCell]
          rw [hbk] at Hbs
          rw [ht] at Hst
          unfold tile6 Tile.agg at Hbs
          dsimp only at Hbs
          have hlen := h1
          simp only [List.length_cons] at hlen
          have qi : ((i : Nat) : Int) < ((l.length : Nat) : Int) := by omega
          have qt : ((t : Nat) : Int) < 6 := by omega
          have q0 : decide (0 < (r.length : Int) + 1) = true := decide_eq_true (by omega)
          have hwg' : wgK l (r ++ kids (l.getD i nulX)) + 1 ≤ gk := by have := Hwg.out; omega
          have hnn := wgK_nonneg Hok.out _ Hst.out.ins
          have hg' : gk ≤ 16 := hg
          have HWG := Lib.hid (And.intro hwg' (And.intro hnn hg'))
          have hol : i < out.length := by rw [hI.out.len]; exact hi
          obtain ⟨z5, hz5⟩ : ∃ z5, z5 = out[i] := ⟨_, rfl⟩
          have c6 : wr.cell? ⟨w2.heap.size, i, none⟩ = some (.int .i64 z5) := by rw [hz5]; exact c5
          clear hz5 c5 hol
          clear hW hO hQ hI hWw hne hop hbk etile hfz hcell hwg hcells ht t0 t1 t2 t3 Hwg Hbe hnn hwg' hg'
          by_cases h3 : 3 ≤ l[i].op
          · have hk : kids (l.getD i nulX) = [l[i].a, l[i].b] := by rw [ex]; unfold kids; rw [if_pos h3]
            rw [hk] at Hbs Hst HWG
            clear hk ex h3 o1 o6
            generalize l[i].a = ka at *
            generalize l[i].b = kb at *
            go_wp2_with fail
            refine Hbs.out.mono ?_
            rintro e w5 ⟨v15, rfl, hO5, hW5⟩
            have HW5 := Lib.hid (HWs.out.trans (hW5.mono HWs.out.size))
            have HQ5 := Lib.hid (HQs.out.below hW5)
            have HO5 := Lib.hid (Own.below HOs.out hW5)
            obtain ⟨A15, c15, rfl, hR15⟩ := OwnI.rd hO5
            have HR15 := Lib.hid hR15
            have hz5 : w4.heap.size ≤ w5.heap.size := by have := hW5.size; omega
            simp only [Option.getD_some, List.length_cons, List.length_nil, Nat.zero_add, Nat.reduceAdd]
            clear hO5 hR15 hW5
            go_wp2_with (at_builtin
                         refine wpList_appQ2 rfl _ _ rfl w4.heap.size _ _ ka kb rfl HQ5.out (by simp) _ _ rfl HR15.out (by simp; omega) hz5 ?_
                         intro v6 w6 hQ6 hB6 hz6
                         have HO6 := Lib.hid (own_belowC HO5.out hC2 hB6)
                         have HW6 := Lib.hid (HW5.out.trans (hB6.mono hz4))
                         obtain ⟨A7, cap7, rfl, h17, h27⟩ := hQ6.form
                         obtain ⟨g7, off7, rfl, _, _, _⟩ := OwnQ.cells hQ6 (by simp)
                         rw [List.cons_append] at hQ6
                         have Ht := Lib.hid (OwnQ.tail hQ6)
                         simp only [List.cons_append, List.length_cons, List.length_append, List.length_nil, Nat.zero_add, Nat.reduceAdd] at h17 Ht ⊢
                         rw [if_neg (by omega)] at Ht
                         have hc7 : ¬ cap7 = 1 := by omega
                         clear hQ6 hB6)
            all_goals first | (exfalso; omega) | skip
            go_roundg (wgK l (r ++ [ka, kb])).toNat
            case measure => have := HWG.out; omega
            case rel => exact ⟨_, _, HO6.out, by simpa using Ht.out, Hst, HW6.out, by omega, by have := HWG.out; omega, by have := HWG.out; omega⟩
          · have hk : kids (l.getD i nulX) = [] := by rw [ex]; unfold kids; rw [if_neg h3]
            rw [hk] at Hbs Hst HWG
            clear hk ex h3 o1 o6
            go_wp2_with fail
            refine Hbs.out.mono ?_
            rintro e w5 ⟨v15, rfl, hO5, hW5⟩
            have HW5 := Lib.hid (HWs.out.trans (hW5.mono HWs.out.size))
            have HQ5 := Lib.hid (HQs.out.below hW5)
            have HO5 := Lib.hid (Own.below HOs.out hW5)
            obtain ⟨A15, c15, rfl, hR15⟩ := OwnI.rd hO5
            have hz5 : w4.heap.size ≤ w5.heap.size := by have := hW5.size; omega
            have Ht := Lib.hid (OwnQ.tail HQ5.out)
            simp only [Option.getD_some, List.length_nil]
            clear hO5 hR15 hW5
            by_cases hc : cap' = 1
            · rw [if_pos hc] at Ht
              have q1 : cap' - 1 = 0 := by omega
              go_wp2_with (at_builtin
                           refine wpList_appQ0 rfl _ _ rfl w4.heap.size _ _ _ _ rfl HQ5.out (by simp) _ _ rfl (by simp; omega) ?_)
              all_goals first | (exfalso; omega) | skip
              go_roundg (wgK l (r ++ [])).toNat
              case measure => have := HWG.out; omega
              case rel => exact ⟨_, _, HO5.out, by simpa [q1] using Ht.out, Hst, HW5.out, by omega, by have := HWG.out; omega, by have := HWG.out; omega⟩
            · rw [if_neg hc] at Ht
              go_wp2_with (at_builtin
                           refine wpList_appQ0 rfl _ _ rfl w4.heap.size _ _ _ _ rfl HQ5.out (by simp) _ _ rfl (by simp; omega) ?_)
              all_goals first | (exfalso; omega) | skip
              go_roundg (wgK l (r ++ [])).toNat
              case measure => have := HWG.out; omega
              case rel => exact ⟨_, _, HO5.out, by simpa using Ht.out, Hst, HW5.out, by omega, by have := HWG.out; omega, by have := HWG.out; omega⟩
theorem cover_bad (vars : Int) (A B : Option Addr) (l : List Term) (capA capB : Nat) (w : World) (hA : RdT w A l) (hB : RdTl w B tiles6) (hm : l.length ≤ maxLen) (h0 : needErr vars l ≠ 0) :
    Calls Try.prog 35 #[.int .i64 vars, .slice A l.length capA, .slice B 6 capB] w fun e w' => (∃ x, x ≠ 0 ∧ e = .returned (.tuple #[.slice none 0 0, .int .i64 x])) ∧ Below w.heap.size w w' := by
  have hb := (plain_bad h0).2.2
  have Hw := Lib.hid (tileWrong_calls vars A B l tiles6 capA capB w hA hB hm (by simp [tiles6, maxLen]))
  have ht6 : tiles6.length = 6 := by simp [tiles6]
  rw [ht6] at Hw
  have Hb := Lib.hid hb
  have q : (tileErr vars l tiles6 != 0) = true := by rw [bne_iff_ne]; exact hb
  clear hA hB hb ht6 h0
  generalize tileErr vars l tiles6 = x at *
  go_enter Try.func35, Try.ntmps35
  go_wp2_with fail
  refine Hw.out.mono ?_
  rintro e w1 ⟨rfl, hW⟩
  have HW := Lib.hid hW
  clear hW
  go_wp2
  go_ret2
  exact ⟨⟨x, Hb.out, rfl⟩, HW.out⟩
end Go.Proofs.Ytmgejacndhnikaa
