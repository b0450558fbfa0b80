/- span.In walked. -/
import Derived.Test.YtadmmciiahdmcaaSpG
import Derived.Deep.LoopGhost
import Derived.Deep.RegionHeld3
import Derived.Deep.CutRange
import Derived.Sort.CutIn
namespace Go.Proofs.Ytadmmciiahdmcaa
set_option maxRecDepth 100000
open Go.RowKit

set_option maxHeartbeats 16000000 in
theorem spIn_ok (vars : Int) (A : Option Addr) (G off : Nat) (p : List Blk) (h0 : List Sp) (n cap capB : Nat) (w : World) (hA : RdBk w A p) (hB : RdS w (some ⟨G, off, none⟩) h0) (hm : p.length ≤ maxLen) (hmc : smallB p) (h1 : pkErr vars p = 0) (hn : h0.length = n) (hl : (n : Int) = vars) (hb : h0.any badS = false) :
    Calls Try.prog 34 #[.int .i64 vars, .slice A p.length cap, .slice (some ⟨G, off, none⟩) n capB] w (InEndS n p h0 w) := by
  have hp := pok_of h1
  have ho := anyS_ok hb
  have hn1 := hp.n1
  have hn8 := hp.n8
  have hv1 := hp.v1
  have hv6 := hp.v6
  have h0n : h0 ≠ [] := by intro e; rw [e] at hn; simp at hn; omega
  have hGl : G < w.heap.size := by obtain ⟨_, _, e, hl, _⟩ := hB (by omega); injection e with e; injection e with e1; omega
  have HA := Lib.hid hA
  have HB := Lib.hid hB
  have HP := Lib.hid hp
  have Ho := Lib.hid ho
  have Hc := Lib.hid (blkCheck_calls vars A p cap w hA hm hmc)
  have Hk := Lib.hid (fun w hB => containsS_calls (some ⟨G, off, none⟩) h0 capB w hB (by unfold maxLen; omega))
  rw [h1] at Hc
  rw [hb, hn] at Hk
  have q : ((n : Int) != vars) = false := by simpa using hl
  clear hA hB hp ho h1 hb
  go_enter Try.func34, Try.ntmps34
  go_wp2_with (first
    | (go_at_call 38; refine Hc.out.mono ?_; rintro e w1 ⟨rfl, hW⟩; have HW1 := Lib.hid hW; clear hW Hc)
    | (go_at_call 59; refine (Hk.out _ (Rd.below HB.out HW1.out)).mono ?_; rintro e w2 ⟨rfl, hW⟩; have HW2 := Lib.hid (HW1.out.trans (hW.mono HW1.out.size)); clear hW Hk)
    | (at_make; refine wpList_makeS rfl _ _ rfl w2.heap.size p.length rfl rfl (by omega) (Nat.le_refl _) ?_; intro wm hown hgrow
       have hbm : w2.heap.size < wm.heap.size := by
         obtain ⟨g, eg, _, hlt, _⟩ := OwnV.at2 hown (by simp; omega)
         injection eg with eg; injection eg with eg
         omega
       have hw2 := HW2.out.size
       have HWm := Lib.hid (HW2.out.grown hgrow HW2.out.size (fun k hk => by cases hk))
       have HSm := Lib.hid (ST.start hown)
       have HWa := Lib.hid (HWm.out.alloc (by omega) (.cells #[.slice (some ⟨w2.heap.size, 0, none⟩) p.length p.length, .bool false] 101))
       have HC := Lib.hid (come_calls n wm.heap.size w2.heap.size p.length (by omega) (by omega) (fun _ => 0) (fun _ => 0) (fun _ => []) false 0 G off h0 capB _ HSm.out (fun i _ => .inl rfl) (by omega) (Rd.below HB.out HWa.out) hn Ho.out ⟨by omega, by omega, fun i _ h => absurd rfl h⟩)
       rw [show ((0 : Nat) : Int) = 0 from rfl] at HC
       clear hown hgrow)
    | (go_at_call 62; go_loud (with_reducible refine HC.out.mono ?_)
       rintro e w3 ⟨⟨x, rfl⟩, R, C, F, b, hst, hcr, hfr, hrw⟩
       have HG3 : Hid (GS w w3 wm.heap.size w2.heap.size p.length R C F b) := Lib.hid ⟨hst, hfr.below HWa.out (by simp; omega) (by omega) (by omega) (fun i _ h => absurd rfl h), by omega, by omega, fun i hi hF => by
         rcases hrw i hi hF with ⟨h, _⟩ | h
         · exact absurd rfl h
         · have : (wm.alloc (.cells #[.slice (some ⟨w2.heap.size, 0, none⟩) p.length p.length, .bool false] 101)).heap.size = wm.heap.size + 1 := by simp
           omega⟩
       have HI : Hid (InvS n p h0 F) := Lib.hid ⟨hcr.rows, fun e => by have := hcr.up.1; rw [e, hn] at this; simp at this; omega, hcr.up⟩
       have hb : b = true := by
         rcases hcr.fl with ⟨_, _, h⟩ | ⟨h, _⟩
         · exact absurd rfl h
         · exact h
       subst hb
       clear hst hcr hfr hrw HC HSm))
  obtain ⟨T, hT⟩ : ∃ T, T = wm.heap.size := ⟨_, rfl⟩
  obtain ⟨SB, hSB⟩ : ∃ SB, SB = w2.heap.size := ⟨_, rfl⟩
  rw [← hT, ← hSB] at HG3
  rw [← hT]
  clear hT hSB hbm hw2 HWm HWa HW2
  have q22 : ∀ (w : World) (a : Option Addr) (n c n' c' : Nat), (binOp .eql 60 (.slice a n c) (.slice none n' c')).run Try.prog w = .ok (.bool a.isNone) w := fun w a n c n' c' => Lib.run_eql_slice_nil w _ _ a n c n' c' Try.underlying60
  go_loopg [10] (2 * potS p.length F + 2) (fun g _ wr => ∃ (R C : Nat → Nat) (F : FnS) (b : Bool), Hid (GS w wr T SB p.length R C F b) ∧ Hid (InvS n p h0 F) ∧ Hid (b = false → ∀ i, i < p.length → ClosS p F i) ∧ Hid (2 * potS p.length F + b.toNat < g))
  case atStart => exact ⟨R, C, F, true, HG3, HI, Lib.hid (fun e => by cases e), Lib.hid (by simp)⟩
  case round =>
    clear HG3 HI R C F HW1
    obtain ⟨R0, C0, F0, b, HG0, HI0, HC0, Hg0⟩ := hrel
    have c0 := HG0.out.st.c0
    have c1 := HG0.out.st.c1
    have fT := HG0.out.st.fT 1
    cases b
    · have Hend := Lib.hid (show SolS n p h0 F0 from ⟨HI0.out, HC0.out rfl⟩)
      clear HI0 HC0 Hg0
      go_wp2
      go_ret2
      exact ⟨T, SB, R0, C0, F0, false, rfl, Hend.out, HG0.out.st, HG0.out.bel⟩
    · have HGs := Lib.hid (HG0.out.setT false)
      obtain ⟨wo, rfl⟩ : ∃ wo : World, wo = wr := ⟨_, rfl⟩
      go_wp2
      clear c0 c1 fT
      go_loopw [43] (fun i wr => ∃ (k : Nat) (R C : Nat → Nat) (F : FnS) (b : Bool), k ≤ p.length ∧ i = .int .i64 k ∧ Hid (GS w wr T SB p.length R C F b) ∧ Hid (PasS n p h0 F0 F b k)) (fun i _ => p.length - (intOf i).toNat)
      case atStart => exact ⟨0, R0, C0, F0, false, Nat.zero_le _, rfl, HGs, Lib.hid (PasS.start HI0.out)⟩
      case round =>
        clear HG0 HGs HC0 HI0
        obtain ⟨k, R, C, F, b, hk, rfl, HG, HPs⟩ := hrel
        by_cases hlt : k < p.length
        · obtain ⟨pb, poff, A', cap', rfl, hpb, d0, d1, d2, d3, hS⟩ := RdBk.at_ (HA.out.below HG.out.bel) hlt
          have Hlt := Lib.hid hlt
          have hlt : ((k : Nat) : Int) < ((p.length : Nat) : Int) := by omega
          have HS := Lib.hid hS
          have Hbo := Lib.hid (HP.out.bs _ (List.getElem_mem Hlt.out))
          have hmb := manyB_mem (List.getElem_mem Hlt.out)
          have hm20 := HP.out.many
          have c0 := HG.out.st.c0
          have cS := HG.out.st.cS Hlt.out
          have hT := HG.out.st.ltT
          have hSl := HG.out.st.ltS
          have Hcl1 : Hid (∀ F' : FnS, p[k].test < 0 → p[k].thn < 0 → ClosS p F' k) := Lib.hid (fun F' => clos_end Hlt.out)
          have Hcl2 : Hid (∀ (F' : FnS) (v : List Sp), p[k].test < 0 → BehR p[k].code (F' k) v → F' p[k].thn.toNat ≠ [] → leS v (F' p[k].thn.toNat) → ClosS p F' k) := Lib.hid (fun F' v a1 a2 a3 a4 => clos_one Hlt.out a1 a2 a3 a4)
          have Hcl3 : Hid (∀ (F' : FnS) (v : List Sp) (d : Nat), p[k].test = (d : Nat) → BehR p[k].code (F' k) v → d < v.length →
            (0 < (gS v d).2 → F' p[k].thn.toNat ≠ [] ∧ leS (v.set d (max (gS v d).1 1, (gS v d).2)) (F' p[k].thn.toNat)) →
            ((gS v d).1 = 0 → F' p[k].els.toNat ≠ [] ∧ leS (v.set d (0, 0)) (F' p[k].els.toNat)) → ClosS p F' k) := Lib.hid (fun F' v d a1 a2 a3 a4 a5 => clos_two Hlt.out a1 a2 a3 a4 a5)
          generalize p[k] = bk at *
          obtain ⟨code, test, thn, els⟩ := bk
          dsimp only at *
          obtain ⟨P, hP⟩ : ∃ P, P = wr.heap.size := ⟨_, rfl⟩
          obtain ⟨w0, hw0⟩ : ∃ w0, w0 = wr.alloc (.cells #[.slice A' code.length cap', .int .i64 test, .int .i64 thn, .int .i64 els] 25) := ⟨_, rfl⟩
          have HG0 : Hid (GS w w0 T SB p.length R C F b) := Lib.hid (by rw [hw0]; exact HG.out.below ((Below.refl _ _).alloc (Nat.le_refl _) _))
          have hPl : P < w0.heap.size := by rw [hw0, hP]; simp
          have HPb : Hid (w0.heap[P]? = some (.cells #[.slice A' code.length cap', .int .i64 test, .int .i64 thn, .int .i64 els] 25 (0, 0))) := Lib.hid (by rw [hw0, hP]; exact heap_alloc_new wr _)
          have HFP : Hid (FarS w0 T SB p.length R F P) := Lib.hid (FarS.new HG.out.st (by omega) hPl)
          clear hS
          by_cases hF : F k = []
          · rw [rvS_nil hF] at cS
            have HPh := Lib.hid hP
            have HWh := Lib.hid hw0
            have HF := Lib.hid hF
            clear hP hw0 hF
            go_wp2
            go_roundw
            case rel => exact ⟨k + 1, R, C, F, b, by have := Hlt.out; omega, by go_num, by rw [← HWh.out]; exact HG0, Lib.hid (HPs.out.skip HF.out)⟩
            case measure => simp [intOf]; omega
          obtain ⟨k1, k2⟩ := (HPs.out.inv.rows k Hlt.out).resolve_left hF
          rw [rvS_row hF, k1] at cS
          have hR := HG.out.st.ltR Hlt.out hF
          have hw0s : wr.heap.size < w0.heap.size := by omega
          have HSd : Hid (RdSt w0.drew A' code) := Lib.hid (by rw [hw0]; exact Rd.drewN (Rd.below HS.out ((Below.refl _ _).alloc (Nat.le_refl _) _)) 1)
          have HRow := Lib.hid (HG0.out.st.hR k Hlt.out hF)
          have HB0 := Lib.hid (fun c => behindS_calls (n : Int) code A' (some ⟨R k, 0, none⟩) (F k) cap' c w0.drew HSd.out (Rd.drewN HRow.out.rd 1) (by omega) (by omega) (by omega) (by omega) (by rw [hl]; exact Hbo.out.code) k2)
          rw [k1] at HB0
          have HK0 : Hid (w0.drew.cell? ⟨P, 0, none⟩ = some (.slice A' code.length cap') ∧ w0.drew.cell? ⟨T, 0, none⟩ = some (.slice (some ⟨SB, 0, none⟩) p.length p.length) ∧ w0.drew.cell? ⟨SB, k, none⟩ = some (.slice (some ⟨R k, 0, none⟩) n (C k))) := Lib.hid ⟨cell_h HPb.out 0, HG0.out.st.c0, by have := HG0.out.st.cS Hlt.out; rw [rvS_row hF, k1] at this; exact this⟩
          have HKb : Hid (∀ w5, Below w0.drew.heap.size w0.drew w5 → w5.cell? ⟨P, 0, none⟩ = some (.slice A' code.length cap') ∧ w5.cell? ⟨T, 0, none⟩ = some (.slice (some ⟨SB, 0, none⟩) p.length p.length) ∧ w5.cell? ⟨SB, k, none⟩ = some (.slice (some ⟨R k, 0, none⟩) n (C k))) := Lib.hid (fun w5 hb => ⟨(hb.cell (p := ⟨P, 0, none⟩) hPl).trans HK0.out.1, (hb.cell (p := ⟨T, 0, none⟩) (by show T < w0.heap.size; omega)).trans HK0.out.2.1, (hb.cell (p := ⟨SB, k, none⟩) (by show SB < w0.heap.size; omega)).trans HK0.out.2.2⟩)
          have HPh := Lib.hid hP
          have HWh := Lib.hid hw0
          clear hP hw0
          go_upto_region 16 with fail
          rw [← HPh.out, ← HWh.out]
          go_region_held3 (fun w' => w'.cell? ⟨P, 0, none⟩ = some (.slice A' code.length cap') ∧ w'.cell? ⟨T, 0, none⟩ = some (.slice (some ⟨SB, 0, none⟩) p.length p.length) ∧ w'.cell? ⟨SB, k, none⟩ = some (.slice (some ⟨R k, 0, none⟩) n (C k)))
            (with_reducible first | exact HK0.out | assumption | exact HKb.out _ Hb5.out)
            ((with_reducible refine (HB0.out _).mono ?_
              rintro e w5 ⟨v, g5, vc, rfl, hO, hB5, hg5, hb5⟩
              have hvl : v.length = n := hB5.1.trans k1
              rw [hvl]
              have Hb5 := Lib.hid hb5
              have HO5 := Lib.hid (RowS.of_own hO)
              have HBR := Lib.hid hB5
              have hg5l := (World.ownsRow.lt hO g5 rfl).2
              have hg5b : w0.heap.size ≤ g5 := hg5
              clear hO hB5 hb5 hg5))
          have hb5 : Below w0.heap.size w0 w5 := (Below.refl w0.heap.size w0).drew.trans Hb5.out
          have HG5 : Hid (GS w w5 T SB p.length R C F b) := Lib.hid (HG0.out.below hb5)
          have HPb5 := Lib.hid ((hb5.block P hPl).trans HPb.out)
          have HFP5 := Lib.hid (HFP.out.mono hb5.size)
          have HFg5 : Hid (FarS w5 T SB p.length R F g5) := Lib.hid (FarS.new HG0.out.st hg5b hg5l)
          have hwg5 : w.heap.size ≤ g5 := Nat.le_trans HG0.out.bel.size hg5b
          have hPw5 : P < w5.heap.size := HFP5.out.lt
          have hvo := HBR.out.2.1
          have Hrows := Lib.hid HPs.out.inv.rows
          have hn1' : 1 ≤ n := by omega
          clear hb5 Hb5 HB0 HK0 HKb HSd HRow HG0 HPb HFP cS c0
          have p1 := cell_h HPb5.out 1
          have p2 := cell_h HPb5.out 2
          have p3 := cell_h HPb5.out 3
          have blo := Hbo.out.lo
          have bhi := Hbo.out.hi
          by_cases ht : test < 0
          · have h1e : test = -1 := by dsimp only at blo; omega
            have hone := Hbo.out.one h1e
            by_cases hth : thn < 0
            · have Hnx := Lib.hid (HPs.out.done (Hcl1.out F ht hth))
              clear Hcl1 Hcl2 Hcl3 hone
              go_wp2
              go_roundw
              case rel => exact ⟨k + 1, R, C, F, b, by have := Hlt.out; omega, by go_num, HG5, Hnx⟩
              case measure => simp [intOf]; omega
            · have hth2 : 0 ≤ thn ∧ thn < p.length := by dsimp only at hone; omega
              obtain ⟨jt, rfl⟩ := Int.eq_ofNat_of_zero_le hth2.1
              have hjt : jt < p.length := by omega
              have HC5 := Lib.hid (come_calls n T SB p.length hn1' (by omega) R C F b jt g5 0 v vc w5 HG5.out.st Hrows.out hjt HO5.out.rd hvl hvo ⟨HFg5.out.nT, HFg5.out.nS, HFg5.out.nR⟩)
              have Hnx := Lib.hid (fun (F' : FnS) (b' : Bool) (hc : ComeR n p.length F jt v F' b b') => HPs.out.one hn1' hvl hc (fun e => Hcl2.out F' v ht (by rw [e]; exact HBR.out) (by rw [Int.toNat_natCast]; exact hc.up.ne hn1' hvl) (by rw [Int.toNat_natCast]; exact hc.up)))
              clear Hcl1 Hcl2 Hcl3 hone hth2
              go_wp2_with (go_at_call 62; with_reducible refine HC5.out.mono ?_
                           rintro e w6 ⟨⟨x, rfl⟩, R1, C1, F1, b1, hst, hcr, hfr, hrw⟩
                           have HG6 := Lib.hid (HG5.out.come hst hfr hrw)
                           have Hnx6 := Lib.hid (Hnx.out F1 b1 hcr)
                           clear hst hcr hfr hrw)
              go_roundw
              case rel => exact ⟨k + 1, R1, C1, F1, b1, by have := Hlt.out; omega, by go_num, HG6, Hnx6⟩
              case measure => simp [intOf]; omega
          · have htwo := Hbo.out.two (by dsimp only; omega)
            obtain ⟨d, rfl⟩ := Int.eq_ofNat_of_zero_le (show 0 ≤ test by omega)
            dsimp only at htwo bhi
            obtain ⟨⟨t0, t1'⟩, t2', t3'⟩ := htwo
            obtain ⟨jt, rfl⟩ := Int.eq_ofNat_of_zero_le t0
            obtain ⟨je, rfl⟩ := Int.eq_ofNat_of_zero_le t2'
            have hjt : jt < p.length := by omega
            have hje : je < p.length := by omega
            have hd : d < v.length := by omega
            have hdn : ((d : Nat) : Int) < ((n : Nat) : Int) := by omega
            obtain ⟨r1, r2, rf⟩ := HO5.out.at2 hd
            have rf1 := rf (d * 2)
            have rf2 := rf (d * 2 + 1)
            have hsp := spOk_at hvo hd
            have Hset := Lib.hid (fun y : Sp => HO5.out.set2 hd y)
            have Hval := Lib.hid (fun (y : Sp) (hy : spOk y) (s : Sp) (hs : s ∈ v.set d y) => show spOk s from by
              rcases List.mem_or_eq_of_mem_set hs with h | rfl
              · exact hvo s h
              · exact hy)
            have Hcl := Lib.hid (fun (F' : FnS) (hF' : F' = F) => Hcl3.out F' v d rfl (by rw [hF']; exact HBR.out) hd)
            rw [Int.toNat_natCast, Int.toNat_natCast] at Hcl
            clear Hcl1 Hcl2 Hcl3 rf ht
            generalize hgs : gS v d = t at *
            obtain ⟨t1, t2⟩ := t
            unfold spOk at hsp
            dsimp only at r1 r2 hsp Hcl
            have hgP : P ≠ g5 := by omega
            by_cases q2 : 0 < t2
            · by_cases q1 : t1 = 0
              · subst q1
                obtain ⟨a1, a2, a3, a4, a5, a6, a7⟩ := HG5.out.put3 HO5.out HFg5.out HFP5.out (by omega) hwg5 HPb5.out hd (1, t2) (.cells #[.int .i64 0, .int .i64 t2] 65)
                obtain ⟨-, -, -, a8, -⟩ := HG5.out.put2 HO5.out HFg5.out (by omega) hwg5 HPb5.out hd (1, t2)
                have pA1 := cell_h a8 1
                have pA2 := cell_h a8 2
                have pA3 := cell_h a8 3
                have hvA : (v.set d (1, t2)).length = n := by rw [List.length_set]; exact hvl
                have hoA := Hval.out (1, t2) (by unfold spOk; dsimp only; omega)
                have HA1 := Lib.hid a1
                have HA2 := Lib.hid a2
                have HA3 := Lib.hid a3
                have HA4 := Lib.hid a4
                have HA5 := Lib.hid a5
                have HA6 := Lib.hid a6
                have HA7 := Lib.hid a7
                have HC6 := Lib.hid (come_calls n T SB p.length hn1' (by omega) R C F b jt g5 0 (v.set d (1, t2)) vc _ a1.st Hrows.out hjt a2.rd hvA hoA ⟨a3.nT, a3.nS, a3.nR⟩)
                clear a1 a2 a3 a4 a5 a6 a7 a8
                go_wp2_with (first
                 | (go_at_call 62; with_reducible refine HC6.out.mono ?_
                    rintro e w6 ⟨⟨x, rfl⟩, R1, C1, F1, b1, hst, hcr, hfr, hrw⟩
                    have HG6 := Lib.hid (HA1.out.come hst hfr hrw)
                    have HR6 := Lib.hid (HA2.out.blk (HA3.out.come hfr hrw).2)
                    have HF6 := Lib.hid (HA3.out.come hfr hrw).1
                    have HP6 := Lib.hid ((HA4.out.come hfr hrw).2.trans HA6.out)
                    have HT6 := Lib.hid ((HA5.out.come hfr hrw).2.trans HA7.out)
                    have hcr6 := Lib.hid hcr
                    have t60 := cell_h HT6.out 0
                    have t61 := cell_h HT6.out 1
                    have p61 := cell_h HP6.out 1
                    have p63 := cell_h HP6.out 3
                    obtain ⟨r61, r62, rf6⟩ := HR6.out.at2 (k := d) (by rw [List.length_set]; exact hd)
                    have rf61 := rf6 (d * 2)
                    have rf62 := rf6 (d * 2 + 1)
                    obtain ⟨a1, a2, a3, a4, -⟩ := HG6.out.put2 HR6.out HF6.out (by omega) hwg5 HP6.out (d := d) (by rw [List.length_set]; exact hd) (0, 0)
                    rw [List.set_set] at a2
                    have pB3 := cell_h a4 3
                    have pB1 := cell_h a4 1
                    have HB1 := Lib.hid a1
                    have HC7 := Lib.hid (come_calls n T SB p.length hn1' (by omega) R1 C1 F1 b1 je g5 0 (v.set d (0, 0)) vc _ a1.st hcr.rows hje a2.rd (by rw [List.length_set]; exact hvl) (Hval.out (0, 0) (by unfold spOk; decide)) ⟨a3.nT, a3.nS, a3.nR⟩)
                    clear rf6 a1 a2 a3 a4
                    clear hst hcr hfr hrw HC6)
                 | (go_at_call 62; with_reducible refine HC7.out.mono ?_
                    rintro e w7 ⟨⟨x, rfl⟩, R2, C2, F2, b2, hst, hcr, hfr, hrw⟩
                    have HG7 := Lib.hid (HB1.out.come hst hfr hrw)
                    have hcr7 := Lib.hid hcr
                    clear hst hcr hfr hrw HC7))
                have Hnx := Lib.hid (HPs.out.two hn1' hvA hcr6.out (by rw [List.length_set]; exact hvl) hcr7.out (fun e1 e2 => Hcl.out F2 e2 (fun _ => by
                    rw [e2, ← e1]
                    exact ⟨hcr6.out.up.ne hn1' hvA, hcr6.out.up⟩) (fun _ => ⟨hcr7.out.up.ne hn1' (by rw [List.length_set]; exact hvl), hcr7.out.up⟩)))
                go_roundw
                case rel => exact ⟨k + 1, R2, C2, F2, b2, by have := Hlt.out; omega, by go_num, HG7, Hnx⟩
                case measure => simp [intOf]; omega
              · have q3 : (t1 == 0) = false := by rw [beq_eq_false_iff_ne]; exact q1
                have q4 : 1 ≤ t1 := by omega
                have q5 : max t1 1 = t1 := by omega
                obtain ⟨a1, a2, a3, a4, a5, a6, a7⟩ := HG5.out.put3 HO5.out HFg5.out HFP5.out (by omega) hwg5 HPb5.out hd (t1, t2) (.cells #[.int .i64 t1, .int .i64 t2] 65)
                obtain ⟨-, -, -, a8, -⟩ := HG5.out.put2 HO5.out HFg5.out (by omega) hwg5 HPb5.out hd (t1, t2)
                have pA1 := cell_h a8 1
                have pA2 := cell_h a8 2
                have pA3 := cell_h a8 3
                have hvA : (v.set d (t1, t2)).length = n := by rw [List.length_set]; exact hvl
                have hoA := Hval.out (t1, t2) (by unfold spOk; dsimp only; omega)
                have HA1 := Lib.hid a1
                have HA2 := Lib.hid a2
                have HA3 := Lib.hid a3
                have HA4 := Lib.hid a4
                have HA5 := Lib.hid a5
                have HA6 := Lib.hid a6
                have HA7 := Lib.hid a7
                have HC6 := Lib.hid (come_calls n T SB p.length hn1' (by omega) R C F b jt g5 0 (v.set d (t1, t2)) vc _ a1.st Hrows.out hjt a2.rd hvA hoA ⟨a3.nT, a3.nS, a3.nR⟩)
                clear a1 a2 a3 a4 a5 a6 a7 a8
                go_wp2_with (first
                 | (go_at_call 62; with_reducible refine HC6.out.mono ?_
                    rintro e w6 ⟨⟨x, rfl⟩, R1, C1, F1, b1, hst, hcr, hfr, hrw⟩
                    have HG6 := Lib.hid (HA1.out.come hst hfr hrw)
                    have HR6 := Lib.hid (HA2.out.blk (HA3.out.come hfr hrw).2)
                    have HF6 := Lib.hid (HA3.out.come hfr hrw).1
                    have HP6 := Lib.hid ((HA4.out.come hfr hrw).2.trans HA6.out)
                    have HT6 := Lib.hid ((HA5.out.come hfr hrw).2.trans HA7.out)
                    have hcr6 := Lib.hid hcr
                    have t60 := cell_h HT6.out 0
                    have t61 := cell_h HT6.out 1
                    have p61 := cell_h HP6.out 1
                    have p63 := cell_h HP6.out 3
                    clear hst hcr hfr hrw HC6))
                have Hnx := Lib.hid (HPs.out.one hn1' hvA hcr6.out (fun e1 => Hcl.out F1 e1 (fun _ => by
                    rw [q5]
                    exact ⟨hcr6.out.up.ne hn1' hvA, hcr6.out.up⟩) (fun h => absurd h q1)))
                go_roundw
                case rel => exact ⟨k + 1, R1, C1, F1, b1, by have := Hlt.out; omega, by go_num, HG6, Hnx⟩
                case measure => simp [intOf]; omega
            · have q1 : t1 = 0 := by omega
              have q1' : t2 = 0 := by omega
              subst q1 q1'
              obtain ⟨a1, a2, a3, a4, a5, a6, a7⟩ := HG5.out.put3 HO5.out HFg5.out HFP5.out (by omega) hwg5 HPb5.out hd (0, 0) (.cells #[.int .i64 0, .int .i64 0] 65)
              obtain ⟨-, -, -, a8, -⟩ := HG5.out.put2 HO5.out HFg5.out (by omega) hwg5 HPb5.out hd (0, 0)
              have pA1 := cell_h a8 1
              have pA2 := cell_h a8 2
              have pA3 := cell_h a8 3
              have hvA : (v.set d (0, 0)).length = n := by rw [List.length_set]; exact hvl
              have hoA := Hval.out (0, 0) (by unfold spOk; dsimp only; omega)
              have HA1 := Lib.hid a1
              have HA2 := Lib.hid a2
              have HA3 := Lib.hid a3
              have HA4 := Lib.hid a4
              have HA5 := Lib.hid a5
              have HA6 := Lib.hid a6
              have HA7 := Lib.hid a7
              have HC6 := Lib.hid (come_calls n T SB p.length hn1' (by omega) R C F b je g5 0 (v.set d (0, 0)) vc _ a1.st Hrows.out hje a2.rd hvA hoA ⟨a3.nT, a3.nS, a3.nR⟩)
              clear a1 a2 a3 a4 a5 a6 a7 a8
              go_wp2_with (first
                 | (go_at_call 62; with_reducible refine HC6.out.mono ?_
                    rintro e w6 ⟨⟨x, rfl⟩, R1, C1, F1, b1, hst, hcr, hfr, hrw⟩
                    have HG6 := Lib.hid (HA1.out.come hst hfr hrw)
                    have HR6 := Lib.hid (HA2.out.blk (HA3.out.come hfr hrw).2)
                    have HF6 := Lib.hid (HA3.out.come hfr hrw).1
                    have HP6 := Lib.hid ((HA4.out.come hfr hrw).2.trans HA6.out)
                    have HT6 := Lib.hid ((HA5.out.come hfr hrw).2.trans HA7.out)
                    have hcr6 := Lib.hid hcr
                    have t60 := cell_h HT6.out 0
                    have t61 := cell_h HT6.out 1
                    have p61 := cell_h HP6.out 1
                    have p63 := cell_h HP6.out 3
                    clear hst hcr hfr hrw HC6))
              have Hnx := Lib.hid (HPs.out.one hn1' hvA hcr6.out (fun e1 => Hcl.out F1 e1 (fun h => absurd h (by decide)) (fun _ => ⟨hcr6.out.up.ne hn1' hvA, hcr6.out.up⟩)))
              go_roundw
              case rel => exact ⟨k + 1, R1, C1, F1, b1, by have := Hlt.out; omega, by go_num, HG6, Hnx⟩
              case measure => simp [intOf]; omega
        · have hke : k = p.length := by omega
          subst hke
          have Hd := Lib.hid (show InvS n p h0 F ∧ (b = false → ∀ i, i < p.length → ClosS p F i) ∧ 2 * potS p.length F + b.toNat < 2 * potS p.length F0 + 1 from ⟨HPs.out.inv, fun e => (HPs.out.no e).2, by
            cases b
            · rw [(HPs.out.no rfl).1]; simp
            · have := HPs.out.yes rfl; simp; omega⟩)
          clear HPs
          go_wp2
          go_roundg (2 * potS p.length F + b.toNat + 1)
          case measure => have := Hd.out.2.2; have := Hg0.out; simp at *; omega
          case rel => exact ⟨R, C, F, b, HG, Lib.hid Hd.out.1, Lib.hid Hd.out.2.1, Lib.hid (Nat.lt_succ_self _)⟩
end Go.Proofs.Ytadmmciiahdmcaa
