/- fact.Solve walked. -/
import Derived.Test.YtljmignfbagomaaFacL
namespace Go.Proofs.Ytljmignfbagomaa
open Go.RowKit

theorem EdgeG.mem {g : List (List Int)} {i j : Nat} {row : List Int} (hr : g[i]? = some row) : EdgeG g i j ↔ (j : Int) ∈ row := by
  constructor
  · rintro ⟨l, h1, h2⟩
    rw [hr] at h1; injection h1 with h1; subst h1; exact h2
  · intro h; exact ⟨row, hr, h⟩
set_option maxRecDepth 100000 in
set_option maxHeartbeats 16000000 in
theorem solve_calls (A MA MB : Option Addr) (ls : List (List Int)) (L : LawD) (cap ca cb : Nat) (w : World) (hA : RdN w A ls) (hm : ls.length ≤ maxLen) (hL : RdL w MA MB L) (hl1 : L.makes.length ≤ maxLen) (hl2 : L.ends.length ≤ maxLen) :
    Calls Try.prog 41 #[.slice A ls.length cap, .agg #[.bool L.back, .bool L.all, .slice MA L.makes.length ca, .slice MB L.ends.length cb, .int .u32 (L.start : Nat)]] w fun e w' =>
      Below w.heap.size w w' ∧ ∃ B r c, e = .returned (.tuple #[.slice B r.length c, .int .i64 (facErr ls L)]) ∧ RdU w' B r ∧ r.length ≤ 8 ∧ (facErr ls L = 0 → SolF ls L r) ∧ ∀ q, B = some q → w.heap.size ≤ q.block := by
  have hB1 := (Below.refl w.heap.size w).alloc (Nat.le_refl _) (.cells #[.bool L.back, .bool L.all, .slice MA L.makes.length ca, .slice MB L.ends.length cb, .int .u32 (L.start : Nat)] 58)
  have HB1 := Lib.hid hB1
  have hlb := LB.new w MA MB L ca cb
  have HLB := Lib.hid hlb
  go_enter Try.func41, Try.ntmps41
  go_upto_region 1 with fail
  have HA := Lib.hid (RdN.below hA hB1)
  have HL := Lib.hid (hL.below hB1)
  clear hA hL hB1
  obtain ⟨wa, hwa⟩ : ∃ wa, wa = w.alloc (Obj.cells #[Value.bool L.back, Value.bool L.all, Value.slice MA L.makes.length ca, Value.slice MB L.ends.length cb, Value.int IntKind.u32 (L.start : Nat)] 58) := ⟨_, rfl⟩
  rw [← hwa] at HA HL HB1 HLB hlb ⊢
  clear hwa
  have hw0 := HB1.out.size
  obtain ⟨p, hp⟩ : ∃ p, p = w.heap.size := ⟨_, rfl⟩
  have Hp := Lib.hid hp
  rw [← hp] at HLB hlb ⊢
  obtain ⟨hpl, c0, c1, c2, c3, c4⟩ := hlb
  clear hp
  by_cases h0 : facErr ls L = 0
  case neg =>
    have hd : (facErr ls L != 0) = true := by rw [bne_iff_ne]; exact h0
    have He := Lib.hid h0
    clear h0
    go_wp2_with (go_at_call 56; refine (factWrong_calls A MA MB ls L cap ca cb _ HA.out hm HL.out hl1 hl2).mono ?_; rintro e w1 ⟨rfl, hW⟩; have HW := Lib.hid (HB1.out.trans (hW.mono hw0)); clear hW)
    go_ret2
    exact ⟨HW.out, none, [], 0, rfl, Rd.nil_, by simp, (fun h => absurd h He.out), (fun q h => by cases h)⟩
  have hok := facErr_ok h0
  obtain ⟨h1, h8, hv⟩ := valid_of hok.way
  have HV := Lib.hid hv
  have Hok := Lib.hid hok
  have H0 := Lib.hid h0
  clear h0 hok hv
  obtain ⟨bk, hbk⟩ : ∃ bk, bk = L.back := ⟨_, rfl⟩
  have Hbk := Lib.hid hbk
  clear hbk
  go_upto_if 26 with (go_at_call 56; refine (factWrong_calls A MA MB ls L cap ca cb _ HA.out hm HL.out hl1 hl2).mono ?_; rintro e w1 ⟨rfl, hW⟩; rw [H0.out]; have HW1 := Lib.hid hW; clear c0 c1 c2 c3 c4; obtain ⟨_, c0, c1, c2, c3, c4⟩ := HLB.out.below hW; rw [← Hbk.out] at c0; have hw1 := hW.size; clear hW)
  have HA1 := Lib.hid (RdN.below HA.out HW1.out)
  go_cut [0, 7] from 25 (fun v0 v7 wx => ∃ (A' : Option Addr) (cap' f : Nat) (g : List (List Int)), v0 = .slice A' ls.length cap' ∧ v7 = .int .u32 (f : Nat) ∧ Hid (RdN wx A' g) ∧ Hid (GO ls L g f) ∧ Hid (Below wa.heap.size wa wx))
  case first =>
    cases bk
    · have Hb := Lib.hid (GO.fwd (L := L) Hbk.out.symm HV.out)
      clear c0
      go_wp2
      go_meet
      case rel => exact ⟨A, cap, 1, ls, rfl, rfl, HA1, Hb, HW1⟩
    · have Hb := Lib.hid Hbk.out.symm
      clear c0
      go_wp2_with fail
      go_loop [29, 7] (fun k f => ∃ (k' f' : Nat), k' ≤ ls.length ∧ k = .int .i64 k' ∧ f = .int .u32 (f' : Nat) ∧ Hid (EndsW ls k' f')) (fun k _ => ls.length - (intOf k).toNat)
      case atStart => exact ⟨0, 0, Nat.zero_le _, rfl, rfl, EndsW.first ls⟩
      case round =>
        obtain ⟨k, f, hk, rfl, rfl, hE⟩ := hrel
        by_cases hlt : k < ls.length
        · obtain ⟨b2, off2, A2, cap2, rfl, hb2, c2', hR⟩ := RdN.at_ HA1.out hlt
          have hl := Lib.hid (List.getElem?_eq_getElem hlt)
          have hl3 := (HV.out _ (List.getElem_mem hlt)).1
          have k32 : k < 32 := by omega
          have p1 := pow_u32 k k32
          have f8 := hE.out.1
          have pk : 2 ^ k < 2 ^ 8 := Nat.pow_lt_pow_right (by decide) (by omega)
          have p2 := or_u32 f (2 ^ k) (by omega) (by omega)
          rw [Int.natCast_pow, show ((2 : Nat) : Int) = 2 from rfl] at p1 p2
          clear hR pk
          generalize ls[k] = l at *
          by_cases hz : l.length = 0
          · have q1 : ((l.length : Int) == 0) = true := by rw [hz]; rfl
            have Hz := Lib.hid (hE.out.yes (show ls[k]? = some [] from by rw [hl.out, List.length_eq_zero_iff.1 hz]) (by omega))
            clear hz hE
            go_wp2
            go_round
            case rel => exact ⟨k + 1, _, by omega, by go_num, rfl, Hz⟩
            case measure => simp [intOf]; omega
          · have q1 : ((l.length : Int) == 0) = false := by simpa using hz
            have Hz := Lib.hid (hE.out.no (show ls[k]? ≠ some [] from by rw [hl.out]; intro h; injection h with h; exact hz (by rw [h]; rfl)))
            clear hz hE
            go_wp2
            go_round
            case rel => exact ⟨k + 1, f, by omega, by go_num, rfl, Hz⟩
            case measure => simp [intOf]; omega
        · have : k = ls.length := by omega
          subst this
          have f8 := hE.out.1
          have Hfb := Lib.hid hE.out.all
          clear hE
          go_wp2_with (go_at_call 57; refine (factTurn_calls A ls cap _ HA1.out h1 h8 HV.out).mono ?_; rintro e w2 ⟨B, g, rfl, hR2, hT2, hW2⟩; have HR2 := Lib.hid hR2; have HG := Lib.hid (GO.bwd Hb.out HV.out hT2 f8 Hfb.out); have HW2 := Lib.hid (HW1.out.trans (hW2.mono hw1)); clear hR2 hT2 hW2)
          go_meet
          case rel => exact ⟨B, _, f, g, rfl, rfl, HR2, HG, HW2⟩
  case rest =>
    obtain ⟨A', cap', f, g, rfl, rfl, HR, HG, HWc⟩ := hcut
    clear c0 c1 c2 c3 c4 HA1 HW1 HA
    have HLBc := Lib.hid (HLB.out.below HWc.out)
    have HLc := Lib.hid (HL.out.below HWc.out)
    have hpc : p < wc.heap.size := by have := HWc.out.size; omega
    have hml := Hok.out.ml
    have hel := Hok.out.el
    have Hml := Lib.hid hml
    have Hel := Lib.hid hel
    have hf8 := HG.out.f8
    have hgl := Lib.hid HG.out.len
    clear hml hel HLB HL hw1
    go_wp2_with (at_make; refine wpList_makeU rfl _ _ rfl wc.heap.size ls.length rfl rfl (by omega) (Nat.le_refl _) ?_; intro wm hown hgrow)
    have HM := Lib.hid ((Below.refl wc.heap.size wc).grown hgrow (Nat.le_refl _) (fun k hk => by cases hk))
    have HOm := Lib.hid hown
    clear hown hgrow
    go_loopw [50] (fun i wr => ∃ k : Nat, k ≤ ls.length ∧ i = .int .i64 k ∧ OwnU wr wc.heap.size 29 (.slice (some ⟨wc.heap.size, 0, none⟩) ls.length ls.length) (initL L f ls.length k) ∧ Below wc.heap.size wc wr) (fun i _ => ls.length - (intOf i).toNat)
    case atStart => exact ⟨0, Nat.zero_le _, rfl, by rw [initL_zero]; exact HOm.out, HM.out⟩
    case round =>
      clear HOm HM
      obtain ⟨k, hk, rfl, hown, hW⟩ := hrel
      have HO := Lib.hid hown
      have HW := Lib.hid hW
      by_cases hlt : k < ls.length
      · obtain ⟨g9, eg9, _, hg9, _, hfz, hcell⟩ := OwnU.at2 hown (by rw [initL_len]; omega)
        injection eg9 with eg9; injection eg9 with eg9
        subst eg9
        have d0 := hcell k (by rw [initL_len]; omega)
        have f0 := hfz k
        obtain ⟨_, c0, c1, c2, c3, c4⟩ := HLBc.out.below hW
        have Hst := Lib.hid (initL_step L f ls.length k)
        have Hset := Lib.hid (fun y => OwnU.set_ HO.out (k := k) (by rw [initL_len]; omega) y)
        have Hset2 := Lib.hid (fun y z => OwnU.set_ (Hset.out y) (k := k) (by rw [List.length_set, initL_len]; omega) z)
        have Hiv := Lib.hid (show initV L f k = if f.testBit k then L.start else if L.all then 255 else 0 from rfl)
        have Hz := Lib.hid (initL_get (L := L) (f := f) (n := ls.length) (k := k) hlt)
        have p1 := test1_u32 f k (by omega)
        have qk : ((k : Nat) : Int) < ((ls.length : Nat) : Int) := by omega
        have Hself := Lib.hid (show (initL L f ls.length k).set k 0 = initL L f ls.length k from by
          rw [← Hz.out, getD_at (by rw [initL_len]; exact hlt)]; exact List.set_getElem_self _)
        clear hfz hcell hown hW
        generalize (initL L f ls.length k)[k]'(by rw [initL_len]; omega) = old at *
        cases hall : L.all
        all_goals
          cases hbit : f.testBit k
          all_goals
            rw [hall, hbit] at Hiv
            rw [hbit] at p1
            rw [hall] at c1
            have Hv := Lib.hid Hiv.out
            clear hall hbit
            go_wp2
            go_roundw
            case rel => exact ⟨k + 1, by omega, by go_num, by
              rw [← Hst.out, Hv.out]
              first
                | (simp only [if_true, Bool.false_eq_true, if_false]; first | exact Hset.out _ | (rw [Hself.out]; exact HO.out) | (have := Hset2.out 255 L.start; rw [List.set_set] at this; exact this)), by
              first
                | exact HW.out
                | exact HW.out.setCell (Nat.le_refl _) _
                | exact (HW.out.setCell (Nat.le_refl _) _).setCell (Nat.le_refl _) _⟩
            case measure => simp [intOf]; omega
      · have : k = ls.length := by omega
        subst this
        have HF := Lib.hid (Fa.init HG.out Hok.out h1)
        clear hown hW hlt hk
        go_wp2_with fail
        generalize hb : wc.heap.size = b at *
        go_loopg [13, 11] 90 (fun G m c wr => ∃ (r : List Nat) (c' : Nat) (m' : Bool), m = .bool m' ∧ c = .int .u32 (c' : Nat) ∧ OwnU wr b 29 (.slice (some ⟨b, 0, none⟩) ls.length ls.length) r ∧ Hid (Fa (EL ls L) (FL ls L) L ls.length r c') ∧ Hid (m' = false → ∀ i j, c'.testBit i = true → EL ls L i j → Cl L r c' i j) ∧ Below b wc wr ∧ (m' = true → 80 - wtF L.all r c' < G))
        case atStart => exact ⟨_, f, true, rfl, rfl, HO.out, HF, (fun h => by cases h), HW.out, fun _ => by omega⟩
        case round =>
          clear HO HW HF
          obtain ⟨r, c, m, rfl, rfl, hown, hFa, hcl, hW, hlt⟩ := hrel
          have HW0 := Lib.hid hW
          have HO0 := Lib.hid hown
          have Hlt := Lib.hid hlt
          clear hlt hW
          cases m
          · have hd := hFa.out.done (fun i j hc e => hcl.out rfl i j hc e)
            have HS := Lib.hid (SolF.mk (ls := ls) (L := L) hFa.out.len hFa.out.lt (fun i b hi hb => hd.2 i b hi hb))
            obtain ⟨A1, c1, e1, hR1, _⟩ := hown.form u32Cells_len
            have hrl := hFa.out.len
            rw [hrl] at e1
            injection e1 with e1 _ e3
            subst e1 e3
            have HR1 := Lib.hid hR1
            clear hd hown hR1 hcl hFa
            go_wp2
            go_ret2
            have hWf : Below w.heap.size w wr := HB1.out.trans ((HWc.out.trans ((show Below wc.heap.size wc wr by rw [hb]; exact HW0.out).mono HWc.out.size)).mono hw0)
            refine ⟨hWf, ?_⟩
            refine ⟨some ⟨b, 0, none⟩, r, ⟨ls.length, ?_⟩, HR1.out, ?_, (fun _ => HS.out), (fun q h => by injection h with h; subst h; show w.heap.size ≤ b; have := HWc.out.size; omega)⟩
            · rw [HS.out.len, H0.out]; rfl
            · rw [HS.out.len]; exact h8
          · have hSw : Sw (EL ls L) (FL ls L) L ls.length (wtF L.all r c) r c false (fun a _ => a < 0) := ⟨hFa.out, Nat.le_refl _, (fun h => by cases h), fun _ i j h => absurd h (Nat.not_lt_zero _)⟩
            have HSw := Lib.hid hSw
            have hG := Hlt.out rfl
            have hub := wtF_le L.all r c
            rw [hFa.out.len] at hub
            clear hSw hown hcl hFa Hlt
            generalize wtF L.all r c = W0 at *
            go_wp2_with fail
            go_loopw [72, 13, 11] (fun i m c wr => ∃ (k : Nat) (r : List Nat) (c' : Nat) (m' : Bool), k ≤ ls.length ∧ i = .int .i64 k ∧ m = .bool m' ∧ c = .int .u32 (c' : Nat) ∧ OwnU wr b 29 (.slice (some ⟨b, 0, none⟩) ls.length ls.length) r ∧ Hid (Sw (EL ls L) (FL ls L) L ls.length W0 r c' m' (fun a _ => a < k)) ∧ Below b wc wr) (fun i _ _ _ => ls.length - (intOf i).toNat)
            case atStart => exact ⟨0, r, c, false, Nat.zero_le _, rfl, rfl, rfl, HO0.out, HSw, HW0.out⟩
            case round =>
              clear HO0 HSw HW0
              obtain ⟨i, r, c, m, hi, rfl, rfl, rfl, hown, hS, hW⟩ := hrel
              have HO := Lib.hid hown
              have HW := Lib.hid hW
              by_cases hlti : i < ls.length
              · obtain ⟨b2, off2, A2, cap2, rfl, hb2, c2, hR2⟩ := RdN.at_ HR.out (show i < g.length by rw [hgl.out]; exact hlti)
                have c2' := (hW.cell (p := ⟨b2, off2 + i, none⟩) (by show b2 < b; omega)).trans c2
                have hl := Lib.hid (List.getElem?_eq_getElem (show i < g.length by rw [hgl.out]; exact hlti))
                have Hins := Lib.hid (HG.out.ins _ (List.getElem_mem (show i < g.length by rw [hgl.out]; exact hlti)))
                have hsh := HG.out.short _ (List.getElem_mem (show i < g.length by rw [hgl.out]; exact hlti))
                have hc8 := hS.out.fa.c8
                have tc := test_u32 c i (by omega)
                clear c2
                generalize g[i]'_ = row at *
                have Hro := Lib.hid (fun w' (h : Below b wc w') => Rd.below hR2 (by rw [hb]; exact h))
                have qi : ((i : Nat) : Int) < ((ls.length : Nat) : Int) := by omega
                clear hR2 hown hW
                cases hci : c.testBit i
                · have Hs := Lib.hid (hS.out.mono (seen' := fun a _ => a < i + 1) (fun a _ h hc _ => by
                    by_cases e : a = i
                    · subst e; rw [hci] at hc; cases hc
                    · omega))
                  rw [hci] at tc
                  clear hci hS
                  go_wp2
                  go_roundw
                  case rel => exact ⟨i + 1, r, c, m, by omega, by go_num, rfl, rfl, HO.out, Hs, HW.out⟩
                  case measure => simp [intOf]; omega
                · have Hs := Lib.hid (hS.out.mono (seen' := fun a (d : Nat) => a < i ∨ (a = i ∧ (d : Int) ∈ row.take 0)) (fun a _ h _ _ => by
                    rcases h with h | ⟨_, h⟩
                    · exact h
                    · simp at h))
                  have Hci := Lib.hid hci
                  rw [hci] at tc
                  clear hci hS
                  go_wp2_with fail
                  go_loopw [84, 13, 11] (fun t m c wr => ∃ (k : Nat) (r : List Nat) (c' : Nat) (m' : Bool), k ≤ row.length ∧ t = .int .i64 k ∧ m = .bool m' ∧ c = .int .u32 (c' : Nat) ∧ OwnU wr b 29 (.slice (some ⟨b, 0, none⟩) ls.length ls.length) r ∧ Hid (c'.testBit i = true) ∧ Hid (Sw (EL ls L) (FL ls L) L ls.length W0 r c' m' (fun a (d : Nat) => a < i ∨ (a = i ∧ (d : Int) ∈ row.take k))) ∧ Below b wc wr) (fun t _ _ _ => row.length - (intOf t).toNat)
                  case atStart => exact ⟨0, r, c, m, Nat.zero_le _, rfl, rfl, rfl, HO.out, Hci, Hs, HW.out⟩
                  case round =>
                    clear HO HW Hs Hci tc c2' hc8
                    obtain ⟨t, r, c, m, ht, rfl, rfl, rfl, hown, hci, hS, hW⟩ := hrel
                    have HW := Lib.hid hW
                    have HO := Lib.hid hown
                    by_cases hltt : t < row.length
                    · obtain ⟨b6, off6, rfl, hb6, c6⟩ := RdI.at1 (Hro.out _ hW) hltt
                      obtain ⟨j, hj, hjl⟩ := Hins.out _ (List.getElem_mem hltt)
                      have He := Lib.hid ((HG.out.edge i j).1 ⟨row, hl.out, by rw [← hj]; exact List.getElem_mem hltt⟩)
                      have hrl := hS.out.fa.len
                      have Hrl := Lib.hid hrl
                      obtain ⟨g9, eg9, _, hg9, _, hfz, hcell⟩ := OwnU.at2 hown (by rw [hrl]; omega)
                      injection eg9 with eg9; injection eg9 with eg9
                      subst eg9
                      have dj := hcell j (by rw [hrl]; exact hjl)
                      have di := hcell i (by rw [hrl]; exact hlti)
                      rw [← getD_at (by rw [hrl]; exact hjl)] at dj
                      rw [← getD_at (by rw [hrl]; exact hlti)] at di
                      have hm8 := getD_lt256 Hok.out.m8
                      have hxj := hS.out.fa.lt j
                      have hxi := hS.out.fa.lt i
                      have hy := beh_lt (L := L) (i := i) hxi hm8
                      have hc8 := hS.out.fa.c8
                      have Hsame := Lib.hid (fun (h1 : c.testBit j = true) (h2 : comb L.all (r.getD j 0) (beh L i (r.getD i 0)) = r.getD j 0) => hS.out.same (i := i) (j := j) (seen' := fun a (d : Nat) => a < i ∨ (a = i ∧ (d : Int) ∈ row.take (t + 1))) (fun a d h => by
                        rcases h with h | ⟨h, h'⟩
                        · exact .inl (.inl h)
                        · rw [List.take_succ_eq_append_getElem hltt, List.mem_append, List.mem_singleton, hj] at h'
                          rcases h' with h' | h'
                          · exact .inl (.inr ⟨h, h'⟩)
                          · exact .inr ⟨h, by omega⟩) h1 h2)
                      have Hturn := Lib.hid (fun (h : comb L.all (r.getD j 0) (beh L i (r.getD i 0)) ≠ r.getD j 0 ∨ c.testBit j = false) => And.intro (show (c ||| 2 ^ j).testBit i = true by rw [set_bit, hci.out]; rfl) (hS.out.turn (fun a (d : Nat) => a < i ∨ (a = i ∧ (d : Int) ∈ row.take (t + 1))) hm8 hlti hjl (by omega) hci.out He.out h))
                      have r2 := or_u32 (r.getD j 0) (beh L i (r.getD i 0)) (by omega) (by omega)
                      have r3 := and_u32 (r.getD j 0) (beh L i (r.getD i 0)) (by omega) (by omega)
                      have Hcb := Lib.hid (show comb L.all (r.getD j 0) (beh L i (r.getD i 0)) = if L.all then r.getD j 0 &&& beh L i (r.getD i 0) else r.getD j 0 ||| beh L i (r.getD i 0) from rfl)
                      have Hbh := Lib.hid (fun w' (h : Below b wc w') => behind_calls MA MB L ca cb i (r.getD i 0) w' (HLc.out.below (by rw [hb]; exact h)) (by rw [Hml.out]; exact hlti) (by rw [Hel.out]; exact hlti) hxi Hok.out.m8 Hok.out.e8)
                      have t7 := test_u32 c j (by omega)
                      have j32 : j < 32 := by omega
                      have p1 := pow_u32 j j32
                      have pk : 2 ^ j < 2 ^ 8 := Nat.pow_lt_pow_right (by decide) (by omega)
                      have p2 := or_u32 c (2 ^ j) (by omega) (by omega)
                      rw [Int.natCast_pow, show ((2 : Nat) : Int) = 2 from rfl] at p1 p2
                      have qj : ((j : Nat) : Int) < ((ls.length : Nat) : Int) := by omega
                      rw [hj] at c6
                      have hlw := HLBc.out.below (show Below wc.heap.size wc wr by rw [hb]; exact hW)
                      generalize comb L.all (r.getD j 0) (beh L i (r.getD i 0)) = sv at *
                      generalize beh L i (r.getD i 0) = y at *
                      generalize r.getD j 0 = xj at *
                      generalize r.getD i 0 = xi at *
                      have Hkp : Hid (∀ w', Below wr.drew.heap.size wr.drew w' → (w'.cell? ⟨b, j, none⟩ = some (.int .u32 (xj : Nat)) ∧ w'.cell? ⟨b, i, none⟩ = some (.int .u32 (xi : Nat)) ∧ w'.cell? ⟨p, 0, none⟩ = some (.bool L.back) ∧ w'.cell? ⟨p, 1, none⟩ = some (.bool L.all) ∧ w'.cell? ⟨p, 2, none⟩ = some (.slice MA L.makes.length ca) ∧ w'.cell? ⟨p, 3, none⟩ = some (.slice MB L.ends.length cb) ∧ w'.cell? ⟨p, 4, none⟩ = some (.int .u32 (L.start : Nat)))) := Lib.hid fun w' h => by
                        have k := hlw.below (w' := w') ⟨h.os, h.tape, h.output, h.size, h.block⟩
                        exact ⟨(h.cell (p := ⟨b, j, none⟩) hg9).trans dj, (h.cell (p := ⟨b, i, none⟩) hg9).trans di, k.2.1, k.2.2.1, k.2.2.2.1, k.2.2.2.2.1, k.2.2.2.2.2⟩
                      rcases Bool.eq_false_or_eq_true L.all with hall' | hall'
                      · have hall := Lib.hid hall'
                        clear hall'
                        rw [hall.out, if_pos rfl] at Hcb
                        rw [← Hcb.out] at r3
                        clear hfz hcell hown hW hS hj hm8 hxi hxj hy pk dj di hlw hrl
                        go_upto_region 33 with fail
                        refine wp_region_held_drew (S := fun w' => w'.cell? ⟨b, j, none⟩ = some (.int .u32 (xj : Nat)) ∧ w'.cell? ⟨b, i, none⟩ = some (.int .u32 (xi : Nat)) ∧ w'.cell? ⟨p, 0, none⟩ = some (.bool L.back) ∧ w'.cell? ⟨p, 1, none⟩ = some (.bool L.all) ∧ w'.cell? ⟨p, 2, none⟩ = some (.slice MA L.makes.length ca) ∧ w'.cell? ⟨p, 3, none⟩ = some (.slice MB L.ends.length cb) ∧ w'.cell? ⟨p, 4, none⟩ = some (.int .u32 (L.start : Nat))) (by kernel_rfl) (Hkp.out _ (Below.refl _ _)) (fun hH0 => ?_)
                        have Hw0 := Lib.hid HW.out.drew
                        have HO := Lib.hid (show OwnU wr.drew b 29 (.slice (some ⟨b, 0, none⟩) ls.length ls.length) r from HO.out)
                        generalize wr.drew = w0 at *
                        refine wpAnyH_take (i := 0) (oi := { dst := some 88, op := Go.Op.move (Go.Operand.tmp 10), type := 23, pos := "fact.go:73", after := #[], guard := none }) rfl (by kernel_rfl) (by kernel_rfl) (by kernel_rfl) (fun _ _ _ h => h) (Or.inl ⟨by rfl, fun w hw => by (go_simp; try with_reducible rfl)⟩) (by assumption) ?_
                        try simp only [Act.put, List.setIfInBounds_toArray, List.set_cons_zero, List.set_cons_succ]
                        refine wpAnyH_take (i := 1) (oi := { dst := some 89, op := Go.Op.move (Go.Operand.tmp 17), type := 3, pos := "fact.go:73", after := #[], guard := none }) rfl (by kernel_rfl) (by kernel_rfl) (by kernel_rfl) (fun _ _ _ h => h) (Or.inl ⟨by rfl, fun w hw => by (go_simp; try with_reducible rfl)⟩) (by assumption) ?_
                        try simp only [Act.put, List.setIfInBounds_toArray, List.set_cons_zero, List.set_cons_succ]
                        refine wpAnyH_take (i := 2) (oi := { dst := some 90, op := Go.Op.indexAddr 23 (Go.Operand.tmp 88) (Go.Operand.tmp 89), type := 0, pos := "fact.go:73", after := #[{ on := 0, ground := Go.Ground.data }, { on := 1, ground := Go.Ground.data }], guard := none }) rfl (by kernel_rfl) (by kernel_rfl) (by kernel_rfl) (fun _ _ _ h => h) (Or.inl ⟨by rfl, fun w hw => by (go_simp; try with_reducible rfl)⟩) (by assumption) ?_
                        try simp only [Act.put, List.setIfInBounds_toArray, List.set_cons_zero, List.set_cons_succ]
                        refine wpAnyH_take (i := 3) (oi := { dst := some 91, op := Go.Op.load 29 (Go.Operand.tmp 90), type := 29, pos := "fact.go:73", after := #[{ on := 2, ground := Go.Ground.data }], guard := none }) rfl (by kernel_rfl) (by kernel_rfl) (by kernel_rfl) (fun _ _ _ h => h) (Or.inl ⟨by rfl, fun w hw => by (obtain ⟨p0, p1, p2, p3, p4, p5, p6⟩ := hw; go_simp; try with_reducible rfl)⟩) (by assumption) ?_
                        try simp only [Act.put, List.setIfInBounds_toArray, List.set_cons_zero, List.set_cons_succ]
                        refine wpAnyH_take (i := 4) (oi := { dst := some 92, op := Go.Op.load 58 (Go.Operand.tmp 3), type := 58, pos := "fact.go:73", after := #[], guard := none }) rfl (by kernel_rfl) (by kernel_rfl) (by kernel_rfl) (fun _ _ _ h => h) (Or.inl ⟨by rfl, fun w hw => by (obtain ⟨p0, p1, p2, p3, p4, p5, p6⟩ := hw; exact load_law _ _ _ rfl w p rfl _ _ _ _ _ p2 p3 p4 p5 p6)⟩) (by assumption) ?_
                        try simp only [Act.put, List.setIfInBounds_toArray, List.set_cons_zero, List.set_cons_succ]
                        refine wpAnyH_take (i := 5) (oi := { dst := some 93, op := Go.Op.move (Go.Operand.tmp 14), type := 3, pos := "fact.go:73", after := #[], guard := none }) rfl (by kernel_rfl) (by kernel_rfl) (by kernel_rfl) (fun _ _ _ h => h) (Or.inl ⟨by rfl, fun w hw => by (go_simp; try with_reducible rfl)⟩) (by assumption) ?_
                        try simp only [Act.put, List.setIfInBounds_toArray, List.set_cons_zero, List.set_cons_succ]
                        refine wpAnyH_take (i := 6) (oi := { dst := some 94, op := Go.Op.move (Go.Operand.tmp 10), type := 23, pos := "fact.go:73", after := #[], guard := none }) rfl (by kernel_rfl) (by kernel_rfl) (by kernel_rfl) (fun _ _ _ h => h) (Or.inl ⟨by rfl, fun w hw => by (go_simp; try with_reducible rfl)⟩) (by assumption) ?_
                        try simp only [Act.put, List.setIfInBounds_toArray, List.set_cons_zero, List.set_cons_succ]
                        refine wpAnyH_take (i := 7) (oi := { dst := some 95, op := Go.Op.move (Go.Operand.tmp 14), type := 3, pos := "fact.go:73", after := #[], guard := none }) rfl (by kernel_rfl) (by kernel_rfl) (by kernel_rfl) (fun _ _ _ h => h) (Or.inl ⟨by rfl, fun w hw => by (go_simp; try with_reducible rfl)⟩) (by assumption) ?_
                        try simp only [Act.put, List.setIfInBounds_toArray, List.set_cons_zero, List.set_cons_succ]
                        refine wpAnyH_take (i := 8) (oi := { dst := some 96, op := Go.Op.indexAddr 23 (Go.Operand.tmp 94) (Go.Operand.tmp 95), type := 0, pos := "fact.go:73", after := #[{ on := 6, ground := Go.Ground.data }, { on := 7, ground := Go.Ground.data }], guard := none }) rfl (by kernel_rfl) (by kernel_rfl) (by kernel_rfl) (fun _ _ _ h => h) (Or.inl ⟨by rfl, fun w hw => by (go_simp; try with_reducible rfl)⟩) (by assumption) ?_
                        try simp only [Act.put, List.setIfInBounds_toArray, List.set_cons_zero, List.set_cons_succ]
                        refine wpAnyH_take (i := 9) (oi := { dst := some 97, op := Go.Op.load 29 (Go.Operand.tmp 96), type := 29, pos := "fact.go:73", after := #[{ on := 8, ground := Go.Ground.data }], guard := none }) rfl (by kernel_rfl) (by kernel_rfl) (by kernel_rfl) (fun _ _ _ h => h) (Or.inl ⟨by rfl, fun w hw => by (obtain ⟨p0, p1, p2, p3, p4, p5, p6⟩ := hw; go_simp; try with_reducible rfl)⟩) (by assumption) ?_
                        try simp only [Act.put, List.setIfInBounds_toArray, List.set_cons_zero, List.set_cons_succ]
                        refine wpAnyH_ready (rs := [10]) (by kernel_rfl) (by simp) ?_
                        refine AllReadyH.cons (o := { dst := some 98, op := Go.Op.call { callee := Go.Callee.value (Go.Operand.func 58), args := #[Go.Operand.tmp 92, Go.Operand.tmp 93, Go.Operand.tmp 97], argTypes := #[58, 3, 29] }, type := 29, pos := "fact.go:73", after := #[{ on := 4, ground := Go.Ground.data }, { on := 5, ground := Go.Ground.data }, { on := 9, ground := Go.Ground.data }], guard := none }) rfl (fun K hK => ?_) AllReadyH.nil
                        go_simp
                        go_at_call 58
                        refine (Hbh.out _ Hw0.out).mono ?_
                        rintro e w9 ⟨rfl, hB9⟩
                        have HBw9 := Lib.hid hB9
                        have Hw9 := Lib.hid (Hw0.out.trans (hB9.mono (by have := Hw0.out.size; omega)))
                        refine hK.out _ _ (Hkp.out _ HBw9.out) (fun hH1 => ?_)
                        clear hK hB9
                        try simp only [Act.put, List.setIfInBounds_toArray, List.set_cons_zero, List.set_cons_succ]
                        refine wpAnyH_take (i := 11) (oi := { dst := some 99, op := Go.Op.binOp Go.BinOp.or 29 (Go.Operand.tmp 91) (Go.Operand.tmp 98) 29, type := 29, pos := "fact.go:73", after := #[{ on := 3, ground := Go.Ground.data }, { on := 10, ground := Go.Ground.data }], guard := none }) rfl (by kernel_rfl) (by kernel_rfl) (by kernel_rfl) (fun _ _ _ h => h) (Or.inl ⟨by rfl, fun w hw => by (go_simp; try with_reducible rfl)⟩) (by assumption) ?_
                        try simp only [Act.put, List.setIfInBounds_toArray, List.set_cons_zero, List.set_cons_succ]
                        refine wpAnyH_take (i := 12) (oi := { dst := some 18, op := Go.Op.assign (Go.Operand.tmp 99), type := 29, pos := "fact.go:73", after := #[{ on := 11, ground := Go.Ground.data }, { on := 10, ground := Go.Ground.chain }, { on := 0, ground := Go.Ground.phase }, { on := 1, ground := Go.Ground.phase }, { on := 2, ground := Go.Ground.phase }, { on := 3, ground := Go.Ground.phase }, { on := 4, ground := Go.Ground.phase }, { on := 5, ground := Go.Ground.phase }, { on := 6, ground := Go.Ground.phase }, { on := 7, ground := Go.Ground.phase }, { on := 8, ground := Go.Ground.phase }, { on := 9, ground := Go.Ground.phase }, { on := 10, ground := Go.Ground.phase }, { on := 11, ground := Go.Ground.phase }], guard := none }) rfl (by kernel_rfl) (by kernel_rfl) (by kernel_rfl) (fun _ _ _ h => h) (Or.inl ⟨by rfl, fun w hw => by (go_simp; try with_reducible rfl)⟩) (by assumption) ?_
                        try simp only [Act.put, List.setIfInBounds_toArray, List.set_cons_zero, List.set_cons_succ]
                        refine wpAnyH_done (by kernel_rfl) ?_ _
                        clear hH0 hH1
                        obtain ⟨_, _, _, c1, _⟩ := Hkp.out _ HBw9.out
                        rw [hall.out] at c1
                        go_upto_region 35 with fail
                        clear c1
                        refine wp_region_held_drew (S := fun w' => w'.cell? ⟨b, j, none⟩ = some (.int .u32 (xj : Nat)) ∧ w'.cell? ⟨b, i, none⟩ = some (.int .u32 (xi : Nat)) ∧ w'.cell? ⟨p, 0, none⟩ = some (.bool L.back) ∧ w'.cell? ⟨p, 1, none⟩ = some (.bool L.all) ∧ w'.cell? ⟨p, 2, none⟩ = some (.slice MA L.makes.length ca) ∧ w'.cell? ⟨p, 3, none⟩ = some (.slice MB L.ends.length cb) ∧ w'.cell? ⟨p, 4, none⟩ = some (.int .u32 (L.start : Nat))) (by kernel_rfl) (Hkp.out _ HBw9.out.drew) (fun hH0 => ?_)
                        have Hw1 := Lib.hid Hw9.out.drew
                        have HB1 := Lib.hid HBw9.out.drew
                        generalize w9.drew = w1 at *
                        refine wpAnyH_take (i := 0) (oi := { dst := some 102, op := Go.Op.move (Go.Operand.tmp 10), type := 23, pos := "fact.go:75", after := #[], guard := none }) rfl (by kernel_rfl) (by kernel_rfl) (by kernel_rfl) (fun _ _ _ h => h) (Or.inl ⟨by rfl, fun w hw => by (go_simp; try with_reducible rfl)⟩) (by assumption) ?_
                        try simp only [Act.put, List.setIfInBounds_toArray, List.set_cons_zero, List.set_cons_succ]
                        refine wpAnyH_take (i := 1) (oi := { dst := some 103, op := Go.Op.move (Go.Operand.tmp 17), type := 3, pos := "fact.go:75", after := #[], guard := none }) rfl (by kernel_rfl) (by kernel_rfl) (by kernel_rfl) (fun _ _ _ h => h) (Or.inl ⟨by rfl, fun w hw => by (go_simp; try with_reducible rfl)⟩) (by assumption) ?_
                        try simp only [Act.put, List.setIfInBounds_toArray, List.set_cons_zero, List.set_cons_succ]
                        refine wpAnyH_take (i := 2) (oi := { dst := some 104, op := Go.Op.indexAddr 23 (Go.Operand.tmp 102) (Go.Operand.tmp 103), type := 0, pos := "fact.go:75", after := #[{ on := 0, ground := Go.Ground.data }, { on := 1, ground := Go.Ground.data }], guard := none }) rfl (by kernel_rfl) (by kernel_rfl) (by kernel_rfl) (fun _ _ _ h => h) (Or.inl ⟨by rfl, fun w hw => by (go_simp; try with_reducible rfl)⟩) (by assumption) ?_
                        try simp only [Act.put, List.setIfInBounds_toArray, List.set_cons_zero, List.set_cons_succ]
                        refine wpAnyH_take (i := 3) (oi := { dst := some 105, op := Go.Op.load 29 (Go.Operand.tmp 104), type := 29, pos := "fact.go:75", after := #[{ on := 2, ground := Go.Ground.data }], guard := none }) rfl (by kernel_rfl) (by kernel_rfl) (by kernel_rfl) (fun _ _ _ h => h) (Or.inl ⟨by rfl, fun w hw => by (obtain ⟨p0, p1, p2, p3, p4, p5, p6⟩ := hw; go_simp; try with_reducible rfl)⟩) (by assumption) ?_
                        try simp only [Act.put, List.setIfInBounds_toArray, List.set_cons_zero, List.set_cons_succ]
                        refine wpAnyH_take (i := 4) (oi := { dst := some 106, op := Go.Op.load 58 (Go.Operand.tmp 3), type := 58, pos := "fact.go:75", after := #[], guard := none }) rfl (by kernel_rfl) (by kernel_rfl) (by kernel_rfl) (fun _ _ _ h => h) (Or.inl ⟨by rfl, fun w hw => by (obtain ⟨p0, p1, p2, p3, p4, p5, p6⟩ := hw; exact load_law _ _ _ rfl w p rfl _ _ _ _ _ p2 p3 p4 p5 p6)⟩) (by assumption) ?_
                        try simp only [Act.put, List.setIfInBounds_toArray, List.set_cons_zero, List.set_cons_succ]
                        refine wpAnyH_take (i := 5) (oi := { dst := some 107, op := Go.Op.move (Go.Operand.tmp 14), type := 3, pos := "fact.go:75", after := #[], guard := none }) rfl (by kernel_rfl) (by kernel_rfl) (by kernel_rfl) (fun _ _ _ h => h) (Or.inl ⟨by rfl, fun w hw => by (go_simp; try with_reducible rfl)⟩) (by assumption) ?_
                        try simp only [Act.put, List.setIfInBounds_toArray, List.set_cons_zero, List.set_cons_succ]
                        refine wpAnyH_take (i := 6) (oi := { dst := some 108, op := Go.Op.move (Go.Operand.tmp 10), type := 23, pos := "fact.go:75", after := #[], guard := none }) rfl (by kernel_rfl) (by kernel_rfl) (by kernel_rfl) (fun _ _ _ h => h) (Or.inl ⟨by rfl, fun w hw => by (go_simp; try with_reducible rfl)⟩) (by assumption) ?_
                        try simp only [Act.put, List.setIfInBounds_toArray, List.set_cons_zero, List.set_cons_succ]
                        refine wpAnyH_take (i := 7) (oi := { dst := some 109, op := Go.Op.move (Go.Operand.tmp 14), type := 3, pos := "fact.go:75", after := #[], guard := none }) rfl (by kernel_rfl) (by kernel_rfl) (by kernel_rfl) (fun _ _ _ h => h) (Or.inl ⟨by rfl, fun w hw => by (go_simp; try with_reducible rfl)⟩) (by assumption) ?_
                        try simp only [Act.put, List.setIfInBounds_toArray, List.set_cons_zero, List.set_cons_succ]
                        refine wpAnyH_take (i := 8) (oi := { dst := some 110, op := Go.Op.indexAddr 23 (Go.Operand.tmp 108) (Go.Operand.tmp 109), type := 0, pos := "fact.go:75", after := #[{ on := 6, ground := Go.Ground.data }, { on := 7, ground := Go.Ground.data }], guard := none }) rfl (by kernel_rfl) (by kernel_rfl) (by kernel_rfl) (fun _ _ _ h => h) (Or.inl ⟨by rfl, fun w hw => by (go_simp; try with_reducible rfl)⟩) (by assumption) ?_
                        try simp only [Act.put, List.setIfInBounds_toArray, List.set_cons_zero, List.set_cons_succ]
                        refine wpAnyH_take (i := 9) (oi := { dst := some 111, op := Go.Op.load 29 (Go.Operand.tmp 110), type := 29, pos := "fact.go:75", after := #[{ on := 8, ground := Go.Ground.data }], guard := none }) rfl (by kernel_rfl) (by kernel_rfl) (by kernel_rfl) (fun _ _ _ h => h) (Or.inl ⟨by rfl, fun w hw => by (obtain ⟨p0, p1, p2, p3, p4, p5, p6⟩ := hw; go_simp; try with_reducible rfl)⟩) (by assumption) ?_
                        try simp only [Act.put, List.setIfInBounds_toArray, List.set_cons_zero, List.set_cons_succ]
                        refine wpAnyH_ready (rs := [10]) (by kernel_rfl) (by simp) ?_
                        refine AllReadyH.cons (o := { dst := some 112, op := Go.Op.call { callee := Go.Callee.value (Go.Operand.func 58), args := #[Go.Operand.tmp 106, Go.Operand.tmp 107, Go.Operand.tmp 111], argTypes := #[58, 3, 29] }, type := 29, pos := "fact.go:75", after := #[{ on := 4, ground := Go.Ground.data }, { on := 5, ground := Go.Ground.data }, { on := 9, ground := Go.Ground.data }], guard := none }) rfl (fun K hK => ?_) AllReadyH.nil
                        go_simp
                        go_at_call 58
                        refine (Hbh.out _ Hw1.out).mono ?_
                        rintro e w8 ⟨rfl, hB9⟩
                        have HBw8 := Lib.hid (HB1.out.trans (hB9.mono HB1.out.size))
                        have Hw8 := Lib.hid (Hw1.out.trans (hB9.mono (by have := Hw1.out.size; omega)))
                        refine hK.out _ _ (Hkp.out _ HBw8.out) (fun hH1 => ?_)
                        clear hK hB9
                        try simp only [Act.put, List.setIfInBounds_toArray, List.set_cons_zero, List.set_cons_succ]
                        refine wpAnyH_take (i := 11) (oi := { dst := some 113, op := Go.Op.binOp Go.BinOp.and 29 (Go.Operand.tmp 105) (Go.Operand.tmp 112) 29, type := 29, pos := "fact.go:75", after := #[{ on := 3, ground := Go.Ground.data }, { on := 10, ground := Go.Ground.data }], guard := none }) rfl (by kernel_rfl) (by kernel_rfl) (by kernel_rfl) (fun _ _ _ h => h) (Or.inl ⟨by rfl, fun w hw => by (go_simp; try with_reducible rfl)⟩) (by assumption) ?_
                        try simp only [Act.put, List.setIfInBounds_toArray, List.set_cons_zero, List.set_cons_succ]
                        refine wpAnyH_take (i := 12) (oi := { dst := some 18, op := Go.Op.assign (Go.Operand.tmp 113), type := 29, pos := "fact.go:75", after := #[{ on := 11, ground := Go.Ground.data }, { on := 10, ground := Go.Ground.chain }, { on := 0, ground := Go.Ground.phase }, { on := 1, ground := Go.Ground.phase }, { on := 2, ground := Go.Ground.phase }, { on := 3, ground := Go.Ground.phase }, { on := 4, ground := Go.Ground.phase }, { on := 5, ground := Go.Ground.phase }, { on := 6, ground := Go.Ground.phase }, { on := 7, ground := Go.Ground.phase }, { on := 8, ground := Go.Ground.phase }, { on := 9, ground := Go.Ground.phase }, { on := 10, ground := Go.Ground.phase }, { on := 11, ground := Go.Ground.phase }], guard := none }) rfl (by kernel_rfl) (by kernel_rfl) (by kernel_rfl) (fun _ _ _ h => h) (Or.inl ⟨by rfl, fun w hw => by (go_simp; try with_reducible rfl)⟩) (by assumption) ?_
                        try simp only [Act.put, List.setIfInBounds_toArray, List.set_cons_zero, List.set_cons_succ]
                        refine wpAnyH_done (by kernel_rfl) ?_ _
                        clear hH0 hH1
                        have HOz := Lib.hid (Own.below HO.out HBw8.out)
                        have d9 := (Hkp.out _ HBw8.out).1
                        have f9 : w8.frozen? ⟨b, j, none⟩ = false := by
                          obtain ⟨g9, eg9, _, _, _, hfz9, _⟩ := OwnU.at2 HOz.out (by rw [Hrl.out]; omega)
                          injection eg9 with eg9; injection eg9 with eg9
                          subst eg9
                          exact hfz9 j
                        have HOs := Lib.hid (OwnU.set_ HOz.out (k := j) (by rw [Hrl.out]; exact hjl) sv)
                        have HWs := Lib.hid (Hw8.out.setCell (p := ⟨b, j, none⟩) (Nat.le_refl _) (.int .u32 (sv : Nat)))
                        by_cases hsx : sv = xj
                        · have q7 : ((sv : Int) != (xj : Int)) = false := by rw [bne_eq_false_iff_eq, hsx]
                          cases hcj : c.testBit j
                          · rw [hcj] at t7
                            have Hf := Lib.hid (Hturn.out (Or.inr hcj))
                            clear hsx hcj
                            go_wp2
                            go_roundw
                            case rel => exact ⟨t + 1, _, _, true, by omega, by go_num, rfl, rfl, HOs.out, Lib.hid Hf.out.1, Lib.hid Hf.out.2, HWs.out⟩
                            case measure => simp [intOf]; omega
                          · rw [hcj] at t7
                            have Hf := Lib.hid (Hsame.out hcj hsx)
                            clear hsx hcj
                            go_wp2
                            go_roundw
                            case rel => exact ⟨t + 1, r, c, m, by omega, by go_num, rfl, rfl, HOz.out, hci, Hf, Hw8.out⟩
                            case measure => simp [intOf]; omega
                        · have q7 : ((sv : Int) != (xj : Int)) = true := by rw [bne_iff_ne]; omega
                          have Hf := Lib.hid (Hturn.out (Or.inl hsx))
                          clear hsx
                          go_wp2
                          go_roundw
                          case rel => exact ⟨t + 1, _, _, true, by omega, by go_num, rfl, rfl, HOs.out, Lib.hid Hf.out.1, Lib.hid Hf.out.2, HWs.out⟩
                          case measure => simp [intOf]; omega
                      · have hall := Lib.hid hall'
                        clear hall'
                        rw [hall.out, if_neg (by decide)] at Hcb
                        rw [← Hcb.out] at r2
                        clear hfz hcell hown hW hS hj hm8 hxi hxj hy pk dj di hlw hrl
                        go_upto_region 33 with fail
                        refine wp_region_held_drew (S := fun w' => w'.cell? ⟨b, j, none⟩ = some (.int .u32 (xj : Nat)) ∧ w'.cell? ⟨b, i, none⟩ = some (.int .u32 (xi : Nat)) ∧ w'.cell? ⟨p, 0, none⟩ = some (.bool L.back) ∧ w'.cell? ⟨p, 1, none⟩ = some (.bool L.all) ∧ w'.cell? ⟨p, 2, none⟩ = some (.slice MA L.makes.length ca) ∧ w'.cell? ⟨p, 3, none⟩ = some (.slice MB L.ends.length cb) ∧ w'.cell? ⟨p, 4, none⟩ = some (.int .u32 (L.start : Nat))) (by kernel_rfl) (Hkp.out _ (Below.refl _ _)) (fun hH0 => ?_)
                        have Hw0 := Lib.hid HW.out.drew
                        have HO := Lib.hid (show OwnU wr.drew b 29 (.slice (some ⟨b, 0, none⟩) ls.length ls.length) r from HO.out)
                        generalize wr.drew = w0 at *
                        refine wpAnyH_take (i := 0) (oi := { dst := some 88, op := Go.Op.move (Go.Operand.tmp 10), type := 23, pos := "fact.go:73", after := #[], guard := none }) rfl (by kernel_rfl) (by kernel_rfl) (by kernel_rfl) (fun _ _ _ h => h) (Or.inl ⟨by rfl, fun w hw => by (go_simp; try with_reducible rfl)⟩) (by assumption) ?_
                        try simp only [Act.put, List.setIfInBounds_toArray, List.set_cons_zero, List.set_cons_succ]
                        refine wpAnyH_take (i := 1) (oi := { dst := some 89, op := Go.Op.move (Go.Operand.tmp 17), type := 3, pos := "fact.go:73", after := #[], guard := none }) rfl (by kernel_rfl) (by kernel_rfl) (by kernel_rfl) (fun _ _ _ h => h) (Or.inl ⟨by rfl, fun w hw => by (go_simp; try with_reducible rfl)⟩) (by assumption) ?_
                        try simp only [Act.put, List.setIfInBounds_toArray, List.set_cons_zero, List.set_cons_succ]
                        refine wpAnyH_take (i := 2) (oi := { dst := some 90, op := Go.Op.indexAddr 23 (Go.Operand.tmp 88) (Go.Operand.tmp 89), type := 0, pos := "fact.go:73", after := #[{ on := 0, ground := Go.Ground.data }, { on := 1, ground := Go.Ground.data }], guard := none }) rfl (by kernel_rfl) (by kernel_rfl) (by kernel_rfl) (fun _ _ _ h => h) (Or.inl ⟨by rfl, fun w hw => by (go_simp; try with_reducible rfl)⟩) (by assumption) ?_
                        try simp only [Act.put, List.setIfInBounds_toArray, List.set_cons_zero, List.set_cons_succ]
                        refine wpAnyH_take (i := 3) (oi := { dst := some 91, op := Go.Op.load 29 (Go.Operand.tmp 90), type := 29, pos := "fact.go:73", after := #[{ on := 2, ground := Go.Ground.data }], guard := none }) rfl (by kernel_rfl) (by kernel_rfl) (by kernel_rfl) (fun _ _ _ h => h) (Or.inl ⟨by rfl, fun w hw => by (obtain ⟨p0, p1, p2, p3, p4, p5, p6⟩ := hw; go_simp; try with_reducible rfl)⟩) (by assumption) ?_
                        try simp only [Act.put, List.setIfInBounds_toArray, List.set_cons_zero, List.set_cons_succ]
                        refine wpAnyH_take (i := 4) (oi := { dst := some 92, op := Go.Op.load 58 (Go.Operand.tmp 3), type := 58, pos := "fact.go:73", after := #[], guard := none }) rfl (by kernel_rfl) (by kernel_rfl) (by kernel_rfl) (fun _ _ _ h => h) (Or.inl ⟨by rfl, fun w hw => by (obtain ⟨p0, p1, p2, p3, p4, p5, p6⟩ := hw; exact load_law _ _ _ rfl w p rfl _ _ _ _ _ p2 p3 p4 p5 p6)⟩) (by assumption) ?_
                        try simp only [Act.put, List.setIfInBounds_toArray, List.set_cons_zero, List.set_cons_succ]
                        refine wpAnyH_take (i := 5) (oi := { dst := some 93, op := Go.Op.move (Go.Operand.tmp 14), type := 3, pos := "fact.go:73", after := #[], guard := none }) rfl (by kernel_rfl) (by kernel_rfl) (by kernel_rfl) (fun _ _ _ h => h) (Or.inl ⟨by rfl, fun w hw => by (go_simp; try with_reducible rfl)⟩) (by assumption) ?_
                        try simp only [Act.put, List.setIfInBounds_toArray, List.set_cons_zero, List.set_cons_succ]
                        refine wpAnyH_take (i := 6) (oi := { dst := some 94, op := Go.Op.move (Go.Operand.tmp 10), type := 23, pos := "fact.go:73", after := #[], guard := none }) rfl (by kernel_rfl) (by kernel_rfl) (by kernel_rfl) (fun _ _ _ h => h) (Or.inl ⟨by rfl, fun w hw => by (go_simp; try with_reducible rfl)⟩) (by assumption) ?_
                        try simp only [Act.put, List.setIfInBounds_toArray, List.set_cons_zero, List.set_cons_succ]
                        refine wpAnyH_take (i := 7) (oi := { dst := some 95, op := Go.Op.move (Go.Operand.tmp 14), type := 3, pos := "fact.go:73", after := #[], guard := none }) rfl (by kernel_rfl) (by kernel_rfl) (by kernel_rfl) (fun _ _ _ h => h) (Or.inl ⟨by rfl, fun w hw => by (go_simp; try with_reducible rfl)⟩) (by assumption) ?_
                        try simp only [Act.put, List.setIfInBounds_toArray, List.set_cons_zero, List.set_cons_succ]
                        refine wpAnyH_take (i := 8) (oi := { dst := some 96, op := Go.Op.indexAddr 23 (Go.Operand.tmp 94) (Go.Operand.tmp 95), type := 0, pos := "fact.go:73", after := #[{ on := 6, ground := Go.Ground.data }, { on := 7, ground := Go.Ground.data }], guard := none }) rfl (by kernel_rfl) (by kernel_rfl) (by kernel_rfl) (fun _ _ _ h => h) (Or.inl ⟨by rfl, fun w hw => by (go_simp; try with_reducible rfl)⟩) (by assumption) ?_
                        try simp only [Act.put, List.setIfInBounds_toArray, List.set_cons_zero, List.set_cons_succ]
                        refine wpAnyH_take (i := 9) (oi := { dst := some 97, op := Go.Op.load 29 (Go.Operand.tmp 96), type := 29, pos := "fact.go:73", after := #[{ on := 8, ground := Go.Ground.data }], guard := none }) rfl (by kernel_rfl) (by kernel_rfl) (by kernel_rfl) (fun _ _ _ h => h) (Or.inl ⟨by rfl, fun w hw => by (obtain ⟨p0, p1, p2, p3, p4, p5, p6⟩ := hw; go_simp; try with_reducible rfl)⟩) (by assumption) ?_
                        try simp only [Act.put, List.setIfInBounds_toArray, List.set_cons_zero, List.set_cons_succ]
                        refine wpAnyH_ready (rs := [10]) (by kernel_rfl) (by simp) ?_
                        refine AllReadyH.cons (o := { dst := some 98, op := Go.Op.call { callee := Go.Callee.value (Go.Operand.func 58), args := #[Go.Operand.tmp 92, Go.Operand.tmp 93, Go.Operand.tmp 97], argTypes := #[58, 3, 29] }, type := 29, pos := "fact.go:73", after := #[{ on := 4, ground := Go.Ground.data }, { on := 5, ground := Go.Ground.data }, { on := 9, ground := Go.Ground.data }], guard := none }) rfl (fun K hK => ?_) AllReadyH.nil
                        go_simp
                        go_at_call 58
                        refine (Hbh.out _ Hw0.out).mono ?_
                        rintro e w9 ⟨rfl, hB9⟩
                        have HBw9 := Lib.hid hB9
                        have Hw9 := Lib.hid (Hw0.out.trans (hB9.mono (by have := Hw0.out.size; omega)))
                        refine hK.out _ _ (Hkp.out _ HBw9.out) (fun hH1 => ?_)
                        clear hK hB9
                        try simp only [Act.put, List.setIfInBounds_toArray, List.set_cons_zero, List.set_cons_succ]
                        refine wpAnyH_take (i := 11) (oi := { dst := some 99, op := Go.Op.binOp Go.BinOp.or 29 (Go.Operand.tmp 91) (Go.Operand.tmp 98) 29, type := 29, pos := "fact.go:73", after := #[{ on := 3, ground := Go.Ground.data }, { on := 10, ground := Go.Ground.data }], guard := none }) rfl (by kernel_rfl) (by kernel_rfl) (by kernel_rfl) (fun _ _ _ h => h) (Or.inl ⟨by rfl, fun w hw => by (go_simp; try with_reducible rfl)⟩) (by assumption) ?_
                        try simp only [Act.put, List.setIfInBounds_toArray, List.set_cons_zero, List.set_cons_succ]
                        refine wpAnyH_take (i := 12) (oi := { dst := some 18, op := Go.Op.assign (Go.Operand.tmp 99), type := 29, pos := "fact.go:73", after := #[{ on := 11, ground := Go.Ground.data }, { on := 10, ground := Go.Ground.chain }, { on := 0, ground := Go.Ground.phase }, { on := 1, ground := Go.Ground.phase }, { on := 2, ground := Go.Ground.phase }, { on := 3, ground := Go.Ground.phase }, { on := 4, ground := Go.Ground.phase }, { on := 5, ground := Go.Ground.phase }, { on := 6, ground := Go.Ground.phase }, { on := 7, ground := Go.Ground.phase }, { on := 8, ground := Go.Ground.phase }, { on := 9, ground := Go.Ground.phase }, { on := 10, ground := Go.Ground.phase }, { on := 11, ground := Go.Ground.phase }], guard := none }) rfl (by kernel_rfl) (by kernel_rfl) (by kernel_rfl) (fun _ _ _ h => h) (Or.inl ⟨by rfl, fun w hw => by (go_simp; try with_reducible rfl)⟩) (by assumption) ?_
                        try simp only [Act.put, List.setIfInBounds_toArray, List.set_cons_zero, List.set_cons_succ]
                        refine wpAnyH_done (by kernel_rfl) ?_ _
                        clear hH0 hH1
                        obtain ⟨_, _, _, c1, _⟩ := Hkp.out _ HBw9.out
                        rw [hall.out] at c1
                        have HOz := Lib.hid (Own.below HO.out HBw9.out)
                        have d9 := (Hkp.out _ HBw9.out).1
                        have f9 : w9.frozen? ⟨b, j, none⟩ = false := by
                          obtain ⟨g9, eg9, _, _, _, hfz9, _⟩ := OwnU.at2 HOz.out (by rw [Hrl.out]; omega)
                          injection eg9 with eg9; injection eg9 with eg9
                          subst eg9
                          exact hfz9 j
                        have HOs := Lib.hid (OwnU.set_ HOz.out (k := j) (by rw [Hrl.out]; exact hjl) sv)
                        have HWs := Lib.hid (Hw9.out.setCell (p := ⟨b, j, none⟩) (Nat.le_refl _) (.int .u32 (sv : Nat)))
                        by_cases hsx : sv = xj
                        · have q7 : ((sv : Int) != (xj : Int)) = false := by rw [bne_eq_false_iff_eq, hsx]
                          cases hcj : c.testBit j
                          · rw [hcj] at t7
                            have Hf := Lib.hid (Hturn.out (Or.inr hcj))
                            clear hsx hcj
                            go_wp2
                            go_roundw
                            case rel => exact ⟨t + 1, _, _, true, by omega, by go_num, rfl, rfl, HOs.out, Lib.hid Hf.out.1, Lib.hid Hf.out.2, HWs.out⟩
                            case measure => simp [intOf]; omega
                          · rw [hcj] at t7
                            have Hf := Lib.hid (Hsame.out hcj hsx)
                            clear hsx hcj
                            go_wp2
                            go_roundw
                            case rel => exact ⟨t + 1, r, c, m, by omega, by go_num, rfl, rfl, HOz.out, hci, Hf, Hw9.out⟩
                            case measure => simp [intOf]; omega
                        · have q7 : ((sv : Int) != (xj : Int)) = true := by rw [bne_iff_ne]; omega
                          have Hf := Lib.hid (Hturn.out (Or.inl hsx))
                          clear hsx
                          go_wp2
                          go_roundw
                          case rel => exact ⟨t + 1, _, _, true, by omega, by go_num, rfl, rfl, HOs.out, Lib.hid Hf.out.1, Lib.hid Hf.out.2, HWs.out⟩
                          case measure => simp [intOf]; omega
                    · have : t = row.length := by omega
                      subst this
                      have Hs := Lib.hid (hS.out.mono (seen' := fun a _ => a < i + 1) (fun a d h _ e => by
                        by_cases ea : a = i
                        · subst ea
                          refine .inr ⟨rfl, ?_⟩
                          rw [List.take_length]
                          exact (EdgeG.mem hl.out).1 ((HG.out.edge a d).2 e)
                        · exact .inl (by omega)))
                      clear hS hown hW
                      go_wp2
                      go_roundw
                      case rel => exact ⟨i + 1, r, c, m, by omega, by go_num, rfl, rfl, HO.out, Hs, HW.out⟩
                      case measure => simp [intOf]; omega
              · have : i = ls.length := by omega
                subst this
                have Hfa := Lib.hid hS.out.fa
                have hge := hS.out.ge
                have Hnew := Lib.hid hS.out.new
                have hle2 := wtF_le L.all r c
                rw [Hfa.out.len] at hle2
                have Hold : Hid (m = false → ∀ i j, c.testBit i = true → EL ls L i j → Cl L r c i j) := Lib.hid fun hm i j hc e => hS.out.old hm i j (by
                  obtain ⟨l, h1', _⟩ := (HG.out.edge i j).2 e
                  have := (List.getElem?_eq_some_iff.1 h1').1
                  rw [hgl.out] at this; exact this) hc e
                clear hS hown hW
                go_wp2
                go_roundg (80 - W0)
                case measure => omega
                case rel => exact ⟨r, c, m, rfl, rfl, HO.out, Hfa, Hold, HW.out, fun hm => by have := Hnew.out hm; omega⟩
end Go.Proofs.Ytljmignfbagomaa
