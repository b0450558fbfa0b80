/- WayOrder walked. -/
import Derived.Test.YtljmignfbagomaaWalkF
import Derived.BigQuiet
import Derived.Deep.QuietTactic
import Derived.BigGuardPart
namespace Go.Proofs.Ytljmignfbagomaa
open Go.RowKit Go.Shelf

set_option maxRecDepth 100000 in
set_option maxHeartbeats 8000000 in
theorem wayOrder_calls (A : Option Addr) (ls : List (List Int)) (cap : Nat) (w : World) (hA : RdN w A ls) (hm : ls.length ≤ maxLen) :
    Calls Try.prog 9 #[.slice A ls.length cap] w fun e w' => e = .returned (.bool true) ∧ Below w.heap.size w w' := by
  have Ho := Lib.hid (orderW_calls A ls cap w hA hm)
  have Hb := Lib.hid (fun w' (h : Below w.heap.size w w') => back_calls A ls cap w' (hA.below h) hm)
  have Hr := Lib.hid (fun w' (h : Below w.heap.size w w') => reachW_calls A ls cap w' (hA.below h) hm)
  have Hmy := Lib.hid (fun w' (h : Below w.heap.size w w') => may_calls A ls cap w' (hA.below h) hm)
  have HA := Lib.hid hA
  by_cases h0 : wayErr ls = 0
  case neg =>
    have q : (wayErr ls != 0) = true := by rw [bne_iff_ne]; exact h0
    have q0 : (wayErr ls == 0) = false := by rw [beq_eq_false_iff_ne]; exact h0
    rw [q0] at Hmy
    have H0 := Lib.hid h0
    clear hA h0 q0
    go_enter Try.func9, Try.ntmps9
    go_wp2_with fail
    refine Ho.out.mono ?_
    rintro e w1 (⟨-, ⟨v, rfl⟩, hW⟩ | ⟨h9, -⟩)
    case inr => exact absurd h9 H0.out
    have HW1 := Lib.hid hW
    have Hb1 := Lib.hid (Hb.out _ hW)
    clear hW
    go_wp2_with fail
    refine Hb1.out.mono ?_
    rintro e w2 (⟨-, ⟨v2, rfl⟩, hW⟩ | ⟨h9, -⟩)
    case inr => exact absurd h9 H0.out
    have HW2 := Lib.hid (HW1.out.trans (hW.mono HW1.out.size))
    have Hr2 := Lib.hid (Hr.out _ HW2.out)
    have Hm2 := Lib.hid (fun w' (h : Below w2.heap.size w2 w') => Hmy.out w' (HW2.out.trans (h.mono HW2.out.size)))
    clear hW
    go_wp2_with fail
    refine Hr2.out.mono ?_
    rintro e w3 ⟨⟨v3, rfl, -⟩, hW⟩
    have Hm3 := Lib.hid (Hm2.out _ hW)
    have HW3 := Lib.hid (HW2.out.trans (hW.mono HW2.out.size))
    clear hW
    generalize wayErr ls = x at *
    go_wp2_with fail
    refine Hm3.out.mono ?_
    rintro e w4 ⟨rfl, h4⟩
    rw [h4]
    clear h4
    go_wp2
    go_ret
    exact ⟨by first | rfl | exact ret_bool (by simp), HW3.out⟩
  obtain ⟨h1, h8, hv⟩ := wayErr_ok h0
  have HV := Lib.hid hv
  have q0 : (wayErr ls == 0) = true := by rw [beq_iff_eq]; exact h0
  rw [q0] at Hmy
  rw [h0] at Hr
  have H0 := Lib.hid h0
  clear hA h0 q0 hv
  go_enter Try.func9, Try.ntmps9
  go_wp2_with fail
  refine Ho.out.mono ?_
  rintro e w1 (⟨h9, -⟩ | ⟨-, v, rfl, hO, hL, hW⟩)
  case inl => exact absurd H0.out h9
  obtain ⟨r, hr⟩ : ∃ r, r = (walkL ls).reverse := ⟨_, rfl⟩
  have er : (natI (walkL ls)).reverse = natI r := by rw [hr]; simp [natI]
  rw [er] at hO
  obtain ⟨A5, c5, rfl, hR5⟩ := OwnI.rd hO
  have enl : (natI r).length = r.length := by simp [natI]
  rw [enl]
  have HS := Lib.hid (order_set h1 h8 HV.out hL)
  rw [← hr] at HS
  have Hnd : Hid r.Nodup := Lib.hid (by rw [hr]; exact (List.reverse_perm _).nodup_iff.2 hL.nodup)
  have hlt : ∀ x ∈ r, x < ls.length := fun x hx => hL.lt x (by rw [hr, List.mem_reverse] at hx; exact hx)
  have Hlt := Lib.hid hlt
  have hr8 : r.length ≤ ls.length := by
    have := nodup_sub_lenW (m := List.range ls.length) Hnd.out fun x hx => List.mem_range.2 (hlt x hx)
    simpa using this
  obtain ⟨r', hr0⟩ : ∃ r', r = 0 :: r' := by
    obtain ⟨t, e⟩ := hL.last
    exact ⟨t.reverse, by rw [hr, e]; simp⟩
  have Hr0 := Lib.hid hr0
  have hr1 : 0 < r.length := by rw [hr0]; simp
  have Hbk0 : Hid (∀ i j : Nat, i ∈ r → EdW ls i j → j ∈ r ∧ (BkP ls (walkL ls) i j ↔ ¬ posD r i < posD r j)) := Lib.hid (fun i j hi he => by
    have := order_back hL (by rw [hr, List.mem_reverse] at hi; exact hi) he
    rw [hr, List.mem_reverse]
    exact this)
  have HW1 := Lib.hid hW
  have HR1 := Lib.hid hR5
  have Hb1 := Lib.hid (Hb.out _ hW)
  have Hsz := Lib.hid (sizeN_setF Hnd.out (fun x hx => by have := hlt x hx; omega))
  rw [HS.out] at Hsz
  clear hW hO hL hR5 er enl hlt hr0 hr
  go_wp2_with fail
  refine Hb1.out.mono ?_
  rintro e w2 (⟨h9, -⟩ | ⟨-, v, bk, rfl, hO, hbl, -, hbm, hW⟩)
  case inl => exact absurd H0.out h9
  obtain ⟨A3, c3, rfl, hR3⟩ := OwnP.rd hO
  have HW2 := Lib.hid (HW1.out.trans (hW.mono HW1.out.size))
  have HR2 := Lib.hid (Rd.below HR1.out hW)
  have HP2 := Lib.hid hR3
  have Hbm := Lib.hid hbm
  have Hr2 := Lib.hid (Hr.out _ HW2.out)
  have Hm2 := Lib.hid (fun w' (h : Below w2.heap.size w2 w') => Hmy.out w' (HW2.out.trans (h.mono HW2.out.size)))
  have Hbk : Hid (∀ i j : Nat, i ∈ r → EdW ls i j → j ∈ r ∧ (((i : Int), (j : Int)) ∈ bk ↔ ¬ posD r i < posD r j)) := Lib.hid (fun i j hi he => by
    obtain ⟨a1, a2⟩ := Hbk0.out i j hi he
    refine ⟨a1, ?_⟩
    rw [← a2, hbm]
    constructor
    · rintro ⟨i', j', e, _, _, hb⟩
      injection e with e1 e2
      have e1 : i = i' := by omega
      have e2 : j = j' := by omega
      subst e1 e2; exact hb
    · intro hb; exact ⟨i, j, rfl, Hlt.out i hi, Hlt.out j a1, hb⟩)
  have hbl2 : bk.length ≤ 64 := hbl
  clear hW hO hbm hbl hR3 Hbk0 Hbm
  go_wp2_with fail
  refine Hr2.out.mono ?_
  rintro e w3 ⟨⟨v3, rfl, hv3⟩, hW⟩
  have hv3 := hv3 (by first | rfl | trivial)
  subst hv3
  have HR3 := Lib.hid (Rd.below HR2.out hW)
  have HP3 := Lib.hid (Rd.below HP2.out hW)
  have Hm3 := Lib.hid (Hm2.out _ hW)
  have HW3 := Lib.hid (HW2.out.trans (hW.mono HW2.out.size))
  have HA3 := Lib.hid (HA.out.below HW3.out)
  have Hset := Lib.hid (set_calls A5 r c5 w3 HR3.out (fun x hx => by have := Hlt.out x hx; omega) (by omega))
  rw [HS.out] at Hset
  have hs : fromS ls (-1) 0 < 4294967296 := Nat.lt_trans (fromS_lt ls (-1) 0) (by decide)
  have Hsize := Lib.hid (size_calls (fromS ls (-1) 0) w3 hs)
  rw [Hsz.out] at Hsize
  obtain ⟨b5, o5, rfl, hb5, d0⟩ := RdI.at1 HR3.out (k := 0) (by simp [natI]; omega)
  have e0 : (natI r)[0]'(by simp [natI]; omega) = 0 := by simp [natI, Hr0.out]
  rw [e0, Nat.add_zero] at d0
  have hz3 := HW3.out.size
  clear hW hs e0
  generalize fromS ls (-1) 0 = s at *
  go_wp2_with fail
  refine Hm3.out.mono ?_
  rintro e w4 ⟨rfl, h4⟩
  rw [h4]
  clear h4 Hm3
  have q1 : ((r.length : Int) == 0) = false := by rw [beq_eq_false_iff_ne]; omega
  have q2 : ((r.length : Int) != (r.length : Int)) = false := by simp
  have q3 : ((s : Int) != (s : Int)) = false := by simp
  go_wp2_with fail
  refine Hset.out.mono ?_
  rintro e w' ⟨rfl, rfl⟩
  go_wp2_with fail
  refine Hsize.out.mono ?_
  rintro e w' ⟨rfl, rfl⟩
  go_wp2_with (first
    | (at_make
       refine wpList_makeI rfl _ _ rfl w'.heap.size ls.length rfl rfl (by omega) (Nat.le_refl _) ?_
       intro w4 hO4 hg4
       have HO4 := Lib.hid hO4
       have HB4 := Lib.hid ((Below.refl w'.heap.size w').grown hg4 (Nat.le_refl _) (fun k hk => by cases hk))
       clear hO4 hg4)
    | fail)
  obtain ⟨gg, hgg⟩ : ∃ gg, gg = w'.heap.size := ⟨_, rfl⟩
  have HO5 : Hid (OwnI w4 gg 3 (.slice (some ⟨gg, 0, none⟩) ls.length ls.length) (atZ ls.length r 0)) := Lib.hid (by rw [atZ_zero, hgg]; exact HO4.out)
  rw [← hgg] at HB4 ⊢
  have Hgg := Lib.hid hgg
  clear HO4 hgg Hsize Hset d0
  go_wp2
  go_loopw [86] (fun i wr => ∃ k : Nat, k ≤ r.length ∧ i = .int .i64 k ∧ OwnI wr gg 3 (.slice (some ⟨gg, 0, none⟩) ls.length ls.length) (atZ ls.length r k) ∧ Below gg w' wr) (fun i _ => r.length - (intOf i).toNat)
  case atStart => exact ⟨0, Nat.zero_le _, rfl, HO5.out, HB4.out⟩
  case round =>
    clear HO5 HB4
    obtain ⟨k, hk, rfl, hO, hW⟩ := hrel
    by_cases hlt : k < r.length
    · obtain ⟨b, off, e7, hb, c0'⟩ := RdI.at1 HR3.out (k := k) (by simp [natI]; exact hlt)
      injection e7 with e7; injection e7 with e7a e7b
      subst e7a e7b
      have c0 := (hW.cell (p := ⟨b5, o5 + k, none⟩) (by rw [Hgg.out]; exact hb)).trans c0'
      have e0 : (natI r)[k]'(by simp [natI]; exact hlt) = ((r[k] : Nat) : Int) := by simp [natI]
      rw [e0] at c0
      have hx := Hlt.out _ (List.getElem_mem hlt)
      have HOs := Lib.hid (OwnI.set_ hO (k := r[k]) (by rw [atZ_len]; exact hx) (k : Int))
      rw [atZ_set Hnd.out hlt] at HOs
      obtain ⟨g, eg, hg1, hg2, _, hfz, hcell⟩ := OwnI.at2 hO (by rw [atZ_len]; omega)
      injection eg with eg; injection eg with eg
      subst eg
      have f5 := hfz r[k]
      have c5' := hcell r[k] (by rw [atZ_len]; exact hx)
      have HWs := Lib.hid (hW.setCell (p := ⟨gg, r[k], none⟩) (by show gg ≤ gg; omega) (.int .i64 (k : Nat)))
      have q1 : ((k : Nat) : Int) < ((r.length : Nat) : Int) := by omega
      have q2 : ((r[k] : Nat) : Int) < ((ls.length : Nat) : Int) := by omega
      obtain ⟨z, hz⟩ : ∃ z, z = (atZ ls.length r k)[r[k]]'(by rw [atZ_len]; exact hx) := ⟨_, rfl⟩
      rw [← hz] at c5'
      clear hO hW hfz hcell e0 hz c0' hb
      generalize r[k] = lk at *
      go_wp2
      go_roundw
      case rel => exact ⟨k + 1, by omega, by go_num, HOs.out, HWs.out⟩
      case measure => simp [intOf]; omega
    · have hke : k = r.length := by omega
      subst hke
      obtain ⟨A6, c6', e6, hR6⟩ := OwnI.rd hO
      injection e6 with e6a e6b e6c
      have HR6 : Hid (RdI wr (some ⟨gg, 0, none⟩) (atZ ls.length r r.length)) := Lib.hid (by rw [e6a]; exact hR6)
      have HW9 := Lib.hid (HW3.out.trans (hW.mono (by rw [Hgg.out]; exact hz3)))
      rw [Hgg.out] at hW
      have HA9 := Lib.hid (HA3.out.below hW)
      have HR9 := Lib.hid (Rd.below HR3.out hW)
      have HP9 := Lib.hid (Rd.below HP3.out hW)
      have hzr := HW9.out.size
      clear hO hW e6a e6b e6c hR6 Hgg
      go_wp2
      obtain ⟨w5, rfl⟩ : ∃ w5 : World, w5 = wr := ⟨_, rfl⟩
      go_loopw [98] (fun i wr => ∃ k : Nat, k ≤ r.length ∧ i = .int .i64 k ∧ Below w5.heap.size w5 wr) (fun i _ => r.length - (intOf i).toNat)
      case atStart => exact ⟨0, Nat.zero_le _, rfl, Below.refl _ _⟩
      case round =>
        obtain ⟨ci, hci, rfl, hW⟩ := hrel
        have HW6 := Lib.hid hW
        by_cases hlt : ci < r.length
        · obtain ⟨b, off, e7, hb, c0'⟩ := RdI.at1 HR9.out (k := ci) (by simp [natI]; exact hlt)
          injection e7 with e7; injection e7 with e7a e7b
          subst e7a e7b
          have c0 := (hW.cell (p := ⟨b5, o5 + ci, none⟩) hb).trans c0'
          have e0 : (natI r)[ci]'(by simp [natI]; exact hlt) = ((r[ci] : Nat) : Int) := by simp [natI]
          rw [e0] at c0
          have hxm := List.getElem_mem hlt
          have hx := Hlt.out _ hxm
          have q1 : ((ci : Nat) : Int) < ((r.length : Nat) : Int) := by omega
          clear e0 c0'
          generalize r[ci] = x at *
          obtain ⟨b8, off8, A1, cap1, rfl, hb8, c1', hR1⟩ := RdN.at_ HA9.out hx
          have c1 := (hW.cell (p := ⟨b8, off8 + x, none⟩) hb8).trans c1'
          have HR1 := Lib.hid hR1
          have Hmem := Lib.hid hxm
          have hl3 := HV.out _ (List.getElem_mem hx)
          have Hl3 := Lib.hid hl3.2
          have hl3' := hl3.1
          have Hgx : Hid (ls.getD x [] = ls[x]) := Lib.hid (by rw [List.getD_eq_getElem?_getD, List.getElem?_eq_getElem hx]; rfl)
          clear hW hR1 c1' hxm hl3
          generalize ls[x] = nx at *
          go_wp2
          go_loopw [107] (fun i wr => ∃ k : Nat, k ≤ nx.length ∧ i = .int .i64 k ∧ Below w5.heap.size w5 wr) (fun i _ => nx.length - (intOf i).toNat)
          case atStart => exact ⟨0, Nat.zero_le _, rfl, HW6.out⟩
          case round =>
            clear HW6 c0 c1
            obtain ⟨cj, hcj, rfl, hW⟩ := hrel
            have HWr := Lib.hid hW
            have hwr := hW.size
            by_cases hlj : cj < nx.length
            · obtain ⟨b9, off9, rfl, hb9, c2'⟩ := RdI.at1 HR1.out hlj
              have c2 := (hW.cell (p := ⟨b9, off9 + cj, none⟩) hb9).trans c2'
              have hyb := Hl3.out _ (List.getElem_mem hlj)
              have hym := List.getElem_mem hlj
              have q2 : ((cj : Nat) : Int) < ((nx.length : Nat) : Int) := by omega
              clear c2'
              generalize nx[cj] = y' at *
              obtain ⟨y, rfl⟩ := Int.eq_ofNat_of_zero_le hyb.1
              have hy : y < ls.length := by omega
              obtain ⟨hyr, hback⟩ := Hbk.out x y Hmem.out ⟨hx, by rw [Hgx.out]; exact hym⟩
              obtain ⟨g6, o6, e6, hb6, d0⟩ := RdI.at1 HR6.out (k := x) (by rw [atZ_len]; exact hx)
              injection e6 with e6; injection e6 with e6a e6b
              subst e6a e6b
              obtain ⟨g7, o7, e7, hb7, d1⟩ := RdI.at1 HR6.out (k := y) (by rw [atZ_len]; exact hy)
              injection e7 with e7; injection e7 with e7a e7b
              subst e7a e7b
              rw [atZ_all Hmem.out, Nat.zero_add] at d0
              rw [atZ_all hyr, Nat.zero_add] at d1
              have D0 := Lib.hid d0
              have D1 := Lib.hid d1
              have Hback := Lib.hid hback
              clear hW d0 d1 hback hym hyb hyr
              generalize posD r x = px at *
              generalize posD r y = py at *
              go_wp2
              go_loopw [16, 113] (fun b i wr => ∃ k : Nat, k ≤ bk.length ∧ i = .int .i64 k ∧ b = .bool (decide (((x : Int), (y : Int)) ∈ bk.take k)) ∧ Below w5.heap.size w5 wr) (fun _ i _ => bk.length - (intOf i).toNat)
              case atStart => exact ⟨0, Nat.zero_le _, rfl, rfl, HWr.out⟩
              case round =>
                clear HWr c2
                obtain ⟨ck, hck, rfl, rfl, hW⟩ := hrel
                have HWr := Lib.hid hW
                have hwr := hW.size
                by_cases hlk : ck < bk.length
                · obtain ⟨b2, off2, rfl, hb2, c3', c4'⟩ := RdP.at2 HP9.out hlk
                  have c3 := (hW.cell (p := ⟨b2, off2 + ck * 2, none⟩) hb2).trans c3'
                  have c4 := (hW.cell (p := ⟨b2, off2 + ck * 2 + 1, none⟩) hb2).trans c4'
                  have q3 : ((ck : Nat) : Int) < ((bk.length : Nat) : Int) := by omega
                  have Hstep : Hid (decide (((x : Int), (y : Int)) ∈ bk.take (ck + 1)) = (decide (((x : Int), (y : Int)) ∈ bk.take ck) || decide ((bk[ck].1, bk[ck].2) = ((x : Int), (y : Int))))) := Lib.hid (by
                    rw [Bool.eq_iff_iff, Bool.or_eq_true, decide_eq_true_eq, decide_eq_true_eq, decide_eq_true_eq, List.take_succ_eq_append_getElem hlk, List.mem_append, List.mem_singleton]
                    exact or_congr_right ⟨fun h => h.symm, fun h => h.symm⟩)
                  clear hW c3' c4'
                  generalize bk[ck].1 = u1 at *
                  generalize bk[ck].2 = u2 at *
                  have Heq := pair_eqlIn u1 u2 (x : Int) (y : Int)
                  generalize decide ((u1, u2) = ((x : Int), (y : Int))) = dd at *
                  generalize decide (((x : Int), (y : Int)) ∈ bk.take ck) = bb at *
                  cases bb
                  · go_wp2
                    go_roundw
                    case rel => exact ⟨ck + 1, by omega, by go_num, by rw [Hstep.out]; first | rfl | (simp; done), HWr.out.alloc hwr _⟩
                    case measure => simp [intOf]; omega
                  · go_wp2
                    go_roundw
                    case rel => exact ⟨ck + 1, by omega, by go_num, by rw [Hstep.out]; first | rfl | (simp; done), HWr.out.alloc hwr _⟩
                    case measure => simp [intOf]; omega
                · have hke : ck = bk.length := by omega
                  subst hke
                  rw [List.take_length]
                  have hq : decide (((x : Int), (y : Int)) ∈ bk) = !decide ((px : Int) < (py : Int)) := by
                    rw [Bool.eq_iff_iff, Bool.not_eq_true', decide_eq_true_eq, decide_eq_false_iff_not, Hback.out]
                    omega
                  rw [hq]
                  have d0 := (hW.cell (p := ⟨gg, x, none⟩) hb6).trans D0.out
                  have d1 := (hW.cell (p := ⟨gg, y, none⟩) hb7).trans D1.out
                  have HWd := Lib.hid (fun nq => below_dN HWr.out nq)
                  have hxi : (x : Int) < (ls.length : Int) := by omega
                  have hyi : (y : Int) < (ls.length : Int) := by omega
                  clear hW hq Hback
                  by_cases hp : (px : Int) < (py : Int)
                  · have qp : decide ((px : Int) < (py : Int)) = true := decide_eq_true hp
                    rw [qp, Bool.not_true]
                    have hp2 : px < py := by omega
                    have qn : decide (px < py) = true := decide_eq_true hp2
                    clear hp qp
                    go_wp2
                    go_quiet (fail)
                    go_wp2
                    all_goals first | (exfalso; omega) | (rw [qn] at *; contradiction) | skip
                    exact ⟨⟨cj + 1, by omega, by go_num, HWd.out _⟩, by simp [intOf]; omega⟩
                  · have qp : decide ((px : Int) < (py : Int)) = false := decide_eq_false hp
                    rw [qp, Bool.not_false]
                    have hp2 : ¬ px < py := by omega
                    have qn : decide (px < py) = false := decide_eq_false hp2
                    clear hp qp
                    go_wp2
                    go_quiet (fail)
                    go_wp2
                    all_goals first | (exfalso; omega) | (rw [qn] at *; contradiction) | skip
                    exact ⟨⟨cj + 1, by omega, by go_num, HWd.out _⟩, by simp [intOf]; omega⟩
            · have hke : cj = nx.length := by omega
              subst hke
              clear hW
              go_wp2
              go_roundw
              case rel => exact ⟨ci + 1, by omega, by go_num, HWr.out⟩
              case measure => simp [intOf]; omega
        · have hke : ci = r.length := by omega
          subst hke
          clear hW
          go_wp2
          go_ret
          exact ⟨rfl, HW9.out.trans (HW6.out.mono hzr)⟩
end Go.Proofs.Ytljmignfbagomaa
