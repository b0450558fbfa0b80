/- whole.Do walked. -/
import Derived.Test.YtmgejacndhnikaaTopC
namespace Go.Proofs.Ytmgejacndhnikaa
set_option maxRecDepth 100000
open Go.RowKit

theorem and1w_u32 (s j : Nat) (hs : s < 4294967296) : (bits .and .u32 ((s : Int) / 2 ^ j) 1 == 1) = s.testBit j := by
  rw [shr_u32, show (1 : Int) = ((1 : Nat) : Int) from rfl, and_u32 _ _ (Nat.lt_of_le_of_lt (Nat.shiftRight_le s j) hs) (by decide)]
  have h := testBit_and_one s j
  have h2 : (s >>> j) &&& 1 = 0 ∨ (s >>> j) &&& 1 = 1 := by rw [Nat.and_one_is_mod]; omega
  rcases h2 with e | e
  · rw [e] at h ⊢
    cases hb : s.testBit j
    · rfl
    · rw [hb] at h; cases h
  · rw [e] at h ⊢
    cases hb : s.testBit j
    · rw [hb] at h; cases h
    · rfl
def DoE (vars : Int) (p : List Blk) (st hv : List Int) (want : Nat) (w : World) (e : Ending) (w' : World) : Prop :=
  Below w.heap.size w w' ∧ ((¬ (haveErr vars hv = 0 ∧ leK hv st) ∧ ∃ v x, x ≠ 0 ∧ e = .returned (.tuple #[v, .int .i64 x])) ∨
    ((haveErr vars hv = 0 ∧ leK hv st) ∧ ((runsB p hv 201 ∧ ∃ v, e = .returned (.tuple #[v, .int .i64 7])) ∨
      ∃ k v o, k ≤ 200 ∧ runsB p hv k ∧ (stB p hv k).1 < 0 ∧ e = .returned (.tuple #[v, .int .i64 0]) ∧ OwnI w' w.heap.size 3 v o ∧ aliL want (stB p hv k).2 o)))
set_option maxHeartbeats 8000000 in
theorem do_bad (vars : Int) (A B C : Option Addr) (p : List Blk) (st hv : List Int) (cap capB capC want : Nat) (w : World) (hA : RdBk w A p) (hB : RdI w B st) (hm : p.length ≤ maxLen) (hmc : smallB p) (hm' : st.length ≤ maxLen) (h : ¬ MadeB vars p st want) :
    Calls Try.prog 15 #[.int .i64 vars, .slice A p.length cap, .slice B st.length capB, .int .u32 want, .slice C hv.length capC] w fun e w' => (∃ v x, x ≠ 0 ∧ e = .returned (.tuple #[v, .int .i64 x])) ∧ Below w.heap.size w w' := by
  have HM := Lib.hid (make_bad vars A B p st cap capB want w hA hB hm hmc hm' h)
  clear hA hB h
  go_enter Try.func15, Try.ntmps15
  go_wp2_with fail
  (with_reducible refine HM.out.mono ?_)
  rintro e w1 ⟨⟨x, hx, rfl⟩, hW⟩
  have HW1 := Lib.hid hW
  have q : (x != 0) = true := by rw [bne_iff_ne]; exact hx
  have Hx := Lib.hid hx
  clear hW hx
  go_wp2_with fail
  go_ret2
  exact ⟨⟨_, x, Hx.out, rfl⟩, HW1.out⟩
set_option maxHeartbeats 8000000 in
theorem do_ok (vars : Int) (A B C : Option Addr) (p : List Blk) (st hv : List Int) (cap capB capC want : Nat) (w : World) (hA : RdBk w A p) (hB : RdI w B st) (hC : RdI w C hv) (hm : p.length ≤ maxLen) (hmc : smallB p) (hm' : st.length ≤ maxLen) (hm2 : hv.length ≤ maxLen) (h : MadeB vars p st want) :
    Calls Try.prog 15 #[.int .i64 vars, .slice A p.length cap, .slice B st.length capB, .int .u32 want, .slice C hv.length capC] w (DoE vars p st hv want w) := by
  have HM := Lib.hid (make_ok vars A B p st cap capB want w hA hB hm hmc hm' h)
  have HA := Lib.hid hA
  have HB := Lib.hid hB
  have HC := Lib.hid hC
  obtain ⟨h1, h2, h3⟩ := h
  have hv1 := (pok_of h1).v1
  have hv6 := (pok_of h1).v6
  obtain ⟨n, rfl⟩ := Int.eq_ofNat_of_zero_le (show 0 ≤ vars by omega)
  rw [Int.toNat_natCast] at h3
  have P1 := Lib.hid h1
  have S2 := Lib.hid h2
  have W3 := Lib.hid h3
  have hw32 : want < 4294967296 := by
    have : 2 ^ n ≤ 64 := Nat.pow_le_pow_right (by decide) (show n ≤ 6 by omega)
    omega
  obtain ⟨e2, -⟩ := startErr_ok h2
  have hsn : st.length ≤ n := by omega
  have hsn2 : n ≤ st.length := by omega
  have Hh := Lib.hid (fun w hC => have_calls (n : Int) C hv capC w hC hm2)
  clear hA hB hC h1 h2 h3 e2
  by_cases hh : haveErr (n : Int) hv = 0
  · rw [hh] at Hh
    have HH := Lib.hid hh
    obtain ⟨e1, -⟩ := haveErr_ok hh
    have hll : hv.length ≤ n := by omega
    have hll2 : n ≤ hv.length := by omega
    have Hk := Lib.hid (leK_iff hh S2.out)
    clear hh e1
    go_enter Try.func15, Try.ntmps15
    go_wp2_with fail
    (with_reducible refine HM.out.mono ?_)
    rintro e w1 ⟨hW, vc, c, rfl, hO, hq⟩
    have HW1 := Lib.hid hW
    obtain ⟨A1, c1, rfl, hR1, -⟩ := Own.form byteCells_len hO
    have HR1 := Lib.hid hR1
    have HQ := Lib.hid hq
    clear hW hO hq hR1 HM
    go_wp2_with fail
    (with_reducible refine (Hh.out _ (Rd.below HC.out HW1.out)).mono ?_)
    rintro e w2 ⟨rfl, e2⟩
    rw [e2]
    clear e2 Hh w2
    go_wp2_with fail
    go_loopw [42] (fun i wr => ∃ k : Nat, k ≤ st.length ∧ i = .int .i64 k ∧ Hid (∀ i (h : i < st.length), i < k → 0 ≤ st[i] → st[i] = hv.getD i 0) ∧ Hid (Below w1.heap.size w1 wr)) (fun i _ => st.length - (intOf i).toNat)
    case atStart => exact ⟨0, Nat.zero_le _, rfl, Lib.hid (fun i _ hi => by omega), Lib.hid (Below.refl _ _)⟩
    case round =>
      obtain ⟨k, hk, rfl, HJ, HW⟩ := hrel
      have HWw := Lib.hid (HW1.out.trans (HW.out.mono HW1.out.size))
      by_cases hlt : k < st.length
      · obtain ⟨b1, o1, rfl, hb1, d1⟩ := RdI.at1 (Rd.below HB.out HWw.out) hlt
        obtain ⟨b2, o2, rfl, hb2, d2⟩ := RdI.at1 (Rd.below HC.out HWw.out) (k := k) (by omega)
        have q1 : ((k : Nat) : Int) < ((st.length : Nat) : Int) := by omega
        have q2 : ((k : Nat) : Int) < ((hv.length : Nat) : Int) := by omega
        have hkv : k < hv.length := by omega
        have HN : Hid (∀ x y, st[k] = x → hv[k] = y → (0 ≤ x → x = y) → ∀ i (h : i < st.length), i < k + 1 → 0 ≤ st[i] → st[i] = hv.getD i 0) := Lib.hid (fun x y hx hy h i hi hik h0 => by
          rcases Nat.lt_or_ge i k with h3 | h3
          · exact HJ.out i hi h3 h0
          · obtain rfl : i = k := by omega
            rw [getI_get hkv, hx, hy]
            exact h (by rw [← hx]; exact h0))
        have HF : Hid (0 ≤ st[k] → hv[k] ≠ st[k] → ¬ leK hv st) := Lib.hid (fun h0 hne hl => hne (by rw [Hk.out.1 hl k hlt h0, getI_get hkv]))
        have HNk := Lib.hid (HN.out _ _ rfl rfl)
        clear HJ HN
        generalize st[k] = x at *
        generalize hv[k] = y at *
        by_cases h0 : 0 ≤ x
        · have f0 : decide (0 ≤ x) = true := decide_eq_true h0
          by_cases hxy : y = x
          · have f1 : (y != x) = false := by rw [bne_eq_false_iff_eq]; exact hxy
            have HN2 := Lib.hid (HNk.out (fun _ => hxy.symm))
            clear hxy HF HNk
            go_wp2
            go_roundw
            case rel => exact ⟨k + 1, by omega, by go_num, HN2, HW⟩
            case measure => simp [intOf]; omega
          · have f1 : (y != x) = true := by rw [bne_iff_ne]; exact hxy
            have HF2 := Lib.hid (HF.out h0 hxy)
            clear hxy HF HNk
            go_wp2
            go_ret2
            exact ⟨HWw.out, .inl ⟨fun h => HF2.out h.2, _, 5, by decide, rfl⟩⟩
        · have f0 : decide (0 ≤ x) = false := decide_eq_false h0
          have HN2 := Lib.hid (HNk.out (fun h => absurd h h0))
          clear HF HNk h0
          go_wp2
          go_roundw
          case rel => exact ⟨k + 1, by omega, by go_num, HN2, HW⟩
          case measure => simp [intOf]; omega
      · have hke : k = st.length := by omega
        have HL := Lib.hid (Hk.out.2 (fun i hi h0 => HJ.out i hi (by omega) h0))
        have q1 : ¬ ((k : Nat) : Int) < ((st.length : Nat) : Int) := by omega
        clear HJ hlt
        have HR2 := Lib.hid (Rd.below HR1.out HW.out)
        obtain ⟨wz, rfl⟩ : ∃ wz : World, wz = wr := ⟨_, rfl⟩
        have HRun := Lib.hid (blkRun_ok (n : Int) A C p hv cap capC wz (HA.out.below HWw.out) (Rd.below HC.out HWw.out) hm hmc hm2 P1.out HH.out)
        clear HW
        go_wp2_with fail
        (with_reducible refine HRun.out.mono ?_)
        rintro e w4 ⟨hb4, h⟩
        have HW4 := Lib.hid (HWw.out.trans (hb4.mono HWw.out.size))
        have HR4 := Lib.hid (Rd.below HR2.out hb4)
        clear hb4 HRun HR2 HWw
        rcases h with ⟨j, x, y, hk1, hk2, hr, hneg, rfl, -, -⟩ | ⟨hr, rfl⟩
        · obtain ⟨m, xs, q, b', hm20, hgo, hst, hal⟩ := HQ.out.run rfl P1.out W3.out HH.out HL.out hk2 hr hneg
          have hcb : bytesOk c ∧ c.length ≤ 400 := by
            rcases HQ.out.2 with rfl | ⟨F, q, _, _, hq, rfl⟩
            · exact ⟨progY_bd (pok_of P1.out), by have := progY_len (pok_of P1.out); omega⟩
            · exact ⟨progY_bd (pok_of hq), by have := progY_len (pok_of hq); omega⟩
          have HM := Lib.hid (mrun_calls A1 c c1 C hv capC w4 HR4.out hcb.1 hcb.2 (Rd.below HC.out HW4.out) (by omega) (by rw [show hv.length = n by omega]; exact HH.out) m hm20 _ hgo hst)
          dsimp only at HM
          have hsl : ((stB p hv j).2.length : Int) = (n : Int) := (st_ok (pok_of P1.out) (by omega) (haveErr_ok HH.out).2 j hr).1
          have hxl : xs.length = n := by have := hal.1; omega
          have HJ := Lib.hid (⟨hk2, hr, hneg, hal⟩ : j ≤ 200 ∧ runsB p hv j ∧ (stB p hv j).1 < 0 ∧ aliL want (stB p hv j).2 xs)
          clear hgo hst hal hr hneg hcb hsl hk1 hk2
          go_wp2_with fail
          (with_reducible refine HM.out.mono ?_)
          rintro e w5 ⟨hb5, vy, rfl, hOy⟩
          have hly : (xs ++ (List.replicate 6 0).drop hv.length).length = 6 := by rw [List.length_append, List.length_drop, List.length_replicate]; omega
          obtain ⟨Ay, cy, rfl, hRy, -, -⟩ := Own.form intCells_len hOy
          rw [hly]
          have HRy := Lib.hid hRy
          have HW5 := Lib.hid (HW4.out.trans (hb5.mono HW4.out.size))
          clear hb5 hOy hRy HM
          go_wp2_with (at_make; refine wpList_makeI rfl _ _ rfl w5.heap.size n rfl rfl (by omega) (Nat.le_refl _) ?_; intro w6 hO6 hg6; have HO6 := Lib.hid hO6; have HW6 := Lib.hid ((Below.refl w5.heap.size w5).grown hg6 (Nat.le_refl _) (fun k e => by cases e)); clear hO6 hg6)
          go_loopw [82] (fun i wr => ∃ (k : Nat) (o : List Int), k ≤ n ∧ i = .int .i64 k ∧ Hid (OwnI wr w5.heap.size 3 (.slice (some ⟨w5.heap.size, 0, none⟩) n n) o) ∧ Hid (o.length = n) ∧ Hid (∀ i, i < k → want.testBit i = true → o.getD i 0 = xs.getD i 0) ∧ Hid (Below w5.heap.size w5 wr)) (fun i _ => n - (intOf i).toNat)
          case atStart => exact ⟨0, _, Nat.zero_le _, rfl, HO6, Lib.hid (List.length_replicate ..), Lib.hid (fun i hi => by omega), HW6⟩
          case round =>
            clear HO6 HW6
            obtain ⟨i, o, hi, rfl, HO, HOl, HJo, HW⟩ := hrel
            by_cases hin : i < n
            · have q3 : ((i : Nat) : Int) < ((n : Nat) : Int) := by omega
              have q4 : ((i : Nat) : Int) < 6 := by omega
              have t1 := and1w_u32 want i hw32
              obtain ⟨by_, oy, rfl, hby, dy⟩ := RdI.at1 HRy.out (k := i) (by omega)
              rw [← HW.out.cell (p := ⟨by_, _, none⟩) hby] at dy
              have hby' : by_ < wr.heap.size := by have := HW.out.size; omega
              have ey : (xs ++ (List.replicate 6 0).drop hv.length)[i]'(by omega) = xs[i]'(by omega) := List.getElem_append_left (by omega)
              rw [ey] at dy
              obtain ⟨_, eg, -, hgl, -, hfz, hce⟩ := OwnI.at2 HO.out (by rw [HOl.out]; omega)
              injection eg with eg; injection eg with eg; subst eg
              have co := hce i (by rw [HOl.out]; exact hin)
              have fo := hfz i
              have hne : by_ ≠ w5.heap.size := by omega
              have HS : Hid (OwnI (wr.setCell ⟨w5.heap.size, i, none⟩ (.int .i64 (xs[i]'(by omega)))) w5.heap.size 3 (.slice (some ⟨w5.heap.size, 0, none⟩) n n) (o.set i (xs[i]'(by omega)))) := Lib.hid (OwnI.set_ HO.out (by rw [HOl.out]; exact hin) _)
              have HSl : Hid ((o.set i (xs[i]'(by omega))).length = n) := Lib.hid (by rw [List.length_set]; exact HOl.out)
              have HSj : Hid (∀ j, j < i + 1 → want.testBit j = true → (o.set i (xs[i]'(by omega))).getD j 0 = xs.getD j 0) := Lib.hid (fun j hj hb => by
                rw [List.getD_eq_getElem?_getD, List.getElem?_set]
                by_cases e : i = j
                · subst e
                  rw [if_pos rfl, if_pos (by rw [HOl.out]; exact hin), getI_get (by omega)]; rfl
                · rw [if_neg e, ← List.getD_eq_getElem?_getD]
                  exact HJo.out j (by omega) hb)
              have HSw := Lib.hid (HW.out.setCell (p := ⟨w5.heap.size, i, none⟩) (Nat.le_refl _) (.int .i64 (xs[i]'(by omega))))
              clear hce hfz ey
              generalize hxi : xs[i]'(by omega) = x at *
              have Hxi := Lib.hid hxi
              clear hxi
              cases hb : want.testBit i
              · rw [hb] at t1
                have HN2 : Hid (∀ j, j < i + 1 → want.testBit j = true → o.getD j 0 = xs.getD j 0) := Lib.hid (fun j hj hbj => by
                  rcases Nat.lt_or_ge j i with h3 | h3
                  · exact HJo.out j h3 hbj
                  · obtain rfl : j = i := by omega
                    rw [hb] at hbj; cases hbj)
                clear hb
                go_wp2
                go_roundw
                case rel => exact ⟨i + 1, o, by omega, by go_num, HO, HOl, HN2, HW⟩
                case measure => simp [intOf]; omega
              · rw [hb] at t1
                clear hb
                go_wp2
                go_roundw
                case rel => exact ⟨i + 1, _, by omega, by go_num, HS, HSl, HSj, HSw⟩
                case measure => simp [intOf]; omega
            · have hie : i = n := by omega
              have q3 : ¬ ((i : Nat) : Int) < ((n : Nat) : Int) := by omega
              have HO9 := Lib.hid (Own.base_ HO.out HW5.out.size)
              have HW9 := Lib.hid (HW5.out.trans (HW.out.mono HW5.out.size))
              have HAl : Hid (aliL want (stB p hv j).2 o) := Lib.hid (by
                obtain ⟨_, _, _, h1, h2⟩ := HJ.out
                refine ⟨by rw [h1, HOl.out]; exact hxl, fun t ht => ?_⟩
                have htn : t < n := bit_lt W3.out ht
                rw [h2 t ht, HJo.out t (by omega) ht])
              clear hin
              go_wp2
              go_ret2
              exact ⟨HW9.out, .inr ⟨⟨HH.out, HL.out⟩, .inr ⟨j, _, o, HJ.out.1, HJ.out.2.1, HJ.out.2.2.1, rfl, HO9.out, HAl.out⟩⟩⟩
        · have Hr := Lib.hid hr
          clear hr
          go_wp2_with fail
          go_ret2
          exact ⟨HW4.out, .inr ⟨⟨HH.out, HL.out⟩, .inl ⟨Hr.out, _, rfl⟩⟩⟩
  · have q : (haveErr (n : Int) hv != 0) = true := by rw [bne_iff_ne]; exact hh
    have H1 := Lib.hid hh
    have Hn : Hid (¬ (haveErr (n : Int) hv = 0 ∧ leK hv st)) := Lib.hid (fun h => hh h.1)
    clear hh
    generalize hy : haveErr (n : Int) hv = y at *
    have Hy := Lib.hid hy
    clear hy
    go_enter Try.func15, Try.ntmps15
    go_wp2_with fail
    (with_reducible refine HM.out.mono ?_)
    rintro e w1 ⟨hW, vc, c, rfl, -, -⟩
    have HW1 := Lib.hid hW
    clear hW HM
    go_wp2_with fail
    (with_reducible refine (Hh.out _ (Rd.below HC.out HW1.out)).mono ?_)
    rintro e w2 ⟨rfl, e2⟩
    rw [e2]
    clear e2 Hh w2
    go_wp2_with fail
    go_ret2
    exact ⟨HW1.out, .inl ⟨by rw [Hy.out]; exact Hn.out, _, y, H1.out, rfl⟩⟩
end Go.Proofs.Ytmgejacndhnikaa
