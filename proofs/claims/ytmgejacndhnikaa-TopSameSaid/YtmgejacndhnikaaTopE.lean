/- The law TopSame. -/
import Derived.Test.YtmgejacndhnikaaTopB
import Derived.Test.YtmgejacndhnikaaTopD
import Derived.Test.YtmgejacndhnikaaAlikeT
namespace Go.Proofs.Ytmgejacndhnikaa
set_option maxRecDepth 100000
open Go.RowKit

theorem one_end_ {p : List Blk} {v : List Int} {k j : Nat} (h1 : runsB p v k) (h2 : (stB p v k).1 < 0) (h3 : runsB p v j) (h4 : (stB p v j).1 < 0) : k = j := by
  rcases Nat.lt_trichotomy k j with h | h | h
  · have := h3 k h; omega
  · exact h
  · have := h1 j h; omega
set_option maxHeartbeats 8000000 in
theorem topSame_u (vars : Int) (A B C : Option Addr) (p : List Blk) (st hv : List Int) (cap capB capC want : Nat) (w : World) (hA : RdBk w A p) (hB : RdI w B st) (hC : RdI w C hv) (hm : p.length ≤ maxLen) (hmc : smallB p) (hm' : st.length ≤ maxLen) (hm2 : hv.length ≤ maxLen) :
    Calls Try.prog 4 #[.int .i64 vars, .slice A p.length cap, .slice B st.length capB, .int .u32 want, .slice C hv.length capC] w fun e w' => e = .returned (.bool true) ∧ Below w.heap.size w w' := by
  have HA := Lib.hid hA
  have HB := Lib.hid hB
  have HC := Lib.hid hC
  by_cases h : MadeB vars p st want
  · have HM := Lib.hid (make_ok vars A B p st cap capB want w hA hB hm hmc hm' h)
    have HF := Lib.hid (fun w hA hB hC => do_ok vars A B C p st hv cap capB capC want w hA hB hC hm hmc hm' hm2 h)
    have HD := Lib.hid (fun w hA hB => made_yes vars A B p st cap capB want w hA hB hm hmc hm' h)
    have HAl := Lib.hid (fun w hB hC => allowed_calls vars B C st hv capB capC w hB hC hm' hm2 h.2.1)
    have H0 := Lib.hid h.1
    have HP := Lib.hid (pok_of h.1)
    have W3 := Lib.hid h.2.2
    have v1 := HP.out.v1
    have v6 := HP.out.v6
    clear hA hB hC h
    obtain ⟨n, rfl⟩ := Int.eq_ofNat_of_zero_le (show 0 ≤ vars by omega)
    rw [Int.toNat_natCast] at W3
    have hw32 : want < 4294967296 := by
      have := W3.out
      have : 2 ^ n ≤ 64 := Nat.pow_le_pow_right (by decide) (show n ≤ 6 by omega)
      omega
    go_enter Try.func4, Try.ntmps4
    go_wp2_with fail
    (with_reducible refine HM.out.mono ?_)
    rintro e w1 ⟨hW, v, c, rfl, hO, hq⟩
    have HW1 := Lib.hid hW
    obtain ⟨A1, c1, rfl, hR1, -⟩ := Own.form byteCells_len hO
    have HR1 := Lib.hid hR1
    have HQ := Lib.hid hq
    clear hW hO hq hR1 HM
    go_wp2_with fail
    (with_reducible refine (HF.out _ (HA.out.below HW1.out) (Rd.below HB.out HW1.out) (Rd.below HC.out HW1.out)).mono ?_)
    rintro e w2 ⟨hW, h⟩
    have HW2 := Lib.hid (HW1.out.trans (hW.mono HW1.out.size))
    have HR2 := Lib.hid (Rd.below HR1.out hW)
    clear hW HF HR1
    have hcase : (¬ (haveErr (n : Int) hv = 0 ∧ leK hv st) ∧ ∃ v x, x ≠ 0 ∧ e = .returned (.tuple #[v, .int .i64 x])) ∨ ((haveErr (n : Int) hv = 0 ∧ leK hv st) ∧ runsB p hv 201 ∧ ∃ v, e = .returned (.tuple #[v, .int .i64 7])) ∨
        ((haveErr (n : Int) hv = 0 ∧ leK hv st) ∧ ∃ k v o, k ≤ 200 ∧ runsB p hv k ∧ (stB p hv k).1 < 0 ∧ e = .returned (.tuple #[v, .int .i64 0]) ∧ OwnI w2 w1.heap.size 3 v o ∧ aliL want (stB p hv k).2 o) := by
      rcases h with h | ⟨h, h' | h'⟩
      · exact .inl h
      · exact .inr (.inl ⟨h, h'⟩)
      · exact .inr (.inr ⟨h, h'⟩)
    clear h
    rcases hcase with ⟨hno, v, x, hx, rfl⟩ | ⟨hyes, hr, v, rfl⟩ | ⟨hyes, k, v, o, hk, hr, hneg, rfl, hO, hal⟩
    · have q : (x != 0) = true := by rw [bne_iff_ne]; exact hx
      have Hno := Lib.hid hno
      clear hno hx
      go_wp2_with fail
      (with_reducible refine (HD.out _ (HA.out.below HW2.out) (Rd.below HB.out HW2.out)).mono ?_)
      rintro e w3 ⟨rfl, hW⟩
      have HW3 := Lib.hid (HW2.out.trans (hW.mono HW2.out.size))
      clear hW HD
      go_wp2_with fail
      (with_reducible refine (HAl.out _ (Rd.below HB.out HW3.out) (Rd.below HC.out HW3.out)).mono ?_)
      rintro e w4 ⟨hW, b, rfl, hb⟩
      have HW4 := Lib.hid (HW3.out.trans (hW.mono HW3.out.size))
      have hbf : b = false := by
        cases b
        · rfl
        · exact absurd (hb.1 rfl) Hno.out
      subst hbf
      clear hW hb HAl
      go_wp2_with fail
      go_ret
      exact ⟨rfl, HW4.out⟩
    · have Hr := Lib.hid hr
      have HH := Lib.hid hyes.1
      have HL := Lib.hid hyes.2
      have Hyes := Lib.hid hyes
      clear hr hyes
      go_wp2_with fail
      (with_reducible refine (HD.out _ (HA.out.below HW2.out) (Rd.below HB.out HW2.out)).mono ?_)
      rintro e w3 ⟨rfl, hW⟩
      have HW3 := Lib.hid (HW2.out.trans (hW.mono HW2.out.size))
      clear hW HD
      go_wp2_with fail
      (with_reducible refine (HAl.out _ (Rd.below HB.out HW3.out) (Rd.below HC.out HW3.out)).mono ?_)
      rintro e w4 ⟨hW, b, rfl, hb⟩
      have HW4 := Lib.hid (HW3.out.trans (hW.mono HW3.out.size))
      have hbt : b = true := hb.2 Hyes.out
      subst hbt
      clear hW hb HAl
      have HRun := Lib.hid (blkRun_ok (n : Int) A C p hv cap capC w4 (HA.out.below HW4.out) (Rd.below HC.out HW4.out) hm hmc hm2 H0.out HH.out)
      go_wp2_with fail
      (with_reducible refine HRun.out.mono ?_)
      rintro e w5 ⟨hb5, h⟩
      have HW5 := Lib.hid (HW4.out.trans (hb5.mono HW4.out.size))
      clear hb5 HRun
      rcases h with ⟨j, x, y, hk1, hk2, hr, hneg, rfl, -, -⟩ | ⟨-, rfl⟩
      · exfalso
        have := Hr.out j (by omega)
        omega
      · go_wp2_with fail
        go_ret
        exact ⟨rfl, HW5.out⟩
    · have HJ := Lib.hid (⟨hk, hr, hneg, hal⟩ : k ≤ 200 ∧ runsB p hv k ∧ (stB p hv k).1 < 0 ∧ aliL want (stB p hv k).2 o)
      have HH := Lib.hid hyes.1
      have HL := Lib.hid hyes.2
      have Hyes := Lib.hid hyes
      obtain ⟨hl, hbd⟩ := haveErr_ok hyes.1
      have hll : hv.length ≤ n := by omega
      have hll2 : n ≤ hv.length := by omega
      have hsl := (st_ok HP.out hl hbd k hr).1
      have hol : o.length = n := by have := hal.1; omega
      obtain ⟨Ao, co, rfl, hRo⟩ := OwnI.rd hO
      have HRo := Lib.hid hRo
      clear hk hr hneg hal hyes hO hRo hl hbd
      go_wp2_with fail
      (with_reducible refine (HD.out _ (HA.out.below HW2.out) (Rd.below HB.out HW2.out)).mono ?_)
      rintro e w3 ⟨rfl, hW⟩
      have HW3 := Lib.hid (HW2.out.trans (hW.mono HW2.out.size))
      have HR3 := Lib.hid (Rd.below HR2.out hW)
      have HRo3 := Lib.hid (Rd.below HRo.out hW)
      clear hW HD HR2 HRo
      go_wp2_with fail
      (with_reducible refine (HAl.out _ (Rd.below HB.out HW3.out) (Rd.below HC.out HW3.out)).mono ?_)
      rintro e w4 ⟨hW, b, rfl, hb⟩
      have HW4 := Lib.hid (HW3.out.trans (hW.mono HW3.out.size))
      have HR4 := Lib.hid (Rd.below HR3.out hW)
      have HRo4 := Lib.hid (Rd.below HRo3.out hW)
      have hbt : b = true := hb.2 Hyes.out
      subst hbt
      clear hW hb HAl HR3 HRo3
      have HRun := Lib.hid (blkRun_ok (n : Int) A C p hv cap capC w4 (HA.out.below HW4.out) (Rd.below HC.out HW4.out) hm hmc hm2 H0.out HH.out)
      go_wp2_with fail
      (with_reducible refine HRun.out.mono ?_)
      rintro e w5 ⟨hb5, h⟩
      have HW5 := Lib.hid (HW4.out.trans (hb5.mono HW4.out.size))
      have HR5 := Lib.hid (Rd.below HR4.out hb5)
      have HRo5 := Lib.hid (Rd.below HRo4.out hb5)
      clear hb5 HRun HR4 HRo4
      rcases h with ⟨j, x, y, hk1, hk2, hr, hneg, rfl, hOx, -⟩ | ⟨hr, rfl⟩
      · obtain rfl : j = k := one_end_ hr hneg HJ.out.2.1 HJ.out.2.2.1
        obtain ⟨m, xs, q, b', hm20, hgo, hst, hal⟩ := HQ.out.run rfl H0.out W3.out HH.out HL.out hk2 hr hneg
        have hcb : bytesOk c ∧ c.length ≤ 400 := by
          rcases HQ.out.2 with rfl | ⟨F, q, _, _, hq, rfl⟩
          · exact ⟨progY_bd (pok_of H0.out), by have := progY_len (pok_of H0.out); omega⟩
          · exact ⟨progY_bd (pok_of hq), by have := progY_len (pok_of hq); omega⟩
        have HM := Lib.hid (mrun_calls A1 c c1 C hv capC w5 HR5.out hcb.1 hcb.2 (Rd.below HC.out HW5.out) (by omega) (by rw [show hv.length = n by omega]; exact HH.out) m hm20 _ hgo hst)
        dsimp only at HM
        have hal2 := HJ.out.2.2.2
        have Hx := Lib.hid hOx
        generalize (stB p hv j).2 = a at *
        have hxl : xs.length = n := by have := hal.1; omega
        have hal' : a.length = n := by omega
        have Ha1 := Lib.hid hal
        have Ha2 := Lib.hid hal2
        clear hgo hst hal hal2 hr hneg hcb hOx HJ hsl
        obtain ⟨Ax, cx, rfl, hRx⟩ := OwnI.rd Hx.out
        have HRx := Lib.hid hRx
        clear hRx Hx
        go_wp2_with fail
        (with_reducible refine HM.out.mono ?_)
        rintro e w6 ⟨hb6, vy, rfl, hOy⟩
        have hly : (xs ++ (List.replicate 6 0).drop hv.length).length = 6 := by rw [List.length_append, List.length_drop, List.length_replicate]; omega
        obtain ⟨Ay, cy, rfl, hRy, -, hcy⟩ := Own.form intCells_len hOy
        have HW6 := Lib.hid (HW5.out.trans (hb6.mono HW5.out.size))
        have HRx6 := Lib.hid (Rd.below HRx.out hb6)
        have HRo6 := Lib.hid (Rd.below HRo5.out hb6)
        have HRt : Hid (RdI w6 Ay xs) := Lib.hid (fun hn => by
          obtain ⟨b, off, e, hb, hc⟩ := hRy (by rw [hly]; omega)
          exact ⟨b, off, e, hb, fun j x hx i hi => hc j x (by rw [List.getElem?_append_left (List.getElem?_eq_some_iff.1 hx).1]; exact hx) i hi⟩)
        rw [hly] at hcy ⊢
        clear hb6 hOy hRy HM HRx HRo5
        have HI1 := Lib.hid (alike_calls Ax Ay a xs cx cy want w6 HRx6.out HRt.out (by omega) hw32 Ha1.out)
        have HI2 := Lib.hid (fun nq => alike_calls Ax Ao a o cx co want (w6.drewN nq) (HRx6.out.drewN nq) (HRo6.out.drewN nq) (by omega) hw32 Ha2.out)
        rw [hal', hxl] at HI1
        rw [hal', hol] at HI2
        go_wp2_with fail
        (with_reducible refine HI1.out.mono ?_)
        rintro e w7 ⟨rfl, nq1, rfl⟩
        have HI3 := Lib.hid (HI2.out nq1)
        clear HI1 HI2
        go_wp2_with fail
        (with_reducible refine HI3.out.mono ?_)
        rintro e w8 ⟨rfl, nq2, rfl⟩
        clear HI3
        go_wp2_with fail
        go_ret
        exact ⟨rfl, below_dN HW6.out _⟩
      · exfalso
        have := hr k (by have := HJ.out.1; omega)
        have := HJ.out.2.2.1
        omega
  · have HM := Lib.hid (make_bad vars A B p st cap capB want w hA hB hm hmc hm' h)
    have HF := Lib.hid (fun w hA hB => do_bad vars A B C p st hv cap capB capC want w hA hB hm hmc hm' h)
    have HD := Lib.hid (fun w hA hB => made_no vars A B p st cap capB want w hA hB hm hmc hm' h)
    clear hA hB hC h
    go_enter Try.func4, Try.ntmps4
    go_wp2_with fail
    (with_reducible refine HM.out.mono ?_)
    rintro e w1 ⟨⟨x, hx, rfl⟩, hW⟩
    have HW1 := Lib.hid hW
    have q : (x != 0) = true := by rw [bne_iff_ne]; exact hx
    clear hW hx HM
    go_wp2_with fail
    (with_reducible refine (HF.out _ (HA.out.below HW1.out) (Rd.below HB.out HW1.out)).mono ?_)
    rintro e w2 ⟨⟨v, y, hy, rfl⟩, hW⟩
    have HW2 := Lib.hid (HW1.out.trans (hW.mono HW1.out.size))
    have q2 : (y != 0) = true := by rw [bne_iff_ne]; exact hy
    clear hW hy HF
    go_wp2_with fail
    (with_reducible refine (HD.out _ (HA.out.below HW2.out) (Rd.below HB.out HW2.out)).mono ?_)
    rintro e w3 ⟨rfl, hW⟩
    have HW3 := Lib.hid (HW2.out.trans (hW.mono HW2.out.size))
    clear hW HD
    go_wp2_with fail
    go_ret
    exact ⟨rfl, HW3.out⟩
end Go.Proofs.Ytmgejacndhnikaa
