/- swap.Order walked. -/
import Derived.Test.YtiphhadhbokgmaaSwapC
import Derived.Deep.LoopGhost
import Derived.BigGuardPart
namespace Go.Proofs.Ytiphhadhbokgmaa
open Go.RowKit

theorem Or.inv {n i : Nat} {G : List Nat} {mv : List (Nat × Nat)} (h : Or n i G mv) (hi : i < n) : (gN G i = i ∧ Or n (i + 1) G mv) ∨ (gN G i ≠ i ∧ ∃ m1 m2 G1, mv = (n, i) :: m1 ++ m2 ∧ Cy n i G i m1 G1 ∧ Or n (i + 1) G1 m2) := by
  cases h with
  | done => omega
  | skip _ h k => exact .inl ⟨h, k⟩
  | take _ h c k => exact .inr ⟨h, _, _, _, rfl, c, k⟩
theorem Or.nil {n : Nat} {G : List Nat} {mv : List (Nat × Nat)} (h : Or n n G mv) : mv = [] := by
  cases h with
  | done => rfl
  | skip hi _ _ => omega
  | take hi _ _ _ => omega
theorem Cy.inv {n i : Nat} {G G' : List Nat} {a : Nat} {mv : List (Nat × Nat)} (h : Cy n i G a mv G') : (gN G a = i ∧ mv = [(a, n)] ∧ G' = G.set a a) ∨ (gN G a ≠ i ∧ ∃ m1, mv = (a, gN G a) :: m1 ∧ Cy n i (G.set a a) (gN G a) m1 G') := by
  cases h with
  | last h => exact .inl ⟨h, rfl, rfl⟩
  | step h k => exact .inr ⟨h, _, rfl, k⟩
def ofN (m : Nat × Nat) : Mv := ⟨(m.1 : Int), (m.2 : Int)⟩
def OrdE (n : Int) (l : List Mv) (w : World) (e : Ending) (w' : World) : Prop :=
  (mvErr n l ≠ 0 ∧ e = .returned (.tuple #[.slice none 0 0, .int .i64 (mvErr n l)]) ∧ Below w.heap.size w w') ∨
  (mvErr n l = 0 ∧ ∃ v o, e = .returned (.tuple #[v, .int .i64 0]) ∧ OwnMv w' w.heap.size v o ∧ o.length ≤ 100 ∧ (PermF (fL n.toNat l) → ∃ mv, Or n.toNat 0 (fL n.toNat l) mv ∧ o = mv.map ofN) ∧ Below w.heap.size w w')
set_option maxRecDepth 100000 in
set_option maxHeartbeats 16000000 in
theorem order_calls (n : Int) (A : Option Addr) (l : List Mv) (cap : Nat) (w : World) (hA : RdMv w A l) (hm : l.length ≤ maxLen) :
    Calls Try.prog 16 #[.int .i64 n, .slice A l.length cap] w (OrdE n l w) := by
  have Hb := Lib.hid (build_calls n A l cap w hA hm)
  clear hA hm
  go_enter Try.func16, Try.ntmps16
  go_wp2_with fail
  refine Hb.out.mono ?_
  rintro e w1 (⟨h0, rfl, hW⟩ | ⟨h0, P, gf, gn, rfl, hS, hW⟩)
  · have HW := Lib.hid hW
    have H0 := Lib.hid h0
    have q : (mvErr n l != 0) = true := by rw [bne_iff_ne]; exact h0
    obtain ⟨x, hx⟩ : ∃ x, x = mvErr n l := ⟨_, rfl⟩
    rw [← hx] at q ⊢
    have Hx := Lib.hid hx
    clear hW h0 hx
    go_wp2
    go_ret2
    exact .inl ⟨H0.out, by rw [← Hx.out]; rfl, HW.out⟩
  · obtain ⟨m, rfl, hok⟩ := mvErr_ok h0
    rw [Int.toNat_natCast] at hS
    have m1 := hok.n1
    have m8 := hok.n8
    have H0 := Lib.hid h0
    have HW := Lib.hid hW
    have hz1 := hW.size
    have hran := fL_ran hok
    have hnfm := nf_le hran
    have hPw := hS.plt
    have hfw := (hS.fAt (j := 0) (by omega)).1
    have hkw := (hS.kAt (j := 0) (by omega)).1
    have hfB := (hS.fAt (j := 0) (by omega)).2.1
    have Hfr := Lib.hid (free_calls w.heap.size P gf gn m (fL m l) w1 hS hran m1 m8 hz1)
    clear hS hW h0 hok hran
    generalize hFe : fL m l = F at *
    have HFe := Lib.hid hFe
    clear hFe
    go_wp2_with fail
    refine Hfr.out.mono ?_
    rintro e w2 ⟨v, o, G, N, rfl, hO, hS, hG, hlen, hperm, hW2⟩
    have HO := Lib.hid hO
    have HS := Lib.hid hS
    have HG := Lib.hid hG
    have HW2 := Lib.hid (HW.out.trans hW2)
    have hz2 : w1.heap.size ≤ w2.heap.size := by
      exact hW2.size
    have Hperm := Lib.hid hperm
    obtain ⟨mv, hmv⟩ := Or.ex m 0 (Nat.zero_add m) hG
    have hml := hmv.len hG
    obtain ⟨R, hRe⟩ : ∃ R, R = o ++ mv.map ofN := ⟨_, rfl⟩
    have hRl : R.length ≤ 24 := by rw [hRe, List.length_append, List.length_map]; omega
    have HRe := Lib.hid hRe
    have Hmv := Lib.hid hmv
    have c0 := HS.out.c0
    clear hO hS hG hlen hperm hmv hml hRe hW2 Hfr
    go_wp2
    go_loopw [8, 28] (fun s8 i wr => ∃ (q : Nat) (o' : List Mv) (G' : List Nat) (N' : Nat → Int) (mv' : List (Nat × Nat)), q ≤ m ∧ i = .int .i64 q ∧ OwnMv wr w1.heap.size s8 o' ∧ Hid (SwS wr w.heap.size P gf gn m G' N') ∧ Hid (GoodG G' m) ∧ Hid (Or m q G' mv') ∧ Hid (o' ++ mv'.map ofN = R) ∧ Below w.heap.size w wr ∧ w1.heap.size ≤ wr.heap.size) (fun _ i _ => m - (intOf i).toNat)
    case atStart => exact ⟨0, o, G, N, mv, Nat.zero_le _, rfl, HO.out, HS, HG, Hmv, Lib.hid HRe.out.symm, HW2.out, hz2⟩
    case round =>
      clear HO HS HG HW2 c0 hz2
      obtain ⟨wo, rfl⟩ : ∃ wo : World, wo = wr := ⟨_, rfl⟩
      obtain ⟨q, o', G', N', mv', hq, rfl, hO, HS, HG, Ho, HR, hW, hz⟩ := hrel
      have HO := Lib.hid hO
      have HW := Lib.hid hW
      have c0 := HS.out.c0
      clear hO hW
      by_cases hlt : q < m
      · obtain ⟨f1, f2, f3, f4⟩ := HS.out.fAt hlt
        have q1 : ((q : Nat) : Int) < ((m : Nat) : Int) := by omega
        rcases Ho.out.inv hlt with ⟨he, hk⟩ | ⟨hne, ma, mb, G1, rfl, hc, hk⟩
        · rw [he] at f3
          have Hk := Lib.hid hk
          clear he hk Ho
          go_wp2
          go_roundw
          case rel => exact ⟨q + 1, o', G', N', mv', by omega, by go_num, HO.out, HS, HG, Hk, HR, HW.out, hz⟩
          case measure => simp [intOf]; omega
        · have qe : (((gN G' q : Nat) : Int) == ((q : Nat) : Int)) = false := by rw [beq_eq_false_iff_ne]; omega
          have Hc := Lib.hid hc
          have Hk := Lib.hid hk
          have Hm := Lib.hid (HG.out.mid hne)
          have Hg1 := Lib.hid (hc.good Hm.out)
          have hRl2 := HR.out
          have hol : o'.length < 1000000 := by have := congrArg List.length HR.out; rw [List.length_append] at this; omega
          have HRl := Lib.hid (congrArg List.length HR.out)
          have HOa := Lib.hid (HO.out.alloc (.cells #[.int .i64 (m : Nat), .int .i64 (q : Nat)] 51))
          have HSa := Lib.hid (HS.out.alloc (.cells #[.int .i64 (m : Nat), .int .i64 (q : Nat)] 51))
          have HWa := Lib.hid (HW.out.alloc (Nat.le_trans hz1 hz) (.cells #[.int .i64 (m : Nat), .int .i64 (q : Nat)] 51))
          clear hne hc hk hRl2 Ho
          generalize gN G' q = fq at *
          go_wp2_with (at_builtin
                       refine wpList_appMv rfl _ _ rfl w1.heap.size _ o' ⟨(m : Nat), (q : Nat)⟩ rfl HOa.out _ _ rfl (mv_new _ _ _ _ rfl) hol (by simp; omega) ?_
                       intro v3 w3 hO3 hg3 _
                       have HO3 := Lib.hid hO3
                       have HS3 := Lib.hid (HSa.out.app HOa.out hPw hfw hkw hg3)
                       have HW3 := Lib.hid (HWa.out.grown hg3 (by simp; omega) (fun k hk => by have := (World.ownsRow.lt HOa.out k hk).1; omega))
                       have hz3 : w1.heap.size ≤ w3.heap.size := by have := hg3.size; simp at this; omega
                       have c0 := HS3.out.c0
                       clear hO3 hg3)
          go_loopg [8, 10] ma.length (fun g s8 s10 wr => ∃ (a : Nat) (o2 : List Mv) (G2 : List Nat) (N2 : Nat → Int) (mr : List (Nat × Nat)), s10 = .int .i64 a ∧ OwnMv wr w1.heap.size s8 o2 ∧ Hid (SwS wr w.heap.size P gf gn m G2 N2) ∧ Hid (Cy m q G2 a mr G1) ∧ Hid (MidG m q G2 a) ∧ Hid (o2 ++ mr.map ofN = o' ++ [⟨(m : Nat), (q : Nat)⟩] ++ ma.map ofN) ∧ Below w.heap.size w wr ∧ w1.heap.size ≤ wr.heap.size ∧ mr.length ≤ g ∧ g ≤ ma.length)
          case atStart => exact ⟨q, _, G', N', ma, rfl, HO3.out, HS3, Hc, Hm, Lib.hid rfl, HW3.out, hz3, Nat.le_refl _, Nat.le_refl _⟩
          case round =>
            clear HO3 HS3 HW3 hz3 c0 HOa HSa HWa Hc Hm HS HO HW f1 f2 f3 f4 qe
            obtain ⟨a, o2, G2, N2, mr, rfl, hO, HS, Hc, Hm, HQ, hW, hz, hmr, hgm⟩ := hrel
            have HO := Lib.hid hO
            have HW := Lib.hid hW
            have c0 := HS.out.c0
            have hGl := Hm.out.ran.1
            have ham : a < m := by have := Hm.out.here.lt; omega
            have HGl := Lib.hid hGl
            have qa : ((a : Nat) : Int) < ((m : Nat) : Int) := by omega
            obtain ⟨f1, f2, f3, f4⟩ := HS.out.fAt ham
            have hol2 : o2.length < 1000000 := by
              have h1 := congrArg List.length HQ.out
              have h2 := HRl.out
              simp at h1 h2; omega
            clear hO hW hGl
            rcases Hc.out.inv with ⟨he, rfl, rfl⟩ | ⟨hne, mr1, rfl, hc⟩
            · rw [he] at f3
              have qb : (((q : Nat) : Int) != ((q : Nat) : Int)) = false := by simp
              have HOa := Lib.hid (HO.out.alloc (.cells #[.int .i64 (a : Nat), .int .i64 (m : Nat)] 51))
              have HSa := Lib.hid (HS.out.alloc (.cells #[.int .i64 (a : Nat), .int .i64 (m : Nat)] 51))
              have HWa := Lib.hid (HW.out.alloc (Nat.le_trans hz1 hz) (.cells #[.int .i64 (a : Nat), .int .i64 (m : Nat)] 51))
              have HR2 : Hid ((o2 ++ [⟨(a : Nat), (m : Nat)⟩]) ++ mb.map ofN = R) := Lib.hid (by
                have h1 := HQ.out
                have h2 := HR.out
                rw [show [(a, m)].map ofN = [⟨(a : Nat), (m : Nat)⟩] from rfl] at h1
                rw [h1, ← h2]
                simp [ofN])
              clear he Hc
              go_wp2_with (at_builtin
                           refine wpList_appMv rfl _ _ rfl w1.heap.size _ o2 ⟨(a : Nat), (m : Nat)⟩ rfl HOa.out _ _ rfl (mv_new _ _ _ _ rfl) hol2 (by simp; omega) ?_
                           intro v3 w3 hO3 hg3 _
                           have HO3 := Lib.hid hO3
                           have HS3 := Lib.hid (HSa.out.app HOa.out hPw hfw hkw hg3)
                           have HW3 := Lib.hid (HWa.out.grown hg3 (by simp; omega) (fun k hk => by have := (World.ownsRow.lt HOa.out k hk).1; omega))
                           have hz3 : w1.heap.size ≤ w3.heap.size := by have := hg3.size; simp at this; omega
                           have c0 := HS3.out.c0
                           obtain ⟨a1, a2, a3, a4⟩ := HS3.out.fAt ham
                           have HS4 := Lib.hid (HS3.out.setF HGl.out ham a)
                           have HO4 := Lib.hid (own_farC HO3.out (p := ⟨gf, a, none⟩) hfw (.int .i64 (a : Nat)))
                           have HW4 := Lib.hid (HW3.out.setCell (p := ⟨gf, a, none⟩) hfB (.int .i64 (a : Nat)))
                           have hz4 : w1.heap.size ≤ (w3.setCell ⟨gf, a, none⟩ (.int .i64 (a : Nat))).heap.size := by simp [World.setCell]; exact hz3
                           clear hO3 hg3)
              go_roundw
              case rel => exact ⟨q + 1, _, _, N2, mb, by omega, by go_num, HO4.out, HS4, Hg1, Hk, HR2, HW4.out, hz4⟩
              case measure => simp [intOf]; omega
            · have qb : (((gN G2 a : Nat) : Int) != ((q : Nat) : Int)) = true := by rw [bne_iff_ne]; omega
              have Hm2 := Lib.hid (Hm.out.next hne)
              have Hc2 := Lib.hid hc
              have hfm : gN G2 a < m := Hm.out.ran.2 a ham
              have HQ2 : Hid ((o2 ++ [⟨(a : Nat), (gN G2 a : Nat)⟩]) ++ mr1.map ofN = o' ++ [⟨(m : Nat), (q : Nat)⟩] ++ ma.map ofN) := Lib.hid (by
                rw [← HQ.out]; simp [ofN])
              clear hne hc Hc Hm HQ
              generalize gN G2 a = f at *
              have HOa := Lib.hid (HO.out.alloc (.cells #[.int .i64 (a : Nat), .int .i64 (f : Nat)] 51))
              have HSa := Lib.hid (HS.out.alloc (.cells #[.int .i64 (a : Nat), .int .i64 (f : Nat)] 51))
              have HWa := Lib.hid (HW.out.alloc (Nat.le_trans hz1 hz) (.cells #[.int .i64 (a : Nat), .int .i64 (f : Nat)] 51))
              simp only [List.length_cons] at hmr
              go_wp2_with (at_builtin
                           refine wpList_appMv rfl _ _ rfl w1.heap.size _ o2 ⟨(a : Nat), (f : Nat)⟩ rfl HOa.out _ _ rfl (mv_new _ _ _ _ rfl) hol2 (by simp; omega) ?_
                           intro v3 w3 hO3 hg3 _
                           have HO3 := Lib.hid hO3
                           have HS3 := Lib.hid (HSa.out.app HOa.out hPw hfw hkw hg3)
                           have HW3 := Lib.hid (HWa.out.grown hg3 (by simp; omega) (fun k hk => by have := (World.ownsRow.lt HOa.out k hk).1; omega))
                           have hz3 : w1.heap.size ≤ w3.heap.size := by have := hg3.size; simp at this; omega
                           have c0 := HS3.out.c0
                           obtain ⟨a1, a2, a3, a4⟩ := HS3.out.fAt ham
                           have HS4 := Lib.hid (HS3.out.setF HGl.out ham a)
                           have HO4 := Lib.hid (own_farC HO3.out (p := ⟨gf, a, none⟩) hfw (.int .i64 (a : Nat)))
                           have HW4 := Lib.hid (HW3.out.setCell (p := ⟨gf, a, none⟩) hfB (.int .i64 (a : Nat)))
                           have hz4 : w1.heap.size ≤ (w3.setCell ⟨gf, a, none⟩ (.int .i64 (a : Nat))).heap.size := by simp [World.setCell]; exact hz3
                           clear hO3 hg3)
              go_roundg mr1.length
              case measure => omega
              case rel => exact ⟨f, _, _, N2, mr1, rfl, HO4.out, HS4, Hc2, Hm2, HQ2, HW4.out, hz4, Nat.le_refl _, by omega⟩
      · have hqe : q = m := by omega
        subst hqe
        have hnil := Ho.out.nil
        subst hnil
        have HoR : Hid (o' = R) := Lib.hid (by have := HR.out; simpa using this)
        clear Ho HR
        go_wp2
        go_ret2
        refine .inr ⟨H0.out, _, o', rfl, HO.out.base_ hz1, by rw [HoR.out]; omega, fun hp => ?_, HW.out⟩
        rw [Int.toNat_natCast, HFe.out] at hp ⊢
        obtain ⟨h1, h2⟩ := Hperm.out hp
        exact ⟨mv, by rw [← h2]; exact Hmv.out, by rw [HoR.out, HRe.out, h1]; rfl⟩
end Go.Proofs.Ytiphhadhbokgmaa
