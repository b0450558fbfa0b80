/- swap.state.free walked. -/
import Derived.Test.YtiphhadhbokgmaaSwapQ
import Derived.Deep.LoopGhost
import Derived.BigGuardPart
namespace Go.Proofs.Ytiphhadhbokgmaa
open Go.RowKit

def FrE (B P gf gn n : Nat) (F : List Nat) (w : World) (e : Ending) (w' : World) : Prop :=
  ∃ v o G N, e = .returned v ∧ OwnMv w' w.heap.size v o ∧ SwS w' B P gf gn n G N ∧ GoodG G n ∧ o.length + nf G ≤ nf F ∧ (PermF F → o = [] ∧ G = F) ∧ Below B w w'
set_option maxRecDepth 100000 in
set_option maxHeartbeats 16000000 in
theorem free_calls (B P gf gn n : Nat) (F : List Nat) (w : World) (hS : SwS w B P gf gn n F (fun r => ((cntG F r n : Nat) : Int))) (hF : Ran F n) (n1 : 1 ≤ n) (n8 : n ≤ 8) (hB : B ≤ w.heap.size) :
    Calls Try.prog 34 #[.pointer (some ⟨P, 0, none⟩)] w (FrE B P gf gn n F w) := by
  have HS := Lib.hid hS
  have HF := Lib.hid (FrI.start hF n8)
  have hnf := nf_le hF
  have hPw := hS.plt
  have hfw := (hS.fAt (j := 0) (by omega)).1
  have hkw := (hS.kAt (j := 0) (by omega)).1
  have hfB := (hS.fAt (j := 0) (by omega)).2.1
  have hkB := (hS.kAt (j := 0) (by omega)).2.1
  clear hS hF
  go_enter Try.func34, Try.ntmps34
  go_wp2
  go_loopg [3, 4] 100 (fun g s3 s4 wr => ∃ (i : Nat) (o : List Mv) (G : List Nat) (N : Nat → Int), s4 = .int .i64 i ∧ i ≤ n ∧ OwnMv wr w.heap.size s3 o ∧ SwS wr B P gf gn n G N ∧ Hid (FrI F n G N o i) ∧ Below B w wr ∧ w.heap.size ≤ wr.heap.size ∧ nf G * 9 + (n - i) ≤ g ∧ g ≤ 100)
  case atStart => exact ⟨0, [], F, _, rfl, Nat.zero_le _, Own.nil_ _ _ _, HS.out, HF, Below.refl _ _, Nat.le_refl _, by omega, by omega⟩
  case round =>
    clear HS HF
    obtain ⟨w1, rfl⟩ : ∃ w1 : World, w1 = wr := ⟨_, rfl⟩
    obtain ⟨i, o, G, N, rfl, hi, hO, hS, hI, hW, hzw, hg, hg1⟩ := hrel
    have HO := Lib.hid hO
    have HS := Lib.hid hS
    have HW := Lib.hid hW
    have c0 := hS.c0
    have c1 := hS.c1
    have Hg := Lib.hid hg
    clear hO hS hW hg
    by_cases hlt : i < n
    · obtain ⟨f1, f2, f3, f4⟩ := HS.out.fAt hlt
      obtain ⟨k1, k2, k3, k4⟩ := HS.out.kAt hlt
      have q1 : ((i : Nat) : Int) < ((n : Nat) : Int) := by omega
      have hfn : gN G i < n := hI.out.ran.2 i hlt
      obtain ⟨f, hfe⟩ : ∃ f, gN G i = f := ⟨_, rfl⟩
      have Hfe := Lib.hid hfe
      rw [hfe] at f3 hfn
      by_cases hfi : f = i
      · have Hs := Lib.hid (hI.out.skip (.inl (Hfe.out.trans hfi)))
        have qe : (((f : Nat) : Int) == ((i : Nat) : Int)) = true := by rw [beq_iff_eq]; omega
        clear hfe hI hfi
        go_wp2
        go_roundg (nf G * 9 + (n - (i + 1)))
        case measure => have := Hg.out; omega
        case rel => exact ⟨i + 1, o, G, N, by go_num, by omega, HO.out, HS.out, Hs, HW.out, hzw, Nat.le_refl _, by have := Hg.out; omega⟩
      · have qe : (((f : Nat) : Int) == ((i : Nat) : Int)) = false := by rw [beq_eq_false_iff_ne]; omega
        obtain ⟨nb0, nb1⟩ := hI.out.bd i hlt
        by_cases hNi : 0 < N i
        · have Hs := Lib.hid (hI.out.skip (.inr hNi))
          have hNi' : ¬ (N i ≤ 0) := by omega
          clear hfe hI hfi nb0 nb1
          generalize N i = ni at *
          go_wp2
          all_goals (try (exfalso; omega; done))
          go_roundg (nf G * 9 + (n - (i + 1)))
          case measure => have := Hg.out; omega
          case rel => exact ⟨i + 1, o, G, N, by go_num, by omega, HO.out, HS.out, Hs, HW.out, hzw, Nat.le_refl _, by have := Hg.out; omega⟩
        · have hni : NF G i := fun e => hfi (Hfe.out.symm.trans e)
          have Ht := Lib.hid (hI.out.take n8 hni (by omega) Hfe.out)
          have hnfG : nf G ≤ nf F := by have := hI.out.len; omega
          have hbf := hI.out.bd f hfn
          have hol : o.length < 1000000 := by have := hI.out.len; omega
          have hGl := hI.out.ran.1
          have Hnf : Hid (nf (redG n G i f n) + 1 ≤ nf G) := Lib.hid (by
            have a := Ht.out.len
            have hnfs : nf (redG n G i f n) + 1 = nf G := by
              rw [← nf_set hni]
              congr 1
              refine nf_congr fun r => ?_
              rw [nf_set_iff hni.lt]
              by_cases hr : r < n
              · unfold NF
                rw [red_at hr]
                by_cases e : r = i
                · rw [if_pos e]; simp [e]
                · rw [if_neg e]
                  by_cases h2 : r < n ∧ gN G r = f ∧ r ≠ f
                  · rw [if_pos h2]
                    exact ⟨fun _ => ⟨fun e2 => h2.2.2 (e2.symm.trans h2.2.1), e⟩, fun _ e2 => e e2.symm⟩
                  · rw [if_neg h2]; simp [e]
              · constructor
                · intro h1; have := h1.lt; unfold redG at this; rw [mkG_len] at this; omega
                · intro h1; have := h1.1.lt; omega
            omega)
          have HGl := Lib.hid hGl
          have HN0 := Lib.hid hNi
          have hNf : N f ≤ 8 ∧ -64 ≤ N f := by omega
          have HOa := Lib.hid (HO.out.alloc (.cells #[.int .i64 (i : Nat), .int .i64 (f : Nat)] 51))
          have HSa := Lib.hid (HS.out.alloc (.cells #[.int .i64 (i : Nat), .int .i64 (f : Nat)] 51))
          have HWa := Lib.hid (HW.out.alloc (Nat.le_trans hB hzw) (.cells #[.int .i64 (i : Nat), .int .i64 (f : Nat)] 51))
          have hNi2 : N i ≤ 0 := by omega
          clear hfe hI hfi nb0 nb1 hGl hNi hbf
          generalize hNie : N i = ni at *
          clear hNie
          go_wp2_with (at_builtin
                       refine wpList_appMv rfl _ _ rfl w.heap.size _ o ⟨(i : Nat), (f : Nat)⟩ rfl HOa.out _ _ rfl (mv_new _ _ _ _ rfl) hol (by simp; omega) ?_
                       intro v3 w3 hO3 hg3 _
                       have HO3 := Lib.hid hO3
                       have HS3 := Lib.hid (HSa.out.app HOa.out hPw hfw hkw hg3)
                       have HW3 := Lib.hid (HWa.out.grown hg3 (by simp; omega) (fun k hk => by have := (World.ownsRow.lt HOa.out k hk).1; omega))
                       have hz3 : w.heap.size ≤ w3.heap.size := by have := hg3.size; simp at this; omega
                       have c0 := HS3.out.c0
                       have c1 := HS3.out.c1
                       obtain ⟨a1, a2, a3, a4⟩ := HS3.out.fAt hlt
                       obtain ⟨b1, b2, b3, b4⟩ := HS3.out.kAt hfn
                       have HS4 := Lib.hid (HS3.out.setF HGl.out hlt i)
                       have HO4 := Lib.hid (own_farC HO3.out (p := ⟨gf, i, none⟩) hfw (.int .i64 (i : Nat)))
                       have HW4 := Lib.hid (HW3.out.setCell (p := ⟨gf, i, none⟩) hfB (.int .i64 (i : Nat)))
                       have HS5 := Lib.hid (HS4.out.setN hfn (N f - 1))
                       have HO5 := Lib.hid (own_farC HO4.out (p := ⟨gn, f, none⟩) hkw (.int .i64 (N f - 1)))
                       have HW5 := Lib.hid (HW4.out.setCell (p := ⟨gn, f, none⟩) hkB (.int .i64 (N f - 1)))
                       have e0 := HS4.out.c0
                       have e1 := HS4.out.c1
                       obtain ⟨g1, g2, g3, g4⟩ := HS4.out.kAt hfn
                       have d0 := HS5.out.c0
                       clear hO3 hg3)
          have HSt : Hid (SwS ((w3.setCell ⟨gf, i, none⟩ (.int .i64 (i : Nat))).setCell ⟨gn, f, none⟩ (.int .i64 (N f - 1))) B P gf gn n (redG n G i f 0) (redN G N i f 0)) := Lib.hid (HS5.out.congr (fun r hr => redG_zero HGl.out hlt r hr) (fun r _ => by
            unfold redN
            show (if r = f then N f - 1 else N r) = if r = f then N f - 1 - ((0 : Nat) : Int) else N r
            simp))
          have hz5 : w.heap.size ≤ ((w3.setCell ⟨gf, i, none⟩ (.int .i64 (i : Nat))).setCell ⟨gn, f, none⟩ (.int .i64 (N f - 1))).heap.size := by simp [World.setCell]; exact hz3
          clear HS3 HS4 HS5 HO3 HO4 HW3 HW4 c0 c1 a1 a2 a3 a4 b1 b2 b3 b4 e0 e1 g1 g2 g3 g4 HOa HSa HWa d0
          generalize (w3.setCell ⟨gf, i, none⟩ (.int .i64 (i : Nat))).setCell ⟨gn, f, none⟩ (.int .i64 (N f - 1)) = w5 at *
          go_loopw [64] (fun jj wr => ∃ j : Nat, j ≤ n ∧ jj = .int .i64 j ∧ Hid (SwS wr B P gf gn n (redG n G i f j) (redN G N i f j)) ∧ Hid (OwnMv wr w.heap.size v3 (o ++ [⟨(i : Nat), (f : Nat)⟩])) ∧ Hid (Below B w wr) ∧ w.heap.size ≤ wr.heap.size) (fun jj _ => n - (intOf jj).toNat)
          case atStart => exact ⟨0, Nat.zero_le _, rfl, HSt, HO5, HW5, hz5⟩
          case round =>
            clear HSt HO5 HW5 hz5
            obtain ⟨j, hj, rfl, HS, HO, HW, hz⟩ := hrel
            have c0 := HS.out.c0
            have c1 := HS.out.c1
            by_cases hlj : j < n
            · have q2 : ((j : Nat) : Int) < ((n : Nat) : Int) := by omega
              obtain ⟨a1, a2, a3, a4⟩ := HS.out.fAt hlj
              obtain ⟨k, hke⟩ : ∃ k, gN (redG n G i f j) j = k := ⟨_, rfl⟩
              have Hke := Lib.hid hke
              rw [hke] at a3
              have Hka : Hid (k = if j = i then i else gN G j) := Lib.hid (by
                rw [← Hke.out, red_at hlj]
                by_cases e : j = i
                · rw [if_pos e, if_pos e]
                · rw [if_neg e, if_neg e, if_neg (by omega)])
              by_cases ht : j ≠ k ∧ k = f
              · have hji : j ≠ i := fun e => by have := Hka.out; rw [if_pos e] at this; exact ht.1 (e.trans this.symm)
                have hgj : gN G j = k := by have := Hka.out; rw [if_neg hji] at this; exact this.symm
                obtain ⟨rt1, rt2⟩ := red_take (N := N) (i := i) (f := f) hlj hji (by rw [hgj]; exact fun h => ht.1 h.symm) (hgj.trans ht.2)
                obtain ⟨b1, b2, b3, b4⟩ := HS.out.kAt hfn
                have hrl : (redG n G i f j).length = n := mkG_len _ _
                have HSf := Lib.hid (HS.out.setF hrl hlj i)
                obtain ⟨g1, g2, g3, g4⟩ := HSf.out.kAt hfn
                have e0 := HSf.out.c0
                have e1 := HSf.out.c1
                have hrn : redN G N i f j f = N f - 1 - ((cntP (redP G i f) j : Nat) : Int) := by unfold redN; rw [if_pos rfl]
                have hcle := cntP_le (redP G i f) j
                have hbd : -100 ≤ redN G N i f j f ∧ redN G N i f j f ≤ 8 := by rw [hrn]; omega
                have HSn : Hid (SwS ((wr.setCell ⟨gf, j, none⟩ (.int .i64 (i : Nat))).setCell ⟨gn, f, none⟩ (.int .i64 (redN G N i f j f - 1))) B P gf gn n (redG n G i f (j + 1)) (redN G N i f (j + 1))) := Lib.hid ((HSf.out.setN hfn _).congr rt1 (fun r _ => rt2 r))
                have HOn := Lib.hid (own_farC (own_farC HO.out (p := ⟨gf, j, none⟩) hfw (.int .i64 (i : Nat))) (p := ⟨gn, f, none⟩) hkw (.int .i64 (redN G N i f j f - 1)))
                have HWn := Lib.hid ((HW.out.setCell (p := ⟨gf, j, none⟩) hfB (.int .i64 (i : Nat))).setCell (p := ⟨gn, f, none⟩) hkB (.int .i64 (redN G N i f j f - 1)))
                have hzn : w.heap.size ≤ ((wr.setCell ⟨gf, j, none⟩ (.int .i64 (i : Nat))).setCell ⟨gn, f, none⟩ (.int .i64 (redN G N i f j f - 1))).heap.size := by simp [World.setCell]; exact hz
                have qa : (((j : Nat) : Int) != ((k : Nat) : Int)) = true := by rw [bne_iff_ne]; have := ht.1; omega
                have qb : (((k : Nat) : Int) == ((f : Nat) : Int)) = true := by rw [beq_iff_eq]; have := ht.2; omega
                have qfn : ((f : Nat) : Int) < ((n : Nat) : Int) := by omega
                clear hke ht hji hgj rt1 rt2 hrl hrn hcle b1 b2 b3 b4 HS Hka
                generalize redN G N i f j f = nj at *
                go_wp2
                go_roundw
                case rel => exact ⟨j + 1, by omega, by go_num, HSn, HOn, HWn, hzn⟩
                case measure => simp [intOf]; omega
              · have hsk : j = i ∨ gN G j = j ∨ gN G j ≠ f := by
                  by_cases e : j = i
                  · exact .inl e
                  · have := Hka.out
                    rw [if_neg e] at this
                    rw [← this]
                    by_cases e2 : k = j
                    · exact .inr (.inl e2)
                    · exact .inr (.inr fun e3 => ht ⟨fun h => e2 h.symm, e3⟩)
                obtain ⟨rs1, rs2⟩ := red_skip (n := n) (N := N) hsk
                have HSn : Hid (SwS wr B P gf gn n (redG n G i f (j + 1)) (redN G N i f (j + 1))) := Lib.hid (HS.out.congr rs1 (fun r _ => rs2 r))
                have hcs : (((j : Nat) : Int) != ((k : Nat) : Int)) = false ∨ ((((j : Nat) : Int) != ((k : Nat) : Int)) = true ∧ (((k : Nat) : Int) == ((f : Nat) : Int)) = false) := by
                  by_cases e : j = k
                  · exact .inl (by rw [bne_eq_false_iff_eq]; omega)
                  · exact .inr ⟨by rw [bne_iff_ne]; omega, by rw [beq_eq_false_iff_ne]; intro h; exact ht ⟨e, by omega⟩⟩
                clear hke ht hsk rs1 rs2 Hka HS
                rcases hcs with qa | ⟨qa, qb⟩
                all_goals
                  go_wp2
                  go_roundw
                  case rel => exact ⟨j + 1, by omega, by go_num, HSn, HO, HW, hz⟩
                  case measure => simp [intOf]; omega
            · have hje : j = n := by omega
              subst hje
              go_wp2
              go_roundg (nf (redG j G i f j) * 9 + (j - 0))
              case measure => have := Hg.out; have := Hnf.out; omega
              case rel => exact ⟨0, _, _, _, by go_num, Nat.zero_le _, HO.out, HS.out, Ht, HW.out, hz, Nat.le_refl _, by have := Hg.out; have := Hnf.out; omega⟩
    · have hie : i = n := by omega
      subst hie
      have Hd := Lib.hid hI.out.done
      have Hl := Lib.hid hI.out.len
      have Hp := Lib.hid hI.out.perm
      clear hI
      go_wp2
      go_ret
      exact ⟨_, o, G, N, rfl, HO.out, HS.out, Hd.out, Hl.out, Hp.out, HW.out⟩
end Go.Proofs.Ytiphhadhbokgmaa
