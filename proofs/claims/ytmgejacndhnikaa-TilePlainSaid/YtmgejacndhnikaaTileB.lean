/- tile.solve walked. -/
import Derived.Test.YtmgejacndhnikaaTileA
import Derived.Test.YtmgejacndhnikaaAppTwo
import Derived.BigGuardPart
namespace Go.Proofs.Ytmgejacndhnikaa
set_option maxRecDepth 100000
open Go.RowKit

theorem candK_eq (l : List Term) (cs : List Int) (i : Nat) (t : Tile) : candK l cs i t = sumR cs ((belowK l i t).getD []) ((belowK l i t).isSome, t.cost) := by
  unfold candK
  cases belowK l i t <;> rfl
def SolT (l : List Term) (tiles : List Tile) (w : World) (e : Ending) (w' : World) : Prop :=
  ∃ v u, e = .returned (.tuple #[v, u]) ∧ OwnI w' w.heap.size 3 v (solK l tiles l.length).1 ∧ OwnI w' w.heap.size 3 u (solK l tiles l.length).2 ∧ Below w.heap.size w w'
set_option maxHeartbeats 16000000 in
theorem solveT_calls {vars : Int} (A B : Option Addr) (l : List Term) (tiles : List Tile) (capA capB : Nat) (w : World) (hA : RdT w A l) (hB : RdTl w B tiles) (hok : ∀ k (h : k < l.length), TOk vars k l[k]) (h16 : l.length ≤ 16) (ht : ∀ t ∈ tiles, TlOk t) (hn : tiles.length ≤ 10) :
    Calls Try.prog 81 #[.slice A l.length capA, .slice B tiles.length capB] w (SolT l tiles w) := by
  have HA := Lib.hid hA
  have HB := Lib.hid hB
  have Hok := Lib.hid hok
  have Ht := Lib.hid ht
  clear hA hB hok ht
  go_enter Try.func81, Try.ntmps81
  go_wp2
  go_loopw [6, 7, 20] (fun v6 v7 i wr => ∃ k : Nat, k ≤ l.length ∧ i = .int .i64 k ∧ OwnI wr w.heap.size 3 v6 (solK l tiles k).1 ∧ OwnI wr w.heap.size 3 v7 (solK l tiles k).2 ∧ (v7.ownBlock = none ∨ v7.ownBlock ≠ v6.ownBlock) ∧ Below w.heap.size w wr) (fun _ _ i _ => l.length - (intOf i).toNat)
  case atStart => exact ⟨0, Nat.zero_le _, rfl, Own.nil_ _ _ _, Own.nil_ _ _ _, .inl rfl, Below.refl _ _⟩
  case round =>
    obtain ⟨wo, rfl⟩ : ∃ wo : World, wo = wr := ⟨_, rfl⟩
    obtain ⟨k, hk, rfl, hO6, hO7, hd, hW⟩ := hrel
    by_cases hlt : k < l.length
    · obtain ⟨hc, hc7⟩ := solK_len l tiles k
      have Hco := Lib.hid (solK_ok Hok.out Ht.out k hk)
      obtain ⟨A6, c6, rfl, hR6⟩ := OwnI.rd hO6
      have Hn1 := Lib.hid (show (solK l tiles (k + 1)).1 = (solK l tiles k).1 ++ [(bestK l tiles (solK l tiles k).1 k).1] from rfl)
      have Hn2 := Lib.hid (show (solK l tiles (k + 1)).2 = (solK l tiles k).2 ++ [(bestK l tiles (solK l tiles k).1 k).2] from rfl)
      have HO6 := Lib.hid hO6
      have HO7 := Lib.hid hO7
      have HR6 := Lib.hid hR6
      have HW := Lib.hid hW
      have Hd := Lib.hid hd
      have hws := hW.size
      have hb1 : bnd (k + 1) ≤ 100000000000000 := Int.le_trans (bnd_mono (m := 16) (by omega)) bnd_16
      have Hb1 := Lib.hid hb1
      have Hbk := Lib.hid (show bnd k ≤ 100000000000000 from Int.le_trans (bnd_mono (m := 16) (by omega)) bnd_16)
      have Hc := Lib.hid hc
      have Hc7 := Lib.hid hc7
      have hq : ((k : Nat) : Int) < ((l.length : Nat) : Int) := by omega
      clear hO6 hO7 hR6 hW hd hc7
      rw [hc] at HO6 Hd ⊢
      clear hc
      generalize (solK l tiles k).1 = cs at *
      generalize (solK l tiles k).2 = bs at *
      go_wp2
      go_loopw [9, 10, 25] (fun b wh i wr => ∃ (m : Nat) (x y : Int), m ≤ tiles.length ∧ i = .int .i64 m ∧ b = .int .i64 x ∧ wh = .int .i64 y ∧ Hid (bestR l cs k (tiles.drop m) m (x, y) = bestK l tiles cs k) ∧ (-1 ≤ x ∧ x ≤ 100000000000000) ∧ Below wo.heap.size wo wr) (fun _ _ i _ => tiles.length - (intOf i).toNat)
      case atStart => exact ⟨0, -1, -1, Nat.zero_le _, rfl, rfl, rfl, Lib.hid (by rw [List.drop_zero]; rfl), by omega, Below.refl _ _⟩
      case round =>
        obtain ⟨w1, rfl⟩ : ∃ w1 : World, w1 = wr := ⟨_, rfl⟩
        obtain ⟨m, x, y, hm, rfl, rfl, rfl, hE, ⟨hx0, hx1⟩, hW1⟩ := hrel
        have HW1 := Lib.hid hW1
        have hws1 := hW1.size
        by_cases hlt2 : m < tiles.length
        · obtain ⟨b, off, rfl, hb, c0, c1, c2, c3⟩ := RdTl.at4 (Rd.below HB.out (HW.out.trans (hW1.mono hws))) hlt2
          have q1 : ((m : Nat) : Int) < ((tiles.length : Nat) : Int) := by omega
          have hto := Ht.out _ (List.getElem_mem hlt2)
          have Hto := Lib.hid hto
          have HE := Lib.hid (show bestR l cs k (tiles.drop (m + 1)) (m + 1) (takeK (candK l cs k tiles[m]) m (x, y)) = bestK l tiles cs k by rw [← hE.out, List.drop_eq_getElem_cons hlt2]; rfl)
          have Hcb := Lib.hid (candK_bd Hok.out hlt Hco.out hto)
          have Hbe := Lib.hid (fun w' (h : Below wo.heap.size wo w') => below_calls A l capA k tiles[m] w' (Rd.below HA.out (HW.out.trans (h.mono hws))) Hok.out hlt h16 hto)
          have Hin : Hid ((∀ z ∈ (belowK l k tiles[m]).getD [], 0 ≤ z ∧ z < k) ∧ ((belowK l k tiles[m]).getD []).length ≤ 4) := Lib.hid (by
            cases hr : belowK l k tiles[m] with
            | none => exact ⟨fun z hz => by simp at hz, by simp⟩
            | some r => exact belowK_in Hok.out hlt hr)
          rw [candK_eq] at HE Hcb
          clear hE hW1 hto
          generalize tiles[m] = t at *
          obtain ⟨to, tl, tr, tc⟩ := t
          have Hc0 := Lib.hid Hto.out.2.2.2.2
          unfold Tile.agg at Hbe
          dsimp only at c0 c1 c2 c3 HE Hcb Hbe Hc0
          have HWa := Lib.hid (HW1.out.alloc hws1 (.cells #[.int .i64 to, .int .i64 tl, .int .i64 tr, .int .i64 tc] 70))
          obtain ⟨w2, hw2⟩ : ∃ w2, w2 = w1.alloc (.cells #[.int .i64 to, .int .i64 tl, .int .i64 tr, .int .i64 tc] 70) := ⟨_, rfl⟩
          have g3 : w2.cell? ⟨w1.heap.size, 3, none⟩ = some (.int .i64 tc) := by rw [hw2]; exact cell_new _ _ _ _ rfl 3
          have hz2 : w1.heap.size < w2.heap.size := by rw [hw2]; simp
          go_wp2_with fail
          rw [← hw2] at HWa ⊢
          clear hw2 c0 c1 c2 c3
          refine (Hbe.out w2 HWa.out).mono ?_
          rintro e w3 ⟨v13, rfl, hO13, hW3⟩
          have HW3 := Lib.hid (HWa.out.trans (hW3.mono HWa.out.size))
          have g3' := (hW3.cell (p := ⟨w1.heap.size, 3, none⟩) hz2).trans g3
          obtain ⟨A13, c13, rfl, hR13⟩ := OwnI.rd hO13
          have HR13 := Lib.hid hR13
          have HRc := Lib.hid (Rd.below HR6.out HW3.out)
          clear hO13 hW3 hR13 g3
          generalize (belowK l k ⟨to, tl, tr, tc⟩).getD [] = r0 at *
          generalize (belowK l k ⟨to, tl, tr, tc⟩).isSome = ok0 at *
          have h04 : r0.length ≤ 4 := Hin.out.2
          go_wp2
          go_loopw [14, 15, 41] (fun o s i wr => ∃ (q : Nat) (ok : Bool) (sm : Int), q ≤ r0.length ∧ i = .int .i64 q ∧ o = .bool ok ∧ s = .int .i64 sm ∧ Hid (sumR cs (r0.drop q) (ok, sm) = sumR cs r0 (ok0, tc)) ∧ (-(q : Int) ≤ sm ∧ sm ≤ 99 + q * 100000000000000) ∧ wr = w3) (fun _ _ i _ => r0.length - (intOf i).toNat)
          case atStart => exact ⟨0, ok0, tc, Nat.zero_le _, rfl, rfl, rfl, Lib.hid (by rw [List.drop_zero]), by have := Hc0.out; omega, rfl⟩
          case round =>
            obtain ⟨q, ok, sm, hq2, rfl, rfl, rfl, hS, ⟨hs0, hs1⟩, rfl⟩ := hrel
            by_cases hlt3 : q < r0.length
            · obtain ⟨b2, off2, rfl, hb2, d0⟩ := RdI.at1 HR13.out hlt3
              obtain ⟨z0, z1⟩ := Hin.out.1 _ (List.getElem_mem hlt3)
              obtain ⟨j, hj⟩ := Int.eq_ofNat_of_zero_le z0
              have hjk : j < k := by omega
              obtain ⟨b3, off3, rfl, hb3, d1⟩ := RdI.at1 HRc.out (k := j) (by have := Hc.out; omega)
              have HS := Lib.hid (show sumR cs (r0.drop (q + 1)) (ok && decide (0 ≤ cs.getD j 0), sm + cs.getD j 0) = sumR cs r0 (ok0, tc) by
                rw [← hS.out, List.drop_eq_getElem_cons hlt3]
                show _ = sumR cs _ (ok && decide (0 ≤ cs.getD (r0[q]).toNat 0), sm + cs.getD (r0[q]).toNat 0)
                rw [hj, Int.toNat_natCast])
              have eg : cs[j]'(by have := Hc.out; omega) = cs.getD j 0 := by rw [List.getD_eq_getElem?_getD, List.getElem?_eq_getElem (by have := Hc.out; omega)]; rfl
              rw [eg] at d1
              obtain ⟨y0, y1⟩ := Hco.out j
              have hbk := Hbk.out
              have hy2 : cs.getD j 0 ≤ 100000000000000 := by omega
              rw [hj] at d0
              have q5 : ((q : Nat) : Int) < ((r0.length : Nat) : Int) := by omega
              have q6 : ((j : Nat) : Int) < ((k : Nat) : Int) := by omega
              clear hS hj z0 z1 eg y1
              generalize cs.getD j 0 = cj at *
              cases ok
              · go_wp2
                go_roundw
                case rel => exact ⟨q + 1, false, sm + cj, by omega, by go_num, rfl, rfl, HS, by omega, by first | rfl | trivial⟩
                case measure => simp [intOf]; omega
              · by_cases hcj : 0 ≤ cj
                · rw [decide_eq_true hcj] at HS
                  go_wp2
                  go_roundw
                  case rel => exact ⟨q + 1, true, sm + cj, by omega, by go_num, rfl, rfl, HS, by omega, by first | rfl | trivial⟩
                  case measure => simp [intOf]; omega
                · rw [decide_eq_false hcj] at HS
                  go_wp2
                  go_roundw
                  case rel => exact ⟨q + 1, false, sm + cj, by omega, by go_num, rfl, rfl, HS, by omega, by first | rfl | trivial⟩
                  case measure => simp [intOf]; omega
            · have hqe : q = r0.length := by omega
              subst hqe
              have hC : (ok, sm) = sumR cs r0 (ok0, tc) := by have := hS.out; rw [List.drop_length] at this; exact this
              have Hcb2 := Lib.hid Hcb.out.2.1
              rw [← hC] at HE Hcb2 Hcb
              have hsm1 : sm ≤ 100000000000000 := Int.le_trans Hcb2.out Hb1.out
              have Hcb3 := Lib.hid Hcb.out.2.2
              clear hS hC
              cases ok
              · have HF := Lib.hid (show bestR l cs k (tiles.drop (m + 1)) (m + 1) (x, y) = bestK l tiles cs k from HE.out)
                go_wp2
                go_roundw
                case rel => exact ⟨m + 1, x, y, by omega, by go_num, rfl, rfl, HF, by omega, HW3.out⟩
                case measure => simp [intOf]; omega
              · have hs9 : 0 ≤ sm := Hcb3.out rfl
                by_cases hx : x < 0 ∨ sm < x
                · have HF : Hid (bestR l cs k (tiles.drop (m + 1)) (m + 1) (sm, (m : Int)) = bestK l tiles cs k) := Lib.hid (by rw [← HE.out]; unfold takeK; rw [if_pos ⟨rfl, hx⟩])
                  go_wp2
                  all_goals (try (exfalso; omega; done))
                  all_goals
                    go_roundw
                    case rel => exact ⟨m + 1, sm, m, by omega, by go_num, rfl, rfl, HF, by omega, HW3.out⟩
                    case measure => simp [intOf]; omega
                · have HF : Hid (bestR l cs k (tiles.drop (m + 1)) (m + 1) (x, y) = bestK l tiles cs k) := Lib.hid (by rw [← HE.out]; unfold takeK; rw [if_neg (fun h => hx h.2)])
                  have hxa : ¬ x < 0 := fun h => hx (.inl h)
                  have hxb : ¬ sm < x := fun h => hx (.inr h)
                  go_wp2
                  go_roundw
                  case rel => exact ⟨m + 1, x, y, by omega, by go_num, rfl, rfl, HF, by omega, HW3.out⟩
                  case measure => simp [intOf]; omega
        · have hme : m = tiles.length := by omega
          subst hme
          have hbk : (x, y) = bestK l tiles cs k := by have := hE.out; rw [List.drop_length] at this; exact this
          have Hm1 := Lib.hid (show (solK l tiles (k + 1)).1 = cs ++ [x] by rw [Hn1.out, ← hbk])
          have Hm2 := Lib.hid (show (solK l tiles (k + 1)).2 = bs ++ [y] by rw [Hn2.out, ← hbk])
          have hcl : cs.length < 1000000 := by have := Hc.out; omega
          have hbl : bs.length < 1000000 := by have := Hc7.out; omega
          have HP6 := Lib.hid (OwnI.rd (Own.below HO6.out hW1))
          have H6 := Lib.hid (Own.below HO6.out hW1)
          have H7 := Lib.hid (Own.below HO7.out hW1)
          have HW9 := Lib.hid (HW.out.trans (hW1.mono hws))
          have hz9 := HW9.out.size
          clear hE hbk hW1 HP6
          go_wp2_with (first
            | (at_builtin
               refine wpList_appI2 rfl _ _ rfl w.heap.size _ cs x rfl (H6.out.alloc _) _ _ rfl _ bs (H7.out.alloc _) Hd.out (rdI_new1 _ _ _ _ rfl) hcl (by simp; omega) ?_
               intro v3 w3 hP hQ hdd hg
               have HP := Lib.hid hP; have HQ := Lib.hid hQ; have HDD := Lib.hid hdd
               have HWg := Lib.hid (below_own (HW9.out.alloc hz9 _) hg (H6.out.alloc _) (Nat.le_refl _) (by simp; omega))
               have hzg := HWg.out.size
               clear hP hQ hdd hg H6 H7)
            | (at_builtin
               refine wpList_appI2 rfl _ _ rfl w.heap.size _ bs y rfl (HQ.out.alloc _) _ _ rfl v3 (cs ++ [x]) (HP.out.alloc _) (apart_symm HDD.out) (rdI_new1 _ _ _ _ rfl) hbl (by simp; omega) ?_
               intro v4 w4 hP hQ hdd hg
               have HP4 := Lib.hid hP; have HQ4 := Lib.hid hQ; have HDD4 := Lib.hid hdd
               have HWh := Lib.hid (below_own (HWg.out.alloc hzg _) hg (HQ.out.alloc _) (Nat.le_refl _) (by simp; omega))
               clear hP hQ hdd hg))
          go_roundw
          case rel => exact ⟨k + 1, by omega, by go_num, by rw [Hm1.out]; exact HQ4.out, by rw [Hm2.out]; exact HP4.out, apart_symm HDD4.out, HWh.out⟩
          case measure => simp [intOf]; omega
    · have : k = l.length := by omega
      subst this
      have HO6 := Lib.hid hO6
      have HO7 := Lib.hid hO7
      have HW := Lib.hid hW
      clear hO6 hO7 hW hd
      go_wp2
      go_ret2
      exact ⟨_, _, rfl, HO6.out, HO7.out, HW.out⟩
end Go.Proofs.Ytmgejacndhnikaa
