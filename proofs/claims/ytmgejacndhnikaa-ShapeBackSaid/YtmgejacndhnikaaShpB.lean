/- shape.size walked. -/
import Derived.Test.YtmgejacndhnikaaShpA
namespace Go.Proofs.Ytmgejacndhnikaa
set_option maxRecDepth 100000
open Go.RowKit

set_option maxHeartbeats 16000000 in
theorem size_calls : ∀ (n d deep : Nat), d < n → 1 ≤ deep → deep ≤ 6 → ∀ (A : Option Addr) (l : List Shp) (cap : Nat) (w : World), RdSh w d A l → l.length ≤ 2199023255552 →
    Calls Try.prog 111 #[.slice A l.length cap, .int .i64 (deep : Nat)] w (SizeE d deep l w) := by
  intro n
  induction n with
  | zero => intro d deep h; omega
  | succ n ih =>
    intro d deep hn h1 h6 A l cap w hA hl
    have HA := Lib.hid hA
    have IH := Lib.hid ih
    have b1 := bM_lo deep
    have b2 := bM_hi h1
    clear hA ih
    by_cases hx : 8 < l.length ∨ 5 < deep
    · have HN : Hid (l.length ≤ 8 → deep ≤ 5 → stepsL d l ≤ 0 ∧ cntL d l ≤ l.length) := Lib.hid (fun h2 h3 => by omega)
      unfold SizeE
      generalize bM deep = bm at *
      by_cases h8 : 8 < l.length
      · have q : decide ((8 : Int) < ((l.length : Nat) : Int)) = true := decide_eq_true (by omega)
        clear hx h8
        go_enter Try.func111, Try.ntmps111
        go_wp2
        go_ret3
        exact ⟨Below.refl _ _, l.length, 0, deep, rfl, by omega, by omega, fun _ => rfl, Nat.le_refl _, h6, HN.out⟩
      · have q : decide ((8 : Int) < ((l.length : Nat) : Int)) = false := decide_eq_false (by omega)
        have q2 : decide ((5 : Int) < ((deep : Nat) : Int)) = true := decide_eq_true (by omega)
        clear hx h8
        go_enter Try.func111, Try.ntmps111
        go_wp2
        go_ret3
        exact ⟨Below.refl _ _, l.length, 0, deep, rfl, by omega, by omega, fun _ => rfl, Nat.le_refl _, h6, HN.out⟩
    · have q1 : decide ((8 : Int) < ((l.length : Nat) : Int)) = false := decide_eq_false (by omega)
      have q2 : decide ((5 : Int) < ((deep : Nat) : Int)) = false := decide_eq_false (by omega)
      have h8 : l.length ≤ 8 := by omega
      have h5 : deep ≤ 5 := by omega
      obtain ⟨kS, hk1, hk2, hk3⟩ := kS_of h5
      have e5 := bM_succ h5
      have b5 := bM_lo (deep + 1)
      unfold SizeE at IH ⊢
      have HK1 := Lib.hid hk1
      clear hx hk1
      generalize hb5 : bM (deep + 1) = c5 at *
      rw [e5] at b1 b2 ⊢
      clear e5
      obtain ⟨un, hun⟩ : ∃ un, un = 4398046511104 + 2 * kS := ⟨_, rfl⟩
      have Hb5 := Lib.hid hb5
      clear hb5
      go_enter Try.func111, Try.ntmps111
      go_wp2
      go_loopw [7, 8, 9, 31] (fun mv sv tv i wr => ∃ (j m s t : Nat), j ≤ l.length ∧ mv = .int .i64 (m : Nat) ∧ sv = .int .i64 (s : Nat) ∧ tv = .int .i64 (t : Nat) ∧ i = .int .i64 (j : Nat) ∧ m ≤ l.length + j * (2 * c5) ∧ s ≤ j * un ∧ deep ≤ t ∧ t ≤ 6 ∧ Hid (m ≤ 8 → t ≤ 5 → stepsL d (l.take j) ≤ s ∧ l.length + subL d (l.take j) ≤ m) ∧ Hid (Below w.heap.size w wr)) (fun _ _ _ i _ => l.length - (intOf i).toNat)
      case atStart => exact ⟨0, l.length, 0, deep, Nat.zero_le _, rfl, rfl, rfl, rfl, by omega, by omega, Nat.le_refl _, h6, Lib.hid (fun _ _ => by rw [List.take_zero, stepsL_nil, subL_nil]; omega), Lib.hid (Below.refl _ _)⟩
      case round =>
        obtain ⟨j, m, s, t, hj, rfl, rfl, rfl, rfl, hm, hs, ht1, ht2, HJ, HW⟩ := hrel
        by_cases hlt : j < l.length
        · obtain ⟨d', hd, b, off, A1, c1, A2, c2, A3, c3, rfl, hb, e0, e1, e2, e3, e4, -, r2, r3, bc, bt, be⟩ := RdSh.at_ HA.out hlt
          have HS : Hid (stepsL d (l.take (j + 1)) = stepsL d (l.take j) + (l[j].code.length + stepsL d' l[j].thn + stepsL d' l[j].els)) := Lib.hid (by rw [hd]; exact stepsL_take hlt)
          have HSu : Hid (subL d (l.take (j + 1)) = subL d (l.take j) + (cntL d' l[j].thn + cntL d' l[j].els)) := Lib.hid (by rw [hd]; exact subL_take hlt)
          have hdn : d' < n := by omega
          rw [← HW.out.cell hb] at e0 e1 e2 e3 e4
          have hbl : b < wr.heap.size := by have := HW.out.size; omega
          have R2 := Lib.hid r2
          have R3 := Lib.hid r3
          have q3 : ((j : Nat) : Int) < ((l.length : Nat) : Int) := by omega
          clear hd r2 r3
          generalize l[j] = x at *
          obtain ⟨kind, test, code, thn, els⟩ := x
          dsimp only [Shp.kind, Shp.test, Shp.code, Shp.thn, Shp.els] at *
          have em : (j + 1) * (2 * c5) = j * (2 * c5) + 2 * c5 := Nat.succ_mul _ _
          have em2 : (j + 1) * (2 * c5) ≤ 8 * (2 * c5) := Nat.mul_le_mul_right _ (by omega)
          have es : (j + 1) * un = j * un + un := Nat.succ_mul _ _
          have es2 : (j + 1) * un ≤ 8 * un := Nat.mul_le_mul_right _ (by omega)
          generalize hgm : (j + 1) * (2 * c5) = gm' at *
          have Hgm := Lib.hid hgm
          clear hgm
          generalize j * (2 * c5) = gm at *
          generalize hgs : (j + 1) * un = gs' at *
          have Hgs := Lib.hid hgs
          clear hgs
          generalize j * un = gs at *
          have u9 : IntKind.i64.wrap ((s : Int) + (code.length : Int)) = (s : Int) + (code.length : Int) := IntWalk.i64_in _ (by omega)
          have HW1 := Lib.hid (HW.out.alloc HW.out.size (.cells #[.int .i64 kind, .int .i64 test, .slice A1 code.length c1, .slice A2 thn.length c2, .slice A3 els.length c3] 59))
          have HW2 := Lib.hid (HW1.out.alloc HW1.out.size (.cells #[.slice A2 thn.length c2, .slice A3 els.length c3] 57))
          have HZ1 := Lib.hid (heap_alloc_new (wr.alloc (.cells #[.int .i64 kind, .int .i64 test, .slice A1 code.length c1, .slice A2 thn.length c2, .slice A3 els.length c3] 59)) (.cells #[.slice A2 thn.length c2, .slice A3 els.length c3] 57))
          have hszz : (wr.alloc (.cells #[.int .i64 kind, .int .i64 test, .slice A1 code.length c1, .slice A2 thn.length c2, .slice A3 els.length c3] 59)).heap.size = wr.heap.size + 1 := by simp
          rw [hszz] at HZ1
          clear hszz
          go_wp2
          obtain ⟨Z, hZ⟩ : ∃ Z, Z = wr.heap.size + 1 := ⟨_, rfl⟩
          rw [← hZ] at HZ1 ⊢
          clear hZ e0 e1 e2 e3 e4 HW HW1
          obtain ⟨P0, hP0⟩ : ∃ P0, P0 = stepsL d (l.take j) + code.length := ⟨_, rfl⟩
          obtain ⟨U0, hU0⟩ : ∃ U0, U0 = l.length + subL d (l.take j) := ⟨_, rfl⟩
          have HJ0 : Hid (m ≤ 8 → t ≤ 5 → P0 ≤ s + code.length ∧ U0 ≤ m) := Lib.hid (fun h1 h2 => by rw [hP0, hU0]; have := HJ.out h1 h2; omega)
          have HP0 := Lib.hid hP0
          have HU0 := Lib.hid hU0
          clear hP0 HJ hU0
          have hk1 := HK1.out
          go_loopw [7, 8, 9, 46] (fun mv sv tv i wr => ∃ (i' m' s' t' : Nat), i' ≤ 2 ∧ mv = .int .i64 (m' : Nat) ∧ sv = .int .i64 (s' : Nat) ∧ tv = .int .i64 (t' : Nat) ∧ i = .int .i64 (i' : Nat) ∧ m' ≤ m + i' * c5 ∧ s' ≤ s + code.length + i' * kS ∧ m ≤ m' ∧ deep ≤ t' ∧ t' ≤ 6 ∧ t ≤ t' ∧ Hid (m' ≤ 8 → t' ≤ 5 → P0 + (if i' = 0 then 0 else if i' = 1 then stepsL d' thn else (stepsL d' thn + stepsL d' els)) ≤ s' ∧ U0 + (if i' = 0 then 0 else if i' = 1 then cntL d' thn else (cntL d' thn + cntL d' els)) ≤ m') ∧ Hid (Below w.heap.size w wr) ∧ Hid (wr.heap[Z]? = some (.cells #[.slice A2 thn.length c2, .slice A3 els.length c3] 57 (0, 0)))) (fun _ _ _ i _ => 2 - (intOf i).toNat)
          case atStart => exact ⟨0, m, s + code.length, t, by omega, rfl, by go_num, rfl, rfl, by omega, by omega, by omega, by omega, by omega, by omega, Lib.hid (by simpa using HJ0.out), HW2, HZ1⟩
          case round =>
            clear HW2 HZ1 HJ0
            obtain ⟨i', m', s', t', hi, rfl, rfl, rfl, rfl, hm', hs', hmm, hd1, hd2, hd3, HJ, HW, HZ⟩ := hrel
            have hi3 : i' = 0 ∨ i' = 1 ∨ i' = 2 := by omega
            rcases hi3 with rfl | rfl | rfl
            · have z0 : wr.cell? ⟨Z, 0, none⟩ = some (.slice A2 thn.length c2) := cell_h HZ.out 0
              have hZl := lt_h HZ.out
              by_cases h0 : thn.length = 0
              · have q0 : decide ((0 : Int) < ((thn.length : Nat) : Int)) = false := decide_eq_false (by omega)
                have hq : thn = [] := List.eq_nil_of_length_eq_zero h0
                have HJ2 : Hid (m' ≤ 8 → t' ≤ 5 → P0 + stepsL d' thn ≤ s' ∧ U0 + cntL d' thn ≤ m') := Lib.hid (fun h1 h2 => by have := HJ.out h1 h2; rw [hq, stepsL_nil, cntL_nil]; simp at this ⊢; omega)
                clear hq
                go_wp2
                go_roundw
                case rel => exact ⟨1, m', s', t', by omega, rfl, rfl, rfl, by go_num, by omega, by omega, by omega, by omega, by omega, by omega, Lib.hid (by simpa using HJ2.out), HW, HZ⟩
                case measure => simp [intOf]
              · have q0 : decide ((0 : Int) < ((thn.length : Nat) : Int)) = true := decide_eq_true (by omega)
                have u0 : IntKind.i64.wrap ((deep : Int) + 1) = ((deep + 1 : Nat) : Int) := by rw [IntWalk.i64_in _ (by omega)]; omega
                have HC := Lib.hid (IH.out d' (deep + 1) (by omega) (by omega) (by omega) A2 thn c2 wr (RdSh.below HW.out R2.out) bt)
                rw [show ((deep + 1 : Nat) : Int) = (deep : Int) + 1 by omega] at HC u0
                go_wp2_with fail
                (with_reducible refine HC.out.mono ?_)
                rintro e w9 ⟨hb9, mr, sr, tr, rfl, g1, g2, g3, g4, g5, g6⟩
                rw [Hb5.out] at g1 g2
                have g7 := hk1 sr g2 g3
                have HW9 := Lib.hid (HW.out.trans (hb9.mono HW.out.size))
                have HZ9 := Lib.hid ((hb9.block Z hZl).trans HZ.out)
                have u1 : IntKind.i64.wrap ((m' : Int) + (mr : Int)) = ((m' + mr : Nat) : Int) := by rw [IntWalk.i64_in _ (by omega)]; omega
                have u2 : IntKind.i64.wrap ((s' : Int) + (sr : Int)) = ((s' + sr : Nat) : Int) := by rw [IntWalk.i64_in _ (by omega)]; omega
                rw [show ((m' + mr : Nat) : Int) = (m' : Int) + (mr : Int) by omega] at u1
                rw [show ((s' + sr : Nat) : Int) = (s' : Int) + (sr : Int) by omega] at u2
                have HJ2 : ∀ tt, t' ≤ tt → tr ≤ tt → Hid (m' + mr ≤ 8 → tt ≤ 5 → P0 + stepsL d' thn ≤ s' + sr ∧ U0 + cntL d' thn ≤ m' + mr) := fun tt k1 k2 => Lib.hid (fun h1 h2 => by have := HJ.out (by omega) (by omega); have := g6 (by omega) (by omega); simp at *; omega)
                clear hb9 HC g6 HW HZ HJ
                rcases Nat.le_total t' tr with hm | hm
                · have HJ3 := HJ2 tr hm (Nat.le_refl _)
                  have u3 : ((t' : Nat) : Int) ≤ ((tr : Nat) : Int) := by omega
                  clear HJ2
                  go_wp2_with fail
                  go_roundw
                  case rel => exact ⟨1, m' + mr, s' + sr, tr, by omega, by go_num, by go_num, by go_num, by go_num, by omega, by omega, by omega, by omega, by omega, by omega, Lib.hid (by simpa using HJ3.out), HW9, HZ9⟩
                  case measure => simp [intOf]
                · have HJ3 := HJ2 t' (Nat.le_refl _) hm
                  have u3 : ((tr : Nat) : Int) ≤ ((t' : Nat) : Int) := by omega
                  clear HJ2
                  go_wp2_with fail
                  go_roundw
                  case rel => exact ⟨1, m' + mr, s' + sr, t', by omega, by go_num, by go_num, by go_num, by go_num, by omega, by omega, by omega, by omega, by omega, by omega, Lib.hid (by simpa using HJ3.out), HW9, HZ9⟩
                  case measure => simp [intOf]
            · have z1 : wr.cell? ⟨Z, 1, none⟩ = some (.slice A3 els.length c3) := cell_h HZ.out 1
              have hZl := lt_h HZ.out
              by_cases h0 : els.length = 0
              · have q0 : decide ((0 : Int) < ((els.length : Nat) : Int)) = false := decide_eq_false (by omega)
                have hq : els = [] := List.eq_nil_of_length_eq_zero h0
                have HJ2 : Hid (m' ≤ 8 → t' ≤ 5 → P0 + (stepsL d' thn + stepsL d' els) ≤ s' ∧ U0 + (cntL d' thn + cntL d' els) ≤ m') := Lib.hid (fun h1 h2 => by have := HJ.out h1 h2; rw [hq, stepsL_nil, cntL_nil]; simp at this ⊢; omega)
                clear hq
                go_wp2
                go_roundw
                case rel => exact ⟨2, m', s', t', by omega, rfl, rfl, rfl, by go_num, by omega, by omega, by omega, by omega, by omega, by omega, Lib.hid (by simpa using HJ2.out), HW, HZ⟩
                case measure => simp [intOf]
              · have q0 : decide ((0 : Int) < ((els.length : Nat) : Int)) = true := decide_eq_true (by omega)
                have u0 : IntKind.i64.wrap ((deep : Int) + 1) = ((deep + 1 : Nat) : Int) := by rw [IntWalk.i64_in _ (by omega)]; omega
                have HC := Lib.hid (IH.out d' (deep + 1) (by omega) (by omega) (by omega) A3 els c3 wr (RdSh.below HW.out R3.out) be)
                rw [show ((deep + 1 : Nat) : Int) = (deep : Int) + 1 by omega] at HC u0
                go_wp2_with fail
                (with_reducible refine HC.out.mono ?_)
                rintro e w9 ⟨hb9, mr, sr, tr, rfl, g1, g2, g3, g4, g5, g6⟩
                rw [Hb5.out] at g1 g2
                have g7 := hk1 sr g2 g3
                have HW9 := Lib.hid (HW.out.trans (hb9.mono HW.out.size))
                have HZ9 := Lib.hid ((hb9.block Z hZl).trans HZ.out)
                have u1 : IntKind.i64.wrap ((m' : Int) + (mr : Int)) = ((m' + mr : Nat) : Int) := by rw [IntWalk.i64_in _ (by omega)]; omega
                have u2 : IntKind.i64.wrap ((s' : Int) + (sr : Int)) = ((s' + sr : Nat) : Int) := by rw [IntWalk.i64_in _ (by omega)]; omega
                rw [show ((m' + mr : Nat) : Int) = (m' : Int) + (mr : Int) by omega] at u1
                rw [show ((s' + sr : Nat) : Int) = (s' : Int) + (sr : Int) by omega] at u2
                have HJ2 : ∀ tt, t' ≤ tt → tr ≤ tt → Hid (m' + mr ≤ 8 → tt ≤ 5 → P0 + (stepsL d' thn + stepsL d' els) ≤ s' + sr ∧ U0 + (cntL d' thn + cntL d' els) ≤ m' + mr) := fun tt k1 k2 => Lib.hid (fun h1 h2 => by have := HJ.out (by omega) (by omega); have := g6 (by omega) (by omega); simp at *; omega)
                clear hb9 HC g6 HW HZ HJ
                rcases Nat.le_total t' tr with hm | hm
                · have HJ3 := HJ2 tr hm (Nat.le_refl _)
                  have u3 : ((t' : Nat) : Int) ≤ ((tr : Nat) : Int) := by omega
                  clear HJ2
                  go_wp2_with fail
                  go_roundw
                  case rel => exact ⟨2, m' + mr, s' + sr, tr, by omega, by go_num, by go_num, by go_num, by go_num, by omega, by omega, by omega, by omega, by omega, by omega, Lib.hid (by simpa using HJ3.out), HW9, HZ9⟩
                  case measure => simp [intOf]
                · have HJ3 := HJ2 t' (Nat.le_refl _) hm
                  have u3 : ((tr : Nat) : Int) ≤ ((t' : Nat) : Int) := by omega
                  clear HJ2
                  go_wp2_with fail
                  go_roundw
                  case rel => exact ⟨2, m' + mr, s' + sr, t', by omega, by go_num, by go_num, by go_num, by go_num, by omega, by omega, by omega, by omega, by omega, by omega, Lib.hid (by simpa using HJ3.out), HW9, HZ9⟩
                  case measure => simp [intOf]
            · have HJ2 : Hid (m' ≤ 8 → t' ≤ 5 → stepsL d (l.take (j + 1)) ≤ s' ∧ l.length + subL d (l.take (j + 1)) ≤ m') := Lib.hid (fun h1 h2 => by have := HJ.out h1 h2; rw [HS.out, HSu.out]; have := HP0.out; have := HU0.out; simp at *; omega)
              go_wp2
              go_roundw
              case rel => exact ⟨j + 1, m', s', t', by omega, rfl, rfl, rfl, by go_num, by rw [Hgm.out]; omega, by rw [Hgs.out]; omega, by omega, by omega, HJ2, HW⟩
              case measure => simp [intOf]; omega
        · have hje : j = l.length := by omega
          subst hje
          have HJ2 : Hid (m ≤ 8 → t ≤ 5 → stepsL d l ≤ s ∧ cntL d l ≤ m) := Lib.hid (by have := HJ.out; rwa [List.take_length] at this)
          have em2 : l.length * (2 * c5) ≤ 8 * (2 * c5) := Nat.mul_le_mul_right _ h8
          have es2 : l.length * un ≤ 8 * un := Nat.mul_le_mul_right _ h8
          clear HJ hlt
          go_wp2
          go_ret3
          exact ⟨HW.out, m, s, t, rfl, by omega, by omega, fun h => by omega, ht1, ht2, HJ2.out⟩
end Go.Proofs.Ytmgejacndhnikaa
