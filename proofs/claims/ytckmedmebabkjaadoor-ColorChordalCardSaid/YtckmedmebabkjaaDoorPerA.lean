/- color.Perfect walked. -/
import Derived.Test.YtckmedmebabkjaaDoorChdP
import Derived.Deep.LoopGhost
import Derived.Lib.SliceRun
namespace Go.Proofs.YtckmedmebabkjaaDoor
set_option maxRecDepth 100000
open Go.RowKit

theorem cnt8_andN {s t : Nat} (hs : s < 4294967296) (ht : t < 8) (hb : s.testBit t = true) : cnt8 (andN s (2 ^ t)) < cnt8 s := by
  have e : s = andN s (2 ^ t) ||| 2 ^ t := set_ext fun j => by
    rw [set_bit, andN_bit _ hs, testBit_pow]
    by_cases h : t = j
    · subst h; rw [hb]; simp
    · simp [h]
  have h2 := cnt8_set (s := andN s (2 ^ t)) ht (by rw [andN_bit _ hs, testBit_pow]; simp)
  rw [← e] at h2
  omega
def PerfectE (n : Int) (ps : List (Int × Int)) (w : World) (e : Ending) (w' : World) : Prop :=
  Below w.heap.size w w' ∧ ((∃ E : Int, E ≠ 0 ∧ e = .returned (.tuple #[.slice none 0 0, .int .i64 E])) ∨
    (∃ (m : Nat) (A : Option Addr) (c : Nat) (l : List Int), n = m ∧ ClOk m ps ∧ e = .returned (.tuple #[.slice A l.length c, .int .i64 0]) ∧ RdI w' A l ∧ OrdOk m l ∧ PerfP ps l))
set_option maxHeartbeats 8000000 in
theorem perfect_calls (n : Int) (A : Option Addr) (ps : List (Int × Int)) (cap : Nat) (w : World) (hA : RdP w A ps) (hm : ps.length ≤ maxLen) :
    Calls Tryd.prog 12 #[.int .i64 n, .slice A ps.length cap] w (PerfectE n ps w) := by
  have HA := Lib.hid hA; clear hA
  go_enter Tryd.func12, Tryd.ntmps12
  go_wp2_with fail
  refine (clashes_any _ _ _ _ _ HA.out hm).mono ?_
  rintro e w1 ⟨v, rfl, hW, hr⟩
  have HW := Lib.hid hW
  have hw1 := hW.size
  clear hW
  rcases hr with ⟨h0, rfl⟩ | ⟨m, rfl, hok, hown⟩
  · have q : (clErr n ps != 0) = true := by rw [bne_iff_ne]; exact h0
    have H0 := Lib.hid h0
    clear h0
    go_wp2
    go_ret2
    exact ⟨HW.out, .inl ⟨_, H0.out, rfl⟩⟩
  · rw [hok.err]
    have Hok := Lib.hid hok
    have h1 := hok.n1
    have h8 := hok.n8
    obtain ⟨B, capB, rfl, hR⟩ := hown.rd
    have HR := Lib.hid hR
    have Hal := Lib.hid (fun (s : Nat) (w : World) (h : RdU w B (clL m ps)) (hs : s < 256) => all_calls B (clL m ps) capB s w h (by rw [clL_len]; exact h8) hs (fun x hx => by
      obtain ⟨i, hi, rfl⟩ := List.getElem_of_mem hx
      rw [clL_get]; exact clS_lt _ _))
    rw [clL_len] at Hal
    rw [clL_len]
    clear hok hown hR
    have m32 : m < 32 := by omega
    have p1 := pow_u32 m m32
    have pm : 2 ^ m ≤ 2 ^ 8 := Nat.pow_le_pow_right (by decide) h8
    have pm1 := Nat.two_pow_pos m
    have HK0 := Lib.hid (PerK.start (m := m) (ps := ps))
    have p2 : (((2 ^ m : Nat) : Int) - 1) % 4294967296 = ((2 ^ m - 1 : Nat) : Int) := by omega
    rw [Int.natCast_pow, show ((2 : Nat) : Int) = 2 from rfl] at p1 p2
    clear pm pm1
    generalize 2 ^ m - 1 = s0 at *
    go_wp2
    try rw [p2]
    go_loopg [8, 9] (cnt8 s0 + 1) (fun g sv lv wr => ∃ (s : Nat) (l : List Int), sv = .int .u32 s ∧ OwnI wr w1.heap.size 3 lv l ∧ Hid (PerK m ps l s) ∧ Hid (Below w1.heap.size w1 wr) ∧ cnt8 s < g)
    case atStart => exact ⟨s0, [], rfl, Own.nil_ _ _ _, HK0, Lib.hid (Below.refl _ _), by omega⟩
    case round =>
      clear HK0 p1 p2
      obtain ⟨s, l, rfl, hO, HK, HWr, hg⟩ := hrel
      have HO := Lib.hid hO
      have hwr := HWr.out.size
      have hs256 : s < 256 := Nat.lt_of_lt_of_le HK.out.lt (Nat.pow_le_pow_right (by decide) h8 : 2 ^ m ≤ 2 ^ 8)
      have Hg := Lib.hid hg
      have hll : l.length ≤ 8 := by
        have := nodup_sub_len_ (l := l) (m := natL m) HK.out.one (fun x hx => natL_mem.2 (HK.out.in_ x hx))
        rw [natL_len] at this
        omega
      clear hO hg
      by_cases hs0 : s = 0
      · have q0 : ((s : Int) != 0) = false := by rw [bne_eq_false_iff_eq, hs0]; rfl
        have HD := Lib.hid (show OrdOk m l from (show PerK m ps l 0 by rw [← hs0]; exact HK.out).done)
        obtain ⟨A9, c9, rfl, hrd⟩ := OwnI.rd HO.out
        have Hrd := Lib.hid hrd
        have HPf := Lib.hid HK.out.perf
        clear HK hrd hs0
        go_wp2
        go_ret2
        exact ⟨HW.out.trans (HWr.out.mono hw1), .inr ⟨m, A9, c9, l, rfl, Hok.out, rfl, Hrd.out, HD.out, HPf.out⟩⟩
      have q0 : ((s : Int) != 0) = true := by rw [bne_iff_ne]; omega
      clear hs0
      go_wp2
      go_loopw [8, 9, 30] (fun sv lv i wz => ∃ t : Nat, t ≤ m ∧ sv = .int .u32 s ∧ i = .int .i64 t ∧ Hid (OwnI wz w1.heap.size 3 lv l) ∧ Hid (Below w1.heap.size w1 wz)) (fun _ _ i _ => m - (intOf i).toNat)
      case atStart => exact ⟨0, Nat.zero_le _, rfl, rfl, HO, HWr⟩
      case round =>
        clear HO HWr hwr
        obtain ⟨t, ht, rfl, rfl, HO, HWr⟩ := hrel
        have hwr := HWr.out.size
        by_cases htm : t < m
        · obtain ⟨b2, off2, rfl, hb2, c2⟩ := RdU.at1 (Rd.below HR.out HWr.out) (show t < (clL m ps).length by rw [clL_len]; exact htm)
          rw [clL_get] at c2
          have hS := clS_lt ps t
          have q1 : ((t : Nat) : Int) < ((m : Nat) : Int) := by omega
          have t32 : t < 32 := by omega
          have p1 := test1_u32 s t (by omega)
          have p2 := and_u32 (clS ps t) s (by omega) (by omega)
          have p3 := pow_u32 t t32
          have pt : 2 ^ t < 2 ^ 8 := Nat.pow_lt_pow_right (by decide) (by omega)
          have p4 := andN_u32 s (2 ^ t) (by omega) (by omega)
          rw [Int.natCast_pow, show ((2 : Nat) : Int) = 2 from rfl] at p3 p4
          have hx : clS ps t &&& s < 256 := Nat.lt_of_le_of_lt Nat.and_le_right hs256
          have Hnx := Lib.hid (HK.out.next (i := t) Hok.out)
          have hmu := cnt8_andN (s := s) (t := t) (by omega) (by omega)
          have Hall := Lib.hid (Hal.out (clS ps t &&& s) wr (Rd.below HR.out HWr.out) hx)
          have hnN := andN_lt s (2 ^ t)
          have Hne := Lib.hid (fun (hb : s.testBit t = true) => show andN s (2 ^ t) ≠ s from fun e => by
            have := congrArg (fun x => Nat.testBit x t) e
            simp only [andN_bit _ (show s < 4294967296 by omega), hb, testBit_pow] at this
            simp at this)
          clear pt
          generalize hcs : clS ps t = cs at *
          cases hb : s.testBit t
          · rw [hb] at p1
            clear hmu Hnx Hall Hne hb
            go_wp2
            go_roundw
            case rel => exact ⟨t + 1, by omega, by first | rfl | trivial, by go_num, HO, HWr⟩
            case measure => simp [intOf]; omega
          · rw [hb] at p1
            have Hnx2 := Lib.hid (Hnx.out hb)
            have hmu2 := hmu hb
            have hne := Hne.out hb
            clear hmu Hnx Hne hb
            generalize hxx : cs &&& s = x at *
            generalize hs' : andN s (2 ^ t) = s' at *
            have q9 : ((s' : Int) == (s : Int)) = false := by rw [beq_eq_false_iff_ne]; omega
            go_wp2_with fail
            refine Hall.out.mono ?_
            rintro e w5 ⟨rfl, r, rfl, hr⟩
            cases r
            · clear hr Hnx2
              go_wp2
              go_roundw
              case rel => exact ⟨t + 1, by omega, by first | rfl | trivial, by go_num, HO, HWr⟩
              case measure => simp [intOf]; omega
            · have HK2 := Lib.hid (Hnx2.out (hr.1 rfl))
              clear hr Hnx2
              go_wp2_with (at_builtin; refine wpList_appI rfl _ _ rfl w1.heap.size _ _ (t : Int) rfl (HO.out.alloc _) _ _ rfl (cell_new _ _ _ _ rfl _) (by omega) (by simp; omega) ?_; intro v5 w5 hown5 hgrow5
                           have HO5 := Lib.hid hown5
                           have HW5 := Lib.hid ((HWr.out.alloc hwr _).grown hgrow5 (by simp; omega) (fun k hk => (World.ownsRow.lt HO.out k hk).1))
                           clear hown5 hgrow5)
              go_roundg (cnt8 s)
              case measure => exact Hg.out
              case rel => exact ⟨s', l ++ [(t : Int)], rfl, HO5.out, HK2, HW5, hmu2⟩
        · have htm' : t = m := by omega
          subst htm'
          have HWe := Lib.hid (HW.out.trans (HWr.out.mono hw1))
          clear HK HO
          go_wp2
          go_ret2
          exact ⟨HWe.out, .inl ⟨5, by decide, rfl⟩⟩
end Go.Proofs.YtckmedmebabkjaaDoor
