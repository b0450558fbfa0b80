/- way.From walked. -/
import Derived.Test.YtljmignfbagomaaFrom
namespace Go.Proofs.Ytljmignfbagomaa
open Go.RowKit

/-- The weight of a queue and a set: what is still to come. -/
def wt (s : Nat) (n : Nat) : Nat := 2 * (8 - cnt8 s) + n

set_option maxHeartbeats 4000000 in
theorem from_calls (A : Option Addr) (ls : List (List Int)) (cap : Nat) (w : World) (i : Nat) (wo : Int) (hA : RdN w A ls) (h8 : ls.length ≤ 8) (hv : Valid ls) (hi : i < ls.length) :
    Calls Try.prog 45 #[.slice A ls.length cap, .int .i64 i, .int .i64 wo] w
      fun e w' => ∃ s : Nat, e = .returned (.int .u32 s) ∧ IsFrom ls wo i s ∧ s < 256 ∧ Below w.heap.size w w' := by
  have HA := Lib.hid hA; clear hA
  have HV := Lib.hid hv; clear hv
  by_cases hw : (i : Int) = wo
  · have hd : ((i : Int) == wo) = true := by simpa using hw
    have Hw := Lib.hid hw
    clear hw
    go_enter Try.func45, Try.ntmps45
    go_wp2
    go_ret
    exact ⟨0, rfl, fun b => by simp [Nat.zero_testBit]; intro h; exact absurd Hw.out h, by decide, Below.refl _ _⟩
  have hd : ((i : Int) == wo) = false := by simpa using hw
  have HF := Lib.hid (Fr.first (wo := wo) hi)
  have Hw := Lib.hid hw
  clear hw
  have hp := pow_u32 i (by omega)
  have hi32 : i < 32 := by omega
  go_enter Try.func45, Try.ntmps45
  go_wp2
  go_loopg [7, 8] 17 (fun g s7 s8 wr => ∃ (s : Nat) (q : List Int), s7 = .int .u32 s ∧ OwnQ wr w.heap.size s8 q ∧ Hid (Fr ls wo i s q) ∧ Below w.heap.size w wr ∧ wt s q.length ≤ g ∧ g ≤ 17)
  case atStart =>
    refine ⟨2 ^ i, [(i : Int)], by rw [hp], OwnQ.of_own (OwnI.lit w [(i : Int)] w.heap.size (Nat.le_refl _) (by simp [maxLen])), HF, ?_, by unfold wt; simp; omega, by omega⟩
    exact (Below.refl _ _).alloc (Nat.le_refl _) _
  case round =>
    clear hd hp
    obtain ⟨s, q, rfl, hown, hfr, hW, hwt, hg⟩ := hrel
    have hw1 := hW.size
    cases q with
    | nil =>
      obtain ⟨A', cap', rfl, h1, h2⟩ := hown.form
      clear hown
      go_wp2
      go_ret
      exact ⟨s, rfl, hfr.out.done Hw.out, hfr.out.fits h8, hW⟩
    | cons x r =>
      obtain ⟨A', cap', rfl, h1, h2⟩ := hown.form
      obtain ⟨g0, off0, rfl, hg0, hg1, hcells⟩ := OwnQ.cells hown (by simp)
      obtain ⟨x0, x1, x2⟩ := hfr.out.queue x (by simp)
      obtain ⟨q0, rfl⟩ := Int.eq_ofNat_of_zero_le x0
      have hq0 : q0 < ls.length := by omega
      have hl := Lib.hid (List.getElem?_eq_getElem hq0)
      rw [Int.toNat_natCast] at x2
      obtain ⟨b, off, A1, cap1, rfl, hb, c0, hR⟩ := RdN.at_ HA.out hq0
      have c0 : wr.cell? ⟨b, off + q0, none⟩ = _ := (hW.cell (p := ⟨b, off + q0, none⟩) hb).trans c0
      have d0 := hcells 0 (by simp)
      simp only [Nat.add_zero, List.getElem_cons_zero] at d0
      have hl3 := (HV.out _ (List.getElem_mem hq0)).1
      have Hin := Lib.hid ((HV.out _ (List.getElem_mem hq0)).2)
      have HR := Lib.hid hR
      have Hown := Lib.hid hown
      have Hx2 := Lib.hid x2
      clear hR hcells hown x0 x1 x2
      generalize ls[q0] = l at *
      have hlen := h1
      simp only [List.length_cons] at hlen
      have q1 : decide (0 < (r.length : Int) + 1) = true := decide_eq_true (by omega)
      go_wp2
      obtain ⟨wo1, rfl⟩ : ∃ wo1 : World, wo1 = wr := ⟨_, rfl⟩
      go_loopw [7, 8, 30] (fun s7 s8 i3 wr => ∃ (t s' : Nat) (q' : List Int), i3 = .int .i64 t ∧ t ≤ l.length ∧ s7 = .int .u32 s' ∧ OwnQ wr w.heap.size s8 ((q0 : Int) :: q') ∧ Hid (Fi ls wo i q0 l t s' ((q0 : Int) :: q')) ∧ s'.testBit q0 = true ∧ Below w.heap.size w wr ∧ wt s' (q'.length + 1) ≤ gk) (fun _ _ i3 _ => l.length - (intOf i3).toNat)
      case atStart => exact ⟨0, s, r, rfl, Nat.zero_le _, rfl, Hown.out, ⟨hfr.out, fun i hi hlt => by omega⟩, Hx2.out, hW, hwt⟩
      case round =>
        clear d0 Hown Hx2 hfr hW hwt hlen h1 q1
        obtain ⟨t, s', q', rfl, ht, rfl, hown, hfi, hbit, hW, hwt⟩ := hrel
        have Hbit := Lib.hid hbit
        clear hbit
        have hw2 := hW.size
        obtain ⟨A2, cap2, rfl, h1, h2⟩ := hown.form
        by_cases hlt : t < l.length
        · obtain ⟨b2, off2, rfl, hb2, c1⟩ := RdI.at1 (Rd.below HR.out hW) hlt
          obtain ⟨x0, x1⟩ := Hin.out _ (List.getElem_mem hlt)
          obtain ⟨j, hj⟩ := Int.eq_ofNat_of_zero_le x0
          have Hj := Lib.hid hj
          have hj8 : j < ls.length := by omega
          have hs32 : s' < 4294967296 := Nat.lt_trans (hfi.out.fr.fits h8) (by decide)
          have p1 := pow_u32 j (by omega)
          have p2 := or_u32 s' (2 ^ j) hs32 (Nat.lt_of_lt_of_le (Nat.pow_lt_pow_right (by decide) (by omega : j < 32)) (by decide))
          rw [Int.natCast_pow, show ((2 : Nat) : Int) = 2 from rfl] at p1 p2
          have p3 := test_u32 s' j hs32
          rw [hj] at c1
          clear hj x0 x1
          by_cases hne : (j : Int) = wo
          · have q1 : ((j : Int) != wo) = false := by simpa using hne
            have Hne := Lib.hid hne
            have Hown := Lib.hid hown
            clear hne hown p1 p2 p3
            go_wp2
            go_roundw
            case rel => exact ⟨t + 1, s', q', by go_num, by omega, rfl, Hown.out, hfi.out.skip hlt (Or.inl (Hj.out.trans Hne.out)), Hbit.out, hW, hwt⟩
            case measure => simp [intOf]; omega
          · have q1 : ((j : Int) != wo) = true := by simpa using hne
            have Hne := Lib.hid hne
            clear hne
            cases hb : s'.testBit j
            · have Hb := Lib.hid hb
              rw [hb] at p3
              clear hb
              have Hw := Lib.hid hwt
              have hq17 : q'.length < 20 := by unfold wt at hwt; omega
              clear hwt
              go_wp2_with (at_builtin; refine wpList_appQ rfl _ _ rfl w.heap.size _ _ (j : Int) rfl (hown.alloc _) _ _ rfl (cell_new _ _ _ _ (by simp) _) (by simp; omega) (by simp; omega) ?_; intro v' w3 hown' hB3 hge3)
              refine ⟨?_, ?measure⟩
              (repeat apply Exists.intro)
              refine ⟨?rel, rfl⟩
              case rel => exact ⟨t + 1, s' ||| 2 ^ j, q' ++ [(j : Int)], by go_num, by omega, rfl, hown', hfi.out.push hlt Hj.out Hne.out hj8 hl.out Hbit.out, by rw [set_bit, Hbit.out]; rfl, (hW.alloc hw2 _).trans hB3, by have := Hw.out; have := cnt8_set (by omega) Hb.out; have := cnt8_le (s' ||| 2 ^ j); unfold wt at *; simp; omega⟩
              case measure => simp [intOf]; omega
            · have Hb := Lib.hid hb
              rw [hb] at p3
              have Hown := Lib.hid hown
              clear hb hown p1 p2
              go_wp2
              go_roundw
              case rel => exact ⟨t + 1, s', q', by go_num, by omega, rfl, Hown.out, hfi.out.skip hlt (Or.inr (by rw [Hj.out, Int.toNat_natCast]; exact Hb.out)), Hbit.out, hW, hwt⟩
              case measure => simp [intOf]; omega
        · have : t = l.length := by omega
          subst this
          clear hlt ht
          obtain ⟨g2, off2, rfl, _, _, _⟩ := OwnQ.cells hown (by simp)
          have Ht := Lib.hid (OwnQ.tail hown)
          have Hwt := Lib.hid hwt
          clear hown hwt
          simp only [List.length_cons] at h1
          by_cases hc : cap2 = 1
          · rw [if_pos hc] at Ht
            have q1 : cap2 - 1 = 0 := by omega
            go_wp2
            all_goals first | (exfalso; omega) | skip
            go_roundg (wt s' q'.length)
            case measure => have := Hwt.out; unfold wt at *; omega
            case rel => exact ⟨s', q', rfl, by simpa [q1] using Ht.out, hfi.out.finish hl.out, hW, Nat.le_refl _, by have := Hwt.out; unfold wt at *; omega⟩
          · rw [if_neg hc] at Ht
            have q1 : ¬ cap2 - 1 = 0 := by omega
            go_wp2
            all_goals first | (exfalso; omega) | skip
            go_roundg (wt s' q'.length)
            case measure => have := Hwt.out; unfold wt at *; omega
            case rel => exact ⟨s', q', rfl, Ht.out, hfi.out.finish hl.out, hW, Nat.le_refl _, by have := Hwt.out; unfold wt at *; omega⟩
end Go.Proofs.Ytljmignfbagomaa
