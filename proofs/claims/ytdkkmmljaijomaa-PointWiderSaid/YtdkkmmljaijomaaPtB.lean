/- slices.Clone of words; codemasonref.PointCheck. -/
import Derived.Test.YtdkkmmljaijomaaPtA
import Derived.Test.YtdkkmmljaijomaaPtLib
import Derived.Test.YtdkkmmljaijomaaOwnU
namespace Go.Proofs.Ytdkkmmljaijomaa
open Go.RowKit

theorem flatMap_u32 (l : List Nat) : l.flatMap u32Cells = l.map (fun s : Nat => Value.int .u32 (s : Int)) := by
  induction l with
  | nil => rfl
  | cons x r ih => rw [List.flatMap_cons, ih]; rfl
theorem cloneU_calls (A : Option Addr) (l : List Nat) (cap : Nat) (w : World) (hA : RdU w A l) (hl : 0 < l.length) (h8 : l.length ≤ 1000) :
    Calls Try.prog 44 #[.slice A l.length cap] w fun e w' => ∃ v', e = .returned v' ∧ OwnU w' w.heap.size 50 v' l ∧ Below w.heap.size w w' := by
  obtain ⟨i, hi, hz0, hz1, hz2⟩ := info_parts infoU
  obtain ⟨b, off, rfl, hb, hc⟩ := hA hl
  refine (Try.slices_Clone_f44 i (.int .u32 0) 1 4 hi hz0 hz1 hz2 rfl (by decide) Try.sizeOf50 b off l.length cap (l.flatMap u32Cells) w (flatMap_len u32Cells_len l) (by unfold maxLen; omega) (by omega) (fun j u hj => ?_) (fun u hu => ?_)).mono ?_
  · rw [flatMap_u32, List.getElem?_map, Option.map_eq_some_iff] at hj
    obtain ⟨x, hx, rfl⟩ := hj
    have := hc j x hx 0 (by decide)
    simpa [u32Cells] using this
  · obtain ⟨y, _, hy⟩ := List.mem_flatMap.1 hu
    exact u32Cells_one y u hy
  · rintro e w' ⟨v', rfl, h1, _, h2⟩
    exact ⟨v', rfl, h1, h2⟩
set_option maxHeartbeats 4000000 in
theorem pointCheck_calls (n : Int) (A B : Option Addr) (l : List Pt) (s : List Int) (cap capB : Nat) (w : World) (hA : RdPt w A l) (hm : l.length ≤ maxLen) (hB : RdI w B s) (hmB : s.length ≤ maxLen) :
    Calls Try.prog 27 #[.int .i64 n, .slice A l.length cap, .slice B s.length capB] w fun e w' => e = .returned (.int .i64 (ptErr n l s)) ∧ Below w.heap.size w w' := by
  unfold maxLen at hm hmB
  have HA := Lib.hid hA
  have HBs := Lib.hid hB
  clear hA hB
  by_cases hn : ptBig n l s
  · have He := Lib.hid (show ptErr n l s = 1 by unfold ptErr; rw [if_pos hn])
    unfold ptBig at hn
    have hd : n < 1 ∨ (1 ≤ n ∧ 8 < n) ∨ (1 ≤ n ∧ n ≤ 8 ∧ decide ((12 : Int) < (l.length : Int)) = true) ∨ (1 ≤ n ∧ n ≤ 8 ∧ decide ((12 : Int) < (l.length : Int)) = false ∧ decide ((200 : Int) < (s.length : Int)) = true) := by
      simp only [decide_eq_true_eq, decide_eq_false_iff_not]; omega
    clear hn
    rcases hd with h1 | ⟨h1, h2⟩ | ⟨h1, h2, h3⟩ | ⟨h1, h2, h3, h4⟩
    all_goals
      go_enter Try.func27, Try.ntmps27
      go_wp2
      all_goals first | (exfalso; simp only [decide_eq_true_eq, decide_eq_false_iff_not] at *; omega) | (go_ret; exact ⟨ret_int He.out.symm, Below.refl _ _⟩)
  have hE := show ptErr n l s = if ptErrs n l ≠ 0 then ptErrs n l else if insideB l.length s then 0 else 5 by unfold ptErr; rw [if_neg hn]
  have HE := Lib.hid hE
  unfold ptBig at hn
  obtain ⟨m, rfl⟩ := Int.eq_ofNat_of_zero_le (show 0 ≤ n by omega)
  have h1 : 1 ≤ m := by omega
  have h8 : m ≤ 8 := by omega
  have h12 : l.length ≤ 12 := by omega
  have h200 : s.length ≤ 200 := by omega
  have q1 : decide ((m : Int) < 1) = false := decide_eq_false (by omega)
  have q2 : decide (8 < m) = false := decide_eq_false (by omega)
  have q3 : decide (12 < l.length) = false := decide_eq_false (by omega)
  have q4 : decide (200 < s.length) = false := decide_eq_false (by omega)
  clear hn hm hmB hE
  go_enter Try.func27, Try.ntmps27
  go_wp2
  clear q1 q2 q3 q4
  go_loopw [27] (fun i wr => ∃ k : Nat, k ≤ l.length ∧ i = .int .i64 k ∧ Hid (ptErrs m (l.drop k) = ptErrs m l) ∧ Below w.heap.size w wr) (fun i _ => l.length - (intOf i).toNat)
  case atStart => exact ⟨0, Nat.zero_le _, rfl, rfl, Below.refl _ _⟩
  case round =>
    obtain ⟨k, hk, rfl, hP, hW⟩ := hrel
    have HW := Lib.hid hW
    have hw2 := hW.size
    by_cases hlt : k < l.length
    · obtain ⟨b, off, rfl, hb, c0, c1, c2⟩ := RdPt.at3 (Rd.below HA.out hW) hlt
      have HS := Lib.hid (ptErrs_drop hlt hP.out)
      clear hW hP
      generalize l[k] = p at *
      obtain ⟨x, y, z⟩ := p
      dsimp only at c0 c1 c2
      by_cases hk1 : x < 1 ∨ 4 < x
      · have Hne := Lib.hid (HS.out.1 6 (ptErr1_6 hk1) (by decide))
        have He := Lib.hid (show ptErr m l s = 6 by rw [HE.out, Hne.out]; rfl)
        rcases (show x < 1 ∨ (1 ≤ x ∧ 4 < x) by omega) with hx | ⟨hx, hx'⟩
        all_goals
          clear hk1
          go_wp2
          all_goals first
            | (exfalso; omega)
            | (go_ret
               exact ⟨ret_int He.out.symm, HW.out.alloc (by omega) _⟩)
      · by_cases hin : 0 ≤ y ∧ y < m ∧ 0 ≤ z ∧ z < m
        · have Hst := Lib.hid (HS.out.2 (ptErr1_0 hk1 hin))
          have Hi := Lib.hid (inside2.2 hin)
          clear hin
          go_wp2_with (go_at_call 46; refine (inside_calls _ _ [y, z] _ _ (rdI_new2 _ _ _ _ _ (by simp)) (by simp [maxLen])).mono ?_; rintro e w' ⟨rfl, rfl⟩; rw [Hi.out])
          all_goals first
            | (exfalso; omega)
            | (refine ⟨⟨k + 1, by omega, by go_num, Hst.out, (HW.out.alloc hw2 _).alloc (by simp; omega) _⟩, by simp [intOf]; omega⟩)
        · have Hne := Lib.hid (HS.out.1 2 (ptErr1_2 hk1 hin) (by decide))
          have He := Lib.hid (show ptErr m l s = 2 by rw [HE.out, Hne.out]; rfl)
          have Hi := Lib.hid (show insideB m [y, z] = false by rw [← Bool.not_eq_true]; exact fun h => hin (inside2.1 h))
          clear hin
          go_wp2_with (go_at_call 46; refine (inside_calls _ _ [y, z] _ _ (rdI_new2 _ _ _ _ _ (by simp)) (by simp [maxLen])).mono ?_; rintro e w' ⟨rfl, rfl⟩; rw [Hi.out])
          all_goals first
            | (exfalso; omega)
            | (go_ret
               exact ⟨ret_int He.out.symm, (HW.out.alloc hw2 _).alloc (by simp; omega) _⟩)
    · have : k = l.length := by omega
      subst this
      have H0 := Lib.hid (show ptErrs m l = 0 by have := hP.out; rw [List.drop_length] at this; exact this.symm)
      have HR2 := Lib.hid (Rd.below HBs.out hW)
      clear hW hP hlt hk
      cases hin : insideB l.length s
      · have He := Lib.hid (show ptErr m l s = 5 by rw [HE.out, H0.out, hin]; rfl)
        have Hin := Lib.hid hin
        clear hin
        go_wp2_with (go_at_call 46; refine (inside_calls _ _ s _ _ HR2.out (by unfold maxLen; omega)).mono ?_; rintro e w' ⟨rfl, rfl⟩; rw [Hin.out])
        go_ret
        exact ⟨ret_int He.out.symm, HW.out⟩
      · have He := Lib.hid (show ptErr m l s = 0 by rw [HE.out, H0.out, hin]; rfl)
        have Hin := Lib.hid hin
        clear hin
        go_wp2_with (go_at_call 46; refine (inside_calls _ _ s _ _ HR2.out (by unfold maxLen; omega)).mono ?_; rintro e w' ⟨rfl, rfl⟩; rw [Hin.out])
        go_ret
        exact ⟨ret_int He.out.symm, HW.out⟩
end Go.Proofs.Ytdkkmmljaijomaa
