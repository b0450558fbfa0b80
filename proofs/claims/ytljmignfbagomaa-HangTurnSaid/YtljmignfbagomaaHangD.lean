/- hang.Last, hang.On. -/
import Derived.Test.YtljmignfbagomaaHangC
namespace Go.Proofs.Ytljmignfbagomaa
open Go.RowKit

set_option maxHeartbeats 1000000 in
theorem last_bad (A : Option Addr) (ls : List (List Int)) (cap : Nat) (w : World) (hA : RdN w A ls) (hm : ls.length ≤ maxLen) (h0 : wayErr ls ≠ 0) :
    Calls Try.prog 23 #[.slice A ls.length cap] w fun e w' => e = .returned (.tuple #[.slice none 0 0, .int .i64 (wayErr ls)]) ∧ Below w.heap.size w w' := by
  have HA := Lib.hid hA; clear hA
  have hd : (wayErr ls != 0) = true := by simpa using h0
  clear h0
  go_enter Try.func23, Try.ntmps23
  go_wp2_with (go_at_call 44; refine (check_calls _ _ _ _ HA.out hm).mono ?_; rintro e w1 ⟨rfl, hW⟩; have HW := Lib.hid hW; clear hW)
  go_ret2
  exact ⟨rfl, HW.out⟩
set_option maxHeartbeats 1000000 in
theorem last_ok (A : Option Addr) (ls : List (List Int)) (cap : Nat) (w : World) (hA : RdN w A ls) (h0 : wayErr ls = 0) :
    Calls Try.prog 23 #[.slice A ls.length cap] w fun e w' => ∃ v, e = .returned (.tuple #[v, .int .i64 0]) ∧ OwnU w' w.heap.size 29 v (lastL ls) ∧ Below w.heap.size w w' := by
  have h8 := (valid_of h0).2.1
  have HA := Lib.hid hA; clear hA
  have H0 := Lib.hid h0; clear h0
  go_enter Try.func23, Try.ntmps23
  go_wp2_with (first
    | (go_at_call 44; refine (check_calls _ _ _ _ HA.out (by unfold maxLen; omega)).mono ?_; rintro e w1 ⟨rfl, hW⟩; rw [H0.out]; have HW := Lib.hid hW; clear hW)
    | (go_at_call 47; refine (last_calls _ _ _ _ (RdN.below HA.out HW.out) H0.out).mono ?_; rintro e w2 ⟨v, rfl, hown, hW2⟩; have Hown := Lib.hid hown; have HW2 := Lib.hid hW2; clear hown hW2))
  go_ret2
  exact ⟨v, rfl, Hown.out.base_ HW.out.size, HW.out.trans (HW2.out.mono HW.out.size)⟩
set_option maxHeartbeats 1000000 in
theorem on_bad (A : Option Addr) (ls : List (List Int)) (cap : Nat) (w : World) (hA : RdN w A ls) (hm : ls.length ≤ maxLen) (h0 : wayErr ls ≠ 0) :
    Calls Try.prog 22 #[.slice A ls.length cap] w fun e w' => e = .returned (.tuple #[.slice none 0 0, .int .i64 (wayErr ls)]) ∧ Below w.heap.size w w' := by
  have HA := Lib.hid hA; clear hA
  have hd : (wayErr ls != 0) = true := by simpa using h0
  clear h0
  go_enter Try.func22, Try.ntmps22
  go_wp2_with (go_at_call 44; refine (check_calls _ _ _ _ HA.out hm).mono ?_; rintro e w1 ⟨rfl, hW⟩; have HW := Lib.hid hW; clear hW)
  go_ret2
  exact ⟨rfl, HW.out⟩

theorem lastL_len (ls : List (List Int)) : (lastL ls).length = ls.length := by simp [lastL]
theorem lastL_get (ls : List (List Int)) (i : Nat) (h : i < (lastL ls).length) : (lastL ls)[i] = lastS ls i := by simp [lastL]
theorem lastS_bit {ls : List (List Int)} (h8 : ls.length ≤ 8) (i k : Nat) : (lastS ls i).testBit k = true ↔ k < ls.length ∧ Ends ls (-1) i ∧ ¬ Ends ls (k : Int) i := by
  unfold lastS lastTo
  rw [setN_bit]
  exact ⟨fun h => h.2, fun h => ⟨by omega, h⟩⟩
/-- What hangs on i by way of one next node. -/
noncomputable def on1 (ls : List (List Int)) (i j : Nat) : Nat := andN (lastS ls j) (andN (lastS ls i) (2 ^ i))
noncomputable def onP (ls : List (List Int)) (i : Nat) (l : List Int) : Nat := l.foldl (fun s x => s ||| on1 ls i x.toNat) 0
noncomputable def onS (ls : List (List Int)) (i : Nat) : Nat := onP ls i (ls.getD i [])
noncomputable def onL (ls : List (List Int)) : List Nat := (List.range ls.length).map (onS ls)
theorem onP_snoc (ls : List (List Int)) (i : Nat) (l : List Int) (x : Int) : onP ls i (l ++ [x]) = onP ls i l ||| on1 ls i x.toNat := by simp [onP]
theorem onP_lt (ls : List (List Int)) (i : Nat) (l : List Int) : onP ls i l < 4294967296 := by
  have key : ∀ (l : List Int) (s : Nat), s < 2 ^ 32 → l.foldl (fun s x => s ||| on1 ls i x.toNat) s < 2 ^ 32 := fun l => by
    induction l with
    | nil => exact fun _ h => h
    | cons x r ih => exact fun s h => ih _ (Nat.or_lt_two_pow h (andN_lt _ _))
  exact key l 0 (by decide)
theorem onP_bit (ls : List (List Int)) (i : Nat) (l : List Int) (k : Nat) : (onP ls i l).testBit k = true ↔ ∃ x ∈ l, (on1 ls i x.toNat).testBit k = true := by
  have key : ∀ (l : List Int) (s : Nat), (l.foldl (fun s x => s ||| on1 ls i x.toNat) s).testBit k = true ↔ (s.testBit k = true ∨ ∃ x ∈ l, (on1 ls i x.toNat).testBit k = true) := fun l => by
    induction l with
    | nil => intro s; simp
    | cons x r ih =>
      intro s
      rw [List.foldl_cons, ih, Nat.testBit_or, Bool.or_eq_true, or_assoc]
      simp
  have := key l 0
  rw [Nat.zero_testBit] at this
  simpa [onP] using this
noncomputable def oRows (ls : List (List Int)) (i : Nat) : List Nat := (List.range ls.length).map fun a => if a < i then onS ls a else 0
theorem oRows_len (ls : List (List Int)) (i : Nat) : (oRows ls i).length = ls.length := by simp [oRows]
theorem oRows_get (ls : List (List Int)) (i a : Nat) (h : a < (oRows ls i).length) : (oRows ls i)[a] = if a < i then onS ls a else 0 := by simp [oRows]
theorem oRows_zero (ls : List (List Int)) : oRows ls 0 = List.replicate ls.length 0 := by
  refine List.ext_getElem (by simp [oRows]) fun j h1 h2 => ?_
  rw [oRows_get]; simp
theorem oRows_start {ls : List (List Int)} {i : Nat} : (oRows ls i).set i 0 = oRows ls i := by
  refine List.ext_getElem (by simp [oRows]) fun j h1 h2 => ?_
  rw [List.getElem_set, oRows_get]
  by_cases e : i = j
  · subst e; rw [if_pos rfl, if_neg (by omega)]
  · rw [if_neg e]
theorem oRows_next {ls : List (List Int)} {i : Nat} : (oRows ls i).set i (onS ls i) = oRows ls (i + 1) := by
  refine List.ext_getElem (by simp [oRows]) fun j h1 h2 => ?_
  rw [List.getElem_set, oRows_get, oRows_get]
  by_cases e : i = j
  · subst e
    have h' : i < i + 1 := by omega
    rw [if_pos rfl, if_pos h']
  · rw [if_neg e]
    by_cases h : j < i
    · have h' : j < i + 1 := by omega
      rw [if_pos h, if_pos h']
    · rw [if_neg h, if_neg (by omega)]
theorem oRows_all (ls : List (List Int)) : oRows ls ls.length = onL ls := by
  refine List.ext_getElem (by simp [oRows, onL]) fun j h1 h2 => ?_
  rw [oRows_len] at h1
  rw [oRows_get, if_pos h1]
  simp [onL]
theorem lastS_lt (ls : List (List Int)) (i : Nat) : lastS ls i < 256 := lastTo_lt ls i ls.length

set_option maxRecDepth 100000 in
set_option maxHeartbeats 4000000 in
theorem on_ok (A : Option Addr) (ls : List (List Int)) (cap : Nat) (w : World) (hA : RdN w A ls) (h0 : wayErr ls = 0) :
    Calls Try.prog 22 #[.slice A ls.length cap] w fun e w' => ∃ v, e = .returned (.tuple #[v, .int .i64 0]) ∧ OwnU w' w.heap.size 29 v (onL ls) ∧ Below w.heap.size w w' := by
  obtain ⟨h1, h8, hv⟩ := valid_of h0
  have HA := Lib.hid hA; clear hA
  have HV := Lib.hid hv; clear hv
  have H0 := Lib.hid h0; clear h0
  have Hlen := Lib.hid (lastL_len ls)
  have HZ := Lib.hid (oRows_zero ls)
  go_enter Try.func22, Try.ntmps22
  go_wp2_with (first
    | (go_at_call 44; refine (check_calls _ _ _ _ HA.out (by unfold maxLen; omega)).mono ?_; rintro e w1 ⟨rfl, hW⟩; rw [H0.out]; have HW := Lib.hid hW; have hwA := hW.size; clear hW)
    | (go_at_call 47; refine (last_calls _ _ _ _ (RdN.below HA.out HW.out) H0.out).mono ?_
       rintro e w2 ⟨v, rfl, hown, hW2⟩
       obtain ⟨gF, capF, rfl, hgF, hgF2, hcF, _, hcells⟩ := OwnU.at_ hown (by rw [Hlen.out]; omega)
       rw [Hlen.out]
       have HC := Lib.hid hcells
       have HWB := Lib.hid (HW.out.trans (hW2.mono hwA))
       clear hW2 hown hcells)
    | (at_make; refine wpList_makeU rfl _ _ rfl w2.heap.size ls.length rfl rfl (by omega) (Nat.le_refl _) ?_; intro w3 hown3 hgrow3))
  have hw2 := HWB.out.size
  have hW3 := (Below.refl w2.heap.size w2).grown hgrow3 (Nat.le_refl _) (fun k hk => by cases hk)
  rw [← HZ.out] at hown3
  go_loopw [23] (fun i wr => ∃ k : Nat, k ≤ ls.length ∧ i = .int .i64 k ∧ OwnU wr w2.heap.size 29 (.slice (some ⟨w2.heap.size, 0, none⟩) ls.length ls.length) (oRows ls k) ∧ Below w2.heap.size w2 wr) (fun i _ => ls.length - (intOf i).toNat)
  case atStart => exact ⟨0, Nat.zero_le _, rfl, hown3, hW3⟩
  case round =>
    clear hown3 hW3 hgrow3
    obtain ⟨i, hi, rfl, hown, hW⟩ := hrel
    have Hown := Lib.hid hown
    have HWr := Lib.hid hW
    clear hown
    by_cases hlt : i < ls.length
    · obtain ⟨b2, off2, A2, cap2, rfl, hb2, c0, hR⟩ := RdN.at_ (RdN.below HA.out HWB.out) hlt
      have c0 := (hW.cell (p := ⟨b2, off2 + i, none⟩) hb2).trans c0
      have hl3 := (HV.out _ (List.getElem_mem hlt)).1
      have Hin := Lib.hid ((HV.out _ (List.getElem_mem hlt)).2)
      have HR := Lib.hid hR
      have Hl := Lib.hid (show onS ls i = onP ls i ls[i] from by unfold onS; rw [List.getD_eq_getElem?_getD, List.getElem?_eq_getElem hlt]; rfl)
      clear hR hW
      generalize ls[i] = l at *
      go_wp2
      go_loopw [30] (fun t3 wr => ∃ (t : Nat), t ≤ l.length ∧ t3 = .int .i64 t ∧ OwnU wr w2.heap.size 29 (.slice (some ⟨w2.heap.size, 0, none⟩) ls.length ls.length) ((oRows ls i).set i (onP ls i (l.take t))) ∧ Below w2.heap.size w2 wr) (fun t3 _ => l.length - (intOf t3).toNat)
      case atStart => exact ⟨0, Nat.zero_le _, rfl, by rw [List.take_zero, show onP ls i [] = 0 from rfl, oRows_start]; exact Hown.out, HWr.out⟩
      case round =>
        clear Hown HWr c0
        obtain ⟨t, ht, rfl, hown, hW⟩ := hrel
        have HWr := Lib.hid hW
        by_cases hltt : t < l.length
        · obtain ⟨b3, off3, rfl, hb3, c3⟩ := RdI.at1 (Rd.below HR.out hW) hltt
          obtain ⟨x0, x1⟩ := Hin.out _ (List.getElem_mem hltt)
          obtain ⟨j, hj⟩ := Int.eq_ofNat_of_zero_le x0
          have hj8 : j < ls.length := by omega
          have Hsn := Lib.hid (show onP ls i (l.take (t + 1)) = onP ls i (l.take t) ||| on1 ls i j from by
            rw [List.take_succ_eq_append_getElem hltt, onP_snoc, hj, Int.toNat_natCast])
          rw [hj] at c3
          have c4 := (hW.cell (p := ⟨gF, j, none⟩) hgF2).trans (HC.out j (by rw [Hlen.out]; exact hj8))
          have c5 := (hW.cell (p := ⟨gF, i, none⟩) hgF2).trans (HC.out i (by rw [Hlen.out]; exact hlt))
          rw [lastL_get] at c4 c5
          have hlen := oRows_len ls i
          have hlset : ((oRows ls i).set i (onP ls i (l.take t))).length = ls.length := by rw [List.length_set, hlen]
          obtain ⟨g, eg, _, _, _, hfz, hcell⟩ := OwnU.at2 hown (by omega)
          injection eg with eg; injection eg with eg
          subst eg
          have f1 := hfz i
          have c6 := hcell i (by omega)
          rw [List.getElem_set_self] at c6
          have q2 : ((i : Nat) : Int) < ((ls.length : Nat) : Int) := by omega
          have q1 : ((j : Nat) : Int) < ((ls.length : Nat) : Int) := by omega
          have i32 : i < 32 := by omega
          have pi : 2 ^ i < 2 ^ 8 := Nat.pow_lt_pow_right (by decide) (by omega)
          have r1 := pow_u32 i i32
          have hxi := lastS_lt ls i
          have hxj := lastS_lt ls j
          have r2 := andN_u32 (lastS ls i) (2 ^ i) (by omega) (by omega)
          have hzi := andN_lt (lastS ls i) (2 ^ i)
          have r3 := andN_u32 (lastS ls j) (andN (lastS ls i) (2 ^ i)) (by omega) hzi
          change _ = ((on1 ls i j : Nat) : Int) at r3
          have hzj : on1 ls i j < 4294967296 := andN_lt _ _
          have hs := onP_lt ls i (l.take t)
          have r4 := or_u32 (onP ls i (l.take t)) (on1 ls i j) hs hzj
          rw [Int.natCast_pow, show ((2 : Nat) : Int) = 2 from rfl] at r1 r2
          have Hown' := Lib.hid (OwnU.set_ hown (k := i) (by omega) (onP ls i (l.take t) ||| on1 ls i j))
          rw [List.set_set, ← Hsn.out] at Hown'
          rw [← Hsn.out] at r4
          clear hj x0 x1 hfz hcell hown hW pi hlset Hsn
          generalize hy : onP ls i (l.take (t + 1)) = y at *
          have Hy := Lib.hid hy
          clear hy
          generalize onP ls i (l.take t) = s at *
          generalize on1 ls i j = u at *
          generalize andN (lastS ls i) (2 ^ i) = v at *
          generalize lastS ls i = xi at *
          generalize lastS ls j = xj at *
          go_wp2
          go_still_tail 18, (by kernel_rfl)
          go_wp2
          refine ⟨⟨t + 1, by omega, by go_num, by rw [Hy.out]; exact Hown'.out.drew, ?_⟩, by simp [intOf]; omega⟩
          exact (HWr.out.setCell (Nat.le_refl _) _).drew
        · have : t = l.length := by omega
          subst this
          rw [List.take_length, ← Hl.out, oRows_next] at hown
          go_wp2
          go_roundw
          case rel => exact ⟨i + 1, by omega, by go_num, hown, hW⟩
          case measure => simp [intOf]; omega
    · have : i = ls.length := by omega
      subst this
      have Hall := Lib.hid (oRows_all ls)
      go_wp2
      go_ret2
      exact ⟨_, rfl, by rw [← Hall.out]; exact Hown.out.base_ hw2, HWB.out.trans (HWr.out.mono hw2)⟩
end Go.Proofs.Ytljmignfbagomaa
