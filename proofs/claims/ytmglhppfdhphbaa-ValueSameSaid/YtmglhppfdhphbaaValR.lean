/- ValueSame. -/
import Derived.Test.YtmglhppfdhphbaaValS
import Derived.Test.YtmglhppfdhphbaaValQ
import Derived.Test.YtmglhppfdhphbaaRefT
namespace Go.Proofs.Ytmglhppfdhphbaa
open Go.RowKit

theorem insideB_3 {n x y z : Int} : insideB n [x, y, z] = decide ((0 ≤ x ∧ x < n) ∧ (0 ≤ y ∧ y < n) ∧ 0 ≤ z ∧ z < n) := by rw [insideB_cons, insideB_2, ← Bool.decide_and]
theorem Rd.take_ {α : Type} {f : α → List Value} {size : Nat} {w : World} {A : Option Addr} {l : List α} (h : Rd f size w A l) (n : Nat) : Rd f size w A (l.take n) := fun hn => by
  obtain ⟨b, off, e, hb, hc⟩ := h (by rw [List.length_take] at hn; omega)
  refine ⟨b, off, e, hb, fun k x hx j hj => hc k x ?_ j hj⟩
  rw [List.getElem?_take] at hx
  split at hx
  · exact hx
  · cases hx

set_option maxHeartbeats 4000000 in
theorem valueSame_bad1 (vars i j k : Int) (A B : Option Addr) (l : List Term) (hv : List Int) (capA capB : Nat) (w : World) (hA : RdT w A l) (hm : l.length ≤ maxLen) (h0 : tErr vars l ≠ 0) :
    Calls Try.prog 3 #[.int .i64 vars, .slice A l.length capA, .int .i64 i, .int .i64 j, .int .i64 k, .slice B hv.length capB] w fun e w' => e = .returned (.bool true) ∧ Below w.heap.size w w' := by
  have q : (tErr vars l != 0) = true := by rw [bne_iff_ne]; exact h0
  have q2 : (tErr vars l == 0) = false := by rw [beq_eq_false_iff_ne]; exact h0
  have HA := Lib.hid hA
  have Hs := Lib.hid (fun i j w hA => same_bad1 vars i j A l capA w hA hm h0)
  clear hA h0
  go_enter Try.func3, Try.ntmps3
  go_upto_region 2 with (go_at_call 14; refine (Hs.out _ _ _ HA.out).mono ?_; rintro e w1 ⟨rfl, hW1⟩; have HW1 := Lib.hid hW1; clear hW1)
  go_upto_region 3 with (go_at_call 14; refine (Hs.out _ _ _ (Rd.below HA.out HW1.out)).mono ?_; rintro e w2 ⟨rfl, hW2⟩; have HW2 := Lib.hid (HW1.out.trans (hW2.mono HW1.out.size)); clear hW2)
  go_upto_region 4 with (go_at_call 14; refine (Hs.out _ _ _ (Rd.below HA.out HW2.out)).mono ?_; rintro e w3 ⟨rfl, hW3⟩; have HW3 := Lib.hid (HW2.out.trans (hW3.mono HW2.out.size)); clear hW3)
  go_wp2_with (go_at_call 15; refine (termed_calls _ _ _ _ _ (Rd.below HA.out HW3.out) hm).mono ?_; rintro e w4 ⟨rfl, hW4⟩; rw [q2]; have HW4 := Lib.hid (HW3.out.trans (hW4.mono HW3.out.size)); clear hW4)
  go_ret
  exact ⟨rfl, HW4.out⟩
set_option maxHeartbeats 4000000 in
theorem valueSame_bad2 (vars i j k : Int) (A B : Option Addr) (l : List Term) (hv : List Int) (capA capB : Nat) (w : World) (hA : RdT w A l) (hm : l.length ≤ maxLen) (h0 : tErr vars l = 0) (hb : ¬ ((0 ≤ i ∧ i < l.length) ∧ (0 ≤ j ∧ j < l.length) ∧ 0 ≤ k ∧ k < l.length)) :
    Calls Try.prog 3 #[.int .i64 vars, .slice A l.length capA, .int .i64 i, .int .i64 j, .int .i64 k, .slice B hv.length capB] w fun e w' => e = .returned (.bool true) ∧ Below w.heap.size w w' := by
  have q2 : (tErr vars l == 0) = true := by rw [beq_iff_eq]; exact h0
  have HA := Lib.hid hA
  have Hi : Hid (insideB (l.length : Int) [i, j, k] = false) := Lib.hid (by rw [insideB_3]; exact decide_eq_false hb)
  have hor : sameErr vars l i j ≠ 0 ∨ sameErr vars l j k ≠ 0 := by
    by_cases h1 : i < 0 ∨ j < 0 ∨ (l.length : Int) ≤ i ∨ (l.length : Int) ≤ j
    · refine Or.inl ?_
      unfold sameErr; rw [if_neg (fun h => h h0), if_pos h1]; decide
    · refine Or.inr ?_
      unfold sameErr; rw [if_neg (fun h => h h0), if_pos (by omega)]; decide
  have Hs1 := Lib.hid (fun w hA => same_calls vars i j A l capA w hA hm)
  have Hs2 := Lib.hid (fun w hA => same_calls vars j k A l capA w hA hm)
  have Hs3 := Lib.hid (fun w hA => same_calls vars i k A l capA w hA hm)
  generalize sameErr vars l i j = E1 at *
  generalize sameErr vars l j k = E2 at *
  generalize sameErr vars l i k = E3 at *
  generalize sameB vars l i j = b1 at *
  generalize sameB vars l j k = b2 at *
  generalize sameB vars l i k = b3 at *
  clear hA h0 hb
  have q3 : (E1 != 0) = false → (E2 != 0) = true := fun h => by rw [bne_eq_false_iff_eq] at h; rw [bne_iff_ne]; exact hor.elim (fun h' => absurd h h') id
  have Hq3 := Lib.hid q3
  clear q3 hor
  cases hq1 : (E1 != 0)
  · have q4 := Hq3.out hq1
    go_enter Try.func3, Try.ntmps3
    go_upto_region 2 with (go_at_call 14; refine (Hs1.out _ HA.out).mono ?_; rintro e w1 ⟨rfl, hW1⟩; have HW1 := Lib.hid hW1; clear hW1)
    go_upto_region 3 with (go_at_call 14; refine (Hs2.out _ (Rd.below HA.out HW1.out)).mono ?_; rintro e w2 ⟨rfl, hW2⟩; have HW2 := Lib.hid (HW1.out.trans (hW2.mono HW1.out.size)); clear hW2)
    go_upto_region 4 with (go_at_call 14; refine (Hs3.out _ (Rd.below HA.out HW2.out)).mono ?_; rintro e w3 ⟨rfl, hW3⟩; have HW3 := Lib.hid (HW2.out.trans (hW3.mono HW2.out.size)); clear hW3)
    go_wp2_with (first
      | (go_at_call 15; refine (termed_calls _ _ _ _ _ (Rd.below HA.out HW3.out) hm).mono ?_; rintro e w4 ⟨rfl, hW4⟩; rw [q2]; have HW4 := Lib.hid (HW3.out.trans (hW4.mono HW3.out.size)); clear hW4)
      | (go_at_call 16; refine (inside_calls _ _ [i, j, k] _ _ (rdI_new3 _ _ _ _ _ _ (by simp)) (by simp [maxLen])).mono ?_; rintro e w' ⟨rfl, rfl⟩; rw [Hi.out]))
    go_ret
    exact ⟨rfl, HW4.out.alloc HW4.out.size _⟩
  · clear Hq3
    go_enter Try.func3, Try.ntmps3
    go_upto_region 2 with (go_at_call 14; refine (Hs1.out _ HA.out).mono ?_; rintro e w1 ⟨rfl, hW1⟩; have HW1 := Lib.hid hW1; clear hW1)
    go_upto_region 3 with (go_at_call 14; refine (Hs2.out _ (Rd.below HA.out HW1.out)).mono ?_; rintro e w2 ⟨rfl, hW2⟩; have HW2 := Lib.hid (HW1.out.trans (hW2.mono HW1.out.size)); clear hW2)
    go_upto_region 4 with (go_at_call 14; refine (Hs3.out _ (Rd.below HA.out HW2.out)).mono ?_; rintro e w3 ⟨rfl, hW3⟩; have HW3 := Lib.hid (HW2.out.trans (hW3.mono HW2.out.size)); clear hW3)
    go_wp2_with (first
      | (go_at_call 15; refine (termed_calls _ _ _ _ _ (Rd.below HA.out HW3.out) hm).mono ?_; rintro e w4 ⟨rfl, hW4⟩; rw [q2]; have HW4 := Lib.hid (HW3.out.trans (hW4.mono HW3.out.size)); clear hW4)
      | (go_at_call 16; refine (inside_calls _ _ [i, j, k] _ _ (rdI_new3 _ _ _ _ _ _ (by simp)) (by simp [maxLen])).mono ?_; rintro e w' ⟨rfl, rfl⟩; rw [Hi.out]))
    go_ret
    exact ⟨rfl, HW4.out.alloc HW4.out.size _⟩

set_option maxRecDepth 100000 in
set_option maxHeartbeats 8000000 in
theorem valueSame_ok (vars : Int) (i j k : Nat) (A B : Option Addr) (l : List Term) (hv : List Int) (capA capB : Nat) (w : World) (hA : RdT w A l) (hB : RdI w B hv) (hcA : l.length ≤ capA) (hm' : hv.length ≤ maxLen) (h0 : tErr vars l = 0) (hi : i < l.length) (hj : j < l.length) (hk : k < l.length) :
    Calls Try.prog 3 #[.int .i64 vars, .slice A l.length capA, .int .i64 i, .int .i64 j, .int .i64 k, .slice B hv.length capB] w fun e w' => e = .returned (.bool true) ∧ Below w.heap.size w w' := by
  have q2 : (tErr vars l == 0) = true := by rw [beq_iff_eq]; exact h0
  obtain ⟨hv0, hv6, hl1, hl16, hok⟩ := tErr_ok h0
  have hm : l.length ≤ maxLen := by unfold maxLen; omega
  obtain ⟨b, off, rfl, _⟩ := RdT.at4 hA hi
  have t1 : IntKind.i64.wrap ((i : Int) + 1) = (i : Int) + 1 := IntWalk.i64_in _ (by omega)
  have t2 : IntKind.i64.wrap ((j : Int) + 1) = (j : Int) + 1 := IntWalk.i64_in _ (by omega)
  have t3 : ((i : Int) + 1) ≤ (capA : Int) := by omega
  have t4 : ((j : Int) + 1) ≤ (capA : Int) := by omega
  have t5 : (0 : Int) ≤ (i : Int) + 1 := by omega
  have t6 : (0 : Int) ≤ (j : Int) + 1 := by omega
  have t7 : ((i : Int) + 1).toNat = i + 1 := by omega
  have t8 : ((j : Int) + 1).toNat = j + 1 := by omega
  have HA := Lib.hid hA
  have HB := Lib.hid hB
  have Hi : Hid (insideB (l.length : Int) [(i : Int), (j : Int), (k : Int)] = true) := Lib.hid (by rw [insideB_3]; exact decide_eq_true (by omega))
  have Hs1 := Lib.hid (fun w hA => same_ok vars i j (some ⟨b, off, none⟩) l capA w hA h0 hi hj)
  have Hs2 := Lib.hid (fun w hA => same_ok vars j k (some ⟨b, off, none⟩) l capA w hA h0 hj hk)
  have Hs3 := Lib.hid (fun w hA => same_ok vars i k (some ⟨b, off, none⟩) l capA w hA h0 hi hk)
  have Hs4 := Lib.hid (fun w hA => same_ok vars i i (some ⟨b, off, none⟩) l capA w hA h0 hi hi)
  have htr : (fsTo l l.length).getD i 0 = (fsTo l l.length).getD j 0 → (fsTo l l.length).getD j 0 = (fsTo l l.length).getD k 0 → (fsTo l l.length).getD i 0 = (fsTo l l.length).getD k 0 := fun h h' => h.trans h'
  have Hv := Lib.hid (fun h => same_val (hv := hv) hok hi hj h)
  have HTi : Hid (∀ w', RdT w' (some ⟨b, off, none⟩) l → RdI w' B hv → haveErr vars hv = 0 → Calls Try.prog 18 #[.slice (some ⟨b, off, none⟩) (i + 1) capA, .slice B hv.length capB] w' fun e w'' => e = .returned (.int .i64 ((valsTo hv l l.length).getD i 0)) ∧ Below w'.heap.size w' w'') := Lib.hid fun w' hA' hB' h1 => by
    have hlen : (l.take (i + 1)).length = i + 1 := by rw [List.length_take]; omega
    have := refTerm_calls vars _ B (l.take (i + 1)) hv capA capB w' (Rd.take_ hA' _) hB' (by omega) (by omega) hv6 (fun n hn => by rw [List.getElem_take]; exact hok n (by omega)) h1
    rw [hlen, tVal_take hi] at this
    exact this
  have HTj : Hid (∀ w', RdT w' (some ⟨b, off, none⟩) l → RdI w' B hv → haveErr vars hv = 0 → Calls Try.prog 18 #[.slice (some ⟨b, off, none⟩) (j + 1) capA, .slice B hv.length capB] w' fun e w'' => e = .returned (.int .i64 ((valsTo hv l l.length).getD j 0)) ∧ Below w'.heap.size w' w'') := Lib.hid fun w' hA' hB' h1 => by
    have hlen : (l.take (j + 1)).length = j + 1 := by rw [List.length_take]; omega
    have := refTerm_calls vars _ B (l.take (j + 1)) hv capA capB w' (Rd.take_ hA' _) hB' (by omega) (by omega) hv6 (fun n hn => by rw [List.getElem_take]; exact hok n (by omega)) h1
    rw [hlen, tVal_take hj] at this
    exact this
  rw [decide_eq_true (show (fsTo l l.length).getD i 0 = (fsTo l l.length).getD i 0 from rfl)] at Hs4
  generalize (fsTo l l.length).getD i 0 = x at *
  generalize (fsTo l l.length).getD j 0 = y at *
  generalize (fsTo l l.length).getD k 0 = z at *
  generalize (valsTo hv l l.length).getD i 0 = vi at *
  generalize (valsTo hv l l.length).getD j 0 = vj at *
  have Hg : Hid (∀ w', RdI w' B hv → Calls Try.prog 17 #[.int .i64 vars, .slice B hv.length capB] w' fun e w'' => e = .returned (.bool (haveErr vars hv == 0)) ∧ w'' = w') := Lib.hid fun w' h => given_calls vars B hv capB w' h hm'
  have hcomb : (decide (x = y) && decide (y = z) && !decide (x = z)) = false := by
    by_cases h1 : x = y <;> by_cases h2 : y = z <;> by_cases h3 : x = z <;> simp [h1, h2, h3]
    all_goals simp_all
  have Hv' : Hid (decide (x = y) = true → vi = vj) := Lib.hid fun h => Hv.out (of_decide_eq_true h)
  have Hcomb := Lib.hid hcomb
  generalize decide (x = y) = b1 at *
  generalize decide (y = z) = b2 at *
  generalize decide (x = z) = b3 at *
  clear hA hB hok htr Hv h0 hcomb hm'
  cases b1
  case false =>
    cases b2 <;> cases b3
    all_goals first | exact absurd Hcomb.out (by decide) | skip
    all_goals (
      go_enter Try.func3, Try.ntmps3
      go_upto_region 2 with (go_at_call 14; refine (Hs1.out _ HA.out).mono ?_; rintro e w1 ⟨rfl, hW1⟩; have HW1 := Lib.hid hW1; clear hW1)
      go_upto_region 3 with (go_at_call 14; refine (Hs2.out _ (Rd.below HA.out HW1.out)).mono ?_; rintro e w2 ⟨rfl, hW2⟩; have HW2 := Lib.hid (HW1.out.trans (hW2.mono HW1.out.size)); clear hW2)
      go_upto_region 4 with (go_at_call 14; refine (Hs3.out _ (Rd.below HA.out HW2.out)).mono ?_; rintro e w3 ⟨rfl, hW3⟩; have HW3 := Lib.hid (HW2.out.trans (hW3.mono HW2.out.size)); clear hW3)
      go_upto_region 6 with (first
        | (go_at_call 15; refine (termed_calls _ _ _ _ _ (Rd.below HA.out HW3.out) hm).mono ?_; rintro e w4 ⟨rfl, hW4⟩; rw [q2]; have HW4 := Lib.hid (HW3.out.trans (hW4.mono HW3.out.size)); clear hW4)
        | (go_at_call 16; refine (inside_calls _ _ [(i : Int), (j : Int), (k : Int)] _ _ (rdI_new3 _ _ _ _ _ _ (by simp)) (by simp [maxLen])).mono ?_; rintro e w' ⟨rfl, rfl⟩; rw [Hi.out]))
      have HW5 := Lib.hid (HW4.out.alloc HW4.out.size (.cells #[.int .i64 i, .int .i64 j, .int .i64 k] 3))
      generalize w4.alloc (.cells #[.int .i64 i, .int .i64 j, .int .i64 k] 3) = w5 at *
      go_wp2_with (go_at_call 14; refine (Hs4.out _ (Rd.below HA.out HW5.out)).mono ?_; rintro e w6 ⟨rfl, hW6⟩; have HW6 := Lib.hid (HW5.out.trans (hW6.mono HW5.out.size)); clear hW6)
      go_ret
      exact ⟨rfl, HW6.out⟩)
  case true =>
    have e := Hv'.out rfl
    subst e
    by_cases hh : haveErr vars hv = 0
    case neg =>
      have q5 : (haveErr vars hv == 0) = false := by rw [beq_eq_false_iff_ne]; exact hh
      cases b2 <;> cases b3
      all_goals first | exact absurd Hcomb.out (by decide) | skip
      all_goals (
        go_enter Try.func3, Try.ntmps3
        go_upto_region 2 with (go_at_call 14; refine (Hs1.out _ HA.out).mono ?_; rintro e w1 ⟨rfl, hW1⟩; have HW1 := Lib.hid hW1; clear hW1)
        go_upto_region 3 with (go_at_call 14; refine (Hs2.out _ (Rd.below HA.out HW1.out)).mono ?_; rintro e w2 ⟨rfl, hW2⟩; have HW2 := Lib.hid (HW1.out.trans (hW2.mono HW1.out.size)); clear hW2)
        go_upto_region 4 with (go_at_call 14; refine (Hs3.out _ (Rd.below HA.out HW2.out)).mono ?_; rintro e w3 ⟨rfl, hW3⟩; have HW3 := Lib.hid (HW2.out.trans (hW3.mono HW2.out.size)); clear hW3)
        go_upto_region 6 with (first
          | (go_at_call 15; refine (termed_calls _ _ _ _ _ (Rd.below HA.out HW3.out) hm).mono ?_; rintro e w4 ⟨rfl, hW4⟩; rw [q2]; have HW4 := Lib.hid (HW3.out.trans (hW4.mono HW3.out.size)); clear hW4)
          | (go_at_call 16; refine (inside_calls _ _ [(i : Int), (j : Int), (k : Int)] _ _ (rdI_new3 _ _ _ _ _ _ (by simp)) (by simp [maxLen])).mono ?_; rintro e w' ⟨rfl, rfl⟩; rw [Hi.out]))
        have HW5 := Lib.hid (HW4.out.alloc HW4.out.size (.cells #[.int .i64 i, .int .i64 j, .int .i64 k] 3))
        generalize w4.alloc (.cells #[.int .i64 i, .int .i64 j, .int .i64 k] 3) = w5 at *
        go_wp2_with (first
          | (go_at_call 14; refine (Hs4.out _ (Rd.below HA.out HW5.out)).mono ?_; rintro e w6 ⟨rfl, hW6⟩; have HW6 := Lib.hid (HW5.out.trans (hW6.mono HW5.out.size)); clear hW6)
          | (go_at_call 17; refine (Hg.out _ (Rd.below HB.out HW6.out)).mono ?_; rintro e w7 ⟨rfl, rfl⟩; rw [q5]))
        go_ret
        exact ⟨rfl, HW6.out⟩)
    have q5 : (haveErr vars hv == 0) = true := by rw [beq_iff_eq]; exact hh
    cases b2 <;> cases b3
    all_goals first | exact absurd Hcomb.out (by decide) | skip
    all_goals (
      go_enter Try.func3, Try.ntmps3
      go_upto_region 2 with (go_at_call 14; refine (Hs1.out _ HA.out).mono ?_; rintro e w1 ⟨rfl, hW1⟩; have HW1 := Lib.hid hW1; clear hW1)
      go_upto_region 3 with (go_at_call 14; refine (Hs2.out _ (Rd.below HA.out HW1.out)).mono ?_; rintro e w2 ⟨rfl, hW2⟩; have HW2 := Lib.hid (HW1.out.trans (hW2.mono HW1.out.size)); clear hW2)
      go_upto_region 4 with (go_at_call 14; refine (Hs3.out _ (Rd.below HA.out HW2.out)).mono ?_; rintro e w3 ⟨rfl, hW3⟩; have HW3 := Lib.hid (HW2.out.trans (hW3.mono HW2.out.size)); clear hW3)
      go_upto_region 6 with (first
        | (go_at_call 15; refine (termed_calls _ _ _ _ _ (Rd.below HA.out HW3.out) hm).mono ?_; rintro e w4 ⟨rfl, hW4⟩; rw [q2]; have HW4 := Lib.hid (HW3.out.trans (hW4.mono HW3.out.size)); clear hW4)
        | (go_at_call 16; refine (inside_calls _ _ [(i : Int), (j : Int), (k : Int)] _ _ (rdI_new3 _ _ _ _ _ _ (by simp)) (by simp [maxLen])).mono ?_; rintro e w' ⟨rfl, rfl⟩; rw [Hi.out]))
      have HW5 := Lib.hid (HW4.out.alloc HW4.out.size (.cells #[.int .i64 i, .int .i64 j, .int .i64 k] 3))
      generalize w4.alloc (.cells #[.int .i64 i, .int .i64 j, .int .i64 k] 3) = w5 at *
      go_wp2_with (first
        | (go_at_call 14; refine (Hs4.out _ (Rd.below HA.out HW5.out)).mono ?_; rintro e w6 ⟨rfl, hW6⟩; have HW6 := Lib.hid (HW5.out.trans (hW6.mono HW5.out.size)); clear hW6)
        | (go_at_call 17; refine (Hg.out _ (Rd.below HB.out HW6.out)).mono ?_; rintro e w7 ⟨rfl, rfl⟩; rw [q5]))
      have Hh := Lib.hid hh
      clear hh
      obtain ⟨wz, rfl⟩ : ∃ wz : World, wz = w7 := ⟨_, rfl⟩
      refine wp_region_held_drew (S := fun w' => Below wz.heap.size wz w') (by kernel_rfl) (Below.refl _ _).drew (fun hH0 => ?_)
      generalize wz.drew = wd at *
      refine wpAnyH_take (i := 0) (oi := { dst := some 113, op := Go.Op.move (Go.Operand.tmp 1), type := 22, pos := "low.go:231", after := #[], guard := none }) rfl (by kernel_rfl) (by kernel_rfl) (by kernel_rfl) (fun _ _ _ h => h) (Or.inl ⟨by rfl, fun w hw => by (go_simp; try with_reducible rfl)⟩) (by assumption) ?_
      try simp only [Act.put, List.setIfInBounds_toArray, List.set_cons_zero, List.set_cons_succ]
      refine wpAnyH_take (i := 1) (oi := { dst := some 114, op := Go.Op.move (Go.Operand.tmp 2), type := 3, pos := "low.go:231", after := #[], guard := none }) rfl (by kernel_rfl) (by kernel_rfl) (by kernel_rfl) (fun _ _ _ h => h) (Or.inl ⟨by rfl, fun w hw => by (go_simp; try with_reducible rfl)⟩) (by assumption) ?_
      try simp only [Act.put, List.setIfInBounds_toArray, List.set_cons_zero, List.set_cons_succ]
      refine wpAnyH_take (i := 2) (oi := { dst := some 115, op := Go.Op.binOp Go.BinOp.add 3 (Go.Operand.tmp 114) (Go.Operand.const (Go.Value.int Go.IntKind.i64 1)) 3, type := 3, pos := "low.go:231", after := #[{ on := 1, ground := Go.Ground.data }], guard := none }) rfl (by kernel_rfl) (by kernel_rfl) (by kernel_rfl) (fun _ _ _ h => h) (Or.inl ⟨by rfl, fun w hw => by (go_simp; try with_reducible rfl)⟩) (by assumption) ?_
      try simp only [Act.put, List.setIfInBounds_toArray, List.set_cons_zero, List.set_cons_succ]
      refine wpAnyH_take (i := 3) (oi := { dst := some 116, op := Go.Op.slice 22 (Go.Operand.tmp 113) none (some (Go.Operand.tmp 115)) none, type := 22, pos := "low.go:231", after := #[{ on := 0, ground := Go.Ground.data }, { on := 2, ground := Go.Ground.data }], guard := none }) rfl (by kernel_rfl) (by kernel_rfl) (by kernel_rfl) (fun _ _ _ h => h) (Or.inl ⟨by rfl, fun w hw => by (go_simp; try with_reducible rfl)⟩) (by assumption) ?_
      try simp only [Act.put, List.setIfInBounds_toArray, List.set_cons_zero, List.set_cons_succ]
      refine wpAnyH_take (i := 4) (oi := { dst := some 117, op := Go.Op.move (Go.Operand.tmp 5), type := 23, pos := "low.go:231", after := #[], guard := none }) rfl (by kernel_rfl) (by kernel_rfl) (by kernel_rfl) (fun _ _ _ h => h) (Or.inl ⟨by rfl, fun w hw => by (go_simp; try with_reducible rfl)⟩) (by assumption) ?_
      try simp only [Act.put, List.setIfInBounds_toArray, List.set_cons_zero, List.set_cons_succ]
      refine wpAnyH_take (i := 6) (oi := { dst := some 119, op := Go.Op.move (Go.Operand.tmp 1), type := 22, pos := "low.go:231", after := #[], guard := none }) rfl (by kernel_rfl) (by kernel_rfl) (by kernel_rfl) (fun _ _ _ h => h) (Or.inl ⟨by rfl, fun w hw => by (go_simp; try with_reducible rfl)⟩) (by assumption) ?_
      try simp only [Act.put, List.setIfInBounds_toArray, List.set_cons_zero, List.set_cons_succ]
      refine wpAnyH_take (i := 7) (oi := { dst := some 120, op := Go.Op.move (Go.Operand.tmp 3), type := 3, pos := "low.go:231", after := #[], guard := none }) rfl (by kernel_rfl) (by kernel_rfl) (by kernel_rfl) (fun _ _ _ h => h) (Or.inl ⟨by rfl, fun w hw => by (go_simp; try with_reducible rfl)⟩) (by assumption) ?_
      try simp only [Act.put, List.setIfInBounds_toArray, List.set_cons_zero, List.set_cons_succ]
      refine wpAnyH_take (i := 8) (oi := { dst := some 121, op := Go.Op.binOp Go.BinOp.add 3 (Go.Operand.tmp 120) (Go.Operand.const (Go.Value.int Go.IntKind.i64 1)) 3, type := 3, pos := "low.go:231", after := #[{ on := 7, ground := Go.Ground.data }], guard := none }) rfl (by kernel_rfl) (by kernel_rfl) (by kernel_rfl) (fun _ _ _ h => h) (Or.inl ⟨by rfl, fun w hw => by (go_simp; try with_reducible rfl)⟩) (by assumption) ?_
      try simp only [Act.put, List.setIfInBounds_toArray, List.set_cons_zero, List.set_cons_succ]
      refine wpAnyH_take (i := 9) (oi := { dst := some 122, op := Go.Op.slice 22 (Go.Operand.tmp 119) none (some (Go.Operand.tmp 121)) none, type := 22, pos := "low.go:231", after := #[{ on := 6, ground := Go.Ground.data }, { on := 8, ground := Go.Ground.data }], guard := none }) rfl (by kernel_rfl) (by kernel_rfl) (by kernel_rfl) (fun _ _ _ h => h) (Or.inl ⟨by rfl, fun w hw => by (go_simp; try with_reducible rfl)⟩) (by assumption) ?_
      try simp only [Act.put, List.setIfInBounds_toArray, List.set_cons_zero, List.set_cons_succ]
      refine wpAnyH_take (i := 10) (oi := { dst := some 123, op := Go.Op.move (Go.Operand.tmp 5), type := 23, pos := "low.go:231", after := #[], guard := none }) rfl (by kernel_rfl) (by kernel_rfl) (by kernel_rfl) (fun _ _ _ h => h) (Or.inl ⟨by rfl, fun w hw => by (go_simp; try with_reducible rfl)⟩) (by assumption) ?_
      try simp only [Act.put, List.setIfInBounds_toArray, List.set_cons_zero, List.set_cons_succ]
      refine wpAnyH_ready (rs := [5]) (by kernel_rfl) (by simp) ?_
      refine AllReadyH.cons (o := { dst := some 118, op := Go.Op.call { callee := Go.Callee.value (Go.Operand.func 18), args := #[Go.Operand.tmp 116, Go.Operand.tmp 117], argTypes := #[22, 23] }, type := 3, pos := "low.go:231", after := #[{ on := 3, ground := Go.Ground.data }, { on := 4, ground := Go.Ground.data }], guard := none }) rfl (fun K hK => ?_) AllReadyH.nil
      go_simp
      go_at_call 18
      refine (HTi.out _ (Rd.below HA.out (HW6.out.trans (hH0.mono HW6.out.size))) (Rd.below HB.out (HW6.out.trans (hH0.mono HW6.out.size))) Hh.out).mono ?_
      rintro e w9 ⟨rfl, hB9⟩
      refine hK.out _ _ (hH0.trans (hB9.mono hH0.size)) (fun hH1 => ?_)
      clear hK hB9
      try simp only [Act.put, List.setIfInBounds_toArray, List.set_cons_zero, List.set_cons_succ]
      refine wpAnyH_ready (rs := [11]) (by kernel_rfl) (by simp) ?_
      refine AllReadyH.cons (o := { dst := some 124, op := Go.Op.call { callee := Go.Callee.value (Go.Operand.func 18), args := #[Go.Operand.tmp 122, Go.Operand.tmp 123], argTypes := #[22, 23] }, type := 3, pos := "low.go:231", after := #[{ on := 9, ground := Go.Ground.data }, { on := 10, ground := Go.Ground.data }, { on := 5, ground := Go.Ground.chain }], guard := none }) rfl (fun K hK => ?_) AllReadyH.nil
      go_simp
      go_at_call 18
      refine (HTj.out _ (Rd.below HA.out (HW6.out.trans (hH1.mono HW6.out.size))) (Rd.below HB.out (HW6.out.trans (hH1.mono HW6.out.size))) Hh.out).mono ?_
      rintro e w9 ⟨rfl, hB9⟩
      refine hK.out _ _ (hH1.trans (hB9.mono hH1.size)) (fun hH2 => ?_)
      clear hK hB9
      try simp only [Act.put, List.setIfInBounds_toArray, List.set_cons_zero, List.set_cons_succ]
      refine wpAnyH_take (i := 12) (oi := { dst := some 125, op := Go.Op.binOp Go.BinOp.eql 3 (Go.Operand.tmp 118) (Go.Operand.tmp 124) 3, type := 4, pos := "low.go:231", after := #[{ on := 5, ground := Go.Ground.data }, { on := 11, ground := Go.Ground.data }], guard := none }) rfl (by kernel_rfl) (by kernel_rfl) (by kernel_rfl) (fun _ _ _ h => h) (Or.inl ⟨by rfl, fun w hw => by (go_simp; try with_reducible rfl)⟩) (by assumption) ?_
      try simp only [Act.put, List.setIfInBounds_toArray, List.set_cons_zero, List.set_cons_succ]
      refine wpAnyH_take (i := 13) (oi := { dst := some 12, op := Go.Op.assign (Go.Operand.tmp 125), type := 4, pos := "low.go:231", after := #[{ on := 12, ground := Go.Ground.data }, { on := 11, ground := Go.Ground.chain }, { on := 0, ground := Go.Ground.phase }, { on := 1, ground := Go.Ground.phase }, { on := 2, ground := Go.Ground.phase }, { on := 3, ground := Go.Ground.phase }, { on := 4, ground := Go.Ground.phase }, { on := 5, ground := Go.Ground.phase }, { on := 6, ground := Go.Ground.phase }, { on := 7, ground := Go.Ground.phase }, { on := 8, ground := Go.Ground.phase }, { on := 9, ground := Go.Ground.phase }, { on := 10, ground := Go.Ground.phase }, { on := 11, ground := Go.Ground.phase }, { on := 12, ground := Go.Ground.phase }], guard := none }) rfl (by kernel_rfl) (by kernel_rfl) (by kernel_rfl) (fun _ _ _ h => h) (Or.inl ⟨by rfl, fun w hw => by (go_simp; try with_reducible rfl)⟩) (by assumption) ?_
      try simp only [Act.put, List.setIfInBounds_toArray, List.set_cons_zero, List.set_cons_succ]
      refine wpAnyH_done (by kernel_rfl) ?_ _
      have HB9 := Lib.hid hH2
      clear hH0 hH1 hH2
      go_wp2
      go_ret
      exact ⟨ret_bool (by simp), HW6.out.trans (HB9.out.mono HW6.out.size)⟩)
theorem valueSame_calls (vars i j k : Int) (A B : Option Addr) (l : List Term) (hv : List Int) (capA capB : Nat) (w : World) (hA : RdT w A l) (hB : RdI w B hv) (hcA : l.length ≤ capA) (hm : l.length ≤ maxLen) (hm' : hv.length ≤ maxLen) :
    Calls Try.prog 3 #[.int .i64 vars, .slice A l.length capA, .int .i64 i, .int .i64 j, .int .i64 k, .slice B hv.length capB] w fun e w' => e = .returned (.bool true) ∧ Below w.heap.size w w' := by
  by_cases h0 : tErr vars l = 0
  · by_cases hb : (0 ≤ i ∧ i < l.length) ∧ (0 ≤ j ∧ j < l.length) ∧ 0 ≤ k ∧ k < l.length
    · obtain ⟨a, rfl⟩ := Int.eq_ofNat_of_zero_le hb.1.1
      obtain ⟨b, rfl⟩ := Int.eq_ofNat_of_zero_le hb.2.1.1
      obtain ⟨c, rfl⟩ := Int.eq_ofNat_of_zero_le hb.2.2.1
      exact valueSame_ok vars a b c A B l hv capA capB w hA hB hcA hm' h0 (by omega) (by omega) (by omega)
    · exact valueSame_bad2 vars i j k A B l hv capA capB w hA hm h0 hb
  · exact valueSame_bad1 vars i j k A B l hv capA capB w hA hm h0
end Go.Proofs.Ytmglhppfdhphbaa
