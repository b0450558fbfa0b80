/- The law TermTwo answers true. -/
import Derived.Test.YtmglhppfdhphbaaTermTwoA
import Derived.Test.YtmglhppfdhphbaaTermOwn
namespace Go.Proofs.Ytmglhppfdhphbaa
open Go.RowKit

def valE (vars : Int) (hv : List Int) (l : List Term) : Int := if tErr vars l ≠ 0 then tErr vars l else haveErr vars hv
def valX (vars : Int) (hv : List Int) (l : List Term) : Int := if valE vars hv l = 0 then tVal hv l else 0
theorem value_calls (vars : Int) (A B : Option Addr) (l : List Term) (hv : List Int) (capA capB : Nat) (w : World) (hA : RdT w A l) (hB : RdI w B hv) (hm : l.length ≤ maxLen) (hm' : hv.length ≤ maxLen) :
    Calls Try.prog 22 #[.int .i64 vars, .slice A l.length capA, .slice B hv.length capB] w fun e w' => e = .returned (.tuple #[.int .i64 (valX vars hv l), .int .i64 (valE vars hv l)]) ∧ Below w.heap.size w w' := by
  by_cases h0 : tErr vars l = 0
  · by_cases h1 : haveErr vars hv = 0
    · have he : valE vars hv l = 0 := by unfold valE; rw [if_neg (by omega), h1]
      have hx : valX vars hv l = tVal hv l := by unfold valX; rw [if_pos he]
      rw [he, hx]
      exact value_ok vars A B l hv capA capB w hA hB h0 h1
    · have he : valE vars hv l = haveErr vars hv := by unfold valE; rw [if_neg (by omega)]
      have hx : valX vars hv l = 0 := by unfold valX; rw [if_neg (by omega)]
      rw [he, hx]
      exact value_bad2 vars A B l hv capA capB w hA hB hm hm' h0 h1
  · have he : valE vars hv l = tErr vars l := by unfold valE; rw [if_pos h0]
    have hx : valX vars hv l = 0 := by unfold valX; rw [if_neg (by omega)]
    rw [he, hx]
    exact value_bad1 vars A B l hv capA capB w hA hm h0
theorem valE_zero {vars : Int} {hv : List Int} {l : List Term} (h : valE vars hv l = 0) : tErr vars l = 0 ∧ haveErr vars hv = 0 := by
  unfold valE at h
  by_cases h0 : tErr vars l = 0
  · rw [if_neg (by omega)] at h; exact ⟨h0, h⟩
  · rw [if_pos h0] at h; exact absurd h h0
theorem valE_nil (vars : Int) (hv : List Int) : (valE vars hv [] != 0) = true := by
  have : tErr vars [] = 1 := by unfold tErr; rw [if_pos (by simp)]
  unfold valE
  rw [this, if_pos (by decide)]; decide

set_option maxRecDepth 100000 in
set_option maxHeartbeats 1000000 in
theorem two_bad (vars op : Int) (A B C : Option Addr) (a b : List Term) (hv : List Int) (ca cb cc : Nat) (w : World) (hC : RdI w C hv) (hma : a.length ≤ 140737488351232) (hmb : b.length ≤ 140737488351232) (hmc : hv.length ≤ maxLen)
    (h : a.length = 0 ∨ b.length = 0 ∨ 16 ≤ a.length + b.length) :
    Calls Try.prog 5 #[.int .i64 vars, .slice A a.length ca, .slice B b.length cb, .int .i64 op, .slice C hv.length cc] w fun e w' => e = .returned (.bool true) ∧ Below w.heap.size w w' := by
  have HC := Lib.hid hC
  clear hC
  have hd : ((a.length : Int) == 0) = true ∨ (((a.length : Int) == 0) = false ∧ ((b.length : Int) == 0) = true) ∨ (((a.length : Int) == 0) = false ∧ ((b.length : Int) == 0) = false ∧ (16 : Int) ≤ (a.length : Int) + (b.length : Int)) := by
    simp only [beq_iff_eq, beq_eq_false_iff_ne]; omega
  have Hn := Lib.hid (valE_nil vars hv)
  clear h
  rcases hd with h1 | ⟨h1, h2⟩ | ⟨h1, h2, h3⟩
  all_goals
    go_enter Try.func5, Try.ntmps5
    go_wp2_with (go_at_call 22; refine (value_calls vars none C [] hv 0 cc _ Rd.nil_ HC.out (by simp) hmc).mono ?_; rintro e w' ⟨rfl, hW⟩)
    go_ret
    exact ⟨ret_bool Hn.out, hW⟩
theorem insideB_ok2 {n x y : Int} (h : insideB n [x, y] = true) : 0 ≤ x ∧ x < n ∧ 0 ≤ y ∧ y < n := by
  rw [insideB_2] at h; have := of_decide_eq_true h; omega
theorem shiftT_no {n : Nat} {op a b v : Int} (h : ¬ (3 ≤ op ∧ op ≤ 6)) : shiftT n ⟨op, a, b, v⟩ = ⟨op, a, b, v⟩ := by unfold shiftT; rw [if_neg h]
theorem shiftT_yes {n : Nat} {op a b v : Int} (h : 3 ≤ op ∧ op ≤ 6) : shiftT n ⟨op, a, b, v⟩ = ⟨op, a + n, b + n, v⟩ := by unfold shiftT; rw [if_pos h]

/-- What the last test answers. -/
theorem two_last {vars op : Int} {hv : List Int} {a b : List Term} (hl : a.length + b.length < 16) (ho : 3 ≤ op ∧ op ≤ 6) (ha : valE vars hv a = 0) (hb : valE vars hv b = 0) :
    valE vars hv (joined op a b) = 0 ∧ valX vars hv (joined op a b) = doF op (valX vars hv a) (valX vars hv b) ∧ (0 ≤ valX vars hv a ∧ valX vars hv a ≤ 255) ∧ 0 ≤ valX vars hv b ∧ valX vars hv b ≤ 255 := by
  obtain ⟨a1, a2⟩ := valE_zero ha
  obtain ⟨b1, _⟩ := valE_zero hb
  have hj : valE vars hv (joined op a b) = 0 := by unfold valE; rw [if_neg (by rw [joined_ok a1 b1 ho hl]; decide), a2]
  have bd : ∀ l, tErr vars l = 0 → 0 ≤ tVal hv l ∧ tVal hv l ≤ 255 := fun l h => by
    obtain ⟨_, _, _, _, hk⟩ := tErr_ok h
    exact getD_mem_bd (valsTo_bd hk (haveErr_ok a2).2 _ (Nat.le_refl _)) _
  unfold valX
  rw [if_pos ha, if_pos hb, if_pos hj]
  exact ⟨hj, joined_val a1 b1 ho, bd a a1, bd b b1⟩

set_option maxRecDepth 100000 in
set_option maxHeartbeats 4000000 in
theorem two_ok (vars op : Int) (A B C : Option Addr) (a b : List Term) (hv : List Int) (ca cb cc : Nat) (w : World) (hA : RdT w A a) (hB : RdT w B b) (hC : RdI w C hv) (hmc : hv.length ≤ maxLen)
    (h1 : 0 < a.length) (h2 : 0 < b.length) (h3 : a.length + b.length < 16) :
    Calls Try.prog 5 #[.int .i64 vars, .slice A a.length ca, .slice B b.length cb, .int .i64 op, .slice C hv.length cc] w fun e w' => e = .returned (.bool true) ∧ Below w.heap.size w w' := by
  have HA := Lib.hid hA
  have HB := Lib.hid hB
  have HC := Lib.hid hC
  clear hA hB hC
  have q1 : ((a.length : Int) == 0) = false := by simp only [beq_eq_false_iff_ne]; omega
  have q2 : ((b.length : Int) == 0) = false := by simp only [beq_eq_false_iff_ne]; omega
  have q3 : (a.length : Int) + (b.length : Int) < 16 := by omega
  go_enter Try.func5, Try.ntmps5
  go_wp2_with (at_builtin; refine wpList_appTL rfl _ _ rfl w.heap.size _ [] a rfl (OwnT.empty w _ (Nat.le_refl _)) A ca rfl (Rd.below HA.out ((Below.refl _ _).alloc (Nat.le_refl _) _)) h1 (by simp; omega) (by simp) ?_; intro v1 w1 hown1 hgrow1)
  rw [List.nil_append] at hown1
  have hW1 := below_own (f := Term.cells) ((Below.refl w.heap.size w).alloc (Nat.le_refl _) _) hgrow1 (OwnT.empty w _ (Nat.le_refl _)) (Nat.le_refl _) (by simp)
  clear hgrow1 q1 q2
  go_loopw [13, 51] (fun v i wr => ∃ k : Nat, k ≤ b.length ∧ i = .int .i64 k ∧ OwnT wr w.heap.size v (a ++ (b.take k).map (shiftT a.length)) ∧ Below w.heap.size w wr) (fun _ i _ => b.length - (intOf i).toNat)
  case atStart => exact ⟨0, Nat.zero_le _, rfl, by simpa using hown1, hW1⟩
  case round =>
    obtain ⟨k, hk, rfl, hown, hW⟩ := hrel
    have hw1 := hW.size
    clear hown1 hW1
    by_cases hlt : k < b.length
    · obtain ⟨bb, off, rfl, hb, c0, c1, c2, c3⟩ := RdT.at4 (Rd.below HB.out hW) hlt
      have htk : (b.take (k + 1)).map (shiftT a.length) = (b.take k).map (shiftT a.length) ++ [shiftT a.length b[k]] := by rw [List.take_succ_eq_append_getElem hlt, List.map_append]; rfl
      have Htk := Lib.hid htk
      have Hlen := Lib.hid (show (a ++ (b.take k).map (shiftT a.length)).length ≤ 32 by simp; omega)
      have Hown := Lib.hid hown
      clear htk hown
      generalize b[k] = t at *
      obtain ⟨o, ta, tb, tv⟩ := t
      dsimp only at c0 c1 c2 c3
      by_cases ho : 3 ≤ o ∧ o ≤ 6
      · have Hs := Lib.hid (shiftT_yes (n := a.length) (a := ta) (b := tb) (v := tv) ho)
        obtain ⟨ho1, ho2⟩ := ho
        cases hin : insideB b.length [ta, tb]
        · have Hin := Lib.hid hin
          clear hin
          go_wp2_with (go_at_call 16; refine (inside_calls _ _ [ta, tb] _ _ (rdI_new2 _ _ _ _ _ (by simp)) (by simp [maxLen])).mono ?_; rintro e w' ⟨rfl, rfl⟩; rw [Hin.out])
          go_ret
          exact ⟨rfl, (hW.alloc hw1 _).alloc (by simp; omega) _⟩
        · have Hin := Lib.hid hin
          obtain ⟨i1, i2, i3, i4⟩ := insideB_ok2 hin
          clear hin
          go_wp2_with (first
            | (go_at_call 16; refine (inside_calls _ _ [ta, tb] _ _ (rdI_new2 _ _ _ _ _ (by simp)) (by simp [maxLen])).mono ?_; rintro e w' ⟨rfl, rfl⟩; rw [Hin.out])
            | (at_builtin; refine wpList_appT rfl _ _ rfl w.heap.size _ _ ⟨o, ta + a.length, tb + a.length, tv⟩ rfl (((Hown.out.alloc _).alloc _).alloc _) _ _ rfl (cellT_new _ _ _ _ _ (by simp) rfl) (by have := Hlen.out; omega) (by simp; omega) ?_; intro v' w3 hown' hgrow))
          go_roundw
          case rel =>
            refine ⟨k + 1, by omega, by go_num, by rw [Htk.out, Hs.out, ← List.append_assoc]; exact hown', below_own (f := Term.cells) ?_ hgrow (((Hown.out.alloc _).alloc _).alloc _) (Nat.le_refl _) (by simp; omega)⟩
            exact ((hW.alloc hw1 _).alloc (by simp; omega) _).alloc (by simp; omega) _
          case measure => simp [intOf]; omega
      · have Hs := Lib.hid (shiftT_no (n := a.length) (a := ta) (b := tb) (v := tv) ho)
        have hd : o < 3 ∨ (3 ≤ o ∧ 6 < o) := by omega
        clear ho
        rcases hd with ho | ⟨ho, ho'⟩
        all_goals
          go_wp2_with (at_builtin; refine wpList_appT rfl _ _ rfl w.heap.size _ _ ⟨o, ta, tb, tv⟩ rfl ((Hown.out.alloc _).alloc _) _ _ rfl (cellT_new _ _ _ _ _ (by simp) rfl) (by have := Hlen.out; omega) (by simp; omega) ?_; intro v' w3 hown' hgrow)
          go_roundw
          case rel =>
            refine ⟨k + 1, by omega, by go_num, by rw [Htk.out, Hs.out, ← List.append_assoc]; exact hown', below_own (f := Term.cells) ?_ hgrow ((Hown.out.alloc _).alloc _) (Nat.le_refl _) (by simp; omega)⟩
            exact (hW.alloc hw1 _).alloc (by simp; omega) _
          case measure => simp [intOf]; omega
    · have : k = b.length := by omega
      subst this
      rw [List.take_length] at hown
      obtain ⟨Ao, co, rfl, hRo⟩ := OwnT.rd hown
      have hlo : (a ++ b.map (shiftT a.length)).length = a.length + b.length := by simp
      rw [hlo] at hown ⊢
      have Hown := Lib.hid hown
      have Hj := Lib.hid (show a ++ b.map (shiftT a.length) ++ [topT op a.length b.length] = joined op a b from rfl)
      have Htop := Lib.hid (show topT op a.length b.length = ⟨op, (a.length : Int) - 1, (a.length : Int) + b.length - 1, 0⟩ from rfl)
      have hcast : ((a.length + b.length : Nat) : Int) = (a.length : Int) + (b.length : Int) := by omega
      clear hown hlo hRo
      go_wp2_with (at_builtin; refine wpList_appT rfl _ _ rfl w.heap.size _ _ ⟨op, (a.length : Int) - 1, (a.length : Int) + b.length - 1, 0⟩ rfl (Hown.out.alloc _) _ _ rfl (cellT_new _ _ _ _ _ (by simp) rfl) (by simp; omega) (by simp; omega) ?_; intro v' w3 hown' hgrow)
      have hW3 := below_own (f := Term.cells) (hW.alloc hw1 _) hgrow (Hown.out.alloc _) (Nat.le_refl _) (by simp; omega)
      obtain ⟨Aj, cj, rfl, hRj⟩ := OwnT.rd hown'
      have HRj := Lib.hid hRj
      have HW3 := Lib.hid hW3
      have hz3 := hW3.size
      clear hRj hW3 hown' hgrow
      have hjj : a ++ b.map (shiftT a.length) ++ [⟨op, (a.length : Int) - 1, (a.length : Int) + b.length - 1, 0⟩] = joined op a b := rfl
      rw [hjj] at HRj ⊢
      have Hlj := Lib.hid (show (joined op a b).length ≤ maxLen by simp [joined, maxLen]; omega)
      clear hjj hcast
      have hlast : (op < 3 ∨ 6 < op ∨ valE vars hv a ≠ 0 ∨ valE vars hv b ≠ 0) ∨ (3 ≤ op ∧ op ≤ 6 ∧ valE vars hv a = 0 ∧ valE vars hv b = 0 ∧ valE vars hv (joined op a b) = 0 ∧
          valX vars hv (joined op a b) = doF op (valX vars hv a) (valX vars hv b) ∧ (0 ≤ valX vars hv a ∧ valX vars hv a ≤ 255) ∧ 0 ≤ valX vars hv b ∧ valX vars hv b ≤ 255) := by
        by_cases hc : 3 ≤ op ∧ op ≤ 6 ∧ valE vars hv a = 0 ∧ valE vars hv b = 0
        · obtain ⟨c1, c2, c3, c4⟩ := hc
          obtain ⟨e1, e2, e3, e4⟩ := two_last (hv := hv) h3 ⟨c1, c2⟩ c3 c4
          exact .inr ⟨c1, c2, c3, c4, e1, e2, e3, e4⟩
        · left; omega
      have hv1 := fun w' hw' => value_calls vars A C a hv ca cc w' (Rd.below HA.out hw') (Rd.below HC.out hw') (by unfold maxLen; omega) hmc
      have hv2 := fun w' hw' => value_calls vars B C b hv cb cc w' (Rd.below HB.out hw') (Rd.below HC.out hw') (by unfold maxLen; omega) hmc
      have hv3 := fun w' hr hw' => value_calls vars Aj C (joined op a b) hv cj cc w' hr (Rd.below HC.out hw') Hlj.out hmc
      have Hv1 := Lib.hid hv1
      have Hv2 := Lib.hid hv2
      have Hv3 := Lib.hid hv3
      clear hv1 hv2 hv3
      generalize valX vars hv a = xa at *
      generalize valE vars hv a = ea at *
      generalize valX vars hv b = xb at *
      generalize valE vars hv b = eb at *
      generalize valX vars hv (joined op a b) = xj at *
      generalize valE vars hv (joined op a b) = ej at *
      have Hlast := Lib.hid hlast
      clear hlast
      refine (Hv1.out _ HW3.out).mono ?_
      rintro e w4 ⟨rfl, hW4⟩
      have HW4 := Lib.hid (HW3.out.trans (hW4.mono hz3))
      have HRj4 := Lib.hid (Rd.below HRj.out hW4)
      have hz4 := HW4.out.size
      clear hW4
      go_wp2_with fail
      refine (Hv2.out _ HW4.out).mono ?_
      rintro e w5 ⟨rfl, hW5⟩
      have HW5 := Lib.hid (HW4.out.trans (hW5.mono hz4))
      have HRj5 := Lib.hid (Rd.below HRj4.out hW5)
      have hz5 := HW5.out.size
      clear hW5
      go_wp2_with fail
      refine (Hv3.out _ HRj5.out HW5.out).mono ?_
      rintro e w6 ⟨rfl, hW6⟩
      have HW6 := Lib.hid (HW5.out.trans (hW6.mono hz5))
      clear hW6
      rcases Hlast.out with hbad | ⟨o1, o2, rfl, rfl, rfl, hx, ⟨b1, b2⟩, b3, b4⟩
      · clear Hlast
        have hd : (ea != 0) = true ∨ ((ea != 0) = false ∧ (eb != 0) = true) ∨ ((ea != 0) = false ∧ (eb != 0) = false ∧ decide (op < 3) = true) ∨ ((ea != 0) = false ∧ (eb != 0) = false ∧ decide (op < 3) = false ∧ decide (6 < op) = true) := by
          simp only [bne_iff_ne, bne_eq_false_iff_eq, decide_eq_true_eq, decide_eq_false_iff_not]; omega
        clear hbad
        rcases hd with d1 | ⟨d1, d2⟩ | ⟨d1, d2, d3⟩ | ⟨d1, d2, d3, d4⟩
        all_goals
          go_wp2
          go_ret
          exact ⟨rfl, HW6.out⟩
      · clear Hlast
        have Hx := Lib.hid hx
        clear hx
        have d3 : decide (op < 3) = false := decide_eq_false (by omega)
        have d4 : decide (6 < op) = false := decide_eq_false (by omega)
        go_wp2_with (go_at_call 23; refine (op_calls _ _ _ _ ⟨o1, o2⟩ ⟨b1, b2⟩ ⟨b3, b4⟩).mono ?_; rintro e w7 ⟨rfl, rfl⟩; rw [← Hx.out])
        go_ret
        exact ⟨ret_bool (by simp), HW6.out⟩
theorem termTwo_calls (vars op : Int) (A B C : Option Addr) (a b : List Term) (hv : List Int) (ca cb cc : Nat) (w : World) (hA : RdT w A a) (hB : RdT w B b) (hC : RdI w C hv) (hma : a.length ≤ 140737488351232) (hmb : b.length ≤ 140737488351232) (hmc : hv.length ≤ maxLen) :
    Calls Try.prog 5 #[.int .i64 vars, .slice A a.length ca, .slice B b.length cb, .int .i64 op, .slice C hv.length cc] w fun e w' => e = .returned (.bool true) ∧ Below w.heap.size w w' := by
  by_cases h : a.length = 0 ∨ b.length = 0 ∨ 16 ≤ a.length + b.length
  · exact two_bad vars op A B C a b hv ca cb cc w hC hma hmb hmc h
  · exact two_ok vars op A B C a b hv ca cb cc w hA hB hC hmc (by omega) (by omega) (by omega)
end Go.Proofs.Ytmglhppfdhphbaa
