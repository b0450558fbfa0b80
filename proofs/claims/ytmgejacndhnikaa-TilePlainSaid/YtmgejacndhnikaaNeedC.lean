/- need.needs, need.wrong, need.Need; the references' Tree; treed, leaves. -/
import Derived.Test.YtmgejacndhnikaaNeedB
namespace Go.Proofs.Ytmgejacndhnikaa
open Go.RowKit

theorem need_bd {vars : Int} {l : List Term} (hok : ∀ k (h : k < l.length), TOk vars k l[k]) : ∀ i, i < l.length → 1 ≤ accAt need1 l i ∧ accAt need1 l i ≤ i + 1 := by
  intro i
  induction i using Nat.strongRecOn with
  | _ i ih =>
    intro hi
    rw [accAt_eq need1 hi]
    have ht := (hok i hi).2.2.2.2
    by_cases h3 : 3 ≤ l[i].op
    · rw [need1_3 h3]
      obtain ⟨a0, a1, b0, b1⟩ := ht h3
      rw [accTo_at need1 (show i ≤ l.length by omega) (show l[i].a.toNat < i by omega), accTo_at need1 (show i ≤ l.length by omega) (show l[i].b.toNat < i by omega)]
      have ha := ih l[i].a.toNat (by omega) (by omega)
      have hb := ih l[i].b.toNat (by omega) (by omega)
      split
      · omega
      · split <;> omega
    · rw [need1_0 h3]; omega

set_option maxHeartbeats 2000000 in
theorem needs_calls (vars : Int) (A : Option Addr) (l : List Term) (cap : Nat) (w : World) (hA : RdT w A l) (h0 : tErr vars l = 0) :
    Calls Try.prog 123 #[.slice A l.length cap] w fun e w' => ∃ v, e = .returned v ∧ OwnI w' w.heap.size 3 v (accTo need1 l l.length) ∧ Below w.heap.size w w' := by
  obtain ⟨hv0, hv6, hl1, hl16, hok⟩ := tErr_ok h0
  have Hbd := Lib.hid (need_bd hok)
  have Hok := Lib.hid hok
  have HA := Lib.hid hA
  clear hA h0 hok
  go_enter Try.func123, Try.ntmps123
  go_wp2
  go_loopw [3, 11] (fun v i wr => ∃ k : Nat, k ≤ l.length ∧ i = .int .i64 k ∧ OwnI wr w.heap.size 3 v (accTo need1 l k) ∧ Below w.heap.size w wr) (fun _ i _ => l.length - (intOf i).toNat)
  case atStart => exact ⟨0, Nat.zero_le _, rfl, Own.nil_ _ _ _, Below.refl _ _⟩
  case round =>
    obtain ⟨k, hk, rfl, hown, hW⟩ := hrel
    have hw1 := hW.size
    by_cases hlt : k < l.length
    · obtain ⟨b, off, rfl, hb, c0, c1, c2, c3⟩ := RdT.at4 (Rd.below HA.out hW) hlt
      have hsucc := accTo_succ need1 hlt
      have hlen := accTo_len need1 hk
      by_cases h3 : 3 ≤ l[k].op
      · obtain ⟨a0, a1, b0, b1⟩ := (Hok.out k hlt).2.2.2.2 h3
        obtain ⟨na, ha⟩ := Int.eq_ofNat_of_zero_le a0
        obtain ⟨nb, hnb⟩ := Int.eq_ofNat_of_zero_le b0
        have hna : na < (accTo need1 l k).length := by omega
        have hnbl : nb < (accTo need1 l k).length := by omega
        obtain ⟨g, cp, rfl, hg1, hg2, hg3, hg4, hcell⟩ := OwnI.at_ hown (by omega)
        have d1 := hcell na hna
        have d2 := hcell nb hnbl
        rw [need1_3 h3, ha, hnb, Int.toNat_natCast, Int.toNat_natCast, getD_get hna, getD_get hnbl] at hsucc
        have bd1 := Hbd.out na (by omega)
        have bd2 := Hbd.out nb (by omega)
        rw [← accTo_at need1 hk (show na < k by omega), getD_get hna] at bd1
        rw [← accTo_at need1 hk (show nb < k by omega), getD_get hnbl] at bd2
        have q3 : (na : Int) < ((accTo need1 l k).length : Int) := by omega
        have q4 : (nb : Int) < ((accTo need1 l k).length : Int) := by omega
        rw [ha] at c1
        rw [hnb] at c2
        have hlen16 : (accTo need1 l k).length ≤ 16 := by omega
        have Hown := Lib.hid hown
        have Hsucc := Lib.hid hsucc
        clear hown hsucc hlen hcell hg4 ha hnb a0 a1 b0 b1
        generalize l[k] = t at *
        generalize (accTo need1 l k)[na] = x at *
        generalize (accTo need1 l k)[nb] = y at *
        rcases Int.lt_trichotomy x y with hxy | hxy | hxy
        · have hz : (if x = y then x + 1 else if x < y then y else x) = y := by rw [if_neg (by omega), if_pos hxy]
          have Hz := Lib.hid hz
          have e1 : (x == y) = false := by rw [beq_eq_false_iff_ne]; omega
          clear hz
          go_wp2
          go_quiet (fail)
          go_wp2_with (at_builtin; refine wpList_appI rfl _ _ rfl w.heap.size _ _ y rfl (((Hown.out.alloc _).drewN _).alloc _) _ _ rfl (cell_new _ _ _ _ (by simp) _) (by omega) (by simp; omega) ?_; intro v' w3 hown' hgrow)
          go_roundw
          case rel => exact ⟨k + 1, by omega, by go_num, by rw [Hsucc.out, Hz.out]; exact hown', below_own ((below_dN (hW.alloc hw1 _) _).alloc (by simp; omega) _) hgrow (((Hown.out.alloc _).drewN _).alloc _) (Nat.le_refl _) (by simp; omega)⟩
          case measure => simp [intOf]; omega
        · subst hxy
          have hz : (if x = x then x + 1 else if x < x then x else x) = x + 1 := by rw [if_pos rfl]
          have Hz := Lib.hid hz
          have e1 : (x == x) = true := by simp
          clear hz
          go_wp2
          go_quiet (fail)
          go_wp2_with (at_builtin; refine wpList_appI rfl _ _ rfl w.heap.size _ _ (x + 1) rfl (((Hown.out.alloc _).drewN _).alloc _) _ _ rfl (cell_new _ _ _ _ (by simp) _) (by omega) (by simp; omega) ?_; intro v' w3 hown' hgrow)
          go_roundw
          case rel => exact ⟨k + 1, by omega, by go_num, by rw [Hsucc.out, Hz.out]; exact hown', below_own ((below_dN (hW.alloc hw1 _) _).alloc (by simp; omega) _) hgrow (((Hown.out.alloc _).drewN _).alloc _) (Nat.le_refl _) (by simp; omega)⟩
          case measure => simp [intOf]; omega
        · have hz : (if x = y then x + 1 else if x < y then y else x) = x := by rw [if_neg (by omega), if_neg (by omega)]
          have Hz := Lib.hid hz
          have e1 : (x == y) = false := by rw [beq_eq_false_iff_ne]; omega
          clear hz
          go_wp2
          go_quiet (fail)
          go_wp2_with (at_builtin; refine wpList_appI rfl _ _ rfl w.heap.size _ _ x rfl (((Hown.out.alloc _).drewN _).alloc _) _ _ rfl (cell_new _ _ _ _ (by simp) _) (by omega) (by simp; omega) ?_; intro v' w3 hown' hgrow)
          go_roundw
          case rel => exact ⟨k + 1, by omega, by go_num, by rw [Hsucc.out, Hz.out]; exact hown', below_own ((below_dN (hW.alloc hw1 _) _).alloc (by simp; omega) _) hgrow (((Hown.out.alloc _).drewN _).alloc _) (Nat.le_refl _) (by simp; omega)⟩
          case measure => simp [intOf]; omega
      · rw [need1_0 h3] at hsucc
        have hlen16 : (accTo need1 l k).length ≤ 16 := by omega
        have Hown := Lib.hid hown
        have Hsucc := Lib.hid hsucc
        clear hown hsucc hlen
        generalize l[k] = t at *
        go_wp2_with (at_builtin; refine wpList_appI rfl _ _ rfl w.heap.size _ _ 1 rfl ((Hown.out.alloc _).alloc _) _ _ rfl (cell_new _ _ _ _ (by simp) _) (by omega) (by simp; omega) ?_; intro v' w3 hown' hgrow)
        go_roundw
        case rel => exact ⟨k + 1, by omega, by go_num, by rw [Hsucc.out]; exact hown', below_own ((hW.alloc hw1 _).alloc (by simp; omega) _) hgrow ((Hown.out.alloc _).alloc _) (Nat.le_refl _) (by simp; omega)⟩
        case measure => simp [intOf]; omega
    · have : k = l.length := by omega
      subst this
      go_wp2
      go_ret
      exact ⟨_, rfl, hown, hW⟩

/-- need.wrong -/
def needErr (vars : Int) (l : List Term) : Int := if tErr vars l ≠ 0 then tErr vars l else if IsTree l then 0 else 3
set_option maxHeartbeats 400000 in
theorem needWrong_calls (vars : Int) (A : Option Addr) (l : List Term) (cap : Nat) (w : World) (hA : RdT w A l) (hm : l.length ≤ maxLen) :
    Calls Try.prog 122 #[.int .i64 vars, .slice A l.length cap] w fun e w' => e = .returned (.int .i64 (needErr vars l)) ∧ Below w.heap.size w w' := by
  have HA := Lib.hid hA
  clear hA
  by_cases h0 : tErr vars l = 0
  · have H0 := Lib.hid h0
    have he : needErr vars l = if IsTree l then 0 else 3 := by unfold needErr; rw [if_neg (by omega)]
    rw [he]
    clear he h0
    by_cases ht : IsTree l
    · rw [if_pos ht]
      have Ht := Lib.hid (decide_eq_true ht)
      clear ht
      go_enter Try.func122, Try.ntmps122
      go_wp2_with (first
        | (go_at_call 72; refine (check_calls _ _ _ _ _ HA.out hm).mono ?_; rintro e w1 ⟨rfl, hW⟩; rw [H0.out]; have HW := Lib.hid hW; clear hW)
        | (go_at_call 125; refine (tree_calls vars _ _ _ _ (Rd.below HA.out HW.out) H0.out).mono ?_; rintro e w2 ⟨rfl, hW2⟩; rw [Ht.out]; have HW2 := Lib.hid hW2; clear hW2))
      go_ret
      exact ⟨rfl, HW.out.trans (HW2.out.mono HW.out.size)⟩
    · rw [if_neg ht]
      have Ht := Lib.hid (decide_eq_false ht)
      clear ht
      go_enter Try.func122, Try.ntmps122
      go_wp2_with (first
        | (go_at_call 72; refine (check_calls _ _ _ _ _ HA.out hm).mono ?_; rintro e w1 ⟨rfl, hW⟩; rw [H0.out]; have HW := Lib.hid hW; clear hW)
        | (go_at_call 125; refine (tree_calls vars _ _ _ _ (Rd.below HA.out HW.out) H0.out).mono ?_; rintro e w2 ⟨rfl, hW2⟩; rw [Ht.out]; have HW2 := Lib.hid hW2; clear hW2))
      go_ret
      exact ⟨rfl, HW.out.trans (HW2.out.mono HW.out.size)⟩
  · have he : needErr vars l = tErr vars l := by unfold needErr; rw [if_pos h0]
    rw [he]
    have q : (tErr vars l != 0) = true := by rw [bne_iff_ne]; exact h0
    clear he h0
    go_enter Try.func122, Try.ntmps122
    go_wp2_with (go_at_call 72; refine (check_calls _ _ _ _ _ HA.out hm).mono ?_; rintro e w1 ⟨rfl, hW⟩)
    go_ret
    exact ⟨rfl, hW⟩

set_option maxHeartbeats 400000 in
theorem need_bad (vars : Int) (A : Option Addr) (l : List Term) (cap : Nat) (w : World) (hA : RdT w A l) (hm : l.length ≤ maxLen) (h0 : needErr vars l ≠ 0) :
    Calls Try.prog 114 #[.int .i64 vars, .slice A l.length cap] w fun e w' => e = .returned (.tuple #[.int .i64 0, .int .i64 (needErr vars l)]) ∧ Below w.heap.size w w' := by
  have q : (needErr vars l != 0) = true := by rw [bne_iff_ne]; exact h0
  have HA := Lib.hid hA
  clear hA h0
  go_enter Try.func114, Try.ntmps114
  go_wp2_with (go_at_call 122; refine (needWrong_calls _ _ _ _ _ HA.out hm).mono ?_; rintro e w1 ⟨rfl, hW⟩)
  go_ret2
  exact ⟨rfl, hW⟩
theorem needErr_ok {vars : Int} {l : List Term} (h : needErr vars l = 0) : tErr vars l = 0 ∧ IsTree l := by
  unfold needErr at h
  by_cases h0 : tErr vars l = 0
  · rw [if_neg (by omega)] at h
    by_cases ht : IsTree l
    · exact ⟨h0, ht⟩
    · rw [if_neg ht] at h; exact absurd h (by decide)
  · rw [if_pos h0] at h; exact absurd h h0
set_option maxHeartbeats 1000000 in
theorem need_ok (vars : Int) (A : Option Addr) (l : List Term) (cap : Nat) (w : World) (hA : RdT w A l) (h0 : needErr vars l = 0) :
    Calls Try.prog 114 #[.int .i64 vars, .slice A l.length cap] w fun e w' => e = .returned (.tuple #[.int .i64 (tNeed l), .int .i64 0]) ∧ Below w.heap.size w w' := by
  obtain ⟨ht0, htree⟩ := needErr_ok h0
  obtain ⟨hv0, hv6, hl1, hl16, hok⟩ := tErr_ok ht0
  have H0 := Lib.hid h0
  have HT := Lib.hid ht0
  have HA := Lib.hid hA
  clear hA h0 ht0 htree hok
  go_enter Try.func114, Try.ntmps114
  go_wp2_with (go_at_call 122; refine (needWrong_calls _ _ _ _ _ HA.out (by unfold maxLen; omega)).mono ?_; rintro e w1 ⟨rfl, hW⟩; rw [H0.out]; have HW := Lib.hid hW; clear hW)
  refine (needs_calls vars A l cap w1 (Rd.below HA.out HW.out) HT.out).mono ?_
  rintro e w2 ⟨v, rfl, hown, hW2⟩
  have hlen := accTo_len need1 (l := l) (Nat.le_refl _)
  obtain ⟨g, cp, rfl, hg1, hg2, hg3, hg4, hcell⟩ := OwnI.at_ hown (by omega)
  have d1 := hcell (l.length - 1) (by omega)
  rw [← getD_get (by omega : l.length - 1 < (accTo need1 l l.length).length)] at d1
  have Hn := Lib.hid (show (accTo need1 l l.length).getD (l.length - 1) 0 = tNeed l from rfl)
  rw [hlen]
  have q1 : ((l.length : Int) - 1).toNat = l.length - 1 := by omega
  have HW2 := Lib.hid hW2
  clear hown hlen hcell hg4 hW2
  generalize (accTo need1 l l.length).getD (l.length - 1) 0 = n at *
  go_wp2
  go_ret2
  exact ⟨by first | rfl | (rw [Hn.out]; rfl), HW.out.trans (HW2.out.mono HW.out.size)⟩

set_option maxHeartbeats 2000000 in
theorem refTree_calls (vars : Int) (A : Option Addr) (l : List Term) (cap : Nat) (w : World) (hA : RdT w A l) (h0 : tErr vars l = 0) :
    Calls Try.prog 84 #[.slice A l.length cap] w fun e w' => e = .returned (.bool (decide (IsTree l))) ∧ Below w.heap.size w w' := by
  obtain ⟨hv0, hv6, hl1, hl16, hok⟩ := tErr_ok h0
  have HA := Lib.hid hA
  clear hA h0 hok
  go_enter Try.func84, Try.ntmps84
  go_wp2
  go_loopw [3] (fun i wr => ∃ k : Nat, k ≤ l.length ∧ i = .int .i64 k ∧ Hid (TreeTo l k) ∧ Below w.heap.size w wr) (fun i _ => l.length - (intOf i).toNat)
  case atStart => exact ⟨0, Nat.zero_le _, rfl, fun i hi => by omega, Below.refl _ _⟩
  case round =>
    obtain ⟨i, hi, rfl, hT, hW⟩ := hrel
    obtain ⟨wo, rfl⟩ : ∃ wo : World, wo = wr := ⟨_, rfl⟩
    by_cases hlt : i < l.length
    · go_wp2
      go_loopw [4, 15] (fun m j wr => ∃ k : Nat, k ≤ l.length ∧ j = .int .i64 k ∧ m = .int .i64 (usesN (l.take k) i) ∧ Below w.heap.size w wr) (fun _ j _ => l.length - (intOf j).toNat)
      case atStart => exact ⟨0, Nat.zero_le _, rfl, rfl, hW⟩
      case round =>
        clear hW
        obtain ⟨k, hk, rfl, rfl, hW⟩ := hrel
        have hw1 := hW.size
        by_cases hltk : k < l.length
        · obtain ⟨b, off, rfl, hb, c0, c1, c2, c3⟩ := RdT.at4 (Rd.below HA.out hW) hltk
          have hs : usesN (l.take (k + 1)) i = usesN (l.take k) i + uses1 l[k] i := by rw [List.take_succ_eq_append_getElem hltk, usesN_snoc]
          have hbd := uses_bd l k i
          generalize l[k] = t at *
          obtain ⟨op, ta, tb, tv⟩ := t
          dsimp only at c0 c1 c2 c3
          by_cases h3 : 3 ≤ op
          · have hu : uses1 ⟨op, ta, tb, tv⟩ i = (if ta = i then 1 else 0) + (if tb = i then 1 else 0) := by
              unfold uses1
              dsimp only
              congr 1
              · by_cases e : ta = i
                · rw [if_pos e, if_pos ⟨h3, e⟩]
                · rw [if_neg e, if_neg (by omega)]
              · by_cases e : tb = i
                · rw [if_pos e, if_pos ⟨h3, e⟩]
                · rw [if_neg e, if_neg (by omega)]
            rw [hu] at hs
            have Hs := Lib.hid hs
            clear hu hs
            generalize usesN (l.take k) i = u at *
            have q3 : decide (3 ≤ op) = true := decide_eq_true h3
            by_cases ea : ta = i <;> by_cases eb : tb = i
            · have e1 : (ta == (i : Int)) = true := by simpa using ea
              have e2 : (tb == (i : Int)) = true := by simpa using eb
              have Hs2 := Lib.hid (show usesN (l.take (k + 1)) i = u + 1 + 1 by rw [Hs.out, if_pos ea, if_pos eb]; omega)
              clear ea eb
              go_wp2
              go_roundw
              case rel => exact ⟨k + 1, by omega, by go_num, by rw [Hs2.out], hW.alloc hw1 _⟩
              case measure => simp [intOf]; omega
            · have e1 : (ta == (i : Int)) = true := by simpa using ea
              have e2 : (tb == (i : Int)) = false := by simpa using eb
              have Hs2 := Lib.hid (show usesN (l.take (k + 1)) i = u + 1 by rw [Hs.out, if_pos ea, if_neg eb]; omega)
              clear ea eb
              go_wp2
              go_roundw
              case rel => exact ⟨k + 1, by omega, by go_num, by rw [Hs2.out], hW.alloc hw1 _⟩
              case measure => simp [intOf]; omega
            · have e1 : (ta == (i : Int)) = false := by simpa using ea
              have e2 : (tb == (i : Int)) = true := by simpa using eb
              have Hs2 := Lib.hid (show usesN (l.take (k + 1)) i = u + 1 by rw [Hs.out, if_neg ea, if_pos eb]; omega)
              clear ea eb
              go_wp2
              go_roundw
              case rel => exact ⟨k + 1, by omega, by go_num, by rw [Hs2.out], hW.alloc hw1 _⟩
              case measure => simp [intOf]; omega
            · have e1 : (ta == (i : Int)) = false := by simpa using ea
              have e2 : (tb == (i : Int)) = false := by simpa using eb
              have Hs2 := Lib.hid (show usesN (l.take (k + 1)) i = u by rw [Hs.out, if_neg ea, if_neg eb]; omega)
              clear ea eb
              go_wp2
              go_roundw
              case rel => exact ⟨k + 1, by omega, by go_num, by rw [Hs2.out], hW.alloc hw1 _⟩
              case measure => simp [intOf]; omega
          · have hu : uses1 ⟨op, ta, tb, tv⟩ i = 0 := by unfold uses1; dsimp only; rw [if_neg (by omega), if_neg (by omega)]; rfl
            have Hs := Lib.hid (show usesN (l.take (k + 1)) i = usesN (l.take k) i by rw [hs, hu]; omega)
            have q3 : decide (3 ≤ op) = false := decide_eq_false h3
            clear hu hs
            go_wp2
            go_roundw
            case rel => exact ⟨k + 1, by omega, by go_num, by rw [Hs.out], hW.alloc hw1 _⟩
            case measure => simp [intOf]; omega
        · have : k = l.length := by omega
          subst this
          rw [List.take_length]
          by_cases hok1 : (i < l.length - 1 → usesN l i = 1) ∧ (i = l.length - 1 → usesN l i = 0)
          · have hT' : TreeTo l (i + 1) := fun j hj => by
              rcases Nat.lt_or_ge j i with h | h
              · exact hT.out j h
              · have : j = i := by omega
                subst this; exact hok1
            have HT' := Lib.hid hT'
            by_cases hl : i < l.length - 1
            · have e1 : (usesN l i != 1) = false := by rw [bne_eq_false_iff_eq]; exact hok1.1 hl
              have e2 : decide ((i : Int) < (l.length : Int) - 1) = true := decide_eq_true (by omega)
              have e3 : ((i : Int) == (l.length : Int) - 1) = false := by rw [beq_eq_false_iff_ne]; omega
              clear hok1 hT hT'
              generalize usesN l i = u at *
              go_wp2
              go_roundw
              case rel => exact ⟨i + 1, by omega, by go_num, HT', hW⟩
              case measure => simp [intOf]; omega
            · have e1 : (usesN l i != 0) = false := by rw [bne_eq_false_iff_eq]; exact hok1.2 (by omega)
              have e2 : decide ((i : Int) < (l.length : Int) - 1) = false := decide_eq_false (by omega)
              have e3 : ((i : Int) == (l.length : Int) - 1) = true := by rw [beq_iff_eq]; omega
              clear hok1 hT hT'
              generalize usesN l i = u at *
              go_wp2
              go_roundw
              case rel => exact ⟨i + 1, by omega, by go_num, HT', hW⟩
              case measure => simp [intOf]; omega
          · have Hno := Lib.hid (show decide (IsTree l) = false from decide_eq_false fun h => hok1 (h i hlt))
            by_cases hl : i < l.length - 1
            · have e1 : (usesN l i != 1) = true := by rw [bne_iff_ne]; exact fun h => hok1 ⟨fun _ => h, fun h => by omega⟩
              have e2 : decide ((i : Int) < (l.length : Int) - 1) = true := decide_eq_true (by omega)
              clear hok1 hT
              generalize usesN l i = u at *
              go_wp2
              go_ret
              exact ⟨ret_bool Hno.out.symm, hW⟩
            · have e1 : (usesN l i != 0) = true := by rw [bne_iff_ne]; exact fun h => hok1 ⟨fun h => by omega, fun _ => h⟩
              have e2 : decide ((i : Int) < (l.length : Int) - 1) = false := decide_eq_false (by omega)
              have e3 : ((i : Int) == (l.length : Int) - 1) = true := by rw [beq_iff_eq]; omega
              clear hok1 hT
              generalize usesN l i = u at *
              go_wp2
              go_ret
              exact ⟨ret_bool Hno.out.symm, hW⟩
    · have : i = l.length := by omega
      subst this
      have Hyes := Lib.hid (show decide (IsTree l) = true from decide_eq_true hT.out)
      go_wp2
      go_ret
      exact ⟨ret_bool Hyes.out.symm, hW⟩

/-- codemasonkeep.treed -/
theorem treed_calls (vars : Int) (A : Option Addr) (l : List Term) (cap : Nat) (w : World) (hA : RdT w A l) (hm : l.length ≤ maxLen) :
    Calls Try.prog 36 #[.int .i64 vars, .slice A l.length cap] w fun e w' => e = .returned (.bool (decide (needErr vars l = 0))) ∧ Below w.heap.size w w' := by
  have HA := Lib.hid hA
  clear hA
  by_cases h0 : tErr vars l = 0
  · have H0 := Lib.hid h0
    have H1 := Lib.hid (show (tErr vars l == 0) = true by rw [beq_iff_eq]; exact h0)
    have He := Lib.hid (show decide (needErr vars l = 0) = decide (IsTree l) by
      unfold needErr
      rw [if_neg (by omega)]
      by_cases ht : IsTree l
      · rw [if_pos ht]; simp [ht]
      · rw [if_neg ht]; simp [ht])
    clear h0
    go_enter Try.func36, Try.ntmps36
    go_wp2_with (first
      | (go_at_call 83; refine (termed_calls _ _ _ _ _ HA.out hm).mono ?_; rintro e w1 ⟨rfl, hW⟩; rw [H1.out]; have HW := Lib.hid hW; clear hW)
      | (go_at_call 84; refine (refTree_calls vars _ _ _ _ (Rd.below HA.out HW.out) H0.out).mono ?_; rintro e w2 ⟨rfl, hW2⟩; have HW2 := Lib.hid hW2; clear hW2))
    go_ret
    exact ⟨ret_bool (by rw [He.out]), HW.out.trans (HW2.out.mono HW.out.size)⟩
  · have H1 := Lib.hid (show (tErr vars l == 0) = false by rw [beq_eq_false_iff_ne]; exact h0)
    have He := Lib.hid (show decide (needErr vars l = 0) = false from decide_eq_false (by unfold needErr; rw [if_pos h0]; exact h0))
    clear h0
    go_enter Try.func36, Try.ntmps36
    go_wp2_with (go_at_call 83; refine (termed_calls _ _ _ _ _ HA.out hm).mono ?_; rintro e w1 ⟨rfl, hW⟩; rw [H1.out]; have HW := Lib.hid hW; clear hW)
    go_ret
    exact ⟨ret_bool (by rw [He.out]), HW.out⟩
end Go.Proofs.Ytmgejacndhnikaa
