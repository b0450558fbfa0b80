/- need.tree, need.needs, need.wrong, need.Need; the references' Tree; treed, leaves. -/
import Derived.Test.YtmgejacndhnikaaNeedA
namespace Go.Proofs.Ytmgejacndhnikaa
open Go.RowKit

def usesTo (l : List Term) (n k : Nat) : List Int := (List.range n).map fun i => usesN (l.take k) i
theorem usesTo_len (l : List Term) (n k : Nat) : (usesTo l n k).length = n := by simp [usesTo]
theorem usesTo_get (l : List Term) (n k i : Nat) (h : i < (usesTo l n k).length) : (usesTo l n k)[i] = usesN (l.take k) i := by simp [usesTo]
theorem usesTo_same {l : List Term} {n k : Nat} (hk : k < l.length) (h3 : ¬ 3 ≤ l[k].op) : usesTo l n (k + 1) = usesTo l n k := by
  unfold usesTo
  refine List.map_congr_left fun i _ => ?_
  rw [List.take_succ_eq_append_getElem hk, usesN_snoc]
  unfold uses1
  rw [if_neg (by omega), if_neg (by omega)]; omega
theorem usesTo_two {l : List Term} {n k a b : Nat} (hk : k < l.length) (h3 : 3 ≤ l[k].op) (ha : l[k].a = a) (hb : l[k].b = b) (hbn : b < n) (x y : Int) (hx : x = usesN (l.take k) a) (hy : ((usesTo l n k).set a (x + 1))[b]? = some y) :
    usesTo l n (k + 1) = ((usesTo l n k).set a (x + 1)).set b (y + 1) := by
  apply List.ext_getElem
  · simp [usesTo]
  · intro i h1 h2
    rw [usesTo_get, List.take_succ_eq_append_getElem hk, usesN_snoc]
    have hi : i < n := by rw [usesTo_len] at h1; exact h1
    obtain ⟨hbl, hy⟩ := List.getElem?_eq_some_iff.1 hy
    rw [List.getElem_set]
    rw [List.getElem_set, usesTo_get] at hy
    have pa : (if 3 ≤ l[k].op ∧ l[k].a = i then (1 : Int) else 0) = if a = i then 1 else 0 := by
      by_cases e : a = i
      · rw [if_pos e, if_pos ⟨h3, by omega⟩]
      · rw [if_neg e, if_neg (by omega)]
    have pb : (if 3 ≤ l[k].op ∧ l[k].b = i then (1 : Int) else 0) = if b = i then 1 else 0 := by
      by_cases e : b = i
      · rw [if_pos e, if_pos ⟨h3, by omega⟩]
      · rw [if_neg e, if_neg (by omega)]
    unfold uses1
    rw [pa, pb]
    by_cases eb : b = i
    · subst eb
      rw [if_pos rfl, if_pos rfl, ← hy]
      by_cases ea : a = b
      · subst ea
        rw [if_pos rfl, if_pos rfl]; omega
      · rw [if_neg ea, if_neg ea]; omega
    · rw [if_neg eb, if_neg eb, List.getElem_set]
      by_cases ea : a = i
      · subst ea
        rw [if_pos rfl, if_pos rfl]; omega
      · rw [if_neg ea, if_neg ea, usesTo_get]; omega
theorem uses_bd (l : List Term) (k i : Nat) : 0 ≤ usesN (l.take k) i ∧ usesN (l.take k) i ≤ 2 * k := by
  refine ⟨usesN_nonneg _ _, ?_⟩
  induction k with
  | zero => simp [usesN]
  | succ k ih =>
    by_cases hk : k < l.length
    · rw [List.take_succ_eq_append_getElem hk, usesN_snoc]
      have : uses1 l[k] i ≤ 2 := by unfold uses1; split <;> split <;> omega
      omega
    · rw [List.take_of_length_le (by omega)] at ih ⊢; omega

/-- Up to k each has the uses that a tree wants. -/
def TreeTo (l : List Term) (k : Nat) : Prop := ∀ i, i < k → (i < l.length - 1 → usesN l i = 1) ∧ (i = l.length - 1 → usesN l i = 0)

set_option maxHeartbeats 2000000 in
theorem tree_calls (vars : Int) (A : Option Addr) (l : List Term) (cap : Nat) (w : World) (hA : RdT w A l) (h0 : tErr vars l = 0) :
    Calls Try.prog 125 #[.slice A l.length cap] w fun e w' => e = .returned (.bool (decide (IsTree l))) ∧ Below w.heap.size w w' := by
  obtain ⟨hv0, hv6, hl1, hl16, hok⟩ := tErr_ok h0
  have Hlast := Lib.hid (usesN_last hok)
  have Hok := Lib.hid hok
  have HA := Lib.hid hA
  clear hA h0 hok
  go_enter Try.func125, Try.ntmps125
  go_wp2_with (at_make; refine wpList_makeI rfl _ _ rfl w.heap.size l.length rfl rfl (by omega) (Nat.le_refl _) ?_; intro w1 hown1 hgrow1)
  have hW1 : Below w.heap.size w w1 := (Below.refl _ _).grown hgrow1 (Nat.le_refl _) (fun k hk => by cases hk)
  have hz1 : w.heap.size < w1.heap.size := by
    obtain ⟨g, c, e, _, h, _⟩ := hown1.some_ (by simp; omega)
    injection e with e; injection e with e; injection e with e; omega
  clear hgrow1
  go_loopw [13] (fun i wr => ∃ k : Nat, k ≤ l.length ∧ i = .int .i64 k ∧ OwnI wr w.heap.size 3 (.slice (some ⟨w.heap.size, 0, none⟩) l.length l.length) (usesTo l l.length k) ∧ Below w.heap.size w wr ∧ w.heap.size < wr.heap.size) (fun i _ => l.length - (intOf i).toNat)
  case atStart =>
    refine ⟨0, Nat.zero_le _, rfl, ?_, hW1, hz1⟩
    have : usesTo l l.length 0 = List.replicate l.length 0 := by
      unfold usesTo
      rw [List.eq_replicate_iff]
      refine ⟨by simp, fun x hx => ?_⟩
      simp [usesN] at hx
      omega
    rw [this]; exact hown1
  case round =>
    clear hown1 hW1 hz1
    obtain ⟨k, hk, rfl, hown, hW, hzr⟩ := hrel
    have hw1 := hW.size
    by_cases hlt : k < l.length
    · obtain ⟨b, off, rfl, hb, c0, c1, c2, c3⟩ := RdT.at4 (Rd.below HA.out hW) hlt
      by_cases h3 : 3 ≤ l[k].op
      · obtain ⟨a0, a1, b0, b1⟩ := (Hok.out k hlt).2.2.2.2 h3
        obtain ⟨na, ha⟩ := Int.eq_ofNat_of_zero_le a0
        obtain ⟨nb, hnb⟩ := Int.eq_ofNat_of_zero_le b0
        have hna : na < l.length := by omega
        have hnbl : nb < l.length := by omega
        obtain ⟨g, hg, _, _, _, hfz, hcell⟩ := OwnI.at2 hown (by rw [usesTo_len]; omega)
        cases hg
        have d1 := hcell na (by rw [usesTo_len]; omega)
        rw [usesTo_get] at d1
        have f1 := hfz na
        have f2 := hfz nb
        have hown2 := OwnI.set_ (k := na) hown (by rw [usesTo_len]; omega) (usesN (l.take k) na + 1)
        have hset : nb < ((usesTo l l.length k).set na (usesN (l.take k) na + 1)).length := by simp [usesTo]; omega
        obtain ⟨g2, hg2, _, _, _, hfz2, hcell2⟩ := OwnI.at2 hown2 (by simp [usesTo]; omega)
        cases hg2
        have d2 := hcell2 nb hset
        have hy := List.getElem?_eq_getElem hset
        have hbd1 := uses_bd l k na
        have hbd2 : 0 ≤ ((usesTo l l.length k).set na (usesN (l.take k) na + 1))[nb] ∧ ((usesTo l l.length k).set na (usesN (l.take k) na + 1))[nb] ≤ 2 * k + 1 := by
          rw [List.getElem_set, usesTo_get]
          have := uses_bd l k nb
          split <;> omega
        have hnext := usesTo_two hlt h3 ha hnb hnbl _ _ rfl hy
        have hown3 := OwnI.set_ hown2 hset (((usesTo l l.length k).set na (usesN (l.take k) na + 1))[nb] + 1)
        rw [← hnext] at hown3
        have Hown3 := Lib.hid hown3
        have f3 := hfz2 nb
        clear hnext hy hfz hfz2 hcell hcell2 hown hown2 hown3 a0 a1 b0 b1
        rw [ha] at c1
        rw [hnb] at c2
        clear ha hnb
        generalize l[k] = t at *
        generalize ((usesTo l l.length k).set na (usesN (l.take k) na + 1))[nb] = y at *
        generalize usesN (l.take k) na = x at *
        clear hset
        go_wp2
        go_roundw
        case rel => exact ⟨k + 1, by omega, by go_num, Hown3.out.alloc _, (((hW.setCell (Nat.le_refl _) _).setCell (Nat.le_refl _) _).alloc (by simp [World.setCell]; omega) _), by simp [World.setCell]; omega⟩
        case measure => simp [intOf]; omega
      · have Hown := Lib.hid hown
        have Hs := Lib.hid (usesTo_same (n := l.length) hlt h3)
        clear hown
        generalize l[k] = t at *
        go_wp2
        go_roundw
        case rel => exact ⟨k + 1, by omega, by go_num, by rw [Hs.out]; exact Hown.out.alloc _, hW.alloc hw1 _, by simp; omega⟩
        case measure => simp [intOf]; omega
    · have : k = l.length := by omega
      subst this
      clear hlt hk
      have hu : usesTo l l.length l.length = (List.range l.length).map (usesN l) := by unfold usesTo; rw [List.take_length]
      rw [hu] at hown
      clear hu
      obtain ⟨wo, rfl⟩ : ∃ wo : World, wo = wr := ⟨_, rfl⟩
      go_wp2
      go_loop [37] (fun i => ∃ k : Nat, k ≤ l.length ∧ i = .int .i64 k ∧ Hid (TreeTo l k)) (fun i => l.length - (intOf i).toNat)
      case atStart => exact ⟨0, Nat.zero_le _, rfl, fun i hi => by omega⟩
      case round =>
        obtain ⟨k, hk, rfl, hT⟩ := hrel
        by_cases hlt : k < l.length
        · obtain ⟨g, hg, _, _, _, _, hcell⟩ := OwnI.at2 hown (by simp; omega)
          cases hg
          have d1 := hcell k (by simp; omega)
          simp only [List.getElem_map, List.getElem_range] at d1
          clear hcell
          by_cases hok1 : (k < l.length - 1 → usesN l k = 1) ∧ (k = l.length - 1 → usesN l k = 0)
          · have hT' : TreeTo l (k + 1) := fun i hi => by
              rcases Nat.lt_or_ge i k with h | h
              · exact hT.out i h
              · have : i = k := by omega
                subst this; exact hok1
            have HT' := Lib.hid hT'
            by_cases hl : k < l.length - 1
            · have e1 : (usesN l k != 1) = false := by rw [bne_eq_false_iff_eq]; exact hok1.1 hl
              have e2 : decide ((k : Int) < (l.length : Int) - 1) = true := decide_eq_true (by omega)
              clear hok1 hT hT'
              generalize usesN l k = u at *
              go_wp2
              go_round
              case rel => exact ⟨k + 1, by omega, by go_num, HT'⟩
              case measure => simp [intOf]; omega
            · have e1 : (usesN l k != 1) = true := by rw [bne_iff_ne, hok1.2 (by omega)]; decide
              have e2 : decide ((k : Int) < (l.length : Int) - 1) = false := decide_eq_false (by omega)
              clear hok1 hT hT'
              generalize usesN l k = u at *
              go_wp2
              go_round
              case rel => exact ⟨k + 1, by omega, by go_num, HT'⟩
              case measure => simp [intOf]; omega
          · have hl : k < l.length - 1 := by
              rcases Nat.lt_or_ge k (l.length - 1) with h | h
              · exact h
              · have hk1 : k = l.length - 1 := by omega
                exact absurd ⟨fun h => by omega, fun _ => by rw [hk1]; exact Hlast.out⟩ hok1
            have hne : usesN l k ≠ 1 := fun h => hok1 ⟨fun _ => h, fun h => by omega⟩
            have Hno := Lib.hid (show decide (IsTree l) = false from decide_eq_false fun h => hok1 (h k hlt))
            have e1 : (usesN l k != 1) = true := by rw [bne_iff_ne]; exact hne
            have e2 : decide ((k : Int) < (l.length : Int) - 1) = true := decide_eq_true (by omega)
            clear hok1 hT hne
            generalize usesN l k = u at *
            go_wp2
            go_ret
            exact ⟨ret_bool Hno.out.symm, hW⟩
        · have : k = l.length := by omega
          subst this
          have Hyes := Lib.hid (show decide (IsTree l) = true from decide_eq_true hT.out)
          go_wp2
          go_ret
          exact ⟨ret_bool Hyes.out.symm, hW⟩
end Go.Proofs.Ytmgejacndhnikaa
