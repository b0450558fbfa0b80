/- WayPart. -/
import Derived.Test.YtljmignfbagomaaPartA
import Derived.Test.YtljmignfbagomaaTurnA
namespace Go.Proofs.Ytljmignfbagomaa
open Go.RowKit

theorem partS_bit {ls : List (List Int)} (h8 : ls.length ≤ 8) (i j : Nat) : (partS ls i).testBit j = true ↔ (j < ls.length ∧ Comes_ ls (-1) i j ∧ Comes_ ls (-1) j i) := by
  unfold partS
  rw [setN_bit]
  constructor
  · exact fun h => h.2
  · exact fun h => ⟨by omega, h⟩
theorem partS_self {ls : List (List Int)} (h8 : ls.length ≤ 8) {i : Nat} (hi : i < ls.length) : (partS ls i).testBit i = true := (partS_bit h8 i i).2 ⟨hi, Comes_.refl _ _ _, Comes_.refl _ _ _⟩
theorem partS_eq {ls : List (List Int)} (h8 : ls.length ≤ 8) {i j : Nat} (hb : (partS ls i).testBit j = true) : partS ls i = partS ls j := by
  obtain ⟨hj, h1, h2⟩ := (partS_bit h8 i j).1 hb
  refine set_ext fun k => ?_
  rw [Bool.eq_iff_iff, partS_bit h8, partS_bit h8]
  exact ⟨fun ⟨a, b, c⟩ => ⟨a, h2.trans b, c.trans h1⟩, fun ⟨a, b, c⟩ => ⟨a, h1.trans b, c.trans h2⟩⟩
theorem turned_len (ls : List (List Int)) : (turned ls).length = ls.length := by simp [turned]
theorem edge_turned {ls : List (List Int)} {a b : Nat} : Edge (turned ls) (-1) a b ↔ a < ls.length ∧ Edge ls (-1) b a := by
  unfold Edge turned
  constructor
  · rintro ⟨l, h1, h2, _⟩
    have ha : a < ls.length := by
      have := (List.getElem?_eq_some_iff.1 h1).1
      simpa using this
    rw [List.getElem?_map, List.getElem?_range ha] at h1
    injection h1 with h1
    subst h1
    refine ⟨ha, ?_⟩
    unfold trow tTo at h2
    obtain ⟨c, hc, e⟩ := List.mem_map.1 h2
    have e : c = b := by omega
    subst e
    obtain ⟨hc1, hc2⟩ := List.mem_filter.1 hc
    have hcl : c < ls.length := by simpa using hc1
    have hc2 := of_decide_eq_true hc2
    rw [List.getD_eq_getElem?_getD, List.getElem?_eq_getElem hcl] at hc2
    exact ⟨ls[c], List.getElem?_eq_getElem hcl, hc2, by omega⟩
  · rintro ⟨ha, l, h1, h2, _⟩
    refine ⟨trow ls a, by rw [List.getElem?_map, List.getElem?_range ha]; rfl, ?_, by omega⟩
    unfold trow tTo
    refine List.mem_map.2 ⟨b, List.mem_filter.2 ⟨?_, decide_eq_true ?_⟩, rfl⟩
    · simpa using (List.getElem?_eq_some_iff.1 h1).1
    · rw [List.getD_eq_getElem?_getD, h1]; exact h2
theorem Comes_.edge_first {ls : List (List Int)} {wo : Int} {a b c : Nat} (he : Edge ls wo a b) (h : Comes_ ls wo b c) : Comes_ ls wo a c := (Comes_.step (Comes_.refl ls wo a) he).trans h
theorem comes_turned {ls : List (List Int)} (hv : Valid ls) {a b : Nat} : Comes_ (turned ls) (-1) a b ↔ Comes_ ls (-1) b a := by
  constructor
  · exact Comes_.closed (p := fun x => Comes_ ls (-1) x a) (Comes_.refl _ _ _) (fun b c hb he => Comes_.edge_first (edge_turned.1 he).2 hb) b
  · intro h
    exact Comes_.closed (p := fun x => Comes_ (turned ls) (-1) x b) (Comes_.refl _ _ _) (fun x y hx he => Comes_.edge_first (edge_turned.2 ⟨(he.lt hv).2, he⟩) hx) a h
theorem partS_turned {ls : List (List Int)} (hv : Valid ls) {i : Nat} (_hi : i < ls.length) : partS (turned ls) i = partS ls i := by
  unfold partS
  refine setN_congr fun k _ => ?_
  rw [turned_len]
  constructor
  · rintro ⟨h1, h2, h3⟩; exact ⟨h1, (comes_turned hv).1 h3, (comes_turned hv).1 h2⟩
  · rintro ⟨h1, h2, h3⟩; exact ⟨h1, (comes_turned hv).2 h3, (comes_turned hv).2 h2⟩
theorem partsTo_turned {ls : List (List Int)} (hv : Valid ls) : partsTo (turned ls) (turned ls).length = partsTo ls ls.length := by
  unfold partsTo
  rw [turned_len]
  exact List.map_congr_left fun i hi => partS_turned hv (by simpa using hi)
theorem partsTo_get (ls : List (List Int)) (k i : Nat) (h : i < (partsTo ls k).length) : (partsTo ls k)[i] = partS ls i := by simp [partsTo]
theorem partS_lt (ls : List (List Int)) (i : Nat) : partS ls i < 256 := setN_lt _

theorem may_turned (B : Option Addr) (ls : List (List Int)) (cap : Nat) (w : World) (hT : RdN w B (turned ls)) (hm : ls.length ≤ maxLen) :
    Calls Try.prog 18 #[.slice B ls.length cap] w fun e w' => e = .returned (.bool (wayErr (turned ls) == 0)) ∧ w' = w := by
  have h := may_calls B (turned ls) cap w hT (by rw [turned_len]; exact hm)
  rw [turned_len] at h
  exact h
theorem parts_turned (B : Option Addr) (ls : List (List Int)) (cap : Nat) (w : World) (hT : RdN w B (turned ls)) (hv : Valid ls) (h0 : wayErr (turned ls) = 0) :
    Calls Try.prog 17 #[.slice B ls.length cap] w fun e w' => ∃ v, e = .returned (.tuple #[v, .int .i64 0]) ∧ OwnU w' w.heap.size 29 v (partsTo ls ls.length) ∧ Below w.heap.size w w' := by
  have h := parts_ok B (turned ls) cap w hT h0
  rw [partsTo_turned hv, turned_len] at h
  exact h
theorem words_same (A B : Option Addr) (l : List Nat) (n ca cb : Nat) (w : World) (hn : l.length = n) (hA : RdU w A l) (hB : RdU w B l) (ha : n < 1000000) :
    Calls Try.prog 21 #[.slice A n ca, .slice B n cb] w fun e w' => e = .returned (.bool true) ∧ ∃ nq, w' = w.drewN nq := by
  subst hn
  refine (words_calls A B l l ca cb w hA hB ha).mono ?_
  rintro e w' ⟨rfl, h⟩
  exact ⟨ret_bool (decide_eq_true rfl), h⟩

set_option maxHeartbeats 4000000 in
theorem wayPart_calls (A : Option Addr) (ls : List (List Int)) (cap : Nat) (w : World) (hA : RdN w A ls) (hm : ls.length ≤ maxLen) :
    Calls Try.prog 3 #[.slice A ls.length cap] w fun e w' => e = .returned (.bool true) ∧ Below w.heap.size w w' := by
  have HA := Lib.hid hA; clear hA
  by_cases h0 : wayErr ls = 0
  case neg =>
    have hd : (wayErr ls != 0) = true := by simpa using h0
    have hd2 : (wayErr ls == 0) = false := by simpa using h0
    have H0 := Lib.hid h0
    clear h0
    go_enter Try.func3, Try.ntmps3
    go_wp2_with (first
      | (go_at_call 17; refine (parts_bad _ _ _ _ HA.out hm H0.out).mono ?_; rintro e w1 ⟨rfl, hW⟩; have HW := Lib.hid hW; clear hW)
      | (go_at_call 18; refine (may_calls _ _ _ _ (RdN.below HA.out HW.out) hm).mono ?_; rintro e w2 ⟨rfl, rfl⟩; rw [hd2]))
    go_ret
    exact ⟨rfl, HW.out⟩
  obtain ⟨h1, h8, hv⟩ := valid_of h0
  have HV := Lib.hid hv; clear hv
  have H0 := Lib.hid h0
  have hd2 : (wayErr ls == 0) = true := by simpa using h0
  clear h0
  have Hlen := Lib.hid (partsTo_len ls ls.length)
  go_enter Try.func3, Try.ntmps3
  go_wp2_with (first
    | (go_at_call 17; refine (parts_ok _ _ _ _ HA.out H0.out).mono ?_
       rintro e w1 ⟨v, rfl, hown, hW⟩
       obtain ⟨gF, capF, rfl, hgF, hgF2, hcF, _, hcells⟩ := OwnU.at_ hown (by rw [Hlen.out]; omega)
       rw [Hlen.out] at hown
       rw [Hlen.out]
       have HF := Lib.hid hown
       have HC := Lib.hid hcells
       have HW := Lib.hid hW
       clear hW hown hcells)
    | (go_at_call 18; refine (may_calls _ _ _ _ (RdN.below HA.out HW.out) hm).mono ?_; rintro e w2 ⟨rfl, rfl⟩; rw [hd2]))
  obtain ⟨wp, rfl⟩ : ∃ wp : World, wp = w2 := ⟨_, rfl⟩
  have hwp := HW.out.size
  go_loopw [5] (fun i wr => ∃ k : Nat, k ≤ ls.length ∧ i = .int .i64 k ∧ ∃ nq, wr = wp.drewN nq) (fun i _ => ls.length - (intOf i).toNat)
  case atStart => exact ⟨0, Nat.zero_le _, rfl, 0, rfl⟩
  case round =>
    obtain ⟨i, hi, rfl, nq, rfl⟩ := hrel
    by_cases hlt : i < ls.length
    · have c1 := HC.out i (by rw [Hlen.out]; exact hlt)
      rw [partsTo_get] at c1
      have Hb := Lib.hid (partS_self h8 hlt)
      have hp := partS_lt ls i
      go_wp2_with (go_at_call 19; refine (bit_calls _ _ _ (by omega) (by omega)).mono ?_; rintro e w3 ⟨rfl, rfl⟩; rw [Hb.out])
      clear hp
      go_loopw [6] (fun i wr => ∃ k : Nat, k ≤ ls.length ∧ i = .int .i64 k ∧ ∃ nq, wr = wp.drewN nq) (fun i _ => ls.length - (intOf i).toNat)
      case atStart => exact ⟨0, Nat.zero_le _, rfl, nq, rfl⟩
      case round =>
        obtain ⟨j, hj, rfl, nq2, hwr⟩ := hrel
        have Hwr := Lib.hid hwr
        clear hwr
        by_cases hltj : j < ls.length
        · have c2 := HC.out j (by rw [Hlen.out]; exact hltj)
          rw [partsTo_get] at c2
          have c1 : wr.cell? ⟨gF, i, none⟩ = some (.int .u32 (partS ls i : Nat)) := by rw [Hwr.out]; exact c1
          have c2 : wr.cell? ⟨gF, j, none⟩ = some (.int .u32 (partS ls j : Nat)) := by rw [Hwr.out]; exact c2
          have He := Lib.hid (fun h => partS_eq (i := i) (j := j) h8 h)
          have ha := partS_lt ls i
          have hb := partS_lt ls j
          have q1 : ((i : Nat) : Int) < ((ls.length : Nat) : Int) := by omega
          have q2 : ((j : Nat) : Int) < ((ls.length : Nat) : Int) := by omega
          have k2 : j < 32 := by omega
          generalize partS ls i = x at *
          generalize partS ls j = y at *
          have Hcl := Lib.hid (fun w => bit_calls x j w (by omega) k2)
          cases hxb : x.testBit j
          · rw [hxb] at Hcl
            clear hxb
            go_wp2
            go_quiet ((go_at_call 19; exact Calls.quiet_of_same (Hcl.out _)))
            go_wp2
            go_roundw
            case rel => exact ⟨j + 1, by omega, by go_num, nq2 + nq, by rw [Hwr.out, World.drewN_drewN]⟩
            case measure => simp [intOf]; omega
          · have q3 : ((x : Int) != (y : Int)) = false := by rw [bne_eq_false_iff_eq, He.out hxb]
            rw [hxb] at Hcl
            clear hxb
            go_wp2
            go_quiet ((go_at_call 19; exact Calls.quiet_of_same (Hcl.out _)))
            go_wp2
            go_roundw
            case rel => exact ⟨j + 1, by omega, by go_num, nq2 + nq, by rw [Hwr.out, World.drewN_drewN]⟩
            case measure => simp [intOf]; omega
        · go_wp2
          go_roundw
          case rel => exact ⟨i + 1, by omega, by go_num, nq2, Hwr.out⟩
          case measure => simp [intOf]; omega
    · have hWt : Below w.heap.size w (wp.drewN nq) := below_dN HW.out nq
      cases hbk : (wayErr (turned ls) == 0)
      · go_wp2_with (first
          | (go_at_call 20
             refine (turned_calls _ _ _ _ (RdN.below HA.out hWt) h1 h8 (fun l hl => by have := (HV.out l hl).1; omega)).mono ?_
             rintro e w4 ⟨B, rfl, hT, hW4⟩
             have HT := Lib.hid hT
             have HW4 := Lib.hid (hWt.trans (hW4.mono (by simp; exact hwp)))
             clear hT hW4)
          | (go_at_call 18; refine (may_turned _ _ _ _ HT.out hm).mono ?_; rintro e w5 ⟨rfl, rfl⟩; rw [hbk]))
        go_ret
        exact ⟨rfl, HW4.out⟩
      · have Hbk := Lib.hid (of_decide_eq_true hbk)
        go_wp2_with (first
          | (go_at_call 20
             refine (turned_calls _ _ _ _ (RdN.below HA.out hWt) h1 h8 (fun l hl => by have := (HV.out l hl).1; omega)).mono ?_
             rintro e w4 ⟨B, rfl, hT, hW4⟩
             have HT := Lib.hid hT
             have HW4 := Lib.hid (hWt.trans (hW4.mono (by simp; exact hwp)))
             have HF4 := Lib.hid (Own.below (HF.out.drewN nq) hW4)
             clear hT hW4)
          | (go_at_call 18; refine (may_turned _ _ _ _ HT.out hm).mono ?_; rintro e w5 ⟨rfl, rfl⟩; rw [hbk])
          | (go_at_call 17; refine (parts_turned _ _ _ _ HT.out HV.out Hbk.out).mono ?_
             rintro e w6 ⟨v, rfl, hown, hW⟩
             obtain ⟨A6, cap6, rfl, hR6⟩ := OwnU.rd hown
             obtain ⟨A5, cap5, e5, hR5⟩ := OwnU.rd (Own.below HF4.out hW)
             injection e5 with e5a e5b e5c
             rw [← e5a] at hR5
             have HR5 := Lib.hid hR5
             have HR6 := Lib.hid hR6
             have HW6 := Lib.hid (HW4.out.trans (hW.mono HW4.out.size))
             clear hW hown hR5 hR6 e5a e5b e5c
             rw [Hlen.out])
          | (go_at_call 21; refine (words_same _ _ _ _ _ _ _ Hlen.out HR5.out HR6.out (by omega)).mono ?_; rintro e w7 ⟨rfl, nq7, rfl⟩))
        go_ret
        exact ⟨rfl, below_dN HW6.out _⟩
end Go.Proofs.Ytljmignfbagomaa
