/- rule.Edges, rule.Edge (dominance frontiers). -/
import Derived.Test.YtljmignfbagomaaRuleC
import Derived.StillTailTactics
namespace Go.Proofs.Ytljmignfbagomaa
open Go.RowKit

def Out (ls : List (List Int)) (i j : Nat) : Prop := j = i ∨ ¬ Dom ls i j
def EdgeF (ls : List (List Int)) (i j : Nat) : Prop := ∃ k, Dom ls i k ∧ Edge ls (-1) k j ∧ Out ls i j
noncomputable def edgeS (ls : List (List Int)) (i : Nat) : Nat := setN (EdgeF ls i)
noncomputable def edgesL (ls : List (List Int)) : List Nat := (List.range ls.length).map (edgeS ls)
theorem edgesL_len (ls : List (List Int)) : (edgesL ls).length = ls.length := by simp [edgesL]
theorem edgesL_get (ls : List (List Int)) (i : Nat) (h : i < (edgesL ls).length) : (edgesL ls)[i] = edgeS ls i := by simp [edgesL]
noncomputable def eRows (ls : List (List Int)) (i : Nat) : List Nat := (List.range ls.length).map fun a => if a < i then edgeS ls a else 0
theorem eRows_len (ls : List (List Int)) (i : Nat) : (eRows ls i).length = ls.length := by simp [eRows]
theorem eRows_get (ls : List (List Int)) (i a : Nat) (h : a < (eRows ls i).length) : (eRows ls i)[a] = if a < i then edgeS ls a else 0 := by simp [eRows]
theorem eRows_zero (ls : List (List Int)) : eRows ls 0 = List.replicate ls.length 0 := by
  refine List.ext_getElem (by simp [eRows]) fun j h1 h2 => ?_
  rw [eRows_get]; simp
theorem eRows_start {ls : List (List Int)} {i : Nat} : (eRows ls i).set i 0 = eRows ls i := by
  refine List.ext_getElem (by simp [eRows]) fun j h1 h2 => ?_
  rw [List.getElem_set, eRows_get]
  by_cases e : i = j
  · subst e; rw [if_pos rfl, if_neg (by omega)]
  · rw [if_neg e]
theorem eRows_next {ls : List (List Int)} {i : Nat} : (eRows ls i).set i (edgeS ls i) = eRows ls (i + 1) := by
  refine List.ext_getElem (by simp [eRows]) fun j h1 h2 => ?_
  rw [List.getElem_set, eRows_get, eRows_get]
  by_cases e : i = j
  · subst e
    have h' : i < i + 1 := by omega
    rw [if_pos rfl, if_pos h']
  · rw [if_neg e]
    by_cases h : j < i
    · have h' : j < i + 1 := by omega
      rw [if_pos h, if_pos h']
    · rw [if_neg h, if_neg (by omega)]
theorem eRows_all (ls : List (List Int)) : eRows ls ls.length = edgesL ls := by
  refine List.ext_getElem (by simp [eRows, edgesL]) fun j h1 h2 => ?_
  rw [eRows_len] at h1
  rw [eRows_get, edgesL_get, if_pos h1]

/-- The part of row i that the nodes below k and the first t edges of node k give. -/
def eP (ls : List (List Int)) (i k t s : Nat) : Prop :=
  ∀ j, s.testBit j = true ↔ ((∃ k', k' < k ∧ Dom ls i k' ∧ Edge ls (-1) k' j ∧ Out ls i j) ∨ (Dom ls i k ∧ ∃ u l, u < t ∧ ls[k]? = some l ∧ l[u]? = some (j : Int) ∧ Out ls i j))
theorem eP.start (ls : List (List Int)) (i : Nat) : eP ls i 0 0 0 := fun j => by
  rw [Nat.zero_testBit]
  constructor
  · intro h; cases h
  · rintro (⟨k, h, _⟩ | ⟨_, u, l, h, _⟩) <;> omega
theorem eP.skipNode {ls : List (List Int)} {i k s : Nat} (h : eP ls i k 0 s) (hn : ¬ Dom ls i k) : eP ls i (k + 1) 0 s := fun j => by
  rw [h j]
  constructor
  · rintro (⟨k', h1, h2⟩ | ⟨h1, _⟩)
    · exact Or.inl ⟨k', by omega, h2⟩
    · exact absurd h1 hn
  · rintro (⟨k', h1, h2⟩ | ⟨_, u, l, h1, _⟩)
    · refine Or.inl ⟨k', ?_, h2⟩
      rcases Nat.lt_or_ge k' k with h3 | h3
      · exact h3
      · have : k' = k := by omega
        subst this; exact absurd h2.1 hn
    · omega
theorem eP.nextNode {ls : List (List Int)} {i k s : Nat} {l : List Int} (h : eP ls i k l.length s) (hl : ls[k]? = some l) (hd : Dom ls i k) : eP ls i (k + 1) 0 s := fun j => by
  rw [h j]
  constructor
  · rintro (⟨k', h1, h2⟩ | ⟨_, u, l', h2, h3, h4, h5⟩)
    · exact Or.inl ⟨k', by omega, h2⟩
    · exact Or.inl ⟨k, by omega, hd, ⟨l', h3, List.mem_of_getElem? h4, by omega⟩, h5⟩
  · rintro (⟨k', h1, h2, h3, h4⟩ | ⟨_, u, l, h1, _⟩)
    · rcases Nat.lt_or_ge k' k with h5 | h5
      · exact Or.inl ⟨k', h5, h2, h3, h4⟩
      · have : k' = k := by omega
        subst this
        obtain ⟨l', e1, e2, _⟩ := h3
        rw [hl] at e1
        injection e1 with e1
        subst e1
        obtain ⟨u, hu, e⟩ := List.getElem_of_mem e2
        exact Or.inr ⟨hd, u, l, hu, hl, by rw [List.getElem?_eq_getElem hu, e], h4⟩
    · omega
theorem eP.skip {ls : List (List Int)} {i k t s j : Nat} {l : List Int} (h : eP ls i k t s) (hl : ls[k]? = some l) (ht : t < l.length) (hj : l[t] = (j : Int)) (hn : ¬ Out ls i j) : eP ls i k (t + 1) s := fun x => by
  rw [h x]
  constructor
  · rintro (h1 | ⟨h1, u, l', h2, h3⟩)
    · exact Or.inl h1
    · exact Or.inr ⟨h1, u, l', by omega, h3⟩
  · rintro (h1 | ⟨h1, u, l', h2, h3, h4, h5⟩)
    · exact Or.inl h1
    · refine Or.inr ⟨h1, u, l', ?_, h3, h4, h5⟩
      rcases Nat.lt_or_ge u t with h6 | h6
      · exact h6
      · have : u = t := by omega
        subst this
        rw [hl] at h3
        injection h3 with h3
        subst h3
        rw [List.getElem?_eq_getElem ht, hj] at h4
        injection h4 with h4
        have : x = j := by omega
        subst this; exact absurd h5 hn
theorem eP.push {ls : List (List Int)} {i k t s j : Nat} {l : List Int} (h : eP ls i k t s) (hl : ls[k]? = some l) (ht : t < l.length) (hj : l[t] = (j : Int)) (hd : Dom ls i k) (ho : Out ls i j) : eP ls i k (t + 1) (s ||| 2 ^ j) := fun x => by
  rw [set_bit, Bool.or_eq_true, h x, decide_eq_true_eq]
  constructor
  · rintro ((h1 | ⟨h1, u, l', h2, h3⟩) | rfl)
    · exact Or.inl h1
    · exact Or.inr ⟨h1, u, l', by omega, h3⟩
    · exact Or.inr ⟨hd, t, l, by omega, hl, by rw [List.getElem?_eq_getElem ht, hj], ho⟩
  · rintro (h1 | ⟨h1, u, l', h2, h3, h4, h5⟩)
    · exact Or.inl (Or.inl h1)
    · rcases Nat.lt_or_ge u t with h6 | h6
      · exact Or.inl (Or.inr ⟨h1, u, l', h6, h3, h4, h5⟩)
      · have : u = t := by omega
        subst this
        rw [hl] at h3
        injection h3 with h3
        subst h3
        rw [List.getElem?_eq_getElem ht, hj] at h4
        injection h4 with h4
        exact Or.inr (by omega)
theorem eP.finish {ls : List (List Int)} {i s : Nat} (h8 : ls.length ≤ 8) (hv : Valid ls) (h : eP ls i ls.length 0 s) : s = edgeS ls i := setN_ext fun j => by
  rw [h j]
  constructor
  · rintro (⟨k, h1, h2, h3, h4⟩ | ⟨_, u, l, h1, _⟩)
    · exact ⟨by have := (h3.lt hv).2; omega, k, h2, h3, h4⟩
    · omega
  · rintro ⟨_, k, h2, h3, h4⟩
    exact Or.inl ⟨k, (h3.lt hv).1, h2, h3, h4⟩

set_option maxRecDepth 100000 in
set_option maxHeartbeats 4000000 in
theorem edges_calls (A : Option Addr) (ls : List (List Int)) (cap : Nat) (w : World) (hA : RdN w A ls) (h0 : wayErr ls = 0) :
    Calls Try.prog 63 #[.slice A ls.length cap] w fun e w' => ∃ v, e = .returned v ∧ OwnU w' w.heap.size 29 v (edgesL ls) ∧ Below w.heap.size w w' := by
  obtain ⟨h1, h8, hv⟩ := valid_of h0
  have HA := Lib.hid hA; clear hA
  have HV := Lib.hid hv; clear hv
  have H0 := Lib.hid h0; clear h0
  have Hlen := Lib.hid (rulesL_len ls)
  have HZ := Lib.hid (eRows_zero ls)
  have HD := Lib.hid (fun j a => domS_bit h1 h8 HV.out j a)
  go_enter Try.func63, Try.ntmps63
  go_wp2_with (first
    | (go_at_call 48; refine (rules_calls _ _ _ _ HA.out H0.out).mono ?_
       rintro e w1 ⟨v, rfl, hown, hW⟩
       obtain ⟨gF, capF, rfl, hgF, hgF2, hcF, _, hcells⟩ := OwnU.at_ hown (by rw [Hlen.out]; omega)
       rw [Hlen.out]
       have HC := Lib.hid hcells
       have HW := Lib.hid hW
       clear hW hown hcells)
    | (at_make; refine wpList_makeU rfl _ _ rfl w1.heap.size ls.length rfl rfl (by omega) (Nat.le_refl _) ?_; intro w2 hown2 hgrow2))
  have hw1 := HW.out.size
  have hW2 := (Below.refl w1.heap.size w1).grown hgrow2 (Nat.le_refl _) (fun k hk => by cases hk)
  rw [← HZ.out] at hown2
  go_loopw [17] (fun i wr => ∃ k : Nat, k ≤ ls.length ∧ i = .int .i64 k ∧ OwnU wr w1.heap.size 29 (.slice (some ⟨w1.heap.size, 0, none⟩) ls.length ls.length) (eRows ls k) ∧ Below w1.heap.size w1 wr) (fun i _ => ls.length - (intOf i).toNat)
  case atStart => exact ⟨0, Nat.zero_le _, rfl, hown2, hW2⟩
  case round =>
    clear hown2 hW2 hgrow2
    obtain ⟨i, hi, rfl, hown, hW⟩ := hrel
    have Hown := Lib.hid hown
    have HWr := Lib.hid hW
    clear hown hW
    by_cases hlt : i < ls.length
    · go_wp2
      go_loopw [22] (fun k3 wr => ∃ (k s : Nat), k ≤ ls.length ∧ k3 = .int .i64 k ∧ s < 256 ∧ Hid (eP ls i k 0 s) ∧ OwnU wr w1.heap.size 29 (.slice (some ⟨w1.heap.size, 0, none⟩) ls.length ls.length) ((eRows ls i).set i s) ∧ Below w1.heap.size w1 wr) (fun k3 _ => ls.length - (intOf k3).toNat)
      case atStart => exact ⟨0, 0, Nat.zero_le _, rfl, by decide, eP.start ls i, by rw [eRows_start]; exact Hown.out, HWr.out⟩
      case round =>
        clear Hown HWr
        obtain ⟨k, s, hk, rfl, hs, hP, hown, hW⟩ := hrel
        have Hown := Lib.hid hown
        have HWr := Lib.hid hW
        clear hown
        by_cases hltk : k < ls.length
        · obtain ⟨b2, off2, A2, cap2, rfl, hb2, c0, hR⟩ := RdN.at_ (RdN.below HA.out HW.out) hltk
          have c0 := (hW.cell (p := ⟨b2, off2 + k, none⟩) hb2).trans c0
          have c2 := (hW.cell (p := ⟨gF, k, none⟩) hgF2).trans (HC.out k (by rw [Hlen.out]; exact hltk))
          rw [rulesL_get] at c2
          have hl := Lib.hid (List.getElem?_eq_getElem hltk)
          have hl3 := (HV.out _ (List.getElem_mem hltk)).1
          have Hin := Lib.hid ((HV.out _ (List.getElem_mem hltk)).2)
          have HR := Lib.hid hR
          have hDk := domS_lt ls k
          have p1 := test_u32 (domS ls k) i (by omega)
          have i32 : i < 32 := by omega
          clear hR hW
          generalize ls[k] = l at *
          cases hb : (domS ls k).testBit i
          · rw [hb] at p1
            have Hn := Lib.hid (show ¬ Dom ls i k from fun h => by
              rw [(HD.out k i).2 h] at hb; cases hb)
            clear hb
            generalize domS ls k = D at *
            go_wp2
            go_roundw
            case rel => exact ⟨k + 1, s, by omega, by go_num, hs, Lib.hid (hP.out.skipNode Hn.out), Hown.out, HWr.out⟩
            case measure => simp [intOf]; omega
          · rw [hb] at p1
            have Hd := Lib.hid ((HD.out k i).1 hb)
            clear hb
            generalize domS ls k = D at *
            go_wp2
            clear p1 c2 hDk
            go_loopw [37] (fun t3 wr => ∃ (t s : Nat), t ≤ l.length ∧ t3 = .int .i64 t ∧ s < 256 ∧ Hid (eP ls i k t s) ∧ OwnU wr w1.heap.size 29 (.slice (some ⟨w1.heap.size, 0, none⟩) ls.length ls.length) ((eRows ls i).set i s) ∧ Below w1.heap.size w1 wr) (fun t3 _ => l.length - (intOf t3).toNat)
            case atStart => exact ⟨0, s, Nat.zero_le _, rfl, hs, hP, Hown.out, HWr.out⟩
            case round =>
              clear Hown HWr hP hs
              obtain ⟨t, s, ht, rfl, hs, hP, hown, hW⟩ := hrel
              have Hown := Lib.hid hown
              have HWr := Lib.hid hW
              by_cases hltt : t < l.length
              · obtain ⟨b3, off3, rfl, hb3, c3⟩ := RdI.at1 (Rd.below HR.out hW) hltt
                obtain ⟨x0, x1⟩ := Hin.out _ (List.getElem_mem hltt)
                obtain ⟨j, hj⟩ := Int.eq_ofNat_of_zero_le x0
                rw [hj] at c3
                have hj8 : j < ls.length := by omega
                have c2 := (hW.cell (p := ⟨gF, j, none⟩) hgF2).trans (HC.out j (by rw [Hlen.out]; exact hj8))
                rw [rulesL_get] at c2
                have hDj := domS_lt ls j
                have p1 := test_u32 (domS ls j) i (by omega)
                have Hk := Lib.hid (fun (hn : ¬ Out ls i j) => hP.out.skip hl.out hltt hj hn)
                have Ht := Lib.hid (fun (ho : Out ls i j) => hP.out.push hl.out hltt hj Hd.out ho)
                have HO := Lib.hid (show Out ls i j ↔ (j = i ∨ (domS ls j).testBit i = false) from by
                  unfold Out
                  rw [← HD.out j i]
                  cases (domS ls j).testBit i <;> simp)
                have hlen := eRows_len ls i
                have hlset : ((eRows ls i).set i s).length = ls.length := by rw [List.length_set, hlen]
                obtain ⟨g, eg, _, _, _, hfz, hcell⟩ := OwnU.at2 hown (by omega)
                injection eg with eg; injection eg with eg
                subst eg
                have f1 := hfz i
                have c5 := hcell i (by omega)
                rw [List.getElem_set_self] at c5
                have q2 : ((i : Nat) : Int) < ((ls.length : Nat) : Int) := by omega
                have q1 : ((j : Nat) : Int) < ((ls.length : Nat) : Int) := by omega
                have j32 : j < 32 := by omega
                have pj : 2 ^ j < 2 ^ 8 := Nat.pow_lt_pow_right (by decide) (by omega)
                have r1 := pow_u32 j j32
                have r2 := or_u32 s (2 ^ j) (by omega) (by omega)
                have hy : s ||| 2 ^ j < 256 := Nat.or_lt_two_pow (n := 8) (by omega) pj
                rw [Int.natCast_pow, show ((2 : Nat) : Int) = 2 from rfl] at r1 r2
                have Hown' := Lib.hid (OwnU.set_ hown (k := i) (by omega) (s ||| 2 ^ j))
                rw [List.set_set] at Hown'
                clear hj x0 x1 hfz hcell hown hW pj hlset
                generalize s ||| 2 ^ j = y at *
                by_cases he : j = i
                · have q3 : ((j : Int) == (i : Int)) = true := by rw [beq_iff_eq]; omega
                  have Hy := Lib.hid (Ht.out (HO.out.2 (Or.inl he)))
                  clear p1 he
                  generalize domS ls j = D at *
                  go_wp2
                  go_still_tail 8, (by kernel_rfl)
                  go_wp2
                  refine ⟨⟨t + 1, y, by omega, by go_num, hy, Lib.hid Hy.out, Hown'.out.drew, ?_⟩, by simp [intOf]; omega⟩
                  exact (HWr.out.setCell (Nat.le_refl _) _).drew
                · have q3 : ((j : Int) == (i : Int)) = false := by rw [beq_eq_false_iff_ne]; omega
                  cases hb : (domS ls j).testBit i
                  · rw [hb] at p1
                    have Hy := Lib.hid (Ht.out (HO.out.2 (Or.inr hb)))
                    clear hb he
                    generalize domS ls j = D at *
                    go_wp2
                    go_still_tail 8, (by kernel_rfl)
                    go_wp2
                    refine ⟨⟨t + 1, y, by omega, by go_num, hy, Lib.hid Hy.out, Hown'.out.drew, ?_⟩, by simp [intOf]; omega⟩
                    exact (HWr.out.setCell (Nat.le_refl _) _).drew
                  · rw [hb] at p1
                    have Hn := Lib.hid (Hk.out (fun h => by
                      rcases HO.out.1 h with h | h
                      · exact he h
                      · rw [hb] at h; cases h))
                    clear hb he
                    generalize domS ls j = D at *
                    go_wp2
                    go_roundw
                    case rel => exact ⟨t + 1, s, by omega, by go_num, hs, Lib.hid Hn.out, Hown.out, HWr.out⟩
                    case measure => simp [intOf]; omega
              · have : t = l.length := by omega
                subst this
                have Hnx := Lib.hid (hP.out.nextNode hl.out Hd.out)
                go_wp2
                go_roundw
                case rel => exact ⟨k + 1, s, by omega, by go_num, hs, Lib.hid Hnx.out, Hown.out, HWr.out⟩
                case measure => simp [intOf]; omega
        · have : k = ls.length := by omega
          subst this
          have Hfin := Lib.hid (hP.out.finish h8 HV.out)
          go_wp2
          go_roundw
          case rel => exact ⟨i + 1, by omega, by go_num, by rw [← eRows_next, ← Hfin.out]; exact Hown.out, HWr.out⟩
          case measure => simp [intOf]; omega
    · have : i = ls.length := by omega
      subst this
      go_wp2
      go_ret
      exact ⟨_, rfl, by rw [← eRows_all]; exact Hown.out.base_ hw1, HW.out.trans (HWr.out.mono hw1)⟩
end Go.Proofs.Ytljmignfbagomaa
