/- loop.Tame, loop.Deep walked. -/
import Derived.Test.YtljmignfbagomaaLpD
namespace Go.Proofs.Ytljmignfbagomaa
open Go.RowKit Go.Shelf

def TameE (ls : List (List Int)) (w : World) (e : Ending) (w' : World) : Prop :=
  (wayErr ls ≠ 0 ∧ (∃ v, e = .returned (.tuple #[v, .int .i64 (wayErr ls)])) ∧ Below w.heap.size w w') ∨
  (wayErr ls = 0 ∧ ∃ b bk, e = .returned (.tuple #[.bool b, .int .i64 0]) ∧ (b = true → ∀ t h : Nat, ((t : Int), (h : Int)) ∈ bk → Dom ls h t) ∧ Left (EdW ls) ls.length (walkL ls) ∧ BkAll ls bk ∧ Below w.heap.size w w')
set_option maxRecDepth 100000 in
set_option maxHeartbeats 8000000 in
theorem tame_calls (A : Option Addr) (ls : List (List Int)) (cap : Nat) (w : World) (hA : RdN w A ls) (hm : ls.length ≤ maxLen) :
    Calls Try.prog 38 #[.slice A ls.length cap] w (TameE ls w) := by
  have Hb := Lib.hid (back_calls A ls cap w hA hm)
  have HA := Lib.hid hA
  by_cases h0 : wayErr ls = 0
  case neg =>
    have H0 := Lib.hid h0
    have q : (wayErr ls != 0) = true := by rw [bne_iff_ne]; exact h0
    obtain ⟨x, hx⟩ : ∃ x, x = wayErr ls := ⟨_, rfl⟩
    have Hx := Lib.hid hx
    clear hA h0
    go_enter Try.func38, Try.ntmps38
    go_wp2_with fail
    refine Hb.out.mono ?_
    rintro e w1 (⟨-, ⟨v, rfl⟩, hW⟩ | ⟨h9, -⟩)
    case inr => exact absurd h9 H0.out
    have HW := Lib.hid hW
    rw [← hx] at q ⊢
    clear hW hx
    go_wp2
    go_ret2
    exact .inl ⟨H0.out, ⟨_, by rw [← Hx.out]; rfl⟩, HW.out⟩
  obtain ⟨h1, h8, hv⟩ := wayErr_ok h0
  have H0 := Lib.hid h0
  have Hru := Lib.hid (fun w' (h : Below w.heap.size w w') => rules_calls A ls cap w' (HA.out.below h) h0)
  have HD := Lib.hid (fun j a => domS_bit h1 h8 hv j a)
  clear hA hv h0
  go_enter Try.func38, Try.ntmps38
  go_wp2_with fail
  refine Hb.out.mono ?_
  rintro e w1 (⟨h9, -⟩ | ⟨-, v, bk, rfl, hO, hbl, hL, hbm, hW⟩)
  case inl => exact absurd H0.out h9
  obtain ⟨A3, c3, rfl, hR3⟩ := OwnP.rd hO
  have HP1 := Lib.hid hR3
  have HL := Lib.hid hL
  have HBA : Hid (BkAll ls bk) := Lib.hid hbm
  have HW1 := Lib.hid hW
  have Hru1 := Lib.hid (Hru.out _ hW)
  have hbl2 : bk.length ≤ 64 := hbl
  clear hW hO hR3 hbm hL hbl
  go_wp2_with fail
  refine Hru1.out.mono ?_
  rintro e w2 ⟨v, rfl, hO, hW⟩
  obtain ⟨g4, c4, rfl, hg4, hg4s, -, -, hc4⟩ := OwnU.at_ hO (by rw [rulesL_len]; omega)
  rw [rulesL_len]
  have HC4 := Lib.hid hc4
  have HP2 := Lib.hid (Rd.below HP1.out hW)
  have HW2 := Lib.hid (HW1.out.trans (hW.mono HW1.out.size))
  have hz2 := HW2.out.size
  clear hW hO hc4 Hb Hru Hru1
  go_wp2
  go_loopw [21] (fun i wr => ∃ k : Nat, k ≤ bk.length ∧ i = .int .i64 k ∧ Hid (∀ t h : Nat, ((t : Int), (h : Int)) ∈ bk.take k → Dom ls h t) ∧ Below w2.heap.size w2 wr) (fun i _ => bk.length - (intOf i).toNat)
  case atStart => exact ⟨0, Nat.zero_le _, rfl, Lib.hid (fun t h hm => by simp at hm), Below.refl _ _⟩
  case round =>
    obtain ⟨k, hk, rfl, HT, hW⟩ := hrel
    have HWr := Lib.hid hW
    have hwr := hW.size
    by_cases hlt : k < bk.length
    · obtain ⟨b2, off2, rfl, hb2, d0', d1'⟩ := RdP.at2 HP2.out hlt
      have d0 := (hW.cell (p := ⟨b2, off2 + k * 2, none⟩) hb2).trans d0'
      have d1 := (hW.cell (p := ⟨b2, off2 + k * 2 + 1, none⟩) hb2).trans d1'
      obtain ⟨t, h, ep, ht, hh, -⟩ := (HBA.out _).1 (List.getElem_mem hlt)
      have e1 : bk[k].1 = (t : Int) := by rw [ep]
      have e2 : bk[k].2 = (h : Int) := by rw [ep]
      rw [e1] at d0
      rw [e2] at d1
      have Htk : Hid (bk.take (k + 1) = bk.take k ++ [((t : Int), (h : Int))]) := Lib.hid (by rw [List.take_succ_eq_append_getElem hlt, ep])
      have q1 : ((k : Nat) : Int) < ((bk.length : Nat) : Int) := by omega
      have q2 : ((t : Nat) : Int) < ((ls.length : Nat) : Int) := by omega
      have c4 := ((hW.alloc hwr (.cells #[.int .i64 t, .int .i64 h] 51)).cell (p := ⟨g4, t, none⟩) hg4s).trans (HC4.out t (by rw [rulesL_len]; exact ht))
      rw [rulesL_get] at c4
      have hDs := domS_lt ls t
      have p1 := test_u32 (domS ls t) h (by omega)
      have h32 : h < 32 := by omega
      have HDt := Lib.hid (HD.out t h)
      have HWa := Lib.hid (fun nq => below_dN (hW.alloc hwr (.cells #[.int .i64 t, .int .i64 h] 51)) nq)
      clear hW d0' d1' ep e1 e2
      generalize domS ls t = D at *
      cases hb : D.testBit h
      · rw [hb] at p1
        clear hb
        go_wp2
        go_quiet (fail)
        go_wp2
        go_ret2
        exact .inr ⟨H0.out, false, bk, rfl, (fun h => by cases h), HL.out, HBA.out, HW2.out.trans ((HWa.out _).mono hz2)⟩
      · rw [hb] at p1
        have HT2 : Hid (∀ t h : Nat, ((t : Int), (h : Int)) ∈ bk.take (k + 1) → Dom ls h t) := Lib.hid (fun t' h' hm => by
          rw [Htk.out, List.mem_append, List.mem_singleton] at hm
          rcases hm with hm | hm
          · exact HT.out t' h' hm
          · injection hm with e1 e2
            have e1 : t' = t := by omega
            have e2 : h' = h := by omega
            subst e1 e2; exact HDt.out.1 hb)
        clear hb
        go_wp2
        go_quiet (fail)
        go_wp2
        go_roundw
        case rel => exact ⟨k + 1, by omega, by go_num, HT2, HWa.out _⟩
        case measure => simp [intOf]; omega
    · have hke : k = bk.length := by omega
      subst hke
      have HT2 : Hid (∀ t h : Nat, ((t : Int), (h : Int)) ∈ bk → Dom ls h t) := Lib.hid (by have := HT.out; rwa [List.take_length] at this)
      clear hW
      go_wp2
      go_ret2
      exact .inr ⟨H0.out, true, bk, rfl, fun _ => HT2.out, HL.out, HBA.out, HW2.out.trans (HWr.out.mono hz2)⟩
theorem and1_u32 (s j : Nat) (hs : s < 4294967296) : bits .and .u32 ((s : Int) / 2 ^ j) 1 = if s.testBit j then 1 else 0 := by
  have h := and_u32 (s >>> j) 1 (Nat.lt_of_le_of_lt (by rw [Nat.shiftRight_eq_div_pow]; exact Nat.div_le_self _ _) hs) (by decide)
  rw [shr_u32]
  rw [show ((1 : Nat) : Int) = 1 from rfl] at h
  rw [h]
  have h2 := testBit_and_one s j
  have h3 : s >>> j &&& 1 ≤ 1 := Nat.and_le_right
  generalize s >>> j &&& 1 = z at *
  cases hb : s.testBit j
  · rw [hb] at h2
    have : z = 0 := by simpa using h2
    subst this; rfl
  · rw [hb] at h2
    have h4 : z ≠ 0 := by simpa using h2
    have : z = 1 := by omega
    subst this; rfl
def dsum (rs : List Nat) (i : Nat) : Nat := (rs.map fun s => if s.testBit i then 1 else 0).sum
theorem dsum_snoc (rs : List Nat) (s i : Nat) : dsum (rs ++ [s]) i = dsum rs i + if s.testBit i then 1 else 0 := by simp [dsum]
theorem dsum_le (rs : List Nat) (i : Nat) : dsum rs i ≤ rs.length := by
  induction rs with
  | nil => simp [dsum]
  | cons s rs ih =>
    unfold dsum at ih ⊢
    rw [List.map_cons, List.sum_cons, List.length_cons]
    split <;> omega
theorem dsum_pos (rs : List Nat) (i : Nat) : dsum rs i ≠ 0 ↔ ∃ s ∈ rs, s.testBit i = true := by
  induction rs with
  | nil => simp [dsum]
  | cons s rs ih =>
    unfold dsum at ih ⊢
    rw [List.map_cons, List.sum_cons]
    by_cases hb : s.testBit i = true
    · rw [if_pos hb]
      exact ⟨fun _ => ⟨s, by simp, hb⟩, fun _ => by omega⟩
    · rw [if_neg hb, Nat.zero_add, ih]
      constructor
      · rintro ⟨s', h1, h2⟩; exact ⟨s', by simp [h1], h2⟩
      · rintro ⟨s', h1, h2⟩
        rw [List.mem_cons] at h1
        rcases h1 with rfl | h1
        · exact absurd h2 hb
        · exact ⟨s', h1, h2⟩
def dpR (rs : List Nat) (n k t : Nat) : List Int := (List.range n).map fun i => ((dsum (rs.take (if i < t then k + 1 else k)) i : Nat) : Int)
theorem dpR_len (rs : List Nat) (n k t : Nat) : (dpR rs n k t).length = n := by simp [dpR]
theorem dpR_get (rs : List Nat) (n k t : Nat) (h : t < (dpR rs n k t).length) : (dpR rs n k t)[t] = ((dsum (rs.take k) t : Nat) : Int) := by simp [dpR]
theorem dpR_zero (rs : List Nat) (n : Nat) : dpR rs n 0 0 = List.replicate n 0 := by
  unfold dpR
  rw [show (fun i => ((dsum (rs.take (if i < 0 then 0 + 1 else 0)) i : Nat) : Int)) = fun _ => 0 from by funext i; rw [if_neg (by omega)]; simp [dsum], List.map_const', List.length_range]
theorem dpR_next (rs : List Nat) (n k : Nat) : dpR rs n k n = dpR rs n (k + 1) 0 := by
  unfold dpR
  refine List.map_congr_left fun i hi => ?_
  rw [if_pos (List.mem_range.1 hi), if_neg (by omega)]
theorem dpR_put {rs : List Nat} {n k t : Nat} (hk : k < rs.length) : (dpR rs n k t).set t (((dsum (rs.take k) t : Nat) : Int) + if rs[k].testBit t then 1 else 0) = dpR rs n k (t + 1) := by
  unfold dpR
  rw [map_range_setW]
  refine List.map_congr_left fun i _ => ?_
  by_cases e : i = t
  · subst e
    rw [if_pos rfl, show (if i < i + 1 then k + 1 else k) = k + 1 from if_pos (by omega), List.take_succ_eq_append_getElem hk, dsum_snoc]
    split <;> simp
  · rw [if_neg e]
    by_cases h : i < t
    · rw [if_pos h, if_pos (by omega)]
    · rw [if_neg h, if_neg (by omega)]
def DeepE (ls : List (List Int)) (w : World) (e : Ending) (w' : World) : Prop :=
  (wayErr ls ≠ 0 ∧ (∃ v, e = .returned (.tuple #[v, .int .i64 (wayErr ls)])) ∧ Below w.heap.size w w') ∨
  (wayErr ls = 0 ∧ ∃ v bk, e = .returned (.tuple #[v, .int .i64 0]) ∧ OwnI w' w.heap.size 3 v (dpR (lpR ls bk) ls.length ls.length 0) ∧ BkAll ls bk ∧ Below w.heap.size w w')
set_option maxRecDepth 100000 in
set_option maxHeartbeats 8000000 in
theorem deep_calls (A : Option Addr) (ls : List (List Int)) (cap : Nat) (w : World) (hA : RdN w A ls) (hm : ls.length ≤ maxLen) :
    Calls Try.prog 40 #[.slice A ls.length cap] w (DeepE ls w) := by
  have Hl := Lib.hid (loops_calls A ls cap w hA hm)
  by_cases h0 : wayErr ls = 0
  case neg =>
    have H0 := Lib.hid h0
    have q : (wayErr ls != 0) = true := by rw [bne_iff_ne]; exact h0
    obtain ⟨x, hx⟩ : ∃ x, x = wayErr ls := ⟨_, rfl⟩
    have Hx := Lib.hid hx
    clear hA h0
    go_enter Try.func40, Try.ntmps40
    go_wp2_with fail
    refine Hl.out.mono ?_
    rintro e w1 (⟨-, ⟨v, rfl⟩, hW⟩ | ⟨h9, -⟩)
    case inr => exact absurd h9 H0.out
    have HW := Lib.hid hW
    rw [← hx] at q ⊢
    clear hW hx
    go_wp2
    go_ret2
    exact .inl ⟨H0.out, ⟨_, by rw [← Hx.out]; rfl⟩, HW.out⟩
  obtain ⟨h1, h8, hv⟩ := wayErr_ok h0
  have H0 := Lib.hid h0
  clear hA hv h0
  go_enter Try.func40, Try.ntmps40
  go_wp2_with fail
  refine Hl.out.mono ?_
  rintro e w1 (⟨h9, -⟩ | ⟨-, v, bk, rfl, hO, -, hbk, hW⟩)
  case inl => exact absurd H0.out h9
  obtain ⟨g4, c4, rfl, hg4, hg4s, -, -, hc4⟩ := OwnU.at_ hO (by rw [lpR_len]; omega)
  have hrl := lpR_len ls bk
  rw [hrl]
  have HC4 := Lib.hid hc4
  have HW1 := Lib.hid hW
  have Hbk := Lib.hid hbk
  have hz1 := hW.size
  have Hlt : Hid (∀ i (h : i < (lpR ls bk).length), (lpR ls bk)[i] < 256) := Lib.hid (fun i h => by rw [lpR_get]; exact setN_lt _)
  obtain ⟨r, er⟩ : ∃ r, r = lpR ls bk := ⟨_, rfl⟩
  have Her := Lib.hid er
  rw [← er] at hrl HC4 Hlt
  clear hW hO hc4 hbk er
  go_wp2_with (first
    | (at_make; refine wpList_makeI rfl _ _ rfl w1.heap.size ls.length rfl rfl (by omega) (Nat.le_refl _) ?_; intro w2 hown2 hgrow2)
    | fail)
  have hW2 := (Below.refl w1.heap.size w1).grown hgrow2 (Nat.le_refl _) (fun k hk => by cases hk)
  rw [← dpR_zero r] at hown2
  go_loopw [23] (fun i wr => ∃ k : Nat, k ≤ ls.length ∧ i = .int .i64 k ∧ OwnI wr w1.heap.size 3 (.slice (some ⟨w1.heap.size, 0, none⟩) ls.length ls.length) (dpR r ls.length k 0) ∧ Below w1.heap.size w1 wr) (fun i _ => ls.length - (intOf i).toNat)
  case atStart => exact ⟨0, Nat.zero_le _, rfl, hown2, hW2⟩
  case round =>
    clear hown2 hW2 hgrow2
    obtain ⟨k, hk, rfl, hown, hW⟩ := hrel
    have Hown := Lib.hid hown
    have HWr := Lib.hid hW
    clear hown
    by_cases hlt : k < ls.length
    · have c0 := (hW.cell (p := ⟨g4, k, none⟩) hg4s).trans (HC4.out k (by omega))
      have q0 : ((k : Nat) : Int) < ((ls.length : Nat) : Int) := by omega
      have hs := Hlt.out k (by omega)
      have Hput := Lib.hid (fun t => dpR_put (rs := r) (n := ls.length) (k := k) (t := t) (by omega))
      obtain ⟨s, es⟩ : ∃ s, s = r[k]'(by omega) := ⟨_, rfl⟩
      rw [← es] at c0 hs
      have Hput2 : Hid (∀ t, (dpR r ls.length k t).set t (((dsum (r.take k) t : Nat) : Int) + if s.testBit t then 1 else 0) = dpR r ls.length k (t + 1)) := Lib.hid (by rw [es]; exact Hput.out)
      clear hW es Hput
      go_wp2
      go_loopw [29] (fun t3 wr => ∃ t : Nat, t ≤ ls.length ∧ t3 = .int .i64 t ∧ OwnI wr w1.heap.size 3 (.slice (some ⟨w1.heap.size, 0, none⟩) ls.length ls.length) (dpR r ls.length k t) ∧ Below w1.heap.size w1 wr) (fun t3 _ => ls.length - (intOf t3).toNat)
      case atStart => exact ⟨0, Nat.zero_le _, rfl, Hown.out, HWr.out⟩
      case round =>
        clear Hown HWr c0
        obtain ⟨t, ht, rfl, hown, hW⟩ := hrel
        have Hown := Lib.hid hown
        have HWr := Lib.hid hW
        by_cases hltt : t < ls.length
        · have q2 : ((t : Nat) : Int) < ((ls.length : Nat) : Int) := by omega
          have t32 : t < 32 := by omega
          have p1 := and1_u32 s t (by omega)
          obtain ⟨g, eg, _, _, _, hfz, hcell⟩ := OwnI.at2 hown (by rw [dpR_len]; omega)
          injection eg with eg; injection eg with eg
          subst eg
          have f1 := hfz t
          have c5 := hcell t (by rw [dpR_len]; exact hltt)
          rw [dpR_get] at c5
          have hle := dsum_le (r.take k) t
          rw [List.length_take] at hle
          have hp := Hput2.out t
          generalize hz : dsum (r.take k) t = z at *
          have Hown' := Lib.hid (fun y => OwnI.set_ hown (k := t) (by rw [dpR_len]; exact hltt) y)
          clear hown hW hfz hcell hz
          cases hb : s.testBit t
          · rw [hb] at p1 hp
            simp only [Bool.false_eq_true, if_false, Int.add_zero] at p1 hp
            have HO := Lib.hid (Hown'.out ((z : Nat) : Int))
            rw [hp] at HO
            clear hb hp Hown'
            go_wp2
            go_still_tail 11, (by kernel_rfl)
            go_wp2
            refine ⟨⟨t + 1, by omega, by go_num, HO.out.drew, ?_⟩, by simp [intOf]; omega⟩
            exact (HWr.out.setCell (Nat.le_refl _) _).drew
          · rw [hb] at p1 hp
            simp only [if_true] at p1 hp
            have HO := Lib.hid (Hown'.out (((z : Nat) : Int) + 1))
            rw [hp] at HO
            clear hb hp Hown'
            go_wp2
            go_still_tail 11, (by kernel_rfl)
            go_wp2
            refine ⟨⟨t + 1, by omega, by go_num, HO.out.drew, ?_⟩, by simp [intOf]; omega⟩
            exact (HWr.out.setCell (Nat.le_refl _) _).drew
        · have hte : t = ls.length := by omega
          subst hte
          have HO : Hid (OwnI wr w1.heap.size 3 (.slice (some ⟨w1.heap.size, 0, none⟩) ls.length ls.length) (dpR r ls.length (k + 1) 0)) := Lib.hid (by rw [← dpR_next]; exact hown)
          clear hown hW
          go_wp2
          go_roundw
          case rel => exact ⟨k + 1, by omega, by go_num, HO.out, HWr.out⟩
          case measure => simp [intOf]; omega
    · have hie : k = ls.length := by omega
      subst hie
      clear hW
      go_wp2
      go_ret2
      exact .inr ⟨H0.out, _, bk, rfl, by rw [← Her.out]; exact Hown.out.base_ hz1, Hbk.out, HW1.out.trans (HWr.out.mono hz1)⟩
end Go.Proofs.Ytljmignfbagomaa
