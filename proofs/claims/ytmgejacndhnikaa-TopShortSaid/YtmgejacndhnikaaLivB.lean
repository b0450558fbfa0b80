/- live.Behind walked. -/
import Derived.Test.YtmgejacndhnikaaLivA
import Derived.Test.YtmgejacndhnikaaEqualU
import Derived.Test.YtmgejacndhnikaaBlkN
namespace Go.Proofs.Ytmgejacndhnikaa
open Go.RowKit

/-- The sum so far. -/
def bhT (want : Nat) (F : List Nat) (b : Blk) (t : Nat) : Nat := ((nxB b).take t).foldl (fun s j => s ||| getU F j.toNat) (bh0 want b)
theorem bhT_zero (want : Nat) (F : List Nat) (b : Blk) : bhT want F b 0 = bh0 want b := by simp [bhT]
theorem bhT_all (want : Nat) (F : List Nat) (b : Blk) : bhT want F b (nxB b).length = bhL want F b := by unfold bhT bhL; rw [List.take_length]
theorem bhT_succ (want : Nat) (F : List Nat) (b : Blk) {t : Nat} (h : t < (nxB b).length) : bhT want F b (t + 1) = bhT want F b t ||| getU F ((nxB b)[t]).toNat := by
  unfold bhT; rw [List.take_succ_eq_append_getElem h, List.foldl_append]; rfl
theorem foldU_lt {F : List Nat} (hF : ltU F 4294967296) : ∀ (js : List Int) {s : Nat}, s < 4294967296 → js.foldl (fun s j => s ||| getU F j.toNat) s < 4294967296
  | [], _, h => h
  | _ :: js, _, h => foldU_lt hF js (Nat.or_lt_two_pow (n := 32) h (hF _))
theorem bhF_succ (p : List Blk) (want : Nat) (F : List Nat) {k : Nat} (hk : k < p.length) : bhF (p.take (k + 1)) want F = bhF (p.take k) want F ++ [bhL want F p[k]] := by
  unfold bhF; rw [List.take_succ_eq_append_getElem hk, List.map_append]; rfl
theorem nxB_ok {vars n : Int} {b : Blk} (h : BOk vars n b) : ∀ j ∈ nxB b, 0 ≤ j ∧ j < n := by
  have h1 := h.one
  have h2 := h.two
  have h3 := h.lo
  intro j hj
  unfold nxB at hj
  rcases List.mem_append.1 hj with hj | hj
  · split at hj
    · simp at hj; subst hj
      by_cases ht : 0 ≤ b.test
      · have := h2 ht; omega
      · have := h1 (by omega); omega
    · cases hj
  · split at hj
    · rename_i hc; simp at hj; subst hj
      have := h2 hc.1; omega
    · cases hj
theorem nxB_len (b : Blk) : (nxB b).length ≤ 2 := by
  unfold nxB
  rw [List.length_append]
  split <;> split <;> simp
theorem nxB_ne {vars n : Int} {b : Blk} (h : BOk vars n b) (ht : 0 ≤ b.test) : 0 < (nxB b).length := by
  have := h.two ht
  unfold nxB
  rw [if_pos this.1.1]; simp

set_option maxRecDepth 100000 in
set_option maxHeartbeats 4000000 in
theorem behindL_calls (vars : Int) (A B : Option Addr) (p : List Blk) (F : List Nat) (cap capB want : Nat) (w : World) (hA : RdBk w A p) (hB : RdU w B F) (hp : POk vars p) (hF : F.length = p.length) (hFl : ltU F 4294967296) (hw : want < 4294967296) :
    Calls Try.prog 93 #[.slice A p.length cap, .int .u32 want, .slice B F.length capB] w fun e w' => ∃ v, e = .returned v ∧ OwnU w' w.heap.size 24 v (bhF p want F) ∧ Below w.heap.size w w' := by
  have hn1 := hp.n1
  have hn8 := hp.n8
  have HN := Lib.hid (next_calls A p cap w hA hn1 hn8)
  have HA := Lib.hid hA
  have HB := Lib.hid hB
  have HF := Lib.hid hF
  have HP := Lib.hid hp
  have HFl := Lib.hid hFl
  have hv6 := hp.v6
  clear hA hB hF hp hFl
  go_enter Try.func93, Try.ntmps93
  go_wp2_with (go_at_call 65; refine HN.out.mono ?_; rintro e w1 ⟨b0, rfl, hR, hW⟩; have HR := Lib.hid hR; have HW1 := Lib.hid hW; clear hR hW HN)
  have hw1 := HW1.out.size
  go_loopw [7, 16] (fun o i wr => ∃ k : Nat, k ≤ p.length ∧ i = .int .i64 k ∧ OwnU wr w1.heap.size 24 o (bhF (p.take k) want F) ∧ Below w1.heap.size w1 wr) (fun _ i _ => p.length - (intOf i).toNat)
  case atStart => exact ⟨0, Nat.zero_le _, rfl, Own.nil_ _ _ _, Below.refl _ _⟩
  case round =>
    obtain ⟨k, hk, rfl, hO, hW⟩ := hrel
    have HO := Lib.hid hO
    have HW := Lib.hid hW
    have hws := hW.size
    have HWw := Lib.hid (HW1.out.trans (hW.mono hw1))
    clear hO hW
    by_cases hlt : k < p.length
    · obtain ⟨pb, off, A', cap', rfl, hpb, c0, c1, c2, c3, -⟩ := RdBk.at_ (HA.out.below HWw.out) hlt
      obtain ⟨nb, noff, N', ncap, en, hnb, n0, hNr⟩ := RdN.at_ (RdN.below HR.out HW.out) (k := k) (by simp [nexts]; exact hlt)
      injection en with en; injection en with en1 en2
      subst en1 en2
      rw [Nat.zero_add] at n0
      have e1 : (nexts p)[k]'(by simp [nexts]; exact hlt) = nxB p[k] := by simp [nexts]
      rw [e1] at n0 hNr
      have HNr := Lib.hid hNr
      have hbo := HP.out.bs _ (List.getElem_mem hlt)
      have Hin := Lib.hid (nxB_ok hbo)
      have Hne := Lib.hid (nxB_ne hbo)
      have hle := nxB_len p[k]
      have hthi := hbo.hi
      have Hsucc := Lib.hid (bhF_succ p want F hlt)
      have Hlen := Lib.hid (show (bhF (p.take k) want F).length ≤ 8 by unfold bhF; rw [List.length_map, List.length_take]; omega)
      have Hlt := Lib.hid hlt
      have hlt : ((k : Nat) : Int) < ((p.length : Nat) : Int) := by omega
      have H0l := Lib.hid (show bh0 want p[k] < 4294967296 by
        unfold bh0
        split
        · exact hw
        · split
          · exact Nat.lt_of_lt_of_le (Nat.pow_lt_pow_right (by decide) (show p[k].test.toNat < 32 by omega)) (by decide)
          · decide)
      clear hbo e1 hNr
      generalize p[k] = bk at *
      have Hb0 : Hid (bh0 want bk = if nxB bk = [] then want else if 0 ≤ bk.test then 2 ^ bk.test.toNat else 0) := Lib.hid rfl
      obtain ⟨x0, Hx0⟩ : ∃ x0, Hid (bh0 want bk = x0) := ⟨_, Lib.hid rfl⟩
      have hcase : (0 ≤ bk.test ∧ 0 < (nxB bk).length) ∨ (bk.test < 0 ∧ (nxB bk).length = 0) ∨ (bk.test < 0 ∧ 0 < (nxB bk).length) := by
        by_cases ht : 0 ≤ bk.test
        · exact .inl ⟨ht, Hne.out ht⟩
        · by_cases hl : (nxB bk).length = 0
          · exact .inr (.inl ⟨by omega, hl⟩)
          · exact .inr (.inr ⟨by omega, by omega⟩)
      obtain ⟨ls, Hls⟩ : ∃ ls, Hid (nxB bk = ls) := ⟨_, Lib.hid rfl⟩
      rw [Hls.out] at n0 HNr Hin Hne hle hcase Hb0
      rw [Hx0.out] at Hb0 H0l
      have h0l := H0l.out
      clear Hne
      rcases hcase with ⟨ht, hl⟩ | ⟨ht, hl⟩ | ⟨ht, hl⟩
      · have hne : ls ≠ [] := by intro e; rw [e] at hl; simp at hl
        have Hb0 := Lib.hid ((Hb0.out.trans (if_neg hne)).trans (if_pos ht))
        obtain ⟨d, hd⟩ := Int.eq_ofNat_of_zero_le ht
        rw [hd] at c1 Hb0
        rw [Int.toNat_natCast] at Hb0
        have d32 : d < 32 := by omega
        have r1 := pow_u32 d d32
        rw [← Hb0.out] at r1
        have q2 : (((ls.length : Nat) : Int) == 0) = false := by rw [beq_eq_false_iff_ne]; omega
        clear hne ht hd Hb0
        go_wp2
        go_loop [10, 39] (fun s j => ∃ t : Nat, t ≤ ls.length ∧ j = .int .i64 t ∧ s = .int .u32 (bhT want F bk t : Nat)) (fun _ j => ls.length - (intOf j).toNat)
        case atStart => exact ⟨0, Nat.zero_le _, rfl, by rw [bhT_zero, Hx0.out]⟩
        case round =>
          obtain ⟨t, ht2, rfl, rfl⟩ := hrel
          by_cases htl : t < ls.length
          · obtain ⟨b2, off2, rfl, hb2, m0⟩ := RdI.at1 HNr.out htl
            have hj := Hin.out _ (List.getElem_mem htl)
            have Hst := Lib.hid (bhT_succ want F bk (t := t) (by rw [Hls.out]; exact htl))
            have e3 : (nxB bk)[t]'(by rw [Hls.out]; exact htl) = ls[t] := by congr 1 <;> exact Hls.out
            rw [e3] at Hst
            clear e3
            generalize ls[t] = x at *
            obtain ⟨j, rfl⟩ := Int.eq_ofNat_of_zero_le hj.1
            rw [Int.toNat_natCast] at Hst
            have hjl : j < F.length := by have := HF.out; omega
            obtain ⟨b3, off3, rfl, hb3, f0⟩ := RdU.at1 (Rd.below HB.out HWw.out) hjl
            rw [← getU_get hjl] at f0
            have f1 := HFl.out j
            have hlF : F.length = p.length := HF.out
            have s0 : bhT want F bk t < 4294967296 := by
              unfold bhT; rw [Hx0.out]; exact foldU_lt HFl.out _ h0l
            have r4 := or_u32 _ _ s0 f1
            rw [← Hst.out] at r4
            generalize bhT want F bk t = s at *
            generalize getU F j = f at *
            have HFn := Lib.hid hlF
            clear hlF
            have q5 : ((j : Nat) : Int) < ((F.length : Nat) : Int) := by omega
            have q6 : ((t : Nat) : Int) < ((ls.length : Nat) : Int) := by omega
            go_wp2
            go_round
            case rel => exact ⟨t + 1, by omega, by go_num, rfl⟩
            case measure => simp [intOf]; omega
          · have : t = ls.length := by omega
            subst this
            rw [← Hls.out, bhT_all]
            clear htl ht2
            go_wp2_with (at_builtin; refine wpList_appU rfl _ _ rfl w1.heap.size _ _ (bhL want F bk) rfl (HO.out.alloc _) _ _ rfl (cell_new _ _ _ _ (by simp) _) (by have := Hlen.out; omega) (by simp; omega) ?_; intro v' w5 hown' hgrow)
            go_roundw
            case rel => exact ⟨k + 1, by have := Hlt.out; omega, by go_num, by rw [Hsucc.out]; exact hown', below_own (HW.out.alloc hws _) hgrow (HO.out.alloc _) (Nat.le_refl _) (by simp; omega)⟩
            case measure => simp [intOf]; omega
      · have hnil : ls = [] := List.eq_nil_of_length_eq_zero hl
        have Hb0 := Lib.hid (Hb0.out.trans (if_pos hnil))
        have q1 : decide (0 ≤ bk.test) = false := decide_eq_false (by omega)
        have q2 : (((ls.length : Nat) : Int) == 0) = true := by rw [beq_iff_eq]; omega
        clear hnil
        go_wp2
        go_loop [10, 39] (fun s j => ∃ t : Nat, t ≤ ls.length ∧ j = .int .i64 t ∧ s = .int .u32 (bhT want F bk t : Nat)) (fun _ j => ls.length - (intOf j).toNat)
        case atStart => exact ⟨0, Nat.zero_le _, rfl, by rw [bhT_zero, Hx0.out, Hb0.out]⟩
        case round =>
          obtain ⟨t, ht2, rfl, rfl⟩ := hrel
          by_cases htl : t < ls.length
          · exfalso; omega
          · have : t = ls.length := by omega
            subst this
            rw [← Hls.out, bhT_all]
            clear htl ht2
            go_wp2_with (at_builtin; refine wpList_appU rfl _ _ rfl w1.heap.size _ _ (bhL want F bk) rfl (HO.out.alloc _) _ _ rfl (cell_new _ _ _ _ (by simp) _) (by have := Hlen.out; omega) (by simp; omega) ?_; intro v' w5 hown' hgrow)
            go_roundw
            case rel => exact ⟨k + 1, by have := Hlt.out; omega, by go_num, by rw [Hsucc.out]; exact hown', below_own (HW.out.alloc hws _) hgrow (HO.out.alloc _) (Nat.le_refl _) (by simp; omega)⟩
            case measure => simp [intOf]; omega
      · have hne : ls ≠ [] := by intro e; rw [e] at hl; simp at hl
        have Hb0 := Lib.hid ((Hb0.out.trans (if_neg hne)).trans (if_neg (by omega)))
        have q1 : decide (0 ≤ bk.test) = false := decide_eq_false (by omega)
        have q2 : (((ls.length : Nat) : Int) == 0) = false := by rw [beq_eq_false_iff_ne]; omega
        clear hne
        go_wp2
        go_loop [10, 39] (fun s j => ∃ t : Nat, t ≤ ls.length ∧ j = .int .i64 t ∧ s = .int .u32 (bhT want F bk t : Nat)) (fun _ j => ls.length - (intOf j).toNat)
        case atStart => exact ⟨0, Nat.zero_le _, rfl, by rw [bhT_zero, Hx0.out, Hb0.out]; rfl⟩
        case round =>
          obtain ⟨t, ht2, rfl, rfl⟩ := hrel
          by_cases htl : t < ls.length
          · obtain ⟨b2, off2, rfl, hb2, m0⟩ := RdI.at1 HNr.out htl
            have hj := Hin.out _ (List.getElem_mem htl)
            have Hst := Lib.hid (bhT_succ want F bk (t := t) (by rw [Hls.out]; exact htl))
            have e3 : (nxB bk)[t]'(by rw [Hls.out]; exact htl) = ls[t] := by congr 1 <;> exact Hls.out
            rw [e3] at Hst
            clear e3
            generalize ls[t] = x at *
            obtain ⟨j, rfl⟩ := Int.eq_ofNat_of_zero_le hj.1
            rw [Int.toNat_natCast] at Hst
            have hjl : j < F.length := by have := HF.out; omega
            obtain ⟨b3, off3, rfl, hb3, f0⟩ := RdU.at1 (Rd.below HB.out HWw.out) hjl
            rw [← getU_get hjl] at f0
            have f1 := HFl.out j
            have hlF : F.length = p.length := HF.out
            have s0 : bhT want F bk t < 4294967296 := by
              unfold bhT; rw [Hx0.out]; exact foldU_lt HFl.out _ h0l
            have r4 := or_u32 _ _ s0 f1
            rw [← Hst.out] at r4
            generalize bhT want F bk t = s at *
            generalize getU F j = f at *
            have HFn := Lib.hid hlF
            clear hlF
            have q5 : ((j : Nat) : Int) < ((F.length : Nat) : Int) := by omega
            have q6 : ((t : Nat) : Int) < ((ls.length : Nat) : Int) := by omega
            go_wp2
            go_round
            case rel => exact ⟨t + 1, by omega, by go_num, rfl⟩
            case measure => simp [intOf]; omega
          · have : t = ls.length := by omega
            subst this
            rw [← Hls.out, bhT_all]
            clear htl ht2
            go_wp2_with (at_builtin; refine wpList_appU rfl _ _ rfl w1.heap.size _ _ (bhL want F bk) rfl (HO.out.alloc _) _ _ rfl (cell_new _ _ _ _ (by simp) _) (by have := Hlen.out; omega) (by simp; omega) ?_; intro v' w5 hown' hgrow)
            go_roundw
            case rel => exact ⟨k + 1, by have := Hlt.out; omega, by go_num, by rw [Hsucc.out]; exact hown', below_own (HW.out.alloc hws _) hgrow (HO.out.alloc _) (Nat.le_refl _) (by simp; omega)⟩
            case measure => simp [intOf]; omega
    · have : k = p.length := by omega
      subst this
      rw [List.take_length] at HO
      go_wp2
      go_ret
      exact ⟨_, rfl, HO.out.base_ hw1, HWw.out⟩
end Go.Proofs.Ytmgejacndhnikaa
