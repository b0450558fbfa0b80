/- plan.Levels walked. -/
import Derived.Test.YtdkkmmljaijomaaPlnB
import Derived.Test.YtdkkmmljaijomaaOwn
import Derived.Test.YtdkkmmljaijomaaBits1
namespace Go.Proofs.Ytdkkmmljaijomaa
open Go.RowKit

def lvL (n : Nat) (L : Nat → Nat) : List Int := (List.range n).map fun j => (L j : Int)
theorem lvL_len (n : Nat) (L : Nat → Nat) : (lvL n L).length = n := by simp [lvL]
theorem lvL_get {n : Nat} {L : Nat → Nat} {j : Nat} (h : j < (lvL n L).length) : (lvL n L)[j] = L j := by simp [lvL]
theorem lvL_zero (n : Nat) : lvL n (fun _ => 0) = List.replicate n 0 := by
  refine List.ext_getElem (by simp [lvL]) fun j h1 h2 => ?_
  rw [lvL_get, List.getElem_replicate]; rfl
def updL (L : Nat → Nat) (j x : Nat) : Nat → Nat := fun k => if k = j then max (L k) x else L k
theorem updL_le (L : Nat → Nat) (j x k : Nat) : L k ≤ updL L j x k := by unfold updL; split <;> omega
theorem updL_at (L : Nat → Nat) (j x : Nat) : updL L j x j = max (L j) x := by unfold updL; rw [if_pos rfl]
theorem updL_ne (L : Nat → Nat) {j k : Nat} (x : Nat) (h : k ≠ j) : updL L j x k = L k := by unfold updL; rw [if_neg h]
theorem lvL_upd {n : Nat} {L : Nat → Nat} {j : Nat} (x : Nat) : (lvL n L).set j ((max (L j) x : Nat) : Int) = lvL n (updL L j x) := by
  refine List.ext_getElem (by simp [lvL]) fun k h1 h2 => ?_
  rw [List.getElem_set]
  by_cases e : j = k
  · subst e; rw [if_pos rfl, lvL_get, updL_at]
  · rw [if_neg e, lvL_get, lvL_get, updL_ne _ _ (fun h => e h.symm)]
section
variable {n : Nat} {R : Nat → Nat → Prop} {rk : Nat → Nat} {r i j : Nat} {L : Nat → Nat}
/-- What is told is so. -/
def AchL (n : Nat) (R : Nat → Nat → Prop) (L : Nat → Nat) : Prop := ∀ j, j < n → L j = 0 ∨ Chain n R (L j) j
/-- All chains of r or fewer are told. -/
def LowL (n : Nat) (R : Nat → Nat → Prop) (r : Nat) (L : Nat → Nat) : Prop := ∀ m j, m ≤ r → Chain n R m j → m ≤ L j
/-- In a round: the tasks below i have been looked at. -/
structure MidL (n : Nat) (R : Nat → Nat → Prop) (r i : Nat) (L : Nat → Nat) : Prop where
  ach : AchL n R L
  low : LowL n R r L
  one : ∀ a, a < i → 1 ≤ L a
  up : ∀ a, a < i → ∀ m, m ≤ r → Chain n R m a → ∀ j, R j a → m + 1 ≤ L j
/-- Task i is under way: of those ahead of it these below j have been raised. -/
structure InL (n : Nat) (R : Nat → Nat → Prop) (r i j : Nat) (L : Nat → Nat) : Prop where
  mid : MidL n R r i L
  own : 1 ≤ L i
  up : ∀ k, k < j → R k i → L i + 1 ≤ L k
theorem AchL.upd (h : AchL n R L) {x : Nat} (hx : Chain n R x j) : AchL n R (updL L j x) := fun k hk => by
  by_cases e : k = j
  · subst e
    rw [updL_at]
    rcases Nat.le_total (L k) x with h1 | h1
    · rw [Nat.max_eq_right h1]; exact .inr hx
    · rw [Nat.max_eq_left h1]; exact h k hk
  · rw [updL_ne _ _ e]; exact h k hk
theorem MidL.upd (h : MidL n R r i L) {x : Nat} (hx : Chain n R x j) : MidL n R r i (updL L j x) :=
  ⟨h.ach.upd hx, fun m k h1 h2 => Nat.le_trans (h.low m k h1 h2) (updL_le _ _ _ _), fun a ha => Nat.le_trans (h.one a ha) (updL_le _ _ _ _), fun a ha m hm hc k hk => Nat.le_trans (h.up a ha m hm hc k hk) (updL_le _ _ _ _)⟩
theorem MidL.start (ha : AchL n R L) (hl : LowL n R r L) : MidL n R r 0 L := ⟨ha, hl, fun a h => by omega, fun a h => by omega⟩
theorem MidL.open_ (h : MidL n R r i L) (hi : i < n) : InL n R r i 0 (updL L i 1) := ⟨h.upd (.one hi), by rw [updL_at]; omega, fun k hk => by omega⟩
theorem InL.skip (h : InL n R r i j L) (hn : ¬ R j i) : InL n R r i (j + 1) L := ⟨h.mid, h.own, fun k hk hr => by
  by_cases e : k = j
  · subst e; exact absurd hr hn
  · exact h.up k (by omega) hr⟩
theorem InL.take (hD : Dag n R rk) (h : InL n R r i j L) (hr : R j i) : InL n R r i (j + 1) (updL L j (L i + 1)) := by
  have hlt := hD.lt j i hr
  have hne : i ≠ j := fun e => by subst e; omega
  have hc : Chain n R (L i + 1) j := .more hr ((h.mid.ach i hlt.2.1).resolve_left (by have := h.own; omega))
  refine ⟨h.mid.upd hc, by rw [updL_ne _ _ hne]; exact h.own, fun k hk hr' => ?_⟩
  rw [updL_ne _ _ hne]
  by_cases e : k = j
  · subst e; rw [updL_at]; omega
  · exact Nat.le_trans (h.up k (by omega) hr') (updL_le _ _ _ _)
theorem InL.done (hD : Dag n R rk) (h : InL n R r i n L) : MidL n R r (i + 1) L := ⟨h.mid.ach, h.mid.low, fun a ha => by
  by_cases e : a = i
  · subst e; exact h.own
  · exact h.mid.one a (by omega), fun a ha m hm hc k hk => by
  by_cases e : a = i
  · subst e
    have h1 := h.up k (hD.lt k a hk).1 hk
    have h2 := h.mid.low m a hm hc
    omega
  · exact h.mid.up a (by omega) m hm hc k hk⟩
theorem MidL.done (hD : Dag n R rk) (h : MidL n R r n L) : LowL n R (r + 1) L := fun m j hm hc => by
  cases hc with
  | one hj => exact h.one j hj
  | more hr hc' => exact h.up _ (hD.lt _ _ hr).2.1 _ (by omega) hc' j hr
theorem lev_of (hD : Dag n R rk) (ha : AchL n R L) (hl : LowL n R n L) : IsLev n R L := fun j hj => by
  have h1 : ∀ m, Chain n R m j → m ≤ L j := fun m hc => hl m j (by have := hc.rank hD; omega) hc
  exact ⟨(ha j hj).resolve_left (by have := h1 1 (.one hj); omega), h1⟩
theorem AchL.le (hD : Dag n R rk) (h : AchL n R L) {j : Nat} (hj : j < n) : L j ≤ 8 := by
  rcases h j hj with h | h
  · omega
  · have := h.rank hD; have := hD.n8; omega
end
def LevEnd (n : Nat) (ps : List (Int × Int)) (w : World) (e : Ending) (w' : World) : Prop :=
  ∃ v L, e = .returned (.tuple #[v, .int .i64 0]) ∧ IsLev n (Pr ps) L ∧ OwnI w' w.heap.size 3 v (lvL n L) ∧ Below w.heap.size w w'
theorem levels_bad (n : Int) (A : Option Addr) (ps : List (Int × Int)) (cap : Nat) (w : World) (hA : RdP w A ps) (hm : ps.length ≤ maxLen) (h0 : plErr n ps ≠ 0) :
    Calls Try.prog 22 #[.int .i64 n, .slice A ps.length cap] w fun e w' => (∃ x, x ≠ 0 ∧ e = .returned (.tuple #[.slice none 0 0, .int .i64 x])) ∧ Below w.heap.size w w' := by
  have Hc := Lib.hid (ahead_calls n A ps cap w hA hm)
  have q : (plErr n ps != 0) = true := by rw [bne_iff_ne]; exact h0
  have H0 := Lib.hid h0
  clear hA hm h0
  go_enter Try.func22, Try.ntmps22
  go_wp2_with fail
  refine Hc.out.mono ?_
  rintro e w1 ⟨v, rfl, hW1, -⟩
  have HW1 := Lib.hid hW1
  clear hW1
  generalize plErr n ps = x at *
  go_wp2
  go_ret2
  exact ⟨⟨x, H0.out, rfl⟩, HW1.out⟩
set_option maxRecDepth 100000 in
set_option maxHeartbeats 8000000 in
theorem levels_ok (n : Nat) (A : Option Addr) (ps : List (Int × Int)) (cap : Nat) (w : World) (hA : RdP w A ps) (hm : ps.length ≤ maxLen) (h0 : plErr n ps = 0) :
    Calls Try.prog 22 #[.int .i64 n, .slice A ps.length cap] w (LevEnd n ps w) := by
  obtain ⟨m, em, hok⟩ := plOk_of h0
  obtain rfl : m = n := by omega
  clear em
  have Hc := Lib.hid (ahead_calls m A ps cap w hA hm)
  have Hok := Lib.hid hok
  obtain ⟨rk, hD⟩ := hok.dag
  have HD := Lib.hid hD
  have H0 := Lib.hid h0
  have hn1 := hok.n1
  have hn8 := hok.n8
  clear hA hm h0 hok hD
  go_enter Try.func22, Try.ntmps22
  go_wp2_with fail
  refine Hc.out.mono ?_
  rintro e w1 ⟨v, rfl, hW1, hv⟩
  rw [H0.out] at hv ⊢
  obtain ⟨m', em, -, hO⟩ := hv.resolve_left (fun h => h.1 rfl)
  obtain rfl : m' = m := by omega
  obtain ⟨A1, c1, rfl, hR1⟩ := OwnU.rd hO
  rw [preL_len]
  have HR1 := Lib.hid hR1
  have HW1 := Lib.hid hW1
  have hz1 := hW1.size
  clear hv em hO hR1 hW1 Hc
  go_wp2_with (at_make; refine wpList_makeI rfl _ _ rfl w1.heap.size m' rfl rfl (by omega) (Nat.le_refl _) ?_; intro w2 hown2 hgrow2)
  rw [← lvL_zero] at hown2
  have HO2 := Lib.hid hown2
  have HW2 := Lib.hid ((Below.refl w1.heap.size w1).grown hgrow2 (Nat.le_refl _) (fun k hk => by cases hk))
  clear hown2 hgrow2
  go_loopw [24] (fun i wr => ∃ (r : Nat) (L : Nat → Nat), r ≤ m' ∧ i = .int .i64 r ∧ OwnI wr w1.heap.size 3 (.slice (some ⟨w1.heap.size, 0, none⟩) m' m') (lvL m' L) ∧ Hid (AchL m' (Pr ps) L ∧ LowL m' (Pr ps) r L) ∧ Below w1.heap.size w1 wr) (fun i _ => m' - (intOf i).toNat)
  case atStart => exact ⟨0, _, Nat.zero_le _, rfl, HO2.out, Lib.hid ⟨fun _ _ => .inl rfl, fun k j hk hc => by have := hc.pos; omega⟩, HW2.out⟩
  case round =>
    clear HO2 HW2
    obtain ⟨r, L, hr, rfl, hO, HL, hW⟩ := hrel
    have HO := Lib.hid hO
    have HW := Lib.hid hW
    have hws := hW.size
    clear hO hW
    by_cases hlt : r < m'
    · have HM0 := Lib.hid (MidL.start HL.out.1 HL.out.2)
      have Hlt := Lib.hid hlt
      have q1 : ((r : Nat) : Int) < ((m' : Nat) : Int) := by omega
      clear hlt
      go_wp2
      obtain ⟨wo, rfl⟩ : ∃ wo : World, wo = wr := ⟨_, rfl⟩
      go_loopw [28] (fun i wr => ∃ (k : Nat) (L : Nat → Nat), k ≤ m' ∧ i = .int .i64 k ∧ OwnI wr w1.heap.size 3 (.slice (some ⟨w1.heap.size, 0, none⟩) m' m') (lvL m' L) ∧ Hid (MidL m' (Pr ps) r k L) ∧ Below w1.heap.size w1 wr) (fun i _ => m' - (intOf i).toNat)
      case atStart => exact ⟨0, L, Nat.zero_le _, rfl, HO.out, HM0, HW.out⟩
      case round =>
        clear HO HW HM0 HL hws
        obtain ⟨k, L, hk, rfl, hO, HM, hW⟩ := hrel
        have HO := Lib.hid hO
        have HW := Lib.hid hW
        have hws := hW.size
        clear hW
        by_cases hkl : k < m'
        · obtain ⟨b3, o3, rfl, hb3, c3⟩ := RdU.at1 (Rd.below HR1.out HW.out) (k := k) (by rw [preL_len]; exact hkl)
          rw [preL_get] at c3
          obtain ⟨g, eg, _, hg, _, hfz, hcell⟩ := OwnI.at2 hO (by rw [lvL_len]; omega)
          injection eg with eg; injection eg with eg
          subst eg
          have c4 := hcell k (by rw [lvL_len]; exact hkl)
          rw [lvL_get] at c4
          have f4 := hfz k
          have Hop := Lib.hid (HM.out.open_ hkl)
          have HOp := Lib.hid (OwnI.set_ HO.out (k := k) (by rw [lvL_len]; exact hkl) ((max (L k) 1 : Nat) : Int))
          rw [lvL_upd] at HOp
          have HWp := Lib.hid (HW.out.setCell (p := ⟨w1.heap.size, k, none⟩) (Nat.le_refl _) (.int .i64 ((max (L k) 1 : Nat) : Int)))
          have Hkl := Lib.hid hkl
          have q2 : ((k : Nat) : Int) < ((m' : Nat) : Int) := by omega
          have hs := preS_lt ps k
          have hsb : Hid (∀ j : Nat, (preS ps k).testBit j = true ↔ j < 8 ∧ Pr ps j k) := Lib.hid (fun j => setN_bit _ _)
          obtain ⟨x, Hx⟩ : ∃ x, Hid (L k = x) := ⟨_, Lib.hid rfl⟩
          rw [Hx.out] at c4 HOp HWp
          have Hmx : Hid ((((max x 1 : Nat)) : Int) = max (x : Int) 1) := Lib.hid (by omega)
          rw [Hmx.out] at HOp HWp
          generalize preS ps k = s at *
          clear hO hkl hfz hcell
          rcases (show ((x : Nat) : Int) < 1 ∨ 1 ≤ ((x : Nat) : Int) by omega) with hx1 | hx1
          all_goals
            have hmx : max (x : Int) 1 = if ((x : Nat) : Int) < 1 then 1 else (x : Int) := by split <;> omega
            first | rw [if_pos hx1] at hmx | rw [if_neg (by omega)] at hmx
            rw [hmx] at HOp HWp
            clear hmx
            go_wp2
            all_goals (try (exfalso; omega; done))
            obtain ⟨wp, rfl⟩ : ∃ wp : World, wp = wr := ⟨_, rfl⟩
            go_loopw [43] (fun i wr => ∃ (j : Nat) (L2 : Nat → Nat), j ≤ m' ∧ i = .int .i64 j ∧ OwnI wr w1.heap.size 3 (.slice (some ⟨w1.heap.size, 0, none⟩) m' m') (lvL m' L2) ∧ Hid (InL m' (Pr ps) r k j L2) ∧ Below w1.heap.size w1 wr) (fun i _ => m' - (intOf i).toNat)
            case atStart => exact ⟨0, _, Nat.zero_le _, rfl, HOp.out, Hop, HWp.out⟩
            case round =>
              clear HOp HWp Hop HO HW HM c3 c4 f4 hws Hmx Hx
              obtain ⟨j, L2, hj, rfl, hO, HI, hW⟩ := hrel
              have HO := Lib.hid hO
              have HW := Lib.hid hW
              have hws := hW.size
              clear hW
              by_cases hjl : j < m'
              · have t1 := test1_u32 s j (by omega)
                have Hjl := Lib.hid hjl
                have j32 : j < 32 := by omega
                have q3 : ((j : Nat) : Int) < ((m' : Nat) : Int) := by omega
                by_cases hb : s.testBit j = true
                · have hR := ((hsb.out j).1 hb).2
                  have Htk := Lib.hid (HI.out.take HD.out hR)
                  obtain ⟨g, eg, _, hg, _, hfz, hcell⟩ := OwnI.at2 hO (by rw [lvL_len]; omega)
                  injection eg with eg; injection eg with eg
                  subst eg
                  have d1 := hcell j (by rw [lvL_len]; exact hjl)
                  have d2 := hcell k (by rw [lvL_len]; exact Hkl.out)
                  rw [lvL_get] at d1 d2
                  have f4 := hfz j
                  have HOu := Lib.hid (OwnI.set_ HO.out (k := j) (by rw [lvL_len]; exact hjl) ((max (L2 j) (L2 k + 1) : Nat) : Int))
                  rw [lvL_upd] at HOu
                  have HWu := Lib.hid (HW.out.setCell (p := ⟨w1.heap.size, j, none⟩) (Nat.le_refl _) (.int .i64 ((max (L2 j) (L2 k + 1) : Nat) : Int)))
                  have h8j := HI.out.mid.ach.le HD.out hjl
                  have h8k := HI.out.mid.ach.le HD.out Hkl.out
                  obtain ⟨y, Hy⟩ : ∃ y, Hid (L2 j = y) := ⟨_, Lib.hid rfl⟩
                  obtain ⟨z, Hz⟩ : ∃ z, Hid (L2 k = z) := ⟨_, Lib.hid rfl⟩
                  rw [Hy.out] at d1 HOu HWu h8j
                  rw [Hz.out] at d2 HOu HWu h8k Htk
                  rw [hb] at t1
                  clear hO hjl hfz hcell hR hb
                  rcases (show ((y : Nat) : Int) < ((z : Nat) : Int) + 1 ∨ ((z : Nat) : Int) + 1 ≤ ((y : Nat) : Int) by omega) with hx2 | hx2
                  all_goals
                    first
                      | rw [show ((max y (z + 1) : Nat) : Int) = (z : Int) + 1 by omega] at HOu HWu
                      | rw [show ((max y (z + 1) : Nat) : Int) = (y : Int) by omega] at HOu HWu
                    go_wp2
                    all_goals (try (exfalso; omega; done))
                    go_still_tail 13, (by kernel_rfl)
                    go_wp2
                    all_goals (try (exfalso; omega; done))
                    go_roundw
                    case rel => exact ⟨j + 1, _, by have := Hjl.out; omega, by go_num, HOu.out.drewN 1, Htk, HWu.out.drew⟩
                    case measure => have := Hjl.out; simp [intOf]; omega
                · have hb' : s.testBit j = false := by simpa using hb
                  have Hsk := Lib.hid (HI.out.skip (fun hr => hb ((hsb.out j).2 ⟨by omega, hr⟩)))
                  rw [hb'] at t1
                  clear hO hjl hb hb'
                  go_wp2
                  go_roundw
                  case rel => exact ⟨j + 1, L2, by have := Hjl.out; omega, by go_num, HO.out, Hsk, HW.out⟩
                  case measure => have := Hjl.out; simp [intOf]; omega
              · have hjm : j = m' := by omega
                subst hjm
                have Hdn := Lib.hid (HI.out.done HD.out)
                clear hO
                go_wp2
                go_roundw
                case rel => exact ⟨k + 1, L2, by have := Hkl.out; omega, by go_num, HO.out, Hdn, HW.out⟩
                case measure => have := Hkl.out; simp [intOf]; omega
        · have hkm : k = m' := by omega
          subst hkm
          have Hl2 := Lib.hid (HM.out.done HD.out)
          have Ha2 := Lib.hid HM.out.ach
          clear hO
          go_wp2
          go_roundw
          case rel => exact ⟨r + 1, L, by have := Hlt.out; omega, by go_num, HO.out, Lib.hid ⟨Ha2.out, Hl2.out⟩, HW.out⟩
          case measure => have := Hlt.out; simp [intOf]; omega
    · have hrm : r = m' := by omega
      subst hrm
      have Hlv := Lib.hid (lev_of HD.out HL.out.1 HL.out.2)
      go_wp2
      go_ret2
      exact ⟨_, L, rfl, Hlv.out, HO.out.base_ hz1, HW1.out.trans (HW.out.mono hz1)⟩
end Go.Proofs.Ytdkkmmljaijomaa
