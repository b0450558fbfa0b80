/- PlanHu walked. -/
import Derived.Test.YtdkkmmljaijomaaPlnK
namespace Go.Proofs.Ytdkkmmljaijomaa
open Go.RowKit

/-- Tasks by falling level: those above level k, and of level k those below i. -/
structure HuO (n : Nat) (L : Nat → Nat) (k i : Nat) (O : List Int) : Prop where
  mem : ∀ x, x ∈ O ↔ ∃ a : Nat, x = (a : Int) ∧ a < n ∧ (k < L a ∨ (L a = k ∧ a < i))
  fall : O.Pairwise fun x y => x ≠ y ∧ L y.toNat ≤ L x.toNat
section
variable {n k i : Nat} {L : Nat → Nat} {O : List Int}
theorem HuO.nodup (h : HuO n L k i O) : O.Nodup := h.fall.imp fun h => h.1
theorem HuO.len (h : HuO n L k i O) : O.length ≤ n := by
  have := nodup_len h.nodup (m := natL n) (fun x hx => by
    obtain ⟨a, rfl, ha, _⟩ := (h.mem x).1 hx
    exact natL_mem.2 (by omega))
  rwa [natL_len] at this
theorem HuO.start (h : ∀ j, j < n → L j ≤ n) : HuO n L n 0 [] := ⟨fun x => by
  constructor
  · intro h; cases h
  · rintro ⟨a, _, ha, h1 | h1⟩
    · have := h a ha; omega
    · omega, List.Pairwise.nil⟩
theorem HuO.skip (h : HuO n L k i O) (hn : L i ≠ k) : HuO n L k (i + 1) O := ⟨fun x => by
  rw [h.mem]
  constructor
  · rintro ⟨a, e, ha, h1 | h1⟩
    · exact ⟨a, e, ha, .inl h1⟩
    · exact ⟨a, e, ha, .inr (by omega)⟩
  · rintro ⟨a, e, ha, h1 | ⟨h1, h2⟩⟩
    · exact ⟨a, e, ha, .inl h1⟩
    · by_cases e2 : a = i
      · subst e2; exact absurd h1 hn
      · exact ⟨a, e, ha, .inr (by omega)⟩, h.fall⟩
theorem HuO.take (h : HuO n L k i O) (hi : i < n) (hL : L i = k) : HuO n L k (i + 1) (O ++ [(i : Int)]) := ⟨fun x => by
  rw [List.mem_append, List.mem_singleton, h.mem]
  constructor
  · rintro (⟨a, e, ha, h1⟩ | e)
    · exact ⟨a, e, ha, h1.imp id fun h => by omega⟩
    · exact ⟨i, e, hi, .inr (by omega)⟩
  · rintro ⟨a, e, ha, h1 | ⟨h1, h2⟩⟩
    · exact .inl ⟨a, e, ha, .inl h1⟩
    · by_cases e2 : a = i
      · subst e2; exact .inr e
      · exact .inl ⟨a, e, ha, .inr (by omega)⟩, by
  rw [List.pairwise_append]
  refine ⟨h.fall, List.pairwise_singleton _ _, fun x hx y hy => ?_⟩
  rw [List.mem_singleton] at hy
  subst hy
  obtain ⟨a, rfl, ha, h1⟩ := (h.mem x).1 hx
  rw [Int.toNat_natCast, Int.toNat_natCast]
  refine ⟨fun e => ?_, by omega⟩
  have e : a = i := by omega
  subst e
  omega⟩
theorem HuO.next (h : HuO n L (k + 1) n O) : HuO n L k 0 O := ⟨fun x => by
  rw [h.mem]
  constructor
  · rintro ⟨a, e, ha, h1⟩
    exact ⟨a, e, ha, by omega⟩
  · rintro ⟨a, e, ha, h1⟩
    exact ⟨a, e, ha, by omega⟩, h.fall⟩
theorem HuO.ord (h : HuO n L 0 0 O) (h1 : ∀ j, j < n → 1 ≤ L j) : OrdOk n O := by
  have hall : ∀ i : Nat, i < n → (i : Int) ∈ O := fun i hi => (h.mem _).2 ⟨i, rfl, hi, .inl (h1 i hi)⟩
  have h2 := nodup_len (natL_nodup n) (m := O) (fun x hx => by
    obtain ⟨h3, h4⟩ := natL_mem.1 hx
    obtain ⟨a, rfl⟩ := Int.eq_ofNat_of_zero_le h3
    exact hall a (by omega))
  rw [natL_len] at h2
  exact ordOk_of (by have := h.len; omega) hall
theorem HuO.bef (h : HuO n L k i O) {x y : Nat} (hb : Bef O x y) : L y ≤ L x := by
  obtain ⟨p, q, hpq, h1, h2⟩ := hb
  obtain ⟨h3, h3'⟩ := List.getElem?_eq_some_iff.1 h1
  obtain ⟨h4, h4'⟩ := List.getElem?_eq_some_iff.1 h2
  have := (List.pairwise_iff_getElem.1 h.fall p q h3 h4 hpq).2
  rw [h3', h4', Int.toNat_natCast, Int.toNat_natCast] at this
  exact this
end
/-- No task stands with two others behind it, among the first k pairs. -/
def OneT (ps : List (Int × Int)) (k : Nat) : Prop := ∀ a b (ha : a < ps.length) (hb : b < ps.length), b < a → a < k → ps[a].1 = ps[b].1 → ps[a].2 = ps[b].2
theorem OneT.pr {ps : List (Int × Int)} (h : OneT ps ps.length) : ∀ j a b, Pr ps j a → Pr ps j b → a = b := by
  rintro j a b ⟨p, hp, p1, p2⟩ ⟨q, hq, q1, q2⟩
  obtain ⟨x, hx, rfl⟩ := List.getElem_of_mem hp
  obtain ⟨y, hy, rfl⟩ := List.getElem_of_mem hq
  rcases Nat.lt_trichotomy x y with h1 | rfl | h1
  · have := h y x hy hx h1 hy (by omega); omega
  · omega
  · have := h x y hx hy h1 hx (by omega); omega

set_option maxRecDepth 100000 in
set_option maxHeartbeats 8000000 in
theorem planHu_u (n h : Int) (A : Option Addr) (ps : List (Int × Int)) (cap : Nat) (w : World) (hA : RdP w A ps) (hm : ps.length ≤ maxLen) (hcap : ps.length ≤ cap) :
    Calls Try.prog 10 #[.int .i64 n, .slice A ps.length cap, .int .i64 h] w fun e w' => e = .returned (.bool true) ∧ Below w.heap.size w w' := by
  have HA := Lib.hid hA
  have Ht := Lib.hid (fun w hA => tasks_calls n A ps cap w hA hm)
  by_cases h0 : plErr n ps = 0
  case neg =>
    have Hb := Lib.hid (levels_bad n A ps cap w hA hm h0)
    have q : (plErr n ps == 0) = false := by rw [beq_eq_false_iff_ne]; exact h0
    rw [q] at Ht
    clear hA hm h0 q
    go_enter Try.func10, Try.ntmps10
    go_wp2_with fail
    refine Hb.out.mono ?_
    rintro e w1 ⟨⟨x, hx, rfl⟩, hW⟩
    have HW := Lib.hid hW
    have q : (x != 0) = true := by rw [bne_iff_ne]; exact hx
    clear hW hx
    go_wp2_with (go_at_call 21; refine (Ht.out _ (Rd.below HA.out HW.out)).mono ?_; rintro e w2 ⟨rfl, hW⟩; have HW2 := Lib.hid (HW.out.trans (hW.mono HW.out.size)); clear hW)
    go_ret
    exact ⟨rfl, HW2.out⟩
  obtain ⟨m, rfl, hok⟩ := plOk_of h0
  obtain ⟨rk, hD⟩ := hok.dag
  have HD := Lib.hid hD
  have Hok := Lib.hid hok
  have hn1 := hok.n1
  have hn8 := hok.n8
  have hm' : ps.length ≤ 9223372036854775807 := by unfold maxLen at hm; omega
  have Hb := Lib.hid (fun w hA h (h1 : 1 ≤ h) h8 => best_ok m A ps cap h w hA hm h0 h1 h8)
  have Hli := Lib.hid (fun w hA h (h1 : 1 ≤ h) h8 O B c2 hB hm2 => list_ok m A B ps O cap c2 h w hA hB hm hm2 h0 h1 h8)
  have Hl := Lib.hid (levels_ok m A ps cap w hA hm h0)
  have q : (plErr m ps == 0) = true := by rw [beq_iff_eq]; exact h0
  rw [q] at Ht
  clear hA hm h0 q hD hok
  go_enter Try.func10, Try.ntmps10
  go_wp2_with fail
  refine Hl.out.mono ?_
  rintro e w1 ⟨v, L, rfl, hL, hO, hW⟩
  obtain ⟨A1, c1, rfl, hR⟩ := OwnI.rd hO
  rw [lvL_len]
  have HR := Lib.hid hR
  have HL := Lib.hid hL
  have HW := Lib.hid hW
  clear hW hL hO hR Hl
  go_wp2_with (go_at_call 21; refine (Ht.out _ (Rd.below HA.out HW.out)).mono ?_; rintro e w2 ⟨rfl, hW⟩; have HR2 := Lib.hid (Rd.below HR.out hW); have HW2 := Lib.hid (HW.out.trans (hW.mono HW.out.size)); clear hW)
  go_loopw [42] (fun i wr => ∃ k : Nat, k ≤ ps.length ∧ i = .int .i64 k ∧ Hid (OneT ps k) ∧ RdI wr A1 (lvL m L) ∧ Below w.heap.size w wr) (fun i _ => ps.length - (intOf i).toNat)
  case atStart => exact ⟨0, Nat.zero_le _, rfl, Lib.hid (fun a b _ _ _ h => by omega), HR2.out, HW2.out⟩
  case round =>
    clear HR HW HR2 HW2
    obtain ⟨i, hi, rfl, hP, hR, hW⟩ := hrel
    have HR := Lib.hid hR
    have HW := Lib.hid hW
    have hws := hW.size
    clear hR hW
    by_cases hlt : i < ps.length
    · obtain ⟨b, off, rfl, hb, c0, c1'⟩ := RdP.at2 (Rd.below HA.out HW.out) hlt
      have q1 : ((i : Nat) : Int) < ((ps.length : Nat) : Int) := by omega
      obtain ⟨p, Hp⟩ : ∃ p, Hid (ps[i] = p) := ⟨_, Lib.hid rfl⟩
      rw [Hp.out] at c0 c1'
      obtain ⟨x, y⟩ := p
      dsimp only at c0 c1'
      have Hlt := Lib.hid hlt
      have icap : i ≤ cap := by omega
      go_wp2
      obtain ⟨w2, hw2e⟩ : ∃ w2, w2 = wr.alloc (.cells #[.int .i64 x, .int .i64 y] 39) := ⟨_, rfl⟩
      rw [← hw2e]
      have e0 : w2.cell? ⟨wr.heap.size, 0, none⟩ = some (.int .i64 x) := by rw [hw2e]; exact cell_new _ _ _ _ rfl 0
      have e1 : w2.cell? ⟨wr.heap.size, 1, none⟩ = some (.int .i64 y) := by rw [hw2e]; exact cell_new _ _ _ _ rfl 1
      have hB2 : Below wr.heap.size wr w2 := by rw [hw2e]; exact (Below.refl _ _).alloc (Nat.le_refl _) _
      have hz2 : w2.heap.size = wr.heap.size + 1 := by rw [hw2e]; simp
      have HRi := Lib.hid (Rd.below HR.out hB2)
      have HWi := Lib.hid (HW.out.trans (hB2.mono hws))
      obtain ⟨G, hG⟩ : ∃ G, G = wr.heap.size := ⟨_, rfl⟩
      rw [← hG] at e0 e1 hz2 ⊢
      have HE := Lib.hid (And.intro e0 e1)
      clear hw2e hB2 c0 c1' e0 e1 hG
      go_loopw [51] (fun i' wr => ∃ j : Nat, j ≤ i ∧ i' = .int .i64 j ∧ Hid (∀ b (hb : b < ps.length), b < j → x = ps[b].1 → y = ps[b].2) ∧ Below w2.heap.size w2 wr) (fun i' _ => i - (intOf i').toNat)
      case atStart => exact ⟨0, Nat.zero_le _, rfl, Lib.hid (fun b _ h => by omega), Below.refl _ _⟩
      case round =>
        obtain ⟨j, hj, rfl, hQ, hW3⟩ := hrel
        have HW3 := Lib.hid hW3
        have hw3 := hW3.size
        have e0 := (hW3.cell (p := ⟨G, 0, none⟩) (by show G < w2.heap.size; omega)).trans HE.out.1
        have e1 := (hW3.cell (p := ⟨G, 1, none⟩) (by show G < w2.heap.size; omega)).trans HE.out.2
        clear hW3
        by_cases hjl : j < i
        · have hjp : j < ps.length := by omega
          obtain ⟨b2, off2, e2, hb2, d0, d1⟩ := RdP.at2 (Rd.below HA.out (HWi.out.trans (HW3.out.mono HWi.out.size))) hjp
          injection e2 with e2; injection e2 with e2 e3
          subst e2 e3
          obtain ⟨p2, Hp2⟩ : ∃ p, Hid (ps[j] = p) := ⟨_, Lib.hid rfl⟩
          rw [Hp2.out] at d0 d1
          obtain ⟨x2, y2⟩ := p2
          dsimp only at d0 d1
          have Hjl := Lib.hid hjl
          have q2 : ((j : Nat) : Int) < ((i : Nat) : Int) := by omega
          have Hq : Hid ((x = x2 → y = y2) → ∀ b (hb : b < ps.length), b < j + 1 → x = ps[b].1 → y = ps[b].2) := Lib.hid (fun h b hb h1 h2 => by
            by_cases e : b = j
            · subst e
              rw [Hp2.out] at h2 ⊢
              exact h h2
            · exact hQ.out b hb (by omega) h2)
          clear hQ
          have f0 : (wr.alloc (.cells #[.int .i64 x2, .int .i64 y2] 39)).cell? ⟨wr.heap.size, 0, none⟩ = some (.int .i64 x2) := cell_new _ _ _ _ rfl 0
          have f1 : (wr.alloc (.cells #[.int .i64 x2, .int .i64 y2] 39)).cell? ⟨wr.heap.size, 1, none⟩ = some (.int .i64 y2) := cell_new _ _ _ _ rfl 1
          have hB4 : Below wr.heap.size wr (wr.alloc (.cells #[.int .i64 x2, .int .i64 y2] 39)) := (Below.refl _ _).alloc (Nat.le_refl _) _
          have f2 := (hB4.cell (p := ⟨G, 0, none⟩) (by show G < wr.heap.size; omega)).trans e0
          have f3 := (hB4.cell (p := ⟨G, 1, none⟩) (by show G < wr.heap.size; omega)).trans e1
          have HW4 := Lib.hid (HW3.out.trans (hB4.mono hw3))
          clear hB4
          by_cases hx : x = x2
          · subst hx
            by_cases hy : y = y2
            · subst hy
              have Hq2 := Lib.hid (Hq.out fun _ => rfl)
              clear Hq
              go_wp2
              all_goals (try (exfalso; omega; done))
              go_roundw
              case rel => exact ⟨j + 1, by have := Hjl.out; omega, by go_num, Hq2, HW4.out⟩
              case measure => have := Hjl.out; simp [intOf]; omega
            · have qy : (y != y2) = true := by rw [bne_iff_ne]; exact hy
              clear Hq
              go_wp2
              all_goals (try (exfalso; omega; done))
              go_ret
              exact ⟨rfl, HWi.out.trans (HW4.out.mono HWi.out.size)⟩
          · have Hq2 := Lib.hid (Hq.out fun h => absurd h hx)
            have qx : (x == x2) = false := by rw [beq_eq_false_iff_ne]; exact hx
            clear Hq
            go_wp2
            all_goals (try (exfalso; omega; done))
            go_roundw
            case rel => exact ⟨j + 1, by have := Hjl.out; omega, by go_num, Hq2, HW4.out⟩
            case measure => have := Hjl.out; simp [intOf]; omega
        · have : j = i := by omega
          subst this
          have HPn : Hid (OneT ps (j + 1)) := Lib.hid (fun a b ha hb h1 h2 h3 => by
            by_cases e : a = j
            · subst e
              have := hQ.out b hb h1
              rw [Hp.out] at h3 ⊢
              exact this h3
            · exact hP.out a b ha hb h1 (by omega) h3)
          have HR3 := Lib.hid (Rd.below HRi.out HW3.out)
          have HW5 := Lib.hid (HWi.out.trans (HW3.out.mono HWi.out.size))
          clear hQ
          go_wp2
          all_goals (try (exfalso; omega; done))
          go_roundw
          case rel => exact ⟨j + 1, by have := Hlt.out; omega, by go_num, HPn, HR3.out, HW5.out⟩
          case measure => have := Hlt.out; simp [intOf]; omega
    · have : i = ps.length := by omega
      subst this
      have Hone := Lib.hid hP.out.pr
      obtain ⟨wo, rfl⟩ : ∃ wo : World, wo = wr := ⟨_, rfl⟩
      clear hP
      by_cases hbad : h < 1 ∨ 8 < h
      · rcases (show h < 1 ∨ (1 ≤ h ∧ 8 < h) by omega) with h1 | h1
        all_goals
          clear hbad
          go_wp2
          all_goals (try (exfalso; omega; done))
          all_goals (go_ret; exact ⟨rfl, HW.out⟩)
      obtain ⟨j, rfl⟩ := Int.eq_ofNat_of_zero_le (show 0 ≤ h by omega)
      have hj1 : 1 ≤ j := by omega
      have hj8 : j ≤ 8 := by omega
      have hL8 : ∀ a, a < m → L a ≤ m := fun a ha => by have := ((HL.out a ha).1).rank HD.out; omega
      have HL8 := Lib.hid hL8
      have HS := Lib.hid (HuO.start hL8)
      clear hbad hL8
      go_wp2
      all_goals (try (exfalso; omega; done))
      go_loopw [13, 14] (fun v k wr => ∃ (q : Nat) (O : List Int), q ≤ m ∧ k = .int .i64 q ∧ Hid (HuO m L q 0 O) ∧ OwnI wr wo.heap.size 3 v O ∧ Below wo.heap.size wo wr) (fun _ k _ => (intOf k).toNat)
      case atStart => exact ⟨m, [], Nat.le_refl _, rfl, HS, Own.nil_ _ _ _, Below.refl _ _⟩
      case round =>
        clear HS
        obtain ⟨q, O, hq, rfl, HS, hO, hW2⟩ := hrel
        rename_i v
        have HO := Lib.hid hO
        have HW2 := Lib.hid hW2
        have hw2 := hW2.size
        clear hO hW2
        by_cases hql : 0 < q
        · obtain ⟨q', rfl⟩ : ∃ q', q = q' + 1 := ⟨q - 1, by omega⟩
          clear hql
          go_wp2
          all_goals (try (exfalso; omega; done))
          obtain ⟨wp, rfl⟩ : ∃ wp : World, wp = wr := ⟨_, rfl⟩
          go_loopw [13, 15] (fun v i wr => ∃ (r : Nat) (O : List Int), r ≤ m ∧ i = .int .i64 r ∧ Hid (HuO m L (q' + 1) r O) ∧ OwnI wr wo.heap.size 3 v O ∧ Below wo.heap.size wo wr) (fun _ i _ => m - (intOf i).toNat)
          case atStart => exact ⟨0, O, Nat.zero_le _, rfl, HS, HO.out, HW2.out⟩
          case round =>
            clear HS HO HW2 hw2
            obtain ⟨r, O, hr, rfl, HS, hO, hW2⟩ := hrel
            rename_i v
            have HO := Lib.hid hO
            have HW2 := Lib.hid hW2
            have hw2 := hW2.size
            clear hO hW2
            by_cases hrl : r < m
            · have Hrl := Lib.hid hrl
              have q2 : ((r : Nat) : Int) < ((m : Nat) : Int) := by omega
              obtain ⟨b, off, rfl, hb, c0⟩ := RdI.at1 (Rd.below HR.out HW2.out) (k := r) (by rw [lvL_len]; exact hrl)
              rw [lvL_get] at c0
              by_cases he : L r = q' + 1
              · have HT := Lib.hid (HS.out.take hrl he)
                have hlen := HS.out.len
                have hl6 : O.length < 1000000 := by omega
                rw [he] at c0
                clear HS hrl he
                go_wp2_with (at_builtin; refine wpList_appI rfl _ _ rfl wo.heap.size _ _ (r : Int) rfl (HO.out.alloc _) _ _ rfl (cell_new _ _ _ _ (by simp) _) hl6 (by simp; omega) ?_; intro v5 w5 hO5 hg5; have HO5 := Lib.hid hO5; have HW5 := Lib.hid (below_own (HW2.out.alloc hw2 (.cells #[.int .i64 (r : Nat)] 3)) hg5 (HO.out.alloc _) (Nat.le_refl _) (by simp; omega)); clear hO5 hg5)
                all_goals (try (exfalso; omega; done))
                go_roundw
                case rel =>
                  refine ⟨_, _, _, _, _, _, _, _, _, _, _, _, _, _, _, _, _, ?h, rfl⟩
                  exact ⟨r + 1, _, by have := Hrl.out; omega, by go_num, HT, HO5.out, HW5.out⟩
                case measure => have := Hrl.out; simp [intOf]; omega
              · have HT := Lib.hid (HS.out.skip he)
                have q3 : (((L r : Nat) : Int) == ((q' + 1 : Nat) : Int)) = false := by rw [beq_eq_false_iff_ne]; omega
                generalize L r = lr at *
                have e7 : ((q' + 1 : Nat) : Int) = (q' : Int) + 1 := by omega
                rw [e7] at q3
                clear HS hrl he
                go_wp2
                all_goals (try (exfalso; omega; done))
                go_roundw
                case rel => exact ⟨r + 1, _, by have := Hrl.out; omega, by go_num, HT, HO.out, HW2.out⟩
                case measure => have := Hrl.out; simp [intOf]; omega
            · have : r = m := by omega
              subst this
              have HN := Lib.hid HS.out.next
              go_wp2
              all_goals (try (exfalso; omega; done))
              go_roundw
              case rel => exact ⟨q', O, by omega, by go_num, HN, HO.out, HW2.out⟩
              case measure => simp [intOf]
        · obtain rfl : q = 0 := by omega
          obtain ⟨A2, c2, rfl, hR2⟩ := OwnI.rd HO.out
          have HOk := Lib.hid (HS.out.ord fun a ha => ((HL.out a ha).1).pos)
          have Hli2 := Lib.hid (Hli.out wr (Rd.below HA.out (HW.out.trans (HW2.out.mono hws))) j hj1 hj8 O A2 c2 hR2 (by have := HS.out.len; unfold maxLen; omega))
          clear hR2
          go_wp2_with fail
          refine Hli2.out.mono ?_
          rintro e w5 (⟨hn, _, _⟩ | ⟨_, v5, T, X, D, rfl, hg, hX, hown, hW5⟩)
          · exact absurd HOk.out hn
          obtain ⟨A5, c5, rfl, hR5⟩ := OwnI.rd hown
          rw [lvL_len] at *
          obtain ⟨hmo, hT1⟩ := hg.most hX hn1
          have Hmo := Lib.hid hmo
          have HX := Lib.hid hX
          have hT8 : T ≤ 8 := by
            have := rch_cnt_le HD.out (rch_of_path (hg.path HD.out hj1) T (Nat.le_refl _))
            have := cnt8_le (D T)
            omega
          have Hg := Lib.hid hg
          have HR5 := Lib.hid hR5
          have HW5 := Lib.hid (HW.out.trans ((HW2.out.trans (hW5.mono hw2)).mono hws))
          clear hW5 hR5 hown hg hX hmo
          go_wp2_with fail
          refine (Hb.out _ (Rd.below HA.out HW5.out) j hj1 hj8).mono ?_
          rintro e w6 ⟨k, rfl, hk, hW6⟩
          have hTk : T ≤ k := hu HD.out hj1 Hg.out hk HL.out (fun x i _ _ hb => HS.out.bef hb) Hone.out
          have hkT : k ≤ T := Hg.out.best HD.out hj1 hk
          obtain rfl : T = k := by omega
          have HW6 := Lib.hid (HW5.out.trans (hW6.mono HW5.out.size))
          have hR6 := Rd.below HR5.out hW6
          have Hm := Lib.hid (mostL_calls A5 m X c5 w6 hR6 (by omega) fun j hj => by have := (HX.out j hj).1; omega)
          rw [Hmo.out] at Hm
          clear hR6 hW6 hk hTk hkT
          go_wp2_with (go_at_call 23; refine Hm.out.mono ?_; rintro e w7 ⟨rfl, rfl⟩)
          all_goals (try (exfalso; omega; done))
          all_goals (go_ret; exact ⟨rfl, HW6.out⟩)
end Go.Proofs.Ytdkkmmljaijomaa
