/- rule.Rules, rule.Table walked. -/
import Derived.Test.YtljmignfbagomaaRuleA
import Derived.Test.YtljmignfbagomaaRefs
namespace Go.Proofs.Ytljmignfbagomaa
open Go.RowKit

theorem and_one01 (a : Nat) : (((a &&& 1 : Nat) : Int) == 1) = !(((a &&& 1 : Nat) : Int) == 0) := by
  have := @Nat.and_le_right a 1
  rcases (by omega : a &&& 1 = 0 ∨ a &&& 1 = 1) with h | h <;> rw [h] <;> rfl
/-- 's >> j & 1 == 1' -/
theorem test1_u32 (s j : Nat) (hs : s < 4294967296) : (bits .and .u32 ((s : Int) / 2 ^ j) 1 == 1) = s.testBit j := by
  have h := test_u32 s j hs
  rw [shr_u32, show (1 : Int) = ((1 : Nat) : Int) from rfl, and_u32 _ _ (Nat.lt_of_le_of_lt (Nat.shiftRight_le _ _) hs) (by decide)] at h ⊢
  rw [show ((1 : Nat) : Int) = 1 from rfl, and_one01, h, Bool.not_not]

/-- The rows at the start: up to k they are set. -/
noncomputable def rInit (ls : List (List Int)) (k : Nat) : List Nat := (List.range ls.length).map fun j => if j < k then (if (fromS ls (-1) 0).testBit j then fromS ls (-1) 0 else 0) else 0
theorem rInit_len (ls : List (List Int)) (k : Nat) : (rInit ls k).length = ls.length := by simp [rInit]
theorem rInit_get (ls : List (List Int)) (k j : Nat) (h : j < (rInit ls k).length) : (rInit ls k)[j] = if j < k then (if (fromS ls (-1) 0).testBit j then fromS ls (-1) 0 else 0) else 0 := by simp [rInit]
theorem rInit_zero (ls : List (List Int)) : rInit ls 0 = List.replicate ls.length 0 := by
  refine List.ext_getElem (by simp [rInit]) fun j h1 h2 => ?_
  rw [rInit_get]; simp
theorem rInit_yes {ls : List (List Int)} {k : Nat} (hb : (fromS ls (-1) 0).testBit k = true) : (rInit ls k).set k (fromS ls (-1) 0) = rInit ls (k + 1) := by
  refine List.ext_getElem (by simp [rInit]) fun j h1 h2 => ?_
  rw [List.getElem_set, rInit_get, rInit_get]
  by_cases e : k = j
  · subst e; rw [if_pos rfl, if_pos (by omega), if_pos hb]
  · rw [if_neg e]
    by_cases h : j < k
    · have h' : j < k + 1 := by omega
      rw [if_pos h, if_pos h']
    · rw [if_neg h, if_neg (by omega)]
theorem rInit_no {ls : List (List Int)} {k : Nat} (hb : (fromS ls (-1) 0).testBit k = false) : rInit ls k = rInit ls (k + 1) := by
  refine List.ext_getElem (by simp [rInit]) fun j h1 h2 => ?_
  rw [rInit_get, rInit_get]
  by_cases e : k = j
  · subst e; rw [if_neg (by omega), if_pos (by omega), hb]; rfl
  · by_cases h : j < k
    · have h' : j < k + 1 := by omega
      rw [if_pos h, if_pos h']
    · rw [if_neg h, if_neg (by omega)]
theorem rInit_ru {ls : List (List Int)} (h1 : 1 ≤ ls.length) (h8 : ls.length ≤ 8) (hv : Valid ls) : Ru ls ((rInit ls ls.length).set 0 1) :=
  Ru.first h1 h8 hv _ (by rw [List.length_set, rInit_len]) (fun _ => by rw [List.getElem_set_self]) (fun j h hj => by
    rw [List.length_set, rInit_len] at h
    rw [List.getElem_set, if_neg (by omega), rInit_get, if_pos h])

/-- Within a pass from the rows r0: now r; the nodes up to i are done, of node i the first t edges. -/
structure Rp (ls : List (List Int)) (r0 r : List Nat) (more : Bool) (i t : Nat) : Prop where
  ru : Ru ls r
  same : more = false → r = r0
  less : more = true → wtR r < wtR r0
  fixd : more = false → ∀ a b, a < i → Rch ls a → Edge ls (-1) a b → Fixd r a b
  here : more = false → ∀ l, ls[i]? = some l → ∀ k (h : k < l.length), k < t → Fixd r i l[k].toNat

theorem Rp.start {ls : List (List Int)} {r : List Nat} (h : Ru ls r) : Rp ls r r false 0 0 :=
  ⟨h, fun _ => rfl, (fun h => by cases h), fun _ a b h => by omega, fun _ l _ k _ h => by omega⟩
theorem Rp.skip {ls : List (List Int)} {r0 r : List Nat} {m : Bool} {i : Nat} (h : Rp ls r0 r m i 0) (hn : ¬ Rch ls i) : Rp ls r0 r m (i + 1) 0 :=
  ⟨h.ru, h.same, h.less, fun hm a b ha hr he => by
    rcases Nat.lt_or_ge a i with h1 | h1
    · exact h.fixd hm a b h1 hr he
    · have : a = i := by omega
      subst this
      exact absurd hr hn, fun _ l _ k _ h => by omega⟩
theorem Rp.keep {ls : List (List Int)} {r0 r : List Nat} {m : Bool} {i t j : Nat} {l : List Int} (h : Rp ls r0 r m i t) (hl : ls[i]? = some l) (ht : t < l.length) (hj : l[t] = (j : Int)) (hi : i < r.length) (hjl : j < r.length)
    (he : r[j] &&& (r[i] ||| 2 ^ j) = r[j]) : Rp ls r0 r m i (t + 1) :=
  ⟨h.ru, h.same, h.less, h.fixd, fun hm l' hl' k hk hlt => by
    rw [hl] at hl'
    injection hl' with hl'
    subst hl'
    rcases Nat.lt_or_ge k t with h1 | h1
    · exact h.here hm l hl k hk h1
    · have : k = t := by omega
      subst this
      rw [hj, Int.toNat_natCast]
      exact fixd_of hi hjl he⟩
theorem Rp.turn {ls : List (List Int)} {r0 r : List Nat} {m : Bool} {i t j : Nat} {l : List Int} (h : Rp ls r0 r m i t) (h1 : 1 ≤ ls.length) (h8 : ls.length ≤ 8) (hv : Valid ls) (hr : Rch ls i) (hl : ls[i]? = some l) (ht : t < l.length) (hj : l[t] = (j : Int)) (hi : i < r.length) (hjl : j < r.length)
    (hne : r[j] &&& (r[i] ||| 2 ^ j) ≠ r[j]) : Rp ls r0 (r.set j (r[j] &&& (r[i] ||| 2 ^ j))) true i (t + 1) := by
  have hs := h.ru.step h1 h8 hv hi hjl hr ⟨l, hl, by rw [← hj]; exact List.getElem_mem ht, by omega⟩ hne
  refine ⟨hs.1, (fun h => by cases h), fun _ => ?_, (fun h => by cases h), (fun h => by cases h)⟩
  cases m
  · rw [← h.same rfl]; exact hs.2
  · exact Nat.lt_trans hs.2 (h.less rfl)
theorem Rp.next {ls : List (List Int)} {r0 r : List Nat} {m : Bool} {i : Nat} {l : List Int} (h : Rp ls r0 r m i l.length) (hl : ls[i]? = some l) : Rp ls r0 r m (i + 1) 0 :=
  ⟨h.ru, h.same, h.less, fun hm a b ha hr he => by
    rcases Nat.lt_or_ge a i with h1 | h1
    · exact h.fixd hm a b h1 hr he
    · have : a = i := by omega
      subst this
      obtain ⟨l', h1, h2, _⟩ := he
      rw [hl] at h1
      injection h1 with h1
      subst h1
      obtain ⟨k, hk, e⟩ := List.getElem_of_mem h2
      have := h.here hm l hl k hk hk
      rw [e, Int.toNat_natCast] at this
      exact this, fun _ l _ k _ h => by omega⟩

set_option maxHeartbeats 8000000 in
theorem rules_calls (A : Option Addr) (ls : List (List Int)) (cap : Nat) (w : World) (hA : RdN w A ls) (h0 : wayErr ls = 0) :
    Calls Try.prog 48 #[.slice A ls.length cap] w fun e w' => ∃ v, e = .returned v ∧ OwnU w' w.heap.size 29 v (rulesL ls) ∧ Below w.heap.size w w' := by
  obtain ⟨h1, h8, hv⟩ := valid_of h0
  have HA := Lib.hid hA; clear hA
  have HV := Lib.hid hv; clear hv
  clear h0
  have HR0 := Lib.hid (fun b => fromS_bit (wo := -1) h8 HV.out h1 b)
  have hF := fromS_lt ls (-1) 0
  have HI := Lib.hid (rInit_ru h1 h8 HV.out)
  have HY := Lib.hid (fun k => @rInit_yes ls k)
  have HN := Lib.hid (fun k => @rInit_no ls k)
  have HZ := Lib.hid (rInit_zero ls)
  go_enter Try.func48, Try.ntmps48
  go_wp2_with (first
    | (go_at_call 45; refine (fromS_calls _ _ _ _ 0 _ HA.out h8 HV.out h1).mono ?_; rintro e w1 ⟨rfl, hW⟩; have hw1 := hW.size; have HW := Lib.hid hW; clear hW)
    | (at_make; refine wpList_makeU rfl _ _ rfl w.heap.size ls.length rfl rfl (by omega) hw1 ?_; intro w2 hown2 hgrow2))
  have hW2 := HW.out.grown hgrow2 hw1 (fun k hk => by cases hk)
  rw [← HZ.out] at hown2
  generalize fromS ls (-1) 0 = F at *
  go_loopw [19] (fun i wr => ∃ k : Nat, k ≤ ls.length ∧ i = .int .i64 k ∧ OwnU wr w.heap.size 29 (.slice (some ⟨w1.heap.size, 0, none⟩) ls.length ls.length) (rInit ls k) ∧ Below w.heap.size w wr) (fun i _ => ls.length - (intOf i).toNat)
  case atStart => exact ⟨0, Nat.zero_le _, rfl, hown2, hW2⟩
  case round =>
    clear hown2 hW2 hgrow2
    obtain ⟨k, hk, rfl, hown, hW⟩ := hrel
    have Hown := Lib.hid hown
    have hlen := rInit_len ls k
    by_cases hlt : k < ls.length
    · obtain ⟨g, eg, _, _, _, hfz, hcell⟩ := OwnU.at2 hown (by omega)
      injection eg with eg; injection eg with eg
      subst eg
      have f1 := hfz k
      have c1 := hcell k (by omega)
      have p1 := test1_u32 F k (by omega)
      have k32 : k < 32 := by omega
      clear hown hfz hcell
      generalize (rInit ls k)[k] = z at *
      cases hb : F.testBit k
      · rw [hb] at p1
        have Hb := Lib.hid hb
        clear hb
        go_wp2
        go_roundw
        case rel => exact ⟨k + 1, by omega, by go_num, by rw [← HN.out k Hb.out]; exact Hown.out, hW⟩
        case measure => simp [intOf]; omega
      · rw [hb] at p1
        have Hb := Lib.hid hb
        clear hb
        go_wp2
        go_roundw
        case rel => exact ⟨k + 1, by omega, by go_num, by rw [← HY.out k Hb.out]; exact OwnU.set_ Hown.out (by omega) F, hW.setCell hw1 _⟩
        case measure => simp [intOf]; omega
    · have : k = ls.length := by omega
      subst this
      obtain ⟨g, eg, _, _, _, hfz, hcell⟩ := OwnU.at2 hown (by omega)
      injection eg with eg; injection eg with eg
      subst eg
      have f1 := hfz 0
      have c1 := hcell 0 (by omega)
      clear hown hfz hcell hlt hk
      generalize (rInit ls ls.length)[0] = z at *
      go_wp2
      have HO1 := Lib.hid (OwnU.set_ Hown.out (k := 0) (by omega) 1)
      have HW1 := Lib.hid (hW.setCell (p := ⟨w1.heap.size, 0, none⟩) hw1 (.int .u32 1))
      go_loopg [6] (wtR ((rInit ls ls.length).set 0 1) + 1) (fun g m wr => ∃ (r : List Nat) (b : Bool), m = .bool b ∧ Ru ls r ∧ OwnU wr w.heap.size 29 (.slice (some ⟨w1.heap.size, 0, none⟩) ls.length ls.length) r ∧ Below w.heap.size w wr ∧ (b = true → wtR r < g) ∧ (b = false → ∀ i j, Rch ls i → Edge ls (-1) i j → Fixd r i j))
      case atStart => exact ⟨_, true, rfl, HI.out, HO1.out, HW1.out, fun _ => by omega, fun h => by cases h⟩
      case round =>
        clear HO1 HW1 Hown hW f1 c1 HI HY HN HZ hlen
        obtain ⟨r0, b, rfl, hRu, hown, hW, hlt, hfx⟩ := hrel
        have HRu := Lib.hid hRu
        have Hown := Lib.hid hown
        have HW := Lib.hid hW
        have Hlt := Lib.hid hlt
        have Hfx := Lib.hid hfx
        clear hRu hown hW hlt hfx
        cases b
        · go_wp2
          go_ret
          refine ⟨_, rfl, ?_, HW.out⟩
          rw [← HRu.out.done h1 h8 HV.out (Hfx.out trivial)]
          exact Hown.out
        · go_wp2
          go_loopw [6, 37] (fun m i wr => ∃ (r : List Nat) (b : Bool) (k : Nat), k ≤ ls.length ∧ m = .bool b ∧ i = .int .i64 k ∧ Hid (Rp ls r0 r b k 0) ∧ OwnU wr w.heap.size 29 (.slice (some ⟨w1.heap.size, 0, none⟩) ls.length ls.length) r ∧ Below w.heap.size w wr) (fun _ i _ => ls.length - (intOf i).toNat)
          case atStart => exact ⟨r0, false, 0, Nat.zero_le _, rfl, rfl, Lib.hid (Rp.start HRu.out), Hown.out, HW.out⟩
          case round =>
            clear Hown HW
            obtain ⟨r, b, i, hi, rfl, rfl, hP, hown, hW⟩ := hrel
            have Hown := Lib.hid hown
            have HW := Lib.hid hW
            clear hown
            by_cases hlti : i < ls.length
            · obtain ⟨b2, off2, A2, cap2, rfl, hb2, c0, hR⟩ := RdN.at_ HA.out hlti
              have c0 := (hW.cell (p := ⟨b2, off2 + i, none⟩) hb2).trans c0
              have hRr := (Rd.below hR hW)
              have hl := Lib.hid (List.getElem?_eq_getElem hlti)
              have hl3 := (HV.out _ (List.getElem_mem hlti)).1
              have Hin := Lib.hid ((HV.out _ (List.getElem_mem hlti)).2)
              have HR := Lib.hid hR
              clear hR hRr hW
              generalize ls[i] = l at *
              have p1 := test_u32 F i (by omega)
              have i32 : i < 32 := by omega
              cases hb : F.testBit i
              · rw [hb] at p1
                have Hn := Lib.hid (show ¬ Rch ls i from fun h => by
                  have := (HR0.out i).2 ⟨by omega, h⟩
                  rw [hb] at this; cases this)
                clear hb
                go_wp2
                go_roundw
                case rel => exact ⟨r, b, i + 1, by omega, rfl, by go_num, Lib.hid (hP.out.skip Hn.out), Hown.out, HW.out⟩
                case measure => simp [intOf]; omega
              · rw [hb] at p1
                have Hr := Lib.hid (((HR0.out i).1 hb).2)
                clear hb
                go_wp2
                clear p1
                go_loopw [6, 49] (fun m i3 wr => ∃ (r : List Nat) (b : Bool) (t : Nat), t ≤ l.length ∧ m = .bool b ∧ i3 = .int .i64 t ∧ Hid (Rp ls r0 r b i t) ∧ OwnU wr w.heap.size 29 (.slice (some ⟨w1.heap.size, 0, none⟩) ls.length ls.length) r ∧ Below w.heap.size w wr) (fun _ i3 _ => l.length - (intOf i3).toNat)
                case atStart => exact ⟨r, b, 0, Nat.zero_le _, rfl, rfl, hP, Hown.out, HW.out⟩
                case round =>
                  clear Hown HW hP
                  obtain ⟨r, b, t, ht, rfl, rfl, hP, hown, hW⟩ := hrel
                  have Hown := Lib.hid hown
                  have HW := Lib.hid hW
                  by_cases hltt : t < l.length
                  · obtain ⟨b3, off3, rfl, hb3, c3⟩ := RdI.at1 (Rd.below HR.out hW) hltt
                    obtain ⟨x0, x1⟩ := Hin.out _ (List.getElem_mem hltt)
                    obtain ⟨j, hj⟩ := Int.eq_ofNat_of_zero_le x0
                    have Hj := Lib.hid hj
                    rw [hj] at c3
                    have hj8 : j < ls.length := by omega
                    have hrl := hP.out.ru.len
                    have hir : i < r.length := by omega
                    have hjr : j < r.length := by omega
                    obtain ⟨g, eg, _, _, _, hfz, hcell⟩ := OwnU.at2 hown (by omega)
                    injection eg with eg; injection eg with eg
                    subst eg
                    have f1 := hfz j
                    have c4 := hcell j hjr
                    have c5 := hcell i hir
                    have hxi := hP.out.ru.lt h1 h8 HV.out i hir
                    have hxj := hP.out.ru.lt h1 h8 HV.out j hjr
                    have q1 : ((j : Nat) : Int) < ((ls.length : Nat) : Int) := by omega
                    have q2 : ((i : Nat) : Int) < ((ls.length : Nat) : Int) := by omega
                    have j32 : j < 32 := by omega
                    have pj : 2 ^ j < 2 ^ 32 := Nat.pow_lt_pow_right (by decide) j32
                    have p1 := pow_u32 j j32
                    have p2 := or_u32 r[i] (2 ^ j) (by omega) (by omega)
                    have hxo : r[i] ||| 2 ^ j < 2 ^ 32 := Nat.or_lt_two_pow (by omega) pj
                    have p3 := and_u32 r[j] (r[i] ||| 2 ^ j) (by omega) (by omega)
                    have Hk := Lib.hid (fun (he : r[j] &&& (r[i] ||| 2 ^ j) = r[j]) => hP.out.keep hl.out hltt hj hir hjr he)
                    have Ht := Lib.hid (fun (he : r[j] &&& (r[i] ||| 2 ^ j) ≠ r[j]) => hP.out.turn h1 h8 HV.out Hr.out hl.out hltt hj hir hjr he)
                    have hxs : r[j] &&& (r[i] ||| 2 ^ j) < 256 := Nat.lt_of_le_of_lt Nat.and_le_left hxj
                    rw [Int.natCast_pow, show ((2 : Nat) : Int) = 2 from rfl] at p1 p2
                    have hown' := fun s => OwnU.set_ hown (k := j) hjr s
                    have Hown' := Lib.hid hown'
                    clear hj x0 x1 hfz hcell hown hown' pj
                    generalize r[j] &&& (r[i] ||| 2 ^ j) = s at *
                    generalize r[i] ||| 2 ^ j = y at *
                    generalize r[i] = xi at *
                    generalize r[j] = xj at *
                    by_cases he : s = xj
                    · have q3 : ((s : Int) != (xj : Int)) = false := by rw [bne_eq_false_iff_eq, he]
                      have He := Lib.hid he
                      clear he
                      go_wp2
                      go_quiet (fail)
                      go_wp2
                      go_roundw
                      case rel => exact ⟨r, b, t + 1, by omega, rfl, by go_num, Lib.hid (Hk.out He.out), Hown.out.drewN _, below_dN HW.out _⟩
                      case measure => simp [intOf]; omega
                    · have q3 : ((s : Int) != (xj : Int)) = true := by rw [bne_iff_ne]; omega
                      have He := Lib.hid he
                      clear he
                      go_wp2
                      go_quiet (fail)
                      go_wp2
                      go_roundw
                      case rel => exact ⟨_, true, t + 1, by omega, rfl, by go_num, Lib.hid (Ht.out He.out), (Hown'.out s).drewN _, below_dN (HW.out.setCell hw1 _) _⟩
                      case measure => simp [intOf]; omega
                  · have : t = l.length := by omega
                    subst this
                    go_wp2
                    go_roundw
                    case rel => exact ⟨r, b, i + 1, by omega, rfl, by go_num, Lib.hid (hP.out.next hl.out), hown, hW⟩
                    case measure => simp [intOf]; omega
            · have : i = ls.length := by omega
              subst this
              have HP := Lib.hid hP
              go_wp2
              cases b
              · go_roundg 0
                case measure => have := Hlt.out trivial; omega
                case rel => exact ⟨r, false, rfl, HP.out.out.ru, Hown.out, hW, (fun h => by cases h), fun _ i j hr he => HP.out.out.fixd rfl i j (he.lt HV.out).1 hr he⟩
              · go_roundg (wtR r0)
                case measure => have := Hlt.out trivial; omega
                case rel => exact ⟨r, true, rfl, HP.out.out.ru, Hown.out, hW, HP.out.out.less, (fun h => by cases h)⟩
end Go.Proofs.Ytljmignfbagomaa
