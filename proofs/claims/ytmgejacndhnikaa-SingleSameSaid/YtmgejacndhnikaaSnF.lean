/- SingleSame: single.bad, uses, large, inside at what may be. -/
import Derived.Test.YtmgejacndhnikaaSsaY
import Derived.Test.YtmgejacndhnikaaHave
import Derived.Test.YtmgejacndhnikaaOwnBk
import Derived.BigGuardPart
namespace Go.Proofs.Ytmgejacndhnikaa
set_option maxRecDepth 100000
open Go.RowKit

def NmOk (x : Int) : Prop := 0 ≤ x ∧ x < 128
set_option maxHeartbeats 400000 in
theorem badC_calls (x : Int) (w : World) (h : NmOk x) : Calls Try.prog 124 #[.int .i64 x] w fun e w' => e = .returned (.bool false) ∧ w' = w := by
  obtain ⟨h1, h2⟩ := h
  go_enter Try.func124, Try.ntmps124
  go_wp2
  all_goals first | (exfalso; omega) | (go_ret; exact ⟨ret_bool (by first | rfl | (simp; omega)), rfl⟩)
set_option maxHeartbeats 400000 in
theorem badI_calls (A : Option Addr) (l : List Int) (cap : Nat) (w : World) (hA : RdI w A l) (hm : l.length ≤ 1000) (hl : ∀ x ∈ l, NmOk x) :
    Calls Try.prog 120 #[.slice A l.length cap, .func (.func 124) #[] #[]] w fun e w' => e = .returned (.int .i64 (-1)) ∧ w' = w := by
  have HA := Lib.hid hA; clear hA
  have HL := Lib.hid hl; clear hl
  go_enter Try.func120, Try.ntmps120
  go_wp2
  go_loop [8] (fun i => ∃ k : Nat, k ≤ l.length ∧ i = .int .i64 k) (fun i => l.length - (intOf i).toNat)
  case atStart => exact ⟨0, Nat.zero_le _, rfl⟩
  case round =>
    obtain ⟨k, hk, rfl⟩ := hrel
    by_cases hlt : k < l.length
    · obtain ⟨b, off, rfl, hb, c0⟩ := RdI.at1 HA.out hlt
      have Hx := Lib.hid (HL.out _ (List.getElem_mem hlt))
      generalize l[k] = x at *
      go_wp2_with (go_at_call 124; refine (badC_calls _ _ Hx.out).mono ?_; rintro e w' ⟨rfl, rfl⟩)
      go_round
      case rel => exact ⟨k + 1, by omega, by go_num⟩
      case measure => simp [intOf]; omega
    · go_wp2
      go_ret
      exact ⟨rfl, rfl⟩
set_option maxHeartbeats 400000 in
theorem badCo_calls (A : Option Addr) (l : List Int) (cap : Nat) (w : World) (hA : RdI w A l) (hm : l.length ≤ 1000) (hl : ∀ x ∈ l, NmOk x) :
    Calls Try.prog 101 #[.slice A l.length cap, .func (.func 124) #[] #[]] w fun e w' => e = .returned (.bool false) ∧ w' = w := by
  have H := Lib.hid (badI_calls A l cap w hA hm hl)
  go_enter Try.func101, Try.ntmps101
  go_wp2_with fail
  (with_reducible refine H.out.mono ?_)
  rintro e w' ⟨rfl, rfl⟩
  go_wp2
  go_ret
  exact ⟨rfl, rfl⟩
set_option maxHeartbeats 400000 in
theorem bad_calls (A : Option Addr) (l : List Int) (cap : Nat) (w : World) (hA : RdI w A l) (hm : l.length ≤ 1000) (hl : ∀ x ∈ l, NmOk x) :
    Calls Try.prog 121 #[.slice A l.length cap] w fun e w' => e = .returned (.bool false) ∧ w' = w := by
  have H := Lib.hid (badCo_calls A l cap w hA hm hl)
  go_enter Try.func121, Try.ntmps121
  go_wp2_with fail
  (with_reducible refine H.out.mono ?_)
  rintro e w' ⟨rfl, rfl⟩
  go_wp2
  go_ret
  exact ⟨rfl, rfl⟩
/-- Names that a step uses. -/
def usesL (s : Step) : List Int := if s.op = 1 then [] else if s.op = 2 then [s.val] else [s.a, s.b]
theorem usesL_len (s : Step) : (usesL s).length ≤ 2 := by unfold usesL; repeat' split
                                                          all_goals simp
set_option maxHeartbeats 800000 in
theorem uses_calls (s : Step) (w : World) :
    Calls Try.prog 69 #[s.agg] w fun e w' => (∃ A c, e = .returned (.slice A (usesL s).length c) ∧ RdI w' A (usesL s)) ∧ Below w.heap.size w w' := by
  obtain ⟨op, tg, sa, sb, sv⟩ := s
  unfold Step.agg usesL
  dsimp only
  have HB := Lib.hid ((Below.refl w.heap.size w).alloc (Nat.le_refl _) (.cells #[.int .i64 op, .int .i64 tg, .int .i64 sa, .int .i64 sb, .int .i64 sv] 87))
  by_cases h1 : op = 1
  · subst h1
    rw [if_pos rfl]
    go_enter Try.func69, Try.ntmps69
    go_wp2
    go_ret
    exact ⟨⟨none, 0, rfl, Rd.nil_⟩, HB.out⟩
  · have q1 : (op == 1) = false := by rw [beq_eq_false_iff_ne]; exact h1
    rw [if_neg h1]
    by_cases h2 : op = 2
    · subst h2
      rw [if_pos rfl]
      have HB2 := Lib.hid (HB.out.alloc (by simp) (.cells #[.int .i64 sv] 3))
      go_enter Try.func69, Try.ntmps69
      go_wp2
      go_ret
      exact ⟨⟨_, 1, rfl, rdI_new1 _ sv _ _ (by simp)⟩, HB2.out⟩
    · have q2 : (op == 2) = false := by rw [beq_eq_false_iff_ne]; exact h2
      rw [if_neg h2]
      have HB2 := Lib.hid (HB.out.alloc (by simp) (.cells #[.int .i64 sa, .int .i64 sb] 3))
      go_enter Try.func69, Try.ntmps69
      go_wp2
      go_ret
      exact ⟨⟨_, 2, rfl, rdI_new2 _ sa sb _ _ (by simp)⟩, HB2.out⟩
def sumS (l : List Sg) : Nat := (l.map fun b => b.code.length).sum
def sumJ (l : List Sg) : Nat := (l.map fun b => b.joins.length).sum
theorem sum_take {f : Sg → Nat} {l : List Sg} {k : Nat} (hk : k < l.length) : ((l.take (k + 1)).map f).sum = ((l.take k).map f).sum + f l[k] := by
  rw [List.take_succ_eq_append_getElem hk, List.map_append, List.sum_append]
  simp
theorem sum_take_le {f : Sg → Nat} {l : List Sg} (k : Nat) : ((l.take k).map f).sum ≤ (l.map f).sum := by
  conv => rhs; rw [← List.take_append_drop k l, List.map_append, List.sum_append]
  omega
set_option maxHeartbeats 4000000 in
theorem large_calls (vars : Int) (A : Option Addr) (l : List Sg) (cap : Nat) (w : World) (hA : RdSg w A l) (hv1 : 1 ≤ vars) (hv6 : vars ≤ 6) (h1 : 1 ≤ l.length) (h8 : l.length ≤ 8) (hs : sumS l ≤ 20) (hj : sumJ l ≤ 64) :
    Calls Try.prog 107 #[.int .i64 vars, .slice A l.length cap] w fun e w' => e = .returned (.bool false) ∧ Below w.heap.size w w' := by
  have HA := Lib.hid hA
  have Hs := Lib.hid hs
  have Hj := Lib.hid hj
  clear hA hs hj
  go_enter Try.func107, Try.ntmps107
  go_wp2
  go_loopw [5, 6, 11] (fun s j i wr => ∃ (k ss jj : Nat), k ≤ l.length ∧ i = .int .i64 (k : Nat) ∧ s = .int .i64 (ss : Nat) ∧ j = .int .i64 (jj : Nat) ∧ Hid (ss = sumS (l.take k) ∧ jj = sumJ (l.take k)) ∧ Hid (Below w.heap.size w wr)) (fun _ _ i _ => l.length - (intOf i).toNat)
  case atStart => exact ⟨0, 0, 0, Nat.zero_le _, rfl, rfl, rfl, ⟨rfl, rfl⟩, Below.refl _ _⟩
  case round =>
    obtain ⟨k, ss, jj, hk, rfl, rfl, rfl, hS, hW⟩ := hrel
    by_cases hlt : k < l.length
    · obtain ⟨b, off, A1, c1, A2, c2, A3, c3, rfl, hb, e0, e1, e2, e3, e4, e5, -, -, -⟩ := (HA.out.below hW.out).at_ hlt
      have hkl : ((k : Nat) : Int) < ((l.length : Nat) : Int) := by omega
      have HS2 : Hid (ss + l[k].code.length = sumS (l.take (k + 1)) ∧ jj + l[k].joins.length = sumJ (l.take (k + 1))) := Lib.hid ⟨by rw [hS.out.1]; exact (sum_take hlt).symm, by rw [hS.out.2]; exact (sum_take hlt).symm⟩
      have hs1 : ss + l[k].code.length ≤ 20 := by rw [HS2.out.1]; exact Nat.le_trans (sum_take_le _) Hs.out
      have hj1 : jj + l[k].joins.length ≤ 64 := by rw [HS2.out.2]; exact Nat.le_trans (sum_take_le _) Hj.out
      generalize l[k] = sg at *
      obtain ⟨js, cd, ts, th, el, ls⟩ := sg
      dsimp only at e0 e1 e2 e3 e4 e5 hs1 hj1 HS2
      have HW2 := Lib.hid (hW.out.alloc hW.out.size (.cells #[.slice A1 js.length c1, .slice A2 cd.length c2, .int .i64 ts, .int .i64 th, .int .i64 el, .slice A3 ls.length c3] 114))
      have u1 : IntKind.i64.wrap (((ss : Nat) : Int) + ((cd.length : Nat) : Int)) = ((ss + cd.length : Nat) : Int) := by rw [IntWalk.i64_in _ (by omega)]; omega
      have u2 : IntKind.i64.wrap (((jj : Nat) : Int) + ((js.length : Nat) : Int)) = ((jj + js.length : Nat) : Int) := by rw [IntWalk.i64_in _ (by omega)]; omega
      clear hS hW
      go_wp2
      go_roundw
      case rel => exact ⟨k + 1, ss + cd.length, jj + js.length, by omega, by go_num, by first | rfl | (simp; done), by first | rfl | (simp; done), HS2, HW2⟩
      case measure => simp [intOf]; omega
    · have : k = l.length := by omega
      subst this
      have hs2 : ss ≤ 20 := by rw [hS.out.1, List.take_length]; exact Hs.out
      have hj2 : jj ≤ 64 := by rw [hS.out.2, List.take_length]; exact Hj.out
      clear hS hlt hk
      generalize l.length = n at *
      go_wp2
      all_goals (try (exfalso; omega))
      go_ret
      refine ⟨ret_bool ?_, hW.out⟩
      simp
      omega
theorem bad1_calls (x : Int) (S E : Nat) (w : World) (hs : w.heap.size = S) (h : NmOk x) :
    Calls Try.prog 121 #[.slice (some ⟨S, 0, none⟩) 1 1] (w.alloc (.cells #[.int .i64 x] E)) fun e w' => e = .returned (.bool false) ∧ w' = w.alloc (.cells #[.int .i64 x] E) :=
  bad_calls _ [x] 1 _ (rdI_new1 w x E S hs) (by simp) (fun y hy => by simp at hy; subst hy; exact h)
/-- What lies within a block of a named program that may be. -/
structure InsOk (b : Sg) (n : Nat) : Prop where
  jn : ∀ j ∈ b.joins, j.fr.length = n ∧ NmOk j.to ∧ ∀ x ∈ j.fr, NmOk x
  st : ∀ s ∈ b.code, 1 ≤ s.op ∧ s.op ≤ 6 ∧ (s.op = 1 → 0 ≤ s.val ∧ s.val ≤ 255) ∧ NmOk s.to ∧ ∀ x ∈ usesL s, NmOk x
  ts : 0 ≤ b.test → b.test < 128
  ls : ∀ x ∈ b.last, NmOk x
theorem RdJn.drewS {w : World} {A : Option Addr} {l : List Jn} (h : RdJn w A l) : RdJn w.drew A l := h
theorem RdJn.at_ {w : World} {A : Option Addr} {l : List Jn} (h : RdJn w A l) {k : Nat} (hk : k < l.length) : ∃ b off A' c', A = some ⟨b, off, none⟩ ∧ b < w.heap.size ∧ w.cell? ⟨b, off + k * 2, none⟩ = some (.int .i64 l[k].to) ∧ w.cell? ⟨b, off + k * 2 + 1, none⟩ = some (.slice A' l[k].fr.length c') ∧ RdI w A' l[k].fr := by
  obtain ⟨b, off, e, hlt, hc⟩ := h (by omega)
  obtain ⟨A', c', r⟩ := hc k _ (List.getElem?_eq_getElem hk)
  exact ⟨b, off, A', c', e, hlt, r⟩
set_option maxHeartbeats 8000000 in
theorem insideS_calls (b : Sg) (n : Nat) (A1 A2 A3 : Option Addr) (c1 c2 c3 : Nat) (w : World) (h1 : RdJn w A1 b.joins) (h2 : RdSt w A2 b.code) (h3 : RdI w A3 b.last) (hok : InsOk b n) (hn : n ≤ 100) (hj : b.joins.length ≤ 64) (hc : b.code.length ≤ 20) (hl : b.last.length ≤ 6) :
    Calls Try.prog 109 #[.agg #[.slice A1 b.joins.length c1, .slice A2 b.code.length c2, .int .i64 b.test, .int .i64 b.thn, .int .i64 b.els, .slice A3 b.last.length c3], .int .i64 (n : Nat)] w fun e w' => e = .returned (.int .i64 0) ∧ Below w.heap.size w w' := by
  obtain ⟨js, cd, ts, th, el, ls⟩ := b
  obtain ⟨hjn, hst, hts, hls⟩ := hok
  dsimp only at *
  have hB1 := (Below.refl w.heap.size w).alloc (Nat.le_refl _) (.cells #[.slice A1 js.length c1, .slice A2 cd.length c2, .int .i64 ts, .int .i64 th, .int .i64 el, .slice A3 ls.length c3] 114)
  have HN1 := Lib.hid (heap_alloc_new w (.cells #[.slice A1 js.length c1, .slice A2 cd.length c2, .int .i64 ts, .int .i64 th, .int .i64 el, .slice A3 ls.length c3] 114))
  obtain ⟨PB, hPB⟩ : ∃ PB, PB = w.heap.size := ⟨_, rfl⟩
  obtain ⟨w1, hw1⟩ : ∃ w1, w1 = w.alloc (.cells #[.slice A1 js.length c1, .slice A2 cd.length c2, .int .i64 ts, .int .i64 th, .int .i64 el, .slice A3 ls.length c3] 114) := ⟨_, rfl⟩
  rw [← hw1] at hB1 HN1
  rw [← hPB] at HN1
  have HB1 := Lib.hid hB1
  have H1 := Lib.hid (h1.below hB1)
  have H2 := Lib.hid (Rd.below h2 hB1)
  have H3 := Lib.hid (Rd.below h3 hB1)
  have HJ := Lib.hid hjn
  have HS := Lib.hid hst
  have HTS := Lib.hid hts
  have HLS := Lib.hid hls
  clear h1 h2 h3 hjn hst hts hls hB1
  have Hw1 := Lib.hid hw1
  have HPB := Lib.hid hPB
  have d0 := cell_h HN1.out 0
  clear hw1 hPB
  go_enter Try.func109, Try.ntmps109
  go_wp2
  rw [← HPB.out, ← Hw1.out]
  clear d0
  go_loopw [12] (fun i wr => ∃ k : Nat, k ≤ js.length ∧ i = .int .i64 (k : Nat) ∧ Hid (Below w1.heap.size w1 wr)) (fun i _ => js.length - (intOf i).toNat)
  case atStart => exact ⟨0, Nat.zero_le _, rfl, Below.refl _ _⟩
  case round =>
    obtain ⟨k, hk, rfl, hW⟩ := hrel
    by_cases hlt : k < js.length
    · obtain ⟨b, off, A', c', rfl, hb, e0, e1, hR⟩ := (H1.out.below hW.out).at_ hlt
      have hkl : ((k : Nat) : Int) < ((js.length : Nat) : Int) := by omega
      have hjk := HJ.out _ (List.getElem_mem hlt)
      have HR := Lib.hid hR
      clear hR
      generalize js[k] = j at *
      obtain ⟨jt, jf⟩ := j
      dsimp only at e0 e1 hjk HR
      obtain ⟨hjl, hjt, hjf⟩ := hjk
      have HJL := Lib.hid hjl
      have qn : (((jf.length : Nat) : Int) != ((n : Nat) : Int)) = false := by rw [hjl]; simp
      have hjl2 : jf.length ≤ 1000 := by omega
      clear hjl
      have HWa := Lib.hid ((hW.out.alloc hW.out.size (.cells #[.int .i64 jt, .slice A' jf.length c'] 128)).alloc (by have := hW.out.size; simp; omega) (.cells #[.int .i64 jt] 3))
      have HRa := Lib.hid (Rd.below HR.out ((Below.refl wr.heap.size wr).alloc (Nat.le_refl _) (.cells #[.int .i64 jt, .slice A' jf.length c'] 128) |>.alloc (by simp) (.cells #[.int .i64 jt] 3)))
      have Hjt := Lib.hid hjt
      have Hjf := Lib.hid hjf
      clear hjt hjf hW
      go_wp2_with fail
      (with_reducible refine (bad1_calls jt _ _ _ ?_ Hjt.out).mono ?_)
      · simp
      rintro e w2 ⟨rfl, rfl⟩
      go_wp2_with fail
      (with_reducible refine (bad_calls A' jf c' _ HRa.out hjl2 Hjf.out).mono ?_)
      rintro e w2 ⟨rfl, rfl⟩
      go_wp2
      go_roundw
      case rel => exact ⟨k + 1, by omega, by go_num, HWa⟩
      case measure => simp [intOf]; omega
    · have : k = js.length := by omega
      subst this
      have d1 := cell_h ((hW.out.block PB (lt_h HN1.out)).trans HN1.out) 1
      obtain ⟨wo, rfl⟩ : ∃ wo : World, wo = wr := ⟨_, rfl⟩
      have HWo := hW
      clear hW hlt hk
      go_wp2
      go_loopw [34] (fun i wr => ∃ k : Nat, k ≤ cd.length ∧ i = .int .i64 (k : Nat) ∧ Hid (Below w1.heap.size w1 wr)) (fun i _ => cd.length - (intOf i).toNat)
      case atStart => exact ⟨0, Nat.zero_le _, rfl, HWo⟩
      case round =>
        clear HWo d1
        obtain ⟨k, hk, rfl, hW⟩ := hrel
        by_cases hlt : k < cd.length
        · obtain ⟨b, off, rfl, hb, e0, e1, e2, e3, e4⟩ := RdSt.at5 (Rd.below H2.out hW.out) hlt
          have hkl : ((k : Nat) : Int) < ((cd.length : Nat) : Int) := by omega
          have hsk := HS.out _ (List.getElem_mem hlt)
          generalize cd[k] = sc at *
          obtain ⟨op, tg, sa, sb, sv⟩ := sc
          obtain ⟨hs1, hs6, hsv, hstt, hsu⟩ := hsk
          dsimp only at e0 e1 e2 e3 e4 hs1 hs6 hsv hstt
          have HWa := Lib.hid ((hW.out.alloc hW.out.size (.cells #[.int .i64 op, .int .i64 tg, .int .i64 sa, .int .i64 sb, .int .i64 sv] 87)).alloc (by have := hW.out.size; simp; omega) (.cells #[.int .i64 tg] 3))
          have Hstt := Lib.hid hstt
          have Hsu := Lib.hid hsu
          have HUS := Lib.hid (fun w' => uses_calls ⟨op, tg, sa, sb, sv⟩ w')
          have Hul := usesL_len ⟨op, tg, sa, sb, sv⟩
          unfold Step.agg at HUS
          dsimp only at HUS
          generalize usesL ⟨op, tg, sa, sb, sv⟩ = UL at *
          have hul : UL.length ≤ 1000 := by omega
          clear hstt hsu hW Hul
          by_cases h1 : op = 1
          · have hv := hsv h1
            subst h1
            obtain ⟨hv0, hv1⟩ := hv
            clear hsv
            go_wp2_with fail
            all_goals (try (exfalso; omega))
            (with_reducible refine (bad1_calls tg _ _ _ ?_ Hstt.out).mono ?_)
            · simp
            rintro e w2 ⟨rfl, rfl⟩
            go_wp2_with fail
            (with_reducible refine (HUS.out _).mono ?_)
            rintro e w3 ⟨⟨A', c', rfl, hR⟩, hB⟩
            have HR := Lib.hid hR
            have HWb := Lib.hid (HWa.out.trans (hB.mono HWa.out.size))
            clear hR hB
            go_wp2_with fail
            (with_reducible refine (bad_calls A' UL c' _ HR.out hul Hsu.out).mono ?_)
            rintro e w4 ⟨rfl, rfl⟩
            go_wp2
            go_roundw
            case rel => exact ⟨k + 1, by omega, by go_num, HWb⟩
            case measure => simp [intOf]; omega
          · have q1 : (op == 1) = false := by rw [beq_eq_false_iff_ne]; exact h1
            clear hsv h1
            go_wp2_with fail
            all_goals (try (exfalso; omega))
            (with_reducible refine (bad1_calls tg _ _ _ ?_ Hstt.out).mono ?_)
            · simp
            rintro e w2 ⟨rfl, rfl⟩
            go_wp2_with fail
            (with_reducible refine (HUS.out _).mono ?_)
            rintro e w3 ⟨⟨A', c', rfl, hR⟩, hB⟩
            have HR := Lib.hid hR
            have HWb := Lib.hid (HWa.out.trans (hB.mono HWa.out.size))
            clear hR hB
            go_wp2_with fail
            (with_reducible refine (bad_calls A' UL c' _ HR.out hul Hsu.out).mono ?_)
            rintro e w4 ⟨rfl, rfl⟩
            go_wp2
            go_roundw
            case rel => exact ⟨k + 1, by omega, by go_num, HWb⟩
            case measure => simp [intOf]; omega
        · have : k = cd.length := by omega
          subst this
          have d2 := cell_h ((hW.out.block PB (lt_h HN1.out)).trans HN1.out) 2
          have d5 := cell_h ((hW.out.block PB (lt_h HN1.out)).trans HN1.out) 5
          have HWc := Lib.hid (HB1.out.trans (hW.out.mono HB1.out.size))
          have HR := Lib.hid (Rd.below H3.out hW.out)
          have hl2 : ls.length ≤ 1000 := by omega
          clear hlt hk
          by_cases ht : 0 ≤ ts
          · have Hts : Hid (NmOk ts) := ⟨ht, HTS.out ht⟩
            have HWd := Lib.hid (HWc.out.alloc HWc.out.size (.cells #[.int .i64 ts] 3))
            have HRd := Lib.hid (Rd.below HR.out ((Below.refl wr.heap.size wr).alloc (Nat.le_refl _) (.cells #[.int .i64 ts] 3)))
            have hPBl : PB < wr.heap.size := by have h1 := lt_h HN1.out; have h2 := hW.out.size; omega
            clear hW
            go_wp2_with fail
            (with_reducible refine (bad1_calls ts _ _ _ rfl Hts.out).mono ?_)
            rintro e w2 ⟨rfl, rfl⟩
            go_wp2_with fail
            (with_reducible refine (bad_calls A3 ls c3 _ HRd.out hl2 HLS.out).mono ?_)
            rintro e w2 ⟨rfl, rfl⟩
            go_wp2
            go_ret
            exact ⟨rfl, HWd.out⟩
          · clear hW
            go_wp2_with fail
            (with_reducible refine (bad_calls A3 ls c3 _ HR.out hl2 HLS.out).mono ?_)
            rintro e w2 ⟨rfl, rfl⟩
            go_wp2
            go_ret
            exact ⟨rfl, HWc.out⟩
end Go.Proofs.Ytmgejacndhnikaa
