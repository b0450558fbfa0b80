/- The law ShapeBack. -/
import Derived.Test.YtmgejacndhnikaaShpJ
import Derived.Test.YtmgejacndhnikaaIntsR
namespace Go.Proofs.Ytmgejacndhnikaa
set_option maxRecDepth 100000
open Go.RowKit

theorem one_endS {p : List Blk} {v : List Int} {k j : Nat} (h1 : runsB p v k) (h2 : (stB p v k).1 < 0) (h3 : runsB p v j) (h4 : (stB p v j).1 < 0) : k = j := by
  rcases Nat.lt_trichotomy k j with h | h | h
  · have := h3 k h; omega
  · exact h
  · have := h1 j h; omega
theorem stErr_ofS {vars : Int} {s : Step} (h : SOk vars s) : stErr vars s = 0 := by
  obtain ⟨h1, h2, h3, h4, h5, h6⟩ := h
  unfold stErr
  by_cases e1 : s.op = 1
  · have := h3 e1
    rw [if_neg (by omega), if_neg (by omega), if_neg (by omega)]
  · by_cases e2 : s.op = 2
    · have := h4 e2
      rw [if_neg (by omega), if_neg (by omega), if_neg (by omega)]
    · have := h6 (by omega)
      rw [if_neg (by omega), if_neg (by omega), if_neg (by omega)]
theorem cErrs_ofS {vars : Int} : ∀ {c : List Step}, (∀ s ∈ c, SOk vars s) → cErrs vars c = 0
  | [], _ => rfl
  | s :: r, h => by
    rw [show cErrs vars (s :: r) = if stErr vars s = 0 then cErrs vars r else stErr vars s from rfl, if_pos (stErr_ofS (h s (by simp)))]
    exact cErrs_ofS fun t ht => h t (by simp [ht])
theorem bErr_ofS {vars n : Int} {b : Blk} (h : BOk vars n b) : bErr vars n b = 0 := by
  unfold bErr
  rw [if_pos (cErrs_ofS h.code)]
  unfold eErr
  have h1 := h.lo; have h2 := h.hi; have h3 := h.two; have h4 := h.one
  rw [if_neg (by omega), if_neg (by omega)]
theorem bErrs_ofS {vars n : Int} : ∀ {p : List Blk}, (∀ b ∈ p, BOk vars n b) → bErrs vars n p = 0
  | [], _ => rfl
  | b :: r, h => by
    rw [show bErrs vars n (b :: r) = if bErr vars n b = 0 then bErrs vars n r else bErr vars n b from rfl, if_pos (bErr_ofS (h b (by simp)))]
    exact bErrs_ofS fun t ht => h t (by simp [ht])
theorem pkErr_ofS {vars : Int} {p : List Blk} (h : POk vars p) : pkErr vars p = 0 := by
  unfold pkErr
  have h1 := h.v1; have h2 := h.v6; have h3 := h.n1; have h4 := h.n8; have h5 := h.many
  rw [if_neg (by omega)]
  exact bErrs_ofS h.bs
set_option maxHeartbeats 8000000 in
theorem shapeBack_calls (vars : Int) (d : Nat) (A B : Option Addr) (l : List Shp) (hv : List Int) (cap capB : Nat) (w : World) (hA : RdSh w d A l) (hl : l.length ≤ 2199023255552) (hB : RdI w B hv) (hm : hv.length ≤ maxLen) :
    Calls Try.prog 8 #[.int .i64 vars, .slice A l.length cap, .slice B hv.length capB] w fun e w' => e = .returned (.bool true) ∧ Below w.heap.size w w' := by
  have HF := Lib.hid (shFlat_calls vars d A l cap w hA hl)
  have HA := Lib.hid hA
  have HB := Lib.hid hB
  clear hA hB
  go_enter Try.func8, Try.ntmps8
  go_wp2_with fail
  (with_reducible refine HF.out.mono ?_)
  rintro e w1 ⟨hb1, ⟨x, hx, rfl⟩ | ⟨v1, v6, hst, hok, hln, A1, c1, rfl, hR⟩⟩
  · have HW1 := Lib.hid hb1
    have q : (x != 0) = true := by rw [bne_iff_ne]; exact hx
    clear hb1 hx HF
    go_wp2_with fail
    go_ret
    exact ⟨rfl, HW1.out⟩
  · have HW1 := Lib.hid hb1
    have HR1 := Lib.hid hR
    have HOK := Lib.hid hok
    have Hst := Lib.hid hst
    have HV := Lib.hid (⟨v1, v6⟩ : _ ∧ _)
    have HU := Lib.hid (shRun_calls vars d A B l hv cap capB w1 (RdSh.below hb1 HA.out) hl (Rd.below HB.out hb1) hm)
    have hpos := flatP_pos d l
    obtain ⟨p, hp⟩ : ∃ p, p = flatP d l := ⟨_, rfl⟩
    rw [← hp] at HR1 hln hpos ⊢
    have HPp := Lib.hid hp
    clear hb1 HF hR hok hst v1 v6 hp
    go_wp2_with fail
    (with_reducible refine HU.out.mono ?_)
    rintro e w2 ⟨hb2, ⟨x, hx, rfl⟩ | ⟨hh0, vv, v', rfl, hO, hex⟩⟩
    · have HW2 := Lib.hid (HW1.out.trans (hb2.mono HW1.out.size))
      have q : (x != 0) = true := by rw [bne_iff_ne]; exact hx
      clear hb2 hx HU HR1
      go_wp2_with fail
      go_ret
      exact ⟨rfl, HW2.out⟩
    · have HW2 := Lib.hid (HW1.out.trans (hb2.mono HW1.out.size))
      have HR2 := Lib.hid (HR1.out.below hb2)
      obtain ⟨Av, cv, rfl, hRv⟩ := OwnI.rd hO
      have HRv := Lib.hid hRv
      have Hex := Lib.hid hex
      have HH0 := Lib.hid hh0
      clear hb2 HU HR1 hO hRv hex hh0
      have q1 : (((p.length : Nat) : Int) == 0) = false := by rw [beq_eq_false_iff_ne]; omega
      by_cases h8 : 8 < p.length
      · have q2 : decide ((8 : Int) < ((p.length : Nat) : Int)) = true := decide_eq_true (by omega)
        have q3 : decide ((0 : Int) < ((p.length : Nat) : Int)) = true := decide_eq_true (by omega)
        clear h8 q3
        generalize p.length = n at *
        have Hpos := Lib.hid hpos
        go_wp2_with fail
        go_ret
        refine ⟨?_, HW2.out⟩
        show Ending.returned (.bool (decide (0 < n))) = _
        rw [decide_eq_true (show 0 < n from Hpos.out)]
      · have q2 : decide ((8 : Int) < ((p.length : Nat) : Int)) = false := decide_eq_false (by omega)
        have hP : POk vars p := by rw [HPp.out]; exact flatP_ok HV.out.1 HV.out.2 HOK.out Hst.out (by rw [← HPp.out]; omega)
        have hE := pkErr_ofS hP
        obtain ⟨k, hk1, hk2, hk3⟩ := flatP_run HOK.out Hex.out
        rw [← HPp.out] at hk1 hk2 hk3
        have HK := Lib.hid (⟨hk1, hk2, hk3⟩ : _ ∧ _ ∧ _)
        have HU := Lib.hid (blkRun_ok vars A1 B p hv c1 capB w2 HR2.out (Rd.below HB.out HW2.out) (by unfold maxLen; omega) (fun b hb => by
          have h1 := hP.many
          have h2 := manyB_mem hb
          omega) hm hE HH0.out)
        have hvl : v'.length ≤ maxLen := by
          have := st_ok hP (haveErr_ok HH0.out).1 (haveErr_ok HH0.out).2 k hk1
          have h1 := this.1
          rw [hk3] at h1
          have := hP.v6
          have := hP.v1
          unfold maxLen
          omega
        clear hk1 hk2 hk3 hE hP h8 hpos
        go_wp2_with fail
        (with_reducible refine HU.out.mono ?_)
        rintro e w3 ⟨hb3, ⟨j, x, y, j1, j2, jr, jn, rfl, hx, hy⟩ | ⟨jr, rfl⟩⟩
        · have HW3 := Lib.hid (HW2.out.trans (hb3.mono HW2.out.size))
          have hkj := one_endS jr jn HK.out.1 HK.out.2.1
          subst hkj
          rw [HK.out.2.2] at hx
          obtain ⟨Ax, cx, rfl, hRx⟩ := OwnI.rd hx
          have HI := Lib.hid (ints_calls Av Ax v' v' cv cx w3 (Rd.below HRv.out hb3) hRx hvl)
          rw [decide_eq_true rfl] at HI
          clear hb3 jr jn hx hy hRx j1 j2 HU hvl
          go_wp2_with (go_at_call 24; (with_reducible refine HI.out.mono ?_); rintro e w4 ⟨rfl, hW4⟩; have HW4 := Lib.hid (HW3.out.trans (hW4.mono HW3.out.size)); clear hW4)
          go_ret
          exact ⟨rfl, HW4.out⟩
        · have HW3 := Lib.hid (HW2.out.trans (hb3.mono HW2.out.size))
          clear hb3 jr HU hvl
          go_wp2_with fail
          go_ret
          exact ⟨rfl, HW3.out⟩
end Go.Proofs.Ytmgejacndhnikaa
