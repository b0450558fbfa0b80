/- WeakRule walked. -/
import Derived.Test.YtmgejacndhnikaaWkE
import Derived.Test.YtmgejacndhnikaaBlkD
import Derived.BigGuardPart
namespace Go.Proofs.Ytmgejacndhnikaa
set_option maxRecDepth 100000
open Go.RowKit

set_option maxHeartbeats 2000000 in
theorem kinds_nil (vars : Int) (w : World) : Calls Try.prog 75 #[.int .i64 vars, .slice none 0 0] w fun e w' => e = .returned (.int .i64 0) ∧ w' = w := by
  go_enter Try.func75, Try.ntmps75
  go_wp2
  go_loopw [15] (fun i wr => i = .int .i64 0 ∧ wr = w) (fun _ _ => 0)
  case atStart => exact ⟨rfl, rfl⟩
  case round =>
    obtain ⟨rfl, rfl⟩ := hrel
    go_wp2
    go_ret
    exact ⟨rfl, rfl⟩
theorem cErrs_each {vars : Int} : ∀ {c : List Step}, cErrs vars c = 0 → ∀ s ∈ c, stErr vars s = 0
  | [], _ => fun s hs => by cases hs
  | x :: r, h => by
    rw [show cErrs vars (x :: r) = if stErr vars x = 0 then cErrs vars r else stErr vars x from rfl] at h
    by_cases hx : stErr vars x = 0
    · rw [if_pos hx] at h
      intro s hs
      rcases List.mem_cons.1 hs with rfl | hs
      · exact hx
      · exact cErrs_each h s hs
    · rw [if_neg hx] at h; exact absurd h hx
theorem wkE_each {vars : Int} {code : List Step} (h : wkE vars code = 0) : ∀ s ∈ code, stErr vars s = 0 := by
  unfold wkE pkErr at h
  by_cases h1 : vars < 1 ∨ 6 < vars ∨ [(⟨code, -1, -1, 0⟩ : Blk)].length < 1 ∨ 8 < [(⟨code, -1, -1, 0⟩ : Blk)].length ∨ 20 < manyB [(⟨code, -1, -1, 0⟩ : Blk)]
  · rw [if_pos h1] at h; exact absurd h (by decide)
  rw [if_neg h1] at h
  rw [show ∀ n b, bErrs vars n [b] = if bErr vars n b = 0 then 0 else bErr vars n b from fun _ _ => rfl] at h
  by_cases h2 : bErr vars (([(⟨code, -1, -1, 0⟩ : Blk)].length : Nat) : Int) ⟨code, -1, -1, 0⟩ = 0
  · unfold bErr at h2
    dsimp only at h2
    by_cases h3 : cErrs vars code = 0
    · exact cErrs_each h3
    · rw [if_neg h3] at h2; exact absurd h2 h3
  · rw [if_neg h2] at h; exact absurd h h2
set_option maxHeartbeats 8000000 in
theorem kinds_one (vars : Int) (S : Nat) (A : Option Addr) (code : List Step) (cap : Nat) (w : World) (hA : RdSt w A code) (hm : code.length ≤ 140737488355328) (he : ∀ s ∈ code, stErr vars s = 0) (hS : S < w.heap.size)
    (c0 : w.cell? ⟨S, 0, none⟩ = some (.int .i64 1)) (c1 : w.cell? ⟨S, 1, none⟩ = some (.int .i64 0)) (c2 : w.cell? ⟨S, 2, none⟩ = some (.slice A code.length cap)) (c3 : w.cell? ⟨S, 3, none⟩ = some (.slice none 0 0)) (c4 : w.cell? ⟨S, 4, none⟩ = some (.slice none 0 0)) :
    Calls Try.prog 75 #[.int .i64 vars, .slice (some ⟨S, 0, none⟩) 1 1] w fun e w' => e = .returned (.int .i64 0) ∧ Below w.heap.size w w' := by
  have HA := Lib.hid hA
  have He := Lib.hid he
  clear hA he
  go_enter Try.func75, Try.ntmps75
  go_wp2
  go_loopw [15] (fun i wr => ((i = .int .i64 0 ∨ i = .int .i64 1) ∧ Below w.heap.size w wr)) (fun i _ => 1 - (intOf i).toNat)
  case atStart => exact ⟨.inl rfl, Below.refl _ _⟩
  case round =>
    obtain ⟨wo, rfl⟩ : ∃ wo : World, wo = wr := ⟨_, rfl⟩
    obtain ⟨rfl | rfl, hW⟩ := hrel
    · have d0 := (hW.cell (p := ⟨S, 0, none⟩) hS).trans c0
      have d1 := (hW.cell (p := ⟨S, 1, none⟩) hS).trans c1
      have d2 := (hW.cell (p := ⟨S, 2, none⟩) hS).trans c2
      have d3 := (hW.cell (p := ⟨S, 3, none⟩) hS).trans c3
      have d4 := (hW.cell (p := ⟨S, 4, none⟩) hS).trans c4
      have hws := hW.size
      have HWa := Lib.hid (hW.alloc hws (.cells #[.int .i64 1, .int .i64 0, .slice A code.length cap, .slice none 0 0, .slice none 0 0] 59))
      clear c0 c1 c2 c3 c4 hW
      go_wp2
      obtain ⟨w1, hw1⟩ : ∃ w1, w1 = wo.alloc (.cells #[.int .i64 1, .int .i64 0, .slice A code.length cap, .slice none 0 0, .slice none 0 0] 59) := ⟨_, rfl⟩
      have e3 : w1.cell? ⟨wo.heap.size, 3, none⟩ = some (.slice none 0 0) := by rw [hw1]; exact cell_new wo _ _ _ rfl 3
      have e4 : w1.cell? ⟨wo.heap.size, 4, none⟩ = some (.slice none 0 0) := by rw [hw1]; exact cell_new wo _ _ _ rfl 4
      have hsz : wo.heap.size < w1.heap.size := by rw [hw1]; simp
      rw [← hw1] at HWa ⊢
      clear hw1 d0 d1 d2 d3 d4
      go_loopw [38] (fun i wr => ∃ k : Nat, k ≤ code.length ∧ i = .int .i64 k ∧ Below w1.heap.size w1 wr) (fun i _ => code.length - (intOf i).toNat)
      case atStart => exact ⟨0, Nat.zero_le _, rfl, Below.refl _ _⟩
      case round =>
        obtain ⟨w2, rfl⟩ : ∃ w2 : World, w2 = wr := ⟨_, rfl⟩
        obtain ⟨k, hk, rfl, hW2⟩ := hrel
        have HW2 := Lib.hid hW2
        have hws2 := hW2.size
        by_cases hlt : k < code.length
        · obtain ⟨b, off, rfl, hb, k0, k1, k2, k3, k4⟩ := RdSt.at5 (Rd.below (Rd.below HA.out HWa.out) hW2) hlt
          have q1 : ((k : Nat) : Int) < ((code.length : Nat) : Int) := by omega
          have hs0 := He.out _ (List.getElem_mem hlt)
          have Hst := Lib.hid (fun w => refStep_calls vars code[k] w)
          rw [hs0] at Hst
          clear hs0 hW2
          generalize code[k] = s at *
          obtain ⟨op, sto, sa, sb, sv⟩ := s
          dsimp only [Step.agg] at k0 k1 k2 k3 k4 Hst
          have HWb := Lib.hid (HW2.out.alloc hws2 (.cells #[.int .i64 op, .int .i64 sto, .int .i64 sa, .int .i64 sb, .int .i64 sv] 87))
          go_wp2_with fail
          refine (Hst.out _).mono ?_
          rintro e w3 ⟨rfl, hW3⟩
          have HW3 := Lib.hid (HWb.out.trans (hW3.mono HWb.out.size))
          clear hW3
          go_wp2
          go_roundw
          case rel => exact ⟨k + 1, by omega, by go_num, HW3.out⟩
          case measure => simp [intOf]; omega
        · have hW9 := HWa.out.trans (hW2.mono HWa.out.size)
          have e3' := (hW2.cell (p := ⟨wo.heap.size, 3, none⟩) hsz).trans e3
          have e4' := (hW2.cell (p := ⟨wo.heap.size, 4, none⟩) hsz).trans e4
          have HW9 := Lib.hid hW9
          have HWc := Lib.hid (hW9.alloc hW9.size (.cells #[.slice none 0 0, .slice none 0 0] 57))
          clear e3 e4 hW2
          go_wp2
          obtain ⟨w4, hw4⟩ : ∃ w4, w4 = w2.alloc (.cells #[.slice none 0 0, .slice none 0 0] 57) := ⟨_, rfl⟩
          have f0 : w4.cell? ⟨w2.heap.size, 0, none⟩ = some (.slice none 0 0) := by rw [hw4]; exact cell_new w2 _ _ _ rfl 0
          have f1 : w4.cell? ⟨w2.heap.size, 1, none⟩ = some (.slice none 0 0) := by rw [hw4]; exact cell_new w2 _ _ _ rfl 1
          rw [← hw4] at HWc ⊢
          clear hw4 e3' e4'
          go_loopw [62] (fun i wr => (i = .int .i64 0 ∨ i = .int .i64 1 ∨ i = .int .i64 2) ∧ wr = w4) (fun i _ => 2 - (intOf i).toNat)
          case atStart => exact ⟨.inl rfl, rfl⟩
          case round =>
            obtain ⟨rfl | rfl | rfl, rfl⟩ := hrel
            · go_wp2_with fail
              refine (kinds_nil vars _).mono ?_
              rintro e w5 ⟨rfl, rfl⟩
              go_wp2
              go_roundw
              case rel => exact ⟨.inr (.inl (by first | rfl | go_num)), by first | rfl | trivial⟩
              case measure => simp [intOf]
            · go_wp2_with fail
              refine (kinds_nil vars _).mono ?_
              rintro e w5 ⟨rfl, rfl⟩
              go_wp2
              go_roundw
              case rel => exact ⟨.inr (.inr (by first | rfl | go_num)), by first | rfl | trivial⟩
              case measure => simp [intOf]
            · go_wp2
              go_roundw
              case rel => exact ⟨.inr (by first | rfl | go_num), HWc.out⟩
              case measure => simp [intOf]
    · have HW := Lib.hid hW
      clear hW c0 c1 c2 c3 c4
      go_wp2
      go_ret
      exact ⟨rfl, HW.out⟩
theorem right_one (vars : Int) (S : Nat) (A : Option Addr) (code : List Step) (cap : Nat) (w : World) (hA : RdSt w A code) (hm : code.length ≤ 140737488355328) (he : ∀ s ∈ code, stErr vars s = 0) (hS : S < w.heap.size)
    (c0 : w.cell? ⟨S, 0, none⟩ = some (.int .i64 1)) (c1 : w.cell? ⟨S, 1, none⟩ = some (.int .i64 0)) (c2 : w.cell? ⟨S, 2, none⟩ = some (.slice A code.length cap)) (c3 : w.cell? ⟨S, 3, none⟩ = some (.slice none 0 0)) (c4 : w.cell? ⟨S, 4, none⟩ = some (.slice none 0 0)) :
    Calls Try.prog 29 #[.int .i64 vars, .slice (some ⟨S, 0, none⟩) 1 1] w fun e w' => e = .returned (.bool true) ∧ Below w.heap.size w w' := by
  have H := Lib.hid (kinds_one vars S A code cap w hA hm he hS c0 c1 c2 c3 c4)
  clear hA he c0 c1 c2 c3 c4
  go_enter Try.func29, Try.ntmps29
  go_wp2_with fail
  refine H.out.mono ?_
  rintro e w1 ⟨rfl, hW⟩
  have HW := Lib.hid hW
  clear hW
  go_wp2
  go_ret
  exact ⟨rfl, HW.out⟩

/-- weak.Ahead, whichever way. -/
def AhY (vars : Int) (code : List Step) (post : List Term) (w : World) (e : Ending) (w' : World) : Prop :=
  (wkErr vars code post ≠ 0 ∧ e = .returned (.tuple #[.slice none 0 0, .int .i64 (wkErr vars code post)]) ∧ Below w.heap.size w w') ∨ (wkErr vars code post = 0 ∧ WkEnd vars.toNat code post w e w')
theorem aheadY_calls (vars : Int) (A B : Option Addr) (code : List Step) (post : List Term) (cap c2 : Nat) (w : World) (hA : RdSt w A code) (hB : RdT w B post) (hm : code.length ≤ 140737488355328) (hm2 : post.length ≤ maxLen) :
    Calls Try.prog 25 #[.int .i64 vars, .slice A code.length cap, .slice B post.length c2] w (AhY vars code post w) := by
  by_cases h : wkErr vars code post = 0
  · exact (ahead_ok vars A B code post cap c2 w hA hB hm hm2 h).mono fun e w' h' => .inr ⟨h, h'⟩
  · exact (ahead_bad vars A B code post cap c2 w hA hB hm hm2 h).mono fun e w' h' => .inl ⟨h, h'⟩
theorem tErr_one {vars : Int} (h1 : 1 ≤ vars) (h6 : vars ≤ 6) : tErr vars [⟨1, 0, 0, 1⟩] = 0 := by
  unfold tErr
  rw [if_neg (by simp; omega)]
  show (if tErr1 vars 0 ⟨1, 0, 0, 1⟩ = 0 then 0 else tErr1 vars 0 ⟨1, 0, 0, 1⟩) = 0
  rw [tErr1_0 (by omega) (by omega) (by omega) (by omega) (by omega)]
  rfl
theorem tVal_one (hv : List Int) : tVal hv [⟨1, 0, 0, 1⟩] = 1 := rfl
set_option maxHeartbeats 8000000 in
theorem weakRule_u (vars : Int) (A P H : Option Addr) (code : List Step) (post : List Term) (hv : List Int) (ca cp ch : Nat) (w : World) (hA : RdSt w A code) (hP : RdT w P post) (hH : RdI w H hv) (hm : code.length ≤ 140737488355328) (hp : post.length ≤ maxLen) (hh : hv.length ≤ maxLen) :
    Calls Try.prog 7 #[.int .i64 vars, .slice A code.length ca, .slice P post.length cp, .slice H hv.length ch] w fun e w' => e = .returned (.bool true) ∧ Below w.heap.size w w' := by
  have Ha := Lib.hid (aheadY_calls vars A P code post ca cp w hA hP hm hp)
  have Hg := Lib.hid (fun w' (h : Below w.heap.size w w') => given_calls vars H hv ch w' (Rd.below hH h) hh)
  have HH := Lib.hid hH
  have HA := Lib.hid hA
  have HP := Lib.hid hP
  clear hA hP hH hp hh
  go_enter Try.func7, Try.ntmps7
  go_wp2_with fail
  refine Ha.out.mono ?_
  rintro e w1 (⟨hx, rfl, hW⟩ | ⟨hx, v, l, rfl, ⟨A5, c5, rfl, hR5⟩, hl1, hl64, hall, hval, hW⟩)
  · have HW := Lib.hid hW
    have q : (wkErr vars code post != 0) = true := by rw [bne_iff_ne]; exact hx
    generalize wkErr vars code post = x at *
    clear hx hW
    go_wp2
    all_goals (try (exfalso; omega; done))
    all_goals (go_ret; exact ⟨by first | rfl | exact ret_bool (by simp), HW.out⟩)
  · have HW := Lib.hid hW
    have HR5 := Lib.hid hR5
    have Hall := Lib.hid hall
    have Hval := Lib.hid hval
    have Hx := Lib.hid hx
    have Hx2 := Lib.hid (wkE_ok (wkErr_parts hx).1)
    have Hx3 := Lib.hid (wkE_each (wkErr_parts hx).1)
    have ql : (((l.length : Nat) : Int) == 0) = false := by rw [beq_eq_false_iff_ne]; omega
    have Hg1 := Lib.hid (Hg.out _ hW)
    clear hx hW hR5 hall hval
    by_cases hg : haveErr vars hv = 0
    · have qg : (haveErr vars hv == 0) = true := by rw [beq_iff_eq]; exact hg
      rw [qg] at Hg1
      obtain ⟨v1, v6, hc20, hsok⟩ := Hx2.out
      obtain ⟨hhl, hhb⟩ := haveErr_ok hg
      have Ht1 := Lib.hid (fun w' (h : Below w1.heap.size w1 w') => refTerm_calls vars A5 H l hv c5 ch w' (Rd.below HR5.out h) (Rd.below (Rd.below HH.out HW.out) h) hl1 hl64 v6 (by have := Hall.out; rw [Int.toNat_of_nonneg (by omega)] at this; exact this) hg)
      have he : tVal hv l = tVal (dgR hv code) post := Hval.out hv (by omega)
      rw [he] at Ht1
      have Hho := Lib.hid (fun S w' (h : Below w1.heap.size w1 w') (hS : RdT w' (some ⟨S, 0, none⟩) [⟨1, 0, 0, 1⟩]) => holds_ok vars (some ⟨S, 0, none⟩) A P H [⟨1, 0, 0, 1⟩] code post hv 1 ca cp ch w' hS (Rd.below (Rd.below HA.out HW.out) h) (Rd.below (Rd.below HP.out HW.out) h) (Rd.below (Rd.below HH.out HW.out) h) hm Hx.out (tErr_one v1 v6) hg (tVal_one hv))
      have Hri := Lib.hid (fun S w' (h : Below w1.heap.size w1 w') hS c0 c1 c2 c3 c4 => right_one vars S A code ca w' (Rd.below (Rd.below HA.out HW.out) h) hm Hx3.out hS c0 c1 c2 c3 c4)
      clear hsok hhb hg hhl he
      go_wp2_with (first
        | (go_at_call 26; refine Hg1.out.mono ?_; rintro e w7 ⟨rfl, rfl⟩)
        | fail)
      all_goals (try (exfalso; omega; done))
      obtain ⟨w2, hw2⟩ : ∃ w2, w2 = w7.alloc (.cells #[.int .i64 1, .int .i64 0, .slice A code.length ca, .slice none 0 0, .slice none 0 0] 59) := ⟨_, rfl⟩
      rw [← hw2]
      have HW2 : Hid (Below w7.heap.size w7 w2) := Lib.hid (by rw [hw2]; exact (Below.refl _ _).alloc (Nat.le_refl _) _)
      have Hr2 := Lib.hid (Hri.out w7.heap.size w2 HW2.out (by rw [hw2]; simp) (by rw [hw2]; exact cell_new w7 _ _ _ rfl 0) (by rw [hw2]; exact cell_new w7 _ _ _ rfl 1) (by rw [hw2]; exact cell_new w7 _ _ _ rfl 2) (by rw [hw2]; exact cell_new w7 _ _ _ rfl 3) (by rw [hw2]; exact cell_new w7 _ _ _ rfl 4))
      clear hw2
      refine Hr2.out.mono ?_
      rintro e w3 ⟨rfl, hW3⟩
      have HW3 := Lib.hid (HW2.out.trans (hW3.mono HW2.out.size))
      clear hW3
      go_wp2_with fail
      all_goals (try (exfalso; omega; done))
      obtain ⟨w4, hw4⟩ : ∃ w4, w4 = w3.alloc (.cells #[.int .i64 1, .int .i64 0, .int .i64 0, .int .i64 1] 62) := ⟨_, rfl⟩
      rw [← hw4]
      have HW4 : Hid (Below w7.heap.size w7 w4) := Lib.hid (by rw [hw4]; exact HW3.out.alloc HW3.out.size _)
      have HR4 : Hid (RdT w4 (some ⟨w3.heap.size, 0, none⟩) [⟨1, 0, 0, 1⟩]) := Lib.hid (by rw [hw4]; exact rd_new (f := Term.cells) w3 [(⟨1, 0, 0, 1⟩ : Term)] _ _ _ rfl (fun k x hk j hj => by
        obtain ⟨hk0, hx⟩ := List.getElem?_eq_some_iff.1 hk
        have hk1 : k = 0 := by simp at hk0; exact hk0
        subst hk1
        simp at hx
        subst hx
        match j, hj with
        | 0, _ => rfl
        | 1, _ => rfl
        | 2, _ => rfl
        | 3, _ => rfl))
      clear hw4
      refine (Hho.out w3.heap.size w4 HW4.out HR4.out).mono ?_
      rintro e w5 ⟨rfl, hW5⟩
      have HW5 := Lib.hid (HW4.out.trans (hW5.mono HW4.out.size))
      clear hW5
      have Ht5 := Lib.hid (Ht1.out w5 HW5.out)
      clear Ht1
      go_wp2_with fail
      refine Ht5.out.mono ?_
      rintro e w6 ⟨rfl, hW6⟩
      have HW6 := Lib.hid (HW.out.trans ((HW5.out.trans (hW6.mono HW5.out.size)).mono HW.out.size))
      clear hW6
      by_cases hz : tVal (dgR hv code) post = 0
      · have q : decide (tVal (dgR hv code) post ≠ 0) = false := by simp [hz]
        rw [hz] at q ⊢
        go_wp2
        go_ret
        exact ⟨by first | rfl | exact ret_bool (by simp [hz]), HW6.out⟩
      · have q : decide (tVal (dgR hv code) post ≠ 0) = true := by simp [hz]
        have q2 : (tVal (dgR hv code) post != 0) = true := by rw [bne_iff_ne]; exact hz
        generalize tVal (dgR hv code) post = z at *
        go_wp2
        go_ret
        exact ⟨by first | rfl | exact ret_bool (by simp [hz]), HW6.out⟩
    · have qg : (haveErr vars hv == 0) = false := by rw [beq_eq_false_iff_ne]; exact hg
      rw [qg] at Hg1
      clear hg
      go_wp2_with (go_at_call 26; refine Hg1.out.mono ?_; rintro e w7 ⟨rfl, rfl⟩)
      all_goals (try (exfalso; omega; done))
      all_goals (go_ret; exact ⟨by first | rfl | exact ret_bool (decide_eq_true (by omega)), HW.out⟩)
end Go.Proofs.Ytmgejacndhnikaa
