/- WeakTwo walked (for lists of a machine's size). -/
import Derived.Test.YtmgejacndhnikaaWkC
import Derived.Test.YtmgejacndhnikaaDoR
namespace Go.Proofs.Ytmgejacndhnikaa
set_option maxRecDepth 100000
open Go.RowKit

/-- weak.Ahead, whichever way. -/
def AhX (vars : Int) (code : List Step) (post : List Term) (w : World) (e : Ending) (w' : World) : Prop :=
  (wkErr vars code post ≠ 0 ∧ e = .returned (.tuple #[.slice none 0 0, .int .i64 (wkErr vars code post)]) ∧ Below w.heap.size w w') ∨ (wkErr vars code post = 0 ∧ WkEnd vars.toNat code post w e w')
theorem ahead_calls (vars : Int) (A B : Option Addr) (code : List Step) (post : List Term) (cap c2 : Nat) (w : World) (hA : RdSt w A code) (hB : RdT w B post) (hm : code.length ≤ 140737488355328) (hm2 : post.length ≤ maxLen) :
    Calls Try.prog 25 #[.int .i64 vars, .slice A code.length cap, .slice B post.length c2] w (AhX vars code post w) := by
  by_cases h : wkErr vars code post = 0
  · exact (ahead_ok vars A B code post cap c2 w hA hB hm hm2 h).mono fun e w' h' => .inr ⟨h, h'⟩
  · exact (ahead_bad vars A B code post cap c2 w hA hB hm hm2 h).mono fun e w' h' => .inl ⟨h, h'⟩
theorem wkErr_ok {vars : Int} {code : List Step} {post : List Term} (h : wkErr vars code post = 0) : 1 ≤ vars ∧ vars ≤ 6 ∧ code.length ≤ 20 ∧ ∀ s ∈ code, SOk vars s := by
  refine wkE_ok (Classical.byContradiction fun h1 => ?_)
  unfold wkErr at h
  rw [if_neg h1] at h
  exact h1 h
theorem haveErr_zero {vars : Int} {l : List Int} (h1 : (l.length : Int) = vars) (h2 : ∀ x ∈ l, 0 ≤ x ∧ x ≤ 255) : haveErr vars l = 0 := by
  unfold haveErr
  rw [if_neg (by omega), if_neg]
  intro h
  rw [List.any_eq_true] at h
  obtain ⟨x, hx, hb⟩ := h
  have := h2 x hx
  unfold badVal at hb
  rw [decide_eq_true_eq] at hb
  omega
set_option maxHeartbeats 8000000 in
theorem weakTwo_u (vars : Int) (A B P H : Option Addr) (a b : List Step) (post : List Term) (hv : List Int) (ca cb cp ch : Nat) (w : World) (hA : RdSt w A a) (hB : RdSt w B b) (hP : RdT w P post) (hH : RdI w H hv) (ha : a.length ≤ 1048576) (hb : b.length ≤ 1048576) (hp : post.length ≤ maxLen) (hh : hv.length ≤ maxLen) :
    Calls Try.prog 6 #[.int .i64 vars, .slice A a.length ca, .slice B b.length cb, .slice P post.length cp, .slice H hv.length ch] w fun e w' => e = .returned (.bool true) ∧ Below w.heap.size w w' := by
  have HE := Lib.hid (own_new Step.cells 5 87 stepCells_len w w.heap.size (Nat.le_refl _) [] (by simp [maxLen]))
  have hB1 := (Below.refl w.heap.size w).alloc (Nat.le_refl _) (.cells #[] 87)
  obtain ⟨v3, w3, hrun3, hO3, hg3, -⟩ := run_appN (P := Try.prog) 48 48 Step.cells 5 40 87 (Step.mk 0 0 0 0 0).agg Try.underlying48 infoStep rfl (by decide) stepCells_len stepCells_one w.heap.size _ [] HE.out A a ca (Rd.below hA hB1) (by simp [maxLen]; omega) (by simp; omega) (by simp)
  rw [List.nil_append] at hO3
  have hW3 := hB1.grown hg3 (by simp) (fun k e => by have e : some w.heap.size = some k := e; injection e with e; omega)
  obtain ⟨v4, w4, hrun4, hO4, hg4, -⟩ := run_appN (P := Try.prog) 48 48 Step.cells 5 40 87 (Step.mk 0 0 0 0 0).agg Try.underlying48 infoStep rfl (by decide) stepCells_len stepCells_one w.heap.size v3 a hO3 B b cb (Rd.below hB hW3) (by unfold maxLen; omega) (by omega) hW3.size
  have HW4 := Lib.hid (below_own hW3 hg4 hO3 (Nat.le_refl _) hW3.size)
  obtain ⟨A4, c4, rfl, hR4, -⟩ := Own.form stepCells_len hO4
  have Hrun3 := Lib.hid hrun3
  have Hrun4 := Lib.hid hrun4
  have Ha1 := Lib.hid (ahead_calls vars A4 P (a ++ b) post c4 cp w4 hR4 (Rd.below hP HW4.out) (by rw [List.length_append]; omega) hp)
  rw [List.length_append] at Ha1
  have Ha2 := Lib.hid (fun w (h : Below w4.heap.size w4 w) => ahead_calls vars B P b post cb cp w (Rd.below hB (HW4.out.trans (h.mono HW4.out.size))) (Rd.below hP (HW4.out.trans (h.mono HW4.out.size))) (by omega) hp)
  have Hgi := Lib.hid (fun w' (h : Below w.heap.size w w') => given_calls vars H hv ch w' (Rd.below hH h) hh)
  have HH := Lib.hid hH
  have HA := Lib.hid hA
  have hh' : hv.length ≤ 9223372036854775807 := by unfold maxLen at hh; omega
  clear hrun3 hrun4 hO3 hO4 hg3 hg4 hB1 hW3 hR4 hA hB hP hH HE hp hh
  go_enter Try.func6, Try.ntmps6
  go_wp2_with (first
    | (at_builtin; refine wpList_app_run rfl 48 _ _ rfl rfl rfl Hrun3.out ?_)
    | (at_builtin; refine wpList_app_run rfl 48 _ _ rfl rfl rfl Hrun4.out ?_)
    | fail)
  refine Ha1.out.mono ?_
  rintro e w5 (⟨hx, rfl, hW⟩ | ⟨hx, v, l, rfl, ⟨A5, c5, rfl, hR5⟩, hl1, hl64, hall, hval, hW⟩)
  · have HWx := Lib.hid hW
    have q : (wkErr vars (a ++ b) post != 0) = true := by rw [bne_iff_ne]; exact hx
    generalize wkErr vars (a ++ b) post = x at *
    clear hx hW
    go_wp2_with fail
    refine (Ha2.out _ HWx.out).mono ?_
    rintro e w6 (⟨hy, rfl, hW⟩ | ⟨hy, v, m, rfl, ⟨A6, c6, rfl, hR6⟩, -, -, -, -, hW⟩)
    all_goals
      have HW6 := Lib.hid (HW4.out.trans ((HWx.out.trans (hW.mono HWx.out.size)).mono HW4.out.size))
      clear hW
      go_wp2
      go_ret
      exact ⟨rfl, HW6.out⟩
  · have HWx := Lib.hid hW
    have HR5 := Lib.hid hR5
    have Hall := Lib.hid hall
    have Hval := Lib.hid hval
    have Hx := Lib.hid (wkErr_ok hx)
    have ql : (((l.length : Nat) : Int) == 0) = false := by rw [beq_eq_false_iff_ne]; omega
    have ql2 : decide (0 < ((l.length : Nat) : Int)) = true := decide_eq_true (by omega)
    clear hx hW hR5 hall hval
    go_wp2_with fail
    refine (Ha2.out _ HWx.out).mono ?_
    rintro e w6 (⟨hy, rfl, hW⟩ | ⟨hy, v, m, rfl, ⟨A6, c6, rfl, hR6⟩, hm1, hm64, hallm, hvalm, hW⟩)
    · have HW6 := Lib.hid (HW4.out.trans ((HWx.out.trans (hW.mono HWx.out.size)).mono HW4.out.size))
      have q : (wkErr vars b post != 0) = true := by rw [bne_iff_ne]; exact hy
      generalize wkErr vars b post = x at *
      clear hW hy
      go_wp2
      all_goals (try (exfalso; omega; done))
      go_ret
      exact ⟨rfl, HW6.out⟩
    · have HW6 := Lib.hid (HW4.out.trans ((HWx.out.trans (hW.mono HWx.out.size)).mono HW4.out.size))
      have HR56 := Lib.hid (Rd.below HR5.out hW)
      have HR6 := Lib.hid hR6
      have Hallm := Lib.hid hallm
      have Hvalm := Lib.hid hvalm
      have qm : (((m.length : Nat) : Int) == 0) = false := by rw [beq_eq_false_iff_ne]; omega
      have qm2 : decide (0 < ((m.length : Nat) : Int)) = true := decide_eq_true (by omega)
      have Hg := Lib.hid (Hgi.out _ HW6.out)
      clear hW hR6 hallm hvalm hy
      by_cases hg : haveErr vars hv = 0
      · have qg : (haveErr vars hv == 0) = true := by rw [beq_iff_eq]; exact hg
        rw [qg] at Hg
        obtain ⟨v1, v6, hc20, hsok⟩ := Hx.out
        rw [List.length_append] at hc20
        obtain ⟨hhl, hhb⟩ := haveErr_ok hg
        have Ht1 := Lib.hid (refTerm_calls vars A5 H l hv c5 ch w6 HR56.out (Rd.below HH.out HW6.out) hl1 hl64 v6 (by have := Hall.out; rw [Int.toNat_of_nonneg (by omega)] at this; exact this) hg)
        have Hdo := Lib.hid (fun w' (h : Below w.heap.size w w') => doing_calls vars A H a hv ca ch w' (Rd.below HA.out h) (Rd.below HH.out h) hhl (by omega) (by omega) (by omega) (fun s hs => hsok s (List.mem_append_left _ hs)) hhb)
        have Hg9 := Lib.hid (haveErr_zero (vars := vars) (by rw [dgR_len]; exact hhl) (dgR_bd (vars := vars) (fun s hs => hsok s (List.mem_append_left _ hs)) hhb))
        clear hsok hhb hg
        go_wp2_with (first
          | (go_at_call 26; refine Hg.out.mono ?_; rintro e w7 ⟨rfl, rfl⟩)
          | fail)
        all_goals (try (exfalso; omega; done))
        refine Ht1.out.mono ?_
        rintro e w8 ⟨rfl, hW8⟩
        have HW8 := Lib.hid (HW6.out.trans (hW8.mono HW6.out.size))
        have HR8 := Lib.hid (Rd.below HR6.out hW8)
        clear hW8
        go_wp2_with fail
        refine (Hdo.out _ HW8.out).mono ?_
        rintro e w9 ⟨x, rfl, hO9, hW9⟩
        obtain ⟨A9, c9, rfl, hR9⟩ := OwnI.rd hO9
        have HW9 := Lib.hid (HW8.out.trans (hW9.mono HW8.out.size))
        have Ht2 := Lib.hid (refTerm_calls vars A6 A9 m (dgR hv a) c6 c9 w9 (Rd.below HR8.out hW9) hR9 hm1 hm64 v6 (by have := Hallm.out; rw [Int.toNat_of_nonneg (by omega)] at this; exact this) Hg9.out)
        have he : tVal hv l = tVal (dgR hv a) m := by rw [Hval.out hv (by omega), Hvalm.out (dgR hv a) (by rw [dgR_len]; omega), dgR_append]
        rw [← he] at Ht2
        generalize tVal hv l = tv at *
        clear hO9 hW9 hR9 he
        go_wp2_with fail
        refine Ht2.out.mono ?_
        rintro e w10 ⟨rfl, hW10⟩
        have HW10 := Lib.hid (HW9.out.trans (hW10.mono HW9.out.size))
        clear hW10
        go_wp2
        go_ret
        exact ⟨by first | rfl | exact ret_bool (by simp), HW10.out⟩
      · have qg : (haveErr vars hv == 0) = false := by rw [beq_eq_false_iff_ne]; exact hg
        rw [qg] at Hg
        clear hg
        go_wp2_with (go_at_call 26; refine Hg.out.mono ?_; rintro e w7 ⟨rfl, rfl⟩)
        all_goals (try (exfalso; omega; done))
        all_goals (go_ret; exact ⟨by first | rfl | exact ret_bool (decide_eq_true (by omega)), HW6.out⟩)
end Go.Proofs.Ytmgejacndhnikaa
