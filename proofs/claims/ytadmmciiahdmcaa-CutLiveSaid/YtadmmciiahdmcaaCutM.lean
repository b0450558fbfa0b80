/- CutLive, plain: what is cut is no more than what is trimmed. -/
import Derived.Test.YtadmmciiahdmcaaCutJ
import Derived.Test.YtadmmciiahdmcaaLivU
namespace Go.Proofs.Ytadmmciiahdmcaa
open Go.RowKit

theorem kp_kp : ∀ {c : List Step} {l l' : Nat}, (∀ s ∈ c, s.to.toNat < 32) → Sub32 l l' → kpC (kpC c l') l = kpC c l ∧ ctC (kpC c l') l = ctC c l
  | [], _, _, _, _ => ⟨rfl, rfl⟩
  | s :: c, l, l', hc, h => by
    have hc' : ∀ t ∈ c, t.to.toNat < 32 := fun t ht => hc t (by simp [ht])
    obtain ⟨h1, h2⟩ := kp_kp hc' h
    by_cases hk : (ctC c l').testBit s.to.toNat = true
    · rw [(kpC_yes hk).1]
      by_cases hk2 : (ctC c l).testBit s.to.toNat = true
      · have hk3 : (ctC (kpC c l') l).testBit s.to.toNat = true := by rw [h2]; exact hk2
        rw [(kpC_yes hk3).1, (kpC_yes hk3).2, (kpC_yes hk2).1, (kpC_yes hk2).2, h1, h2]
        exact ⟨rfl, rfl⟩
      · have hk3 : ¬ (ctC (kpC c l') l).testBit s.to.toNat = true := by rw [h2]; exact hk2
        rw [(kpC_no hk3).1, (kpC_no hk3).2, (kpC_no hk2).1, (kpC_no hk2).2, h1, h2]
        exact ⟨rfl, rfl⟩
    · have hk2 : ¬ (ctC c l).testBit s.to.toNat = true := fun hb => hk (ctC_sub hc' h _ (hc s (by simp)) hb)
      rw [(kpC_no hk).1, (kpC_no hk2).1, (kpC_no hk2).2]
      exact ⟨h1, h2⟩
theorem ah_kp : ∀ (c : List Step) (l : Nat), ahC (kpC c l) l = ctC c l
  | [], _ => rfl
  | s :: c, l => by
    have ih := ah_kp c l
    by_cases hk : (ctC c l).testBit s.to.toNat = true
    · rw [(kpC_yes hk).1, (kpC_yes hk).2, ahC_cons, ih]
    · rw [(kpC_no hk).1, (kpC_no hk).2, ih]
theorem kp_len : ∀ {c : List Step} {l l' : Nat}, (∀ s ∈ c, s.to.toNat < 32) → Sub32 l l' → (kpC c l).length ≤ (kpC c l').length
  | [], _, _, _, _ => Nat.le_refl _
  | s :: c, l, l', hc, h => by
    have hc' : ∀ t ∈ c, t.to.toNat < 32 := fun t ht => hc t (by simp [ht])
    have ih := kp_len hc' h
    by_cases hk2 : (ctC c l).testBit s.to.toNat = true
    · have hk : (ctC c l').testBit s.to.toNat = true := ctC_sub hc' h _ (hc s (by simp)) hk2
      rw [(kpC_yes hk).1, (kpC_yes hk2).1]
      simp only [List.length_cons]; omega
    · rw [(kpC_no hk2).1]
      by_cases hk : (ctC c l').testBit s.to.toNat = true
      · rw [(kpC_yes hk).1, List.length_cons]; omega
      · rw [(kpC_no hk).1]; exact ih
theorem nxB_tr (want : Nat) (F : List Nat) (b : Blk) : nxB (trB want F b) = nxB b := rfl
theorem bhL_tr (want : Nat) (F G : List Nat) (b : Blk) : bhL want G (trB want F b) = bhL want G b := rfl
/-- With steps left out no more is needed ahead of any block. -/
theorem tr_post {vars : Int} {n : Nat} (hn : vars = n) {want : Nat} (hw : want < 2 ^ n) {p : List Blk} (hp : POk vars p) {F F' : List Nat} (h0 : pkErr vars p = 0) (h : SolL p want F) (h' : SolL (trM p want F) want F') : leU F' F := by
  have hp' := pok_of (pkErr_tr want F h0)
  have hF := h.lt hp hn hw
  refine SolL.least hp' hn hw h' hF fun i => ?_
  by_cases hi : i < p.length
  · have hb := hp.bs _ (List.getElem_mem hi)
    rw [← bget hi] at hb
    have h6 := hp.v6
    rw [getU_phL want F (by rw [trM_len]; exact hi), trM_get want F hi, bhL_tr]
    show leN (ahC (kpC (p.getD i bnul).code (bhL want F (p.getD i bnul))) (bhL want F (p.getD i bnul))) _
    rw [ah_kp]
    have e := getU_phL want F hi
    rw [h.2] at e
    rw [e]
    have hlt := ctC_lt hn (by omega) hb.code (bhL_lt hb hn hw hF)
    exact (ct_ah _ (to32 h6 hb.code)).leN (Nat.lt_of_lt_of_le hlt (Nat.le_trans (Nat.pow_le_pow_right (by decide) (show n ≤ 6 by omega)) (by decide)))
  · rw [getU_out (by rw [phL_len, trM_len]; omega)]
    intro k hk
    rw [Nat.zero_testBit] at hk; cases hk
theorem TrR.sol {want : Nat} {p q : List Blk} (h : TrR want p q) : ∃ F, SolL p want F := by
  cases h with
  | done a _ => exact ⟨_, a⟩
  | step a _ => exact ⟨_, a⟩
/-- What is left in the end is, of the whole, what is needed with the end's own sets. -/
theorem TrR.ends {vars : Int} {n : Nat} (hn : vars = n) {want : Nat} (hw : want < 2 ^ n) {p q : List Blk} (h : TrR want p q) : pkErr vars p = 0 → ∃ G, SolL q want G ∧ ltU G (2 ^ n) ∧ (∀ F, SolL p want F → leU G F) ∧ q.length = p.length ∧ ∀ (i : Nat) (b : Blk), p[i]? = some b → q[i]? = some { b with code := kpC b.code (bhL want G b) } ∧ ctC b.code (bhL want G b) = getU G i := by
  induction h with
  | @done p F h1 h2 =>
    intro h0
    have hp := pok_of h0
    refine ⟨F, h1, h1.lt hp hn hw, fun F' hF' => by rw [h1.uniq hF']; exact fun _ _ h => h, rfl, fun i b hb => ?_⟩
    have hi := (List.getElem?_eq_some_iff.1 hb).1
    have hgb : p.getD i bnul = b := by rw [List.getD_eq_getElem?_getD, hb]; rfl
    have h3 : (trM p want F)[i]? = some (trB want F b) := by unfold trM; rw [List.getElem?_map, hb]; rfl
    refine ⟨by rw [h2] at h3; exact h3, ?_⟩
    have e := getU_phL want F hi
    rw [h1.2, hgb] at e
    rw [h2, hb] at h3
    injection h3 with h3
    have h4 : b.code = kpC b.code (bhL want F b) := congrArg Blk.code h3
    rw [e]
    conv => rhs; rw [h4]
    rw [ah_kp]
  | @step p q F h1 h2 ih =>
    intro h0
    have hp := pok_of h0
    obtain ⟨G, g1, g2, g3, g4, g5⟩ := ih (pkErr_tr want F h0)
    have hFl := h1.lt hp hn hw
    have hGF : leU G F := by
      -- the pass's own solution lies between
      refine fun i => ?_
      obtain ⟨F', hF'⟩ := h2.sol
      exact (g3 F' hF' i).trans (tr_post hn hw hp h0 h1 hF' i)
    refine ⟨G, g1, g2, fun F' hF' => by rw [hF'.uniq h1]; exact hGF, by rw [g4, trM_len], fun i b hb => ?_⟩
    have hi := (List.getElem?_eq_some_iff.1 hb).1
    have h3 : (trM p want F)[i]? = some (trB want F b) := by unfold trM; rw [List.getElem?_map, hb]; rfl
    obtain ⟨k1, k2⟩ := g5 i _ h3
    have hbo := hp.bs b (List.mem_of_getElem? hb)
    have hsub : Sub32 (bhL want G b) (bhL want F b) := (bhL_mono (leN.refl want) hGF).to32
    have hkk := kp_kp (to32 hp.v6 hbo.code) hsub
    rw [bhL_tr] at k1 k2
    have e1 : (trB want F b).code = kpC b.code (bhL want F b) := rfl
    rw [e1] at k1 k2
    rw [hkk.1] at k1
    rw [hkk.2] at k2
    exact ⟨k1, k2⟩
/-- Of each block no more is left by what hangs on what than with all tests. -/
theorem cut_live {n : Nat} {p q r : List Blk} {want : Nat} {T : Tri} {f : Nat → Int} (h : Wz n p want T f q) (h0 : pkErr (n : Int) p = 0) (hr : TrR want p r) : r.length = p.length ∧ ∀ (i : Nat) (b : Blk), p[i]? = some b → ∃ c d : Blk, q[i]? = some c ∧ r[i]? = some d ∧ c.code.length ≤ d.code.length ∧ d.code.length ≤ b.code.length := by
  obtain ⟨G, g1, g2, -, g4, g5⟩ := hr.ends rfl h.hw h0
  refine ⟨g4, fun i b hb => ?_⟩
  obtain ⟨k1, k2⟩ := g5 i b hb
  refine ⟨_, _, h.hq.2 i b hb, k1, ?_, (kpC_sub _ _).length_le⟩
  have hbe : ∀ i b, p[i]? = some b → beC want G (W.setTo (fun i => ∃ b, p[i]? = some b ∧ 0 ≤ b.test) 8) i b = bhL want G b := fun i b hb => set_ext fun k => by
    have hi := (List.getElem?_eq_some_iff.1 hb).1
    have hbo := h.hp.bs b (List.mem_of_getElem? hb)
    have h8 := h.hp.n8
    rw [Bool.eq_iff_iff, beC_bit, bhL_bit, bh0_bit, W.setTo_bit]
    constructor
    · rintro ((h1 | h1) | ⟨⟨_, b', hb', h2⟩, h3⟩)
      · exact .inl (.inl h1)
      · exact .inr h1
      · rw [hb] at hb'
        injection hb' with hb'
        subst hb'
        have := hbo.two h2
        exact .inl (.inr ⟨by unfold nxB; rw [if_pos this.1.1]; simp, h2, h3⟩)
    · rintro ((h1 | ⟨_, h2, h3⟩) | h1)
      · exact .inl (.inl h1)
      · exact .inr ⟨⟨by omega, b, hb, h2⟩, h3⟩
      · exact .inl (.inr h1)
  have hC : Clo p (getU (W.onL (nexts p))) want ⟨G, fun i k => ∃ b, p[i]? = some b ∧ ctM b.code (bhL want G b) k, W.setTo (fun i => ∃ b, p[i]? = some b ∧ 0 ≤ b.test) 8⟩ := by
    refine ⟨fun i b hb => ?_, fun i b k hb hm => ⟨b, hb, ?_⟩, fun i b j hb h0 hj ho hd => ?_⟩
    · show Sub32 (ctC b.code (beC want G _ i b)) (getU G i)
      rw [hbe i b hb, (g5 i b hb).2]; exact Sub32.refl _
    · have hm : ctM b.code (beC want G _ i b) k := hm
      rw [hbe i b hb] at hm; exact hm
    · have hi := (List.getElem?_eq_some_iff.1 hb).1
      have h8 := h.hp.n8
      exact (W.setTo_bit _ _ _).2 ⟨by omega, b, hb, h0⟩
  have hle := h.hl _ hC
  have hsub := beC_sub (w := want) (w' := want) (fun _ h => h) hle i b
  have hsub : Sub32 (beC want T.F T.t i b) (bhL want G b) := by rw [← hbe i b hb]; exact hsub
  have hbo := h.hp.bs b (List.mem_of_getElem? hb)
  have e : (slB want T.F T.t f i b).code = kpC b.code (beC want T.F T.t i b) := by unfold slB; split <;> rfl
  rw [e]
  exact kp_len (to32 h.hp.v6 hbo.code) hsub
end Go.Proofs.Ytadmmciiahdmcaa
namespace Go.Proofs.Ytadmmciiahdmcaa
set_option maxRecDepth 100000
open Go.RowKit

theorem small_okC {vars : Int} {q : List Blk} (h : pkErr vars q = 0) : smallB q := fun b hb => by
  have h1 := (pok_of h).many
  have h2 := manyB_mem hb
  omega
set_option maxHeartbeats 1000000 in
theorem trim_badC (vars : Int) (A : Option Addr) (p : List Blk) (cap want : Nat) (w : World) (hA : RdBk w A p) (hm : p.length ≤ maxLen) (hmc : smallB p) (h0 : lvErr vars p want ≠ 0) :
    Calls Try.prog 27 #[.int .i64 vars, .slice A p.length cap, .int .u32 want] w fun e w' => (∃ x, x ≠ 0 ∧ e = .returned (.tuple #[.slice none 0 0, .int .i64 x])) ∧ Below w.heap.size w w' := by
  have Hwr := Lib.hid (lvWrong_calls vars A p cap want w hA hm hmc)
  have q : (lvErr vars p want != 0) = true := by rw [bne_iff_ne]; exact h0
  have H0 := Lib.hid h0
  clear hA h0
  generalize lvErr vars p want = x at *
  refine calls_of_marks Try.func27 rfl ?_
  simp only [Try.ntmps27, List.size_toArray, List.length_cons, List.length_nil, Nat.reduceAdd, Nat.reduceSub, Array.replicate_succ, Array.replicate_zero, List.push_toArray, List.append_toArray, List.nil_append, List.cons_append]
  go_wp2_with (go_at_call 43; refine Hwr.out.mono ?_; rintro e w1 ⟨rfl, hW⟩; have HW1 := Lib.hid hW; clear hW)
  refine marks_all (Marks.nil w1.heap.size _) (fun W' hS => ⟨_, results_tmp2 rfl _ _ _, ⟨x, H0.out, rfl⟩, HW1.out.trans (hS.below.mono HW1.out.size)⟩)
set_option maxHeartbeats 8000000 in
theorem cutLive_u (vars : Int) (A : Option Addr) (p : List Blk) (cap want : Nat) (w : World) (hA : RdBk w A p) (hm : p.length ≤ maxLen) (hmc : smallB p) :
    Calls Try.prog 14 #[.int .i64 vars, .slice A p.length cap, .int .u32 want] w fun e w' => e = .returned (.bool true) ∧ Below w.heap.size w w' := by
  have HA := Lib.hid hA
  by_cases h0 : pkErr vars p ≠ 0
  · have hl : lvErr vars p want ≠ 0 := by unfold lvErr; rw [if_neg h0]; exact h0
    have H1 := Lib.hid (slice_bad vars A p cap want w hA hm hmc h0)
    have H2 := Lib.hid fun (w' : World) (hb : Below w.heap.size w w') => trim_badC vars A p cap want w' (HA.out.below hb) hm hmc hl
    clear hA h0 hl
    go_enter Try.func14, Try.ntmps14
    go_upto_region 3 with (first
      | (go_at_call 37; refine H1.out.mono ?_; rintro e w1 ⟨⟨x, hx, rfl⟩, hW⟩; have HW1 := Lib.hid hW; have Hx := Lib.hid hx; clear hW hx)
      | (go_at_call 27; refine (H2.out _ HW1.out).mono ?_; rintro e w2 ⟨⟨y, hy, rfl⟩, hW⟩; have HW2 := Lib.hid (HW1.out.trans (hW.mono HW1.out.size)); clear hW hy))
    have q : (x != 0) = true := by rw [bne_iff_ne]; exact Hx.out
    go_wp2
    go_ret
    exact ⟨rfl, HW2.out⟩
  have h0 : pkErr vars p = 0 := by simpa using h0
  have hp := pok_of h0
  obtain ⟨n, rfl⟩ := Int.eq_ofNat_of_zero_le (show 0 ≤ vars by have := hp.v1; omega)
  have HP := Lib.hid hp
  have hn1 := hp.n1
  have hn8 := hp.n8
  have H0 := Lib.hid h0
  have H1 := Lib.hid (slice_calls n A p cap want w hA hm hmc)
  by_cases hwn : want < 2 ^ n
  · have H2 := Lib.hid fun (w' : World) (hb : Below w.heap.size w w') => trim_ok n A p cap want w' (HA.out.below hb) hm hmc h0 hwn
    clear hA h0 hp hwn
    go_enter Try.func14, Try.ntmps14
    go_wp2_with fail
    go_at_call 37
    with_reducible refine H1.out.mono ?_
    clear H1
    rintro e w1 ⟨(⟨x, hx, rfl⟩ | ⟨-, hwn, Aq, cq, q, T, f, rfl, hRq, hZ⟩), hW⟩
    · have HW1 := Lib.hid hW
      have Hx := Lib.hid hx
      clear hW hx
      go_upto_region 3 with (go_at_call 27; refine (H2.out _ HW1.out).mono ?_; rintro e w2 ⟨Ar, cr, r, rfl, hT, hRr, hrl, hW⟩; have HW2 := Lib.hid (HW1.out.trans (hW.mono HW1.out.size)); clear hW hT hRr)
      have q : (x != 0) = true := by rw [bne_iff_ne]; exact Hx.out
      go_wp2
      go_ret
      exact ⟨rfl, HW2.out⟩
    · have HW1 := Lib.hid hW
      have HZ := Lib.hid hZ
      have HRq := Lib.hid hRq
      have hql := hZ.hq.1
      clear hW hZ hRq hwn
      go_wp2_with fail
      go_at_call 27
      with_reducible refine (H2.out _ HW1.out).mono ?_
      rintro e w2 ⟨Ar, cr, r, rfl, hT, hRr, hrl, hW⟩
      have HW2 := Lib.hid (HW1.out.trans (hW.mono HW1.out.size))
      have HRq2 := Lib.hid (HRq.out.below hW)
      have HRr := Lib.hid hRr
      have HA2 := Lib.hid (HA.out.below HW2.out)
      have Hcl := Lib.hid (cut_live HZ.out H0.out hT).2
      have q0 : (((p.length : Nat) : Int) != ((p.length : Nat) : Int)) = false := by simp
      clear hW hT hRr H2
      go_wp2_with fail
      go_loopw [49] (fun i wr => ∃ k : Nat, k ≤ p.length ∧ i = .int .i64 k ∧ Hid (∃ nq, wr = w2.drewN nq)) (fun i _ => p.length - (intOf i).toNat)
      case atStart => exact ⟨0, Nat.zero_le _, rfl, Lib.hid ⟨0, rfl⟩⟩
      case round =>
        obtain ⟨k, hk, rfl, HWe⟩ := hrel
        have HWn : Hid (∀ nq, ∃ m, wr.drewN nq = w2.drewN m) := Lib.hid (by obtain ⟨n0, rfl⟩ := HWe.out; exact fun nq => ⟨n0 + nq, World.drewN_drewN _ _ _⟩)
        have Hcc : Hid (∀ a, wr.cell? a = w2.cell? a) := Lib.hid (by obtain ⟨n0, rfl⟩ := HWe.out; exact fun _ => rfl)
        by_cases hlt : k < p.length
        · have Hlt := Lib.hid hlt
          have q1 : ((k : Nat) : Int) < ((p.length : Nat) : Int) := by omega
          obtain ⟨pa, oa, A1, d1, rfl, -, a0, -⟩ := RdBk.at_ HRq2.out (k := k) (by omega)
          obtain ⟨pb, ob, B1, d2, rfl, -, b0, -⟩ := RdBk.at_ HRr.out (k := k) (by omega)
          obtain ⟨pc, oc, C1, d3, rfl, -, c0, -⟩ := RdBk.at_ HA2.out hlt
          obtain ⟨c, d, e1, e2, e3, e4⟩ := Hcl.out k _ (List.getElem?_eq_getElem hlt)
          rw [List.getElem?_eq_getElem (by omega)] at e1 e2
          injection e1 with e1
          injection e2 with e2
          rw [e1] at a0
          rw [e2] at b0
          rw [← Hcc.out] at a0 b0 c0
          generalize p[k].code.length = n3 at *
          generalize c.code.length = n1 at *
          generalize d.code.length = n2 at *
          have d5 : ¬ ((n2 : Int) < (n1 : Int)) := by omega
          have d6 : ¬ ((n3 : Int) < (n2 : Int)) := by omega
          have d7 : decide ((n1 : Int) > (n2 : Int)) = false := decide_eq_false (by omega)
          have d8 : decide ((n2 : Int) > (n3 : Int)) = false := decide_eq_false (by omega)
          have d9 : decide ((n2 : Int) < (n1 : Int)) = false := decide_eq_false (by omega)
          have d10 : decide ((n3 : Int) < (n2 : Int)) = false := decide_eq_false (by omega)
          clear e1 e2 hlt
          go_wp2
          go_quiet (fail)
          go_wp2
          go_roundw
          case rel => exact ⟨k + 1, by have := Hlt.out; omega, by go_num, Lib.hid (HWn.out _)⟩
          case measure => have := Hlt.out; simp [intOf]; omega
        · have : k = p.length := by omega
          subst this
          have hll : ¬ ((p.length : Int) < (p.length : Int)) := by omega
          have HWf : Hid (Below w.heap.size w wr) := Lib.hid (by obtain ⟨n0, rfl⟩ := HWe.out; exact below_dN HW2.out _)
          clear hlt hk
          go_wp2
          go_ret
          exact ⟨rfl, HWf.out⟩
  · have hl : lvErr (n : Int) p want ≠ 0 := by unfold lvErr; rw [if_pos h0, Int.toNat_natCast, if_neg hwn]; decide
    have H2 := Lib.hid fun (w' : World) (hb : Below w.heap.size w w') => trim_badC (n : Int) A p cap want w' (HA.out.below hb) hm hmc hl
    have Hwn := Lib.hid hwn
    clear hA h0 hp hwn hl
    go_enter Try.func14, Try.ntmps14
    go_wp2_with fail
    go_at_call 37
    with_reducible refine H1.out.mono ?_
    clear H1
    rintro e w1 ⟨(⟨x, hx, rfl⟩ | ⟨-, hwn, -⟩), hW⟩
    · have HW1 := Lib.hid hW
      have Hx := Lib.hid hx
      clear hW hx
      go_upto_region 3 with (go_at_call 27; refine (H2.out _ HW1.out).mono ?_; rintro e w2 ⟨⟨y, hy, rfl⟩, hW⟩; have HW2 := Lib.hid (HW1.out.trans (hW.mono HW1.out.size)); clear hW hy)
      have q : (x != 0) = true := by rw [bne_iff_ne]; exact Hx.out
      go_wp2
      go_ret
      exact ⟨rfl, HW2.out⟩
    · exact absurd hwn Hwn.out
end Go.Proofs.Ytadmmciiahdmcaa
