/- Package whole: wrong, Make. -/
import Derived.Test.YtmgejacndhnikaaMchU
import Derived.Test.YtmgejacndhnikaaKnG
import Derived.Test.YtmgejacndhnikaaLivU
import Derived.Test.YtmgejacndhnikaaBlkE
import Derived.Test.YtmgejacndhnikaaAndN
namespace Go.Proofs.Ytmgejacndhnikaa
set_option maxRecDepth 100000
open Go.RowKit

/-- May a program be, a beginning, and variables? -/
def MadeB (vars : Int) (p : List Blk) (st : List Int) (want : Nat) : Prop := pkErr vars p = 0 ∧ startErr vars st = 0 ∧ want < 2 ^ vars.toNat
set_option maxHeartbeats 1000000 in
theorem wWrong_ok (vars : Int) (A B : Option Addr) (p : List Blk) (st : List Int) (cap capB want : Nat) (w : World) (hA : RdBk w A p) (hB : RdI w B st) (hm : p.length ≤ maxLen) (hmc : smallB p) (hm' : st.length ≤ maxLen) (h : MadeB vars p st want) :
    Calls Try.prog 38 #[.int .i64 vars, .slice A p.length cap, .slice B st.length capB, .int .u32 want] w fun e w' => e = .returned (.int .i64 0) ∧ Below w.heap.size w w' := by
  obtain ⟨h1, h2, h3⟩ := h
  have Hin := Lib.hid (knIn_ok vars A B p st cap capB w hA hB hm hmc hm' h1 h2)
  have hv := (pok_of h1).v1
  have hv6 := (pok_of h1).v6
  obtain ⟨n, rfl⟩ := Int.eq_ofNat_of_zero_le (show 0 ≤ vars by omega)
  rw [Int.toNat_natCast] at h3
  have hs := shr_u32 want n
  rw [(shr_zero want n).2 h3] at hs
  clear hA hB h1 h2 h3
  go_enter Try.func38, Try.ntmps38
  go_wp2_with (go_at_call 85; (with_reducible refine Hin.out.mono ?_); rintro e w1 ⟨F, vals, b, B', rfl, -, -, -, hW⟩; have HW1 := Lib.hid hW; clear hW)
  go_ret
  exact ⟨rfl, HW1.out⟩
set_option maxHeartbeats 1000000 in
theorem wWrong_bad (vars : Int) (A B : Option Addr) (p : List Blk) (st : List Int) (cap capB want : Nat) (w : World) (hA : RdBk w A p) (hB : RdI w B st) (hm : p.length ≤ maxLen) (hmc : smallB p) (hm' : st.length ≤ maxLen) (h : ¬ MadeB vars p st want) :
    Calls Try.prog 38 #[.int .i64 vars, .slice A p.length cap, .slice B st.length capB, .int .u32 want] w fun e w' => (∃ x, x ≠ 0 ∧ e = .returned (.int .i64 x)) ∧ Below w.heap.size w w' := by
  by_cases h12 : pkErr vars p = 0 ∧ startErr vars st = 0
  · obtain ⟨h1, h2⟩ := h12
    have h3 : ¬ want < 2 ^ vars.toNat := fun h3 => h ⟨h1, h2, h3⟩
    have Hin := Lib.hid (knIn_ok vars A B p st cap capB w hA hB hm hmc hm' h1 h2)
    have hv := (pok_of h1).v1
    have hv6 := (pok_of h1).v6
    obtain ⟨n, rfl⟩ := Int.eq_ofNat_of_zero_le (show 0 ≤ vars by omega)
    rw [Int.toNat_natCast] at h3
    have hs := shr_u32 want n
    have h4 : want >>> n ≠ 0 := fun e => h3 ((shr_zero want n).1 e)
    have q : (((want >>> n : Nat) : Int) != 0) = true := by rw [bne_iff_ne]; omega
    clear hA hB h1 h2 h3 h4 h
    generalize want >>> n = x at *
    go_enter Try.func38, Try.ntmps38
    go_wp2_with (go_at_call 85; (with_reducible refine Hin.out.mono ?_); rintro e w1 ⟨F, vals, b, B', rfl, -, -, -, hW⟩; have HW1 := Lib.hid hW; clear hW)
    go_ret
    exact ⟨⟨4, by decide, rfl⟩, HW1.out⟩
  · have Hin := Lib.hid (knIn_bad vars A B p st cap capB w hA hB hm hmc hm' (by
      by_cases h1 : pkErr vars p = 0
      · exact .inr fun h2 => h12 ⟨h1, h2⟩
      · exact .inl h1))
    clear hA hB h h12
    go_enter Try.func38, Try.ntmps38
    go_wp2_with fail
    (with_reducible refine Hin.out.mono ?_)
    rintro e w1 ⟨⟨x, hx, rfl⟩, hW⟩
    have HW1 := Lib.hid hW
    have q : (x != 0) = true := by rw [bne_iff_ne]; exact hx
    have Hx := Lib.hid hx
    clear hW hx
    go_wp2_with fail
    go_ret
    exact ⟨⟨x, Hx.out, rfl⟩, HW1.out⟩
/-- What Make makes: the bytes of the program, or of the one that is left of it. -/
def MadeQ (vars : Int) (p : List Blk) (st : List Int) (want : Nat) (c : List Int) : Prop :=
  c.length ≤ (progY p).length ∧ (c = progY p ∨ ∃ F q, SolK vars p st F ∧ TrR want (foldP p F) q ∧ pkErr vars q = 0 ∧ c = progY q)
def MakeE (vars : Int) (p : List Blk) (st : List Int) (want : Nat) (w : World) (e : Ending) (w' : World) : Prop :=
  Below w.heap.size w w' ∧ ∃ v c, e = .returned (.tuple #[v, .int .i64 0]) ∧ OwnB w' w.heap.size v c ∧ MadeQ vars p st want c
theorem small_ok {vars : Int} {q : List Blk} (h : pkErr vars q = 0) : smallB q := fun b hb => by
  have h1 := (pok_of h).many
  have h2 := manyB_mem hb
  omega
theorem pkErr_pok {vars : Int} {p : List Blk} (h : POk vars p) : pkErr vars p = 0 := pkErr_of h
set_option maxHeartbeats 4000000 in
theorem make_bad (vars : Int) (A B : Option Addr) (p : List Blk) (st : List Int) (cap capB want : Nat) (w : World) (hA : RdBk w A p) (hB : RdI w B st) (hm : p.length ≤ maxLen) (hmc : smallB p) (hm' : st.length ≤ maxLen) (h : ¬ MadeB vars p st want) :
    Calls Try.prog 12 #[.int .i64 vars, .slice A p.length cap, .slice B st.length capB, .int .u32 want] w fun e w' => (∃ x, x ≠ 0 ∧ e = .returned (.tuple #[.slice none 0 0, .int .i64 x])) ∧ Below w.heap.size w w' := by
  have Hwr := Lib.hid (wWrong_bad vars A B p st cap capB want w hA hB hm hmc hm' h)
  clear hA hB h
  go_enter Try.func12, Try.ntmps12
  go_wp2_with fail
  (with_reducible refine Hwr.out.mono ?_)
  rintro e w1 ⟨⟨x, hx, rfl⟩, hW⟩
  have HW1 := Lib.hid hW
  have q : (x != 0) = true := by rw [bne_iff_ne]; exact hx
  have Hx := Lib.hid hx
  clear hW hx
  go_wp2_with fail
  go_ret2
  exact ⟨⟨x, Hx.out, rfl⟩, HW1.out⟩
set_option maxHeartbeats 8000000 in
theorem make_ok (vars : Int) (A B : Option Addr) (p : List Blk) (st : List Int) (cap capB want : Nat) (w : World) (hA : RdBk w A p) (hB : RdI w B st) (hm : p.length ≤ maxLen) (hmc : smallB p) (hm' : st.length ≤ maxLen) (h : MadeB vars p st want) :
    Calls Try.prog 12 #[.int .i64 vars, .slice A p.length cap, .slice B st.length capB, .int .u32 want] w (MakeE vars p st want w) := by
  have Hwr := Lib.hid (wWrong_ok vars A B p st cap capB want w hA hB hm hmc hm' h)
  obtain ⟨h1, h2, h3⟩ := h
  have hv := (pok_of h1).v1
  obtain ⟨n, rfl⟩ := Int.eq_ofNat_of_zero_le (show 0 ≤ vars by omega)
  rw [Int.toNat_natCast] at h3
  have HA := Lib.hid hA
  have HB := Lib.hid hB
  have H1 := Lib.hid h1
  have H2 := Lib.hid h2
  have H3 := Lib.hid h3
  have HP := Lib.hid (pok_of h1)
  clear hA hB h1 h2 h3
  go_enter Try.func12, Try.ntmps12
  go_wp2_with fail
  (with_reducible refine Hwr.out.mono ?_)
  rintro e w1 ⟨rfl, hW⟩
  have HW1 := Lib.hid hW
  clear hW Hwr
  have Hf := Lib.hid (knFold_ok (n : Int) A B p st cap capB w1 (HA.out.below HW1.out) (Rd.below HB.out HW1.out) hm hmc hm' H1.out H2.out)
  go_wp2_with fail
  (with_reducible refine Hf.out.mono ?_)
  rintro e w2 ⟨F, vf, rfl, hS, hO, hW⟩
  have HW2 := Lib.hid (HW1.out.trans (hW.mono HW1.out.size))
  obtain ⟨Af, cf, rfl, hRf⟩ := OwnBk.rd hO
  have HS := Lib.hid hS
  have Hfl := Lib.hid (foldP_len hS.1.len)
  have HF1 := Lib.hid (pkErr_pok (foldP_ok HP.out hS.1))
  have HRf := Lib.hid hRf
  clear hS hO hRf hW Hf
  have Ht := Lib.hid (trim_ok n Af (foldP p F) cf want w2 HRf.out (by rw [Hfl.out]; exact hm) (small_ok HF1.out) HF1.out H3.out)
  go_wp2_with fail
  (with_reducible refine Ht.out.mono ?_)
  rintro e w3 ⟨Aq, cq, q, rfl, hT, hRq, hql, hW⟩
  have HW3 := Lib.hid (HW2.out.trans (hW.mono HW2.out.size))
  have hq := (hT.run rfl H3.out HF1.out).1
  have HQ := Lib.hid hq
  have HT := Lib.hid hT
  have HRq := Lib.hid hRq
  rw [← hql]
  have Hql := Lib.hid hql
  clear hT hRq hW Ht hq hql
  have Hc := Lib.hid (code_calls (n : Int) Aq q cq w3 HRq.out (by rw [Hql.out, Hfl.out]; exact hm) (small_ok HQ.out))
  go_wp2_with fail
  (with_reducible refine Hc.out.mono ?_)
  rintro e w4 ⟨hW, h⟩
  obtain ⟨-, vc, rfl, hO⟩ := h.resolve_left (fun h => h.1 HQ.out)
  obtain ⟨Ac, cc, rfl, -, -⟩ := Own.form byteCells_len hO
  have HO4 := Lib.hid (Own.base_ hO HW3.out.size)
  have HW4 := Lib.hid (HW3.out.trans (hW.mono HW3.out.size))
  clear hW h hO Hc
  have Hd := Lib.hid (code_calls (n : Int) A p cap w4 (HA.out.below HW4.out) hm hmc)
  go_wp2_with fail
  (with_reducible refine Hd.out.mono ?_)
  rintro e w5 ⟨hW, h⟩
  obtain ⟨-, vd, rfl, hO⟩ := h.resolve_left (fun h => h.1 H1.out)
  obtain ⟨Ad, cd, rfl, -, -⟩ := Own.form byteCells_len hO
  have HO5 := Lib.hid (Own.base_ hO HW4.out.size)
  have HO4' := Lib.hid (Own.below HO4.out hW)
  have HW5 := Lib.hid (HW4.out.trans (hW.mono HW4.out.size))
  clear hW h hO Hd HO4
  by_cases hlt : (progY p).length < (progY q).length
  · have q1 : decide (((progY p).length : Int) < ((progY q).length : Int)) = true := decide_eq_true (by omega)
    go_wp2_with fail
    go_ret2
    exact ⟨HW5.out, _, _, rfl, HO5.out, Nat.le_refl _, .inl rfl⟩
  · have q1 : decide (((progY p).length : Int) < ((progY q).length : Int)) = false := decide_eq_false (by omega)
    have hge : (progY q).length ≤ (progY p).length := by omega
    go_wp2_with fail
    go_ret2
    exact ⟨HW5.out, _, _, rfl, HO4'.out, hge, .inr ⟨F, q, HS.out, HT.out, HQ.out, rfl⟩⟩
end Go.Proofs.Ytmgejacndhnikaa
namespace Go.Proofs.Ytmgejacndhnikaa
set_option maxRecDepth 100000
open Go.RowKit

theorem progY_pos {vars : Int} {p : List Blk} (hp : POk vars p) : 0 < (progY p).length := by
  have h1 := hp.n1
  obtain ⟨n, hn⟩ : ∃ n, p.length = n + 1 := ⟨p.length - 1, by omega⟩
  have hb := hp.bs _ (List.getElem_mem (show n < p.length by omega))
  unfold progY
  rw [preY_len, hn, begY_succ, bget (by omega)]
  unfold lenY
  by_cases h0 : p[n].thn < 0
  · rw [if_pos h0]; omega
  · have hne : p[n].thn ≠ (n : Int) + 1 := fun e => by
      by_cases ht : 0 ≤ p[n].test
      · have := (hb.two ht).1.2; omega
      · have := hb.one (by have := hb.lo; omega); omega
    rw [if_neg h0, if_pos hne]; omega
set_option maxHeartbeats 2000000 in
theorem made_yes (vars : Int) (A B : Option Addr) (p : List Blk) (st : List Int) (cap capB want : Nat) (w : World) (hA : RdBk w A p) (hB : RdI w B st) (hm : p.length ≤ maxLen) (hmc : smallB p) (hm' : st.length ≤ maxLen) (h : MadeB vars p st want) :
    Calls Try.prog 14 #[.int .i64 vars, .slice A p.length cap, .slice B st.length capB, .int .u32 want] w fun e w' => e = .returned (.bool true) ∧ Below w.heap.size w w' := by
  obtain ⟨h1, h2, h3⟩ := h
  have Hp := Lib.hid (progCheck_calls vars A p cap w hA hm hmc)
  have Hs := Lib.hid (fun w hB => startCheck_calls vars B st capB w hB hm')
  have HB := Lib.hid hB
  have hv := (pok_of h1).v1
  have hv6 := (pok_of h1).v6
  obtain ⟨n, rfl⟩ := Int.eq_ofNat_of_zero_le (show 0 ≤ vars by omega)
  rw [Int.toNat_natCast] at h3
  have Hf := Lib.hid (fun w => fits_calls n want w (by omega))
  rw [decide_eq_true h3] at Hf
  rw [h1] at Hp
  rw [h2] at Hs
  clear hA hB h1 h2 h3
  go_enter Try.func14, Try.ntmps14
  go_wp2_with (first
    | (go_at_call 21; (with_reducible refine Hp.out.mono ?_); rintro e w1 ⟨rfl, hW⟩; have HW1 := Lib.hid hW; clear hW)
    | (go_at_call 44; (with_reducible refine (Hs.out _ (Rd.below HB.out HW1.out)).mono ?_); rintro e w2 ⟨rfl, rfl⟩)
    | (go_at_call 45; (with_reducible refine (Hf.out _).mono ?_); rintro e w3 ⟨rfl, rfl⟩))
  go_ret
  exact ⟨rfl, HW1.out⟩
set_option maxHeartbeats 2000000 in
theorem made_no (vars : Int) (A B : Option Addr) (p : List Blk) (st : List Int) (cap capB want : Nat) (w : World) (hA : RdBk w A p) (hB : RdI w B st) (hm : p.length ≤ maxLen) (hmc : smallB p) (hm' : st.length ≤ maxLen) (h : ¬ MadeB vars p st want) :
    Calls Try.prog 14 #[.int .i64 vars, .slice A p.length cap, .slice B st.length capB, .int .u32 want] w fun e w' => e = .returned (.bool false) ∧ Below w.heap.size w w' := by
  have Hp := Lib.hid (progCheck_calls vars A p cap w hA hm hmc)
  have Hs := Lib.hid (fun w hB => startCheck_calls vars B st capB w hB hm')
  have HB := Lib.hid hB
  by_cases h1 : pkErr vars p = 0
  · have hv := (pok_of h1).v1
    have hv6 := (pok_of h1).v6
    obtain ⟨n, rfl⟩ := Int.eq_ofNat_of_zero_le (show 0 ≤ vars by omega)
    rw [h1] at Hp
    by_cases h2 : startErr (n : Int) st = 0
    · have h3 : ¬ want < 2 ^ n := fun h3 => h ⟨h1, h2, by rw [Int.toNat_natCast]; exact h3⟩
      have Hf := Lib.hid (fun w => fits_calls n want w (by omega))
      rw [decide_eq_false h3] at Hf
      rw [h2] at Hs
      clear hA hB h1 h2 h3 h
      go_enter Try.func14, Try.ntmps14
      go_wp2_with (first
        | (go_at_call 21; (with_reducible refine Hp.out.mono ?_); rintro e w1 ⟨rfl, hW⟩; have HW1 := Lib.hid hW; clear hW)
        | (go_at_call 44; (with_reducible refine (Hs.out _ (Rd.below HB.out HW1.out)).mono ?_); rintro e w2 ⟨rfl, rfl⟩)
        | (go_at_call 45; (with_reducible refine (Hf.out _).mono ?_); rintro e w3 ⟨rfl, rfl⟩))
      go_ret
      exact ⟨rfl, HW1.out⟩
    · have q : (startErr (n : Int) st == 0) = false := by rw [beq_eq_false_iff_ne]; exact h2
      clear hA hB h1 h2 h
      generalize startErr (n : Int) st = y at *
      go_enter Try.func14, Try.ntmps14
      go_wp2_with (first
        | (go_at_call 21; (with_reducible refine Hp.out.mono ?_); rintro e w1 ⟨rfl, hW⟩; have HW1 := Lib.hid hW; clear hW)
        | (go_at_call 44; (with_reducible refine (Hs.out _ (Rd.below HB.out HW1.out)).mono ?_); rintro e w2 ⟨rfl, rfl⟩))
      go_ret
      exact ⟨rfl, HW1.out⟩
  · have q : (pkErr vars p == 0) = false := by rw [beq_eq_false_iff_ne]; exact h1
    clear hA hB h1 h
    generalize pkErr vars p = y at *
    go_enter Try.func14, Try.ntmps14
    go_wp2_with (go_at_call 21; (with_reducible refine Hp.out.mono ?_); rintro e w1 ⟨rfl, hW⟩; have HW1 := Lib.hid hW; clear hW)
    go_ret
    exact ⟨rfl, HW1.out⟩
theorem MadeQ.pos {vars : Int} {p : List Blk} {st : List Int} {want : Nat} {c : List Int} (h : MadeQ vars p st want c) (hp : POk vars p) : 0 < c.length := by
  rcases h.2 with rfl | ⟨F, q, _, _, hq, rfl⟩
  · exact progY_pos hp
  · exact progY_pos (pok_of hq)
set_option maxHeartbeats 8000000 in
theorem topShort_u (vars : Int) (A B : Option Addr) (p : List Blk) (st : List Int) (cap capB want : Nat) (w : World) (hA : RdBk w A p) (hB : RdI w B st) (hm : p.length ≤ maxLen) (hmc : smallB p) (hm' : st.length ≤ maxLen) :
    Calls Try.prog 3 #[.int .i64 vars, .slice A p.length cap, .slice B st.length capB, .int .u32 want] w fun e w' => e = .returned (.bool true) ∧ Below w.heap.size w w' := by
  have HC := Lib.hid (fun w (hA : RdBk w A p) => code_calls vars A p cap w hA hm hmc)
  have HA := Lib.hid hA
  have HB := Lib.hid hB
  by_cases h : MadeB vars p st want
  · have HM := Lib.hid (make_ok vars A B p st cap capB want w hA hB hm hmc hm' h)
    have HD := Lib.hid (fun w hA hB => made_yes vars A B p st cap capB want w hA hB hm hmc hm' h)
    have H0 := Lib.hid h.1
    have HP := Lib.hid (pok_of h.1)
    clear hA hB h
    go_enter Try.func3, Try.ntmps3
    go_wp2_with fail
    (with_reducible refine HM.out.mono ?_)
    rintro e w1 ⟨hW, v, c, rfl, hO, hq⟩
    have HW1 := Lib.hid hW
    obtain ⟨A1, c1, rfl, -, -⟩ := Own.form byteCells_len hO
    have hpos := hq.pos HP.out
    have hle := hq.1
    clear hW hO hq HM
    go_wp2_with fail
    (with_reducible refine (HC.out _ (HA.out.below HW1.out)).mono ?_)
    rintro e w2 ⟨hW, h⟩
    obtain ⟨-, v2, rfl, hO⟩ := h.resolve_left (fun h => h.1 H0.out)
    obtain ⟨A2, c2, rfl, -, -⟩ := Own.form byteCells_len hO
    have HW2 := Lib.hid (HW1.out.trans (hW.mono HW1.out.size))
    clear hW h hO HC
    generalize (progY p).length = m at *
    generalize c.length = n at *
    have q1 : decide ((n : Int) ≤ (m : Int)) = true := decide_eq_true (by omega)
    have q2 : decide ((0 : Int) < (n : Int)) = true := decide_eq_true (by omega)
    go_wp2_with fail
    (with_reducible refine (HD.out _ (HA.out.below HW2.out) (Rd.below HB.out HW2.out)).mono ?_)
    rintro e w3 ⟨rfl, hW⟩
    have HW3 := Lib.hid (HW2.out.trans (hW.mono HW2.out.size))
    clear hW HD
    go_wp2_with fail
    go_ret
    exact ⟨rfl, HW3.out⟩
  · have HM := Lib.hid (make_bad vars A B p st cap capB want w hA hB hm hmc hm' h)
    have HD := Lib.hid (fun w hA hB => made_no vars A B p st cap capB want w hA hB hm hmc hm' h)
    clear hA hB h
    go_enter Try.func3, Try.ntmps3
    go_wp2_with fail
    (with_reducible refine HM.out.mono ?_)
    rintro e w1 ⟨⟨x, hx, rfl⟩, hW⟩
    have HW1 := Lib.hid hW
    have q : (x != 0) = true := by rw [bne_iff_ne]; exact hx
    clear hW hx HM
    go_wp2_with fail
    (with_reducible refine (HC.out _ (HA.out.below HW1.out)).mono ?_)
    rintro e w2 ⟨hW, h⟩
    have HW2 := Lib.hid (HW1.out.trans (hW.mono HW1.out.size))
    have hf : ∃ v2 f2, e = .returned (.tuple #[v2, f2]) := by
      rcases h with ⟨_, rfl⟩ | ⟨_, v2, rfl, _⟩
      · exact ⟨_, _, rfl⟩
      · exact ⟨_, _, rfl⟩
    obtain ⟨v2, f2, rfl⟩ := hf
    clear hW h HC
    go_wp2_with fail
    (with_reducible refine (HD.out _ (HA.out.below HW2.out) (Rd.below HB.out HW2.out)).mono ?_)
    rintro e w3 ⟨rfl, hW⟩
    have HW3 := Lib.hid (HW2.out.trans (hW.mono HW2.out.size))
    clear hW HD
    go_wp2_with fail
    go_ret
    exact ⟨rfl, HW3.out⟩
end Go.Proofs.Ytmgejacndhnikaa
