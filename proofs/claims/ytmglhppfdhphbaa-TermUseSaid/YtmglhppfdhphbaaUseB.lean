/- TermUse walked. -/
import Derived.Test.YtmglhppfdhphbaaUsesA
import Derived.Test.YtmglhppfdhphbaaHave
import Derived.Test.YtmglhppfdhphbaaBitR
import Derived.Test.YtmglhppfdhphbaaAppN
namespace Go.Proofs.Ytmglhppfdhphbaa
open Go.RowKit

/-- The second values, with the first ones' where a bit is set, up to k. -/
def mixTo (s : Nat) (a b : List Int) (n k : Nat) : List Int := (List.range n).map fun i => if i < k ∧ s.testBit i = true then a.getD i 0 else b.getD i 0
section
variable {s n k : Nat} {a b : List Int}
theorem mixTo_len : (mixTo s a b n k).length = n := by simp [mixTo]
theorem mixTo_get (i : Nat) (h : i < (mixTo s a b n k).length) : (mixTo s a b n k)[i] = if i < k ∧ s.testBit i = true then a.getD i 0 else b.getD i 0 := by simp [mixTo]
theorem mixTo_zero (hb : b.length = n) : mixTo s a b n 0 = b := by
  refine List.ext_getElem (by rw [mixTo_len, hb]) fun i h1 h2 => ?_
  rw [mixTo_get, if_neg (by omega), List.getD_eq_getElem?_getD, List.getElem?_eq_getElem h2]; rfl
theorem mixTo_yes (hs : s.testBit k = true) : (mixTo s a b n k).set k (a.getD k 0) = mixTo s a b n (k + 1) := by
  refine List.ext_getElem (by rw [List.length_set, mixTo_len, mixTo_len]) fun i h1 h2 => ?_
  rw [List.getElem_set, mixTo_get, mixTo_get]
  by_cases e : k = i
  · subst e; rw [if_pos rfl, if_pos ⟨by omega, hs⟩]
  · rw [if_neg e]
    by_cases h : i < k ∧ s.testBit i = true
    · rw [if_pos h, if_pos ⟨by omega, h.2⟩]
    · rw [if_neg h, if_neg (fun h' => h ⟨by omega, h'.2⟩)]
theorem mixTo_no (hs : s.testBit k = false) : mixTo s a b n k = mixTo s a b n (k + 1) := by
  refine List.ext_getElem (by rw [mixTo_len, mixTo_len]) fun i h1 h2 => ?_
  rw [mixTo_get, mixTo_get]
  by_cases h : i < k ∧ s.testBit i = true
  · rw [if_pos h, if_pos ⟨by omega, h.2⟩]
  · rw [if_neg h, if_neg]
    rintro ⟨h1, h2⟩
    by_cases e : i = k
    · rw [e, hs] at h2; cases h2
    · exact h ⟨by omega, h2⟩
theorem mixTo_getD (i : Nat) (hi : i < n) : (mixTo s a b n k).getD i 0 = if i < k ∧ s.testBit i = true then a.getD i 0 else b.getD i 0 := by
  rw [List.getD_eq_getElem?_getD, List.getElem?_eq_getElem (by rw [mixTo_len]; exact hi), mixTo_get]; rfl
end
theorem haveErr_of {vars : Int} {l : List Int} (h1 : (l.length : Int) = vars) (h2 : ∀ x ∈ l, 0 ≤ x ∧ x ≤ 255) : haveErr vars l = 0 := by
  unfold haveErr
  rw [if_neg (by omega), if_neg]
  intro h
  obtain ⟨x, hx, hb⟩ := List.any_eq_true.1 h
  have := h2 x hx
  unfold badVal at hb
  have := of_decide_eq_true hb
  omega
theorem mix_have {vars : Int} {a b : List Int} {s n : Nat} (ha : haveErr vars a = 0) (hb : haveErr vars b = 0) (hn : (n : Int) = vars) : haveErr vars (mixTo s a b n n) = 0 := by
  obtain ⟨_, a2⟩ := haveErr_ok ha
  obtain ⟨_, b2⟩ := haveErr_ok hb
  refine haveErr_of (by rw [mixTo_len]; exact hn) fun x hx => ?_
  obtain ⟨i, hi, rfl⟩ := List.getElem_of_mem hx
  rw [mixTo_get]
  split
  · exact getD_mem_bd a2 i
  · exact getD_mem_bd b2 i
theorem use_same {vars : Int} {l : List Term} (h0 : tErr vars l = 0) {a b : List Int} {n : Nat} (hn : (n : Int) = vars) : tVal a l = tVal (mixTo (uW l l.length) a b n n) l := by
  obtain ⟨hv0, hv6, h1, h16, hok⟩ := tErr_ok h0
  refine us_tVal hok h1 fun i hu h2 => ?_
  have hi := hu.lt hok h1
  obtain ⟨_, _, _, hov, _⟩ := hok i hi
  rw [getD_at hi] at h2 ⊢
  obtain ⟨v0, v1⟩ := hov h2
  rw [mixTo_getD _ (by omega), if_pos ⟨by omega, (uW_bit _ _).2 ⟨by omega, i, hi, hi, hu, by rw [getD_at hi]; exact h2, by rw [getD_at hi]; omega⟩⟩]
theorem tVal_bd {vars : Int} {l : List Term} (h0 : tErr vars l = 0) {a : List Int} (ha : haveErr vars a = 0) : 0 ≤ tVal a l ∧ tVal a l ≤ 255 := by
  obtain ⟨_, _, _, _, hok⟩ := tErr_ok h0
  exact getD_mem_bd (valsTo_bd hok (haveErr_ok ha).2 _ (Nat.le_refl _)) _

set_option maxRecDepth 100000 in
set_option maxHeartbeats 4000000 in
theorem termUse_calls (vars : Int) (A B C : Option Addr) (l : List Term) (a b : List Int) (capA capB capC : Nat) (w : World) (hA : RdT w A l) (hB : RdI w B a) (hC : RdI w C b) (hm : l.length ≤ maxLen) (hm' : a.length ≤ maxLen) (hm'' : b.length ≤ maxLen) :
    Calls Try.prog 8 #[.int .i64 vars, .slice A l.length capA, .slice B a.length capB, .slice C b.length capC] w fun e w' => e = .returned (.bool true) ∧ Below w.heap.size w w' := by
  have HA := Lib.hid hA
  have HB := Lib.hid hB
  have HC := Lib.hid hC
  clear hA hB hC
  by_cases h0 : tErr vars l = 0
  case neg =>
    have hd : (tErr vars l != 0) = true := by rw [bne_iff_ne]; exact h0
    have hd2 : (tErr vars l == 0) = false := by rw [beq_eq_false_iff_ne]; exact h0
    have H0 := Lib.hid h0
    clear h0
    go_enter Try.func8, Try.ntmps8
    go_wp2_with (first
      | (go_at_call 26; refine (uses_bad vars A l capA w HA.out hm H0.out).mono ?_; rintro e w1 ⟨rfl, hW⟩; have HW1 := Lib.hid hW; clear hW)
      | (go_at_call 15; refine (termed_calls _ _ _ _ _ (Rd.below HA.out HW1.out) hm).mono ?_; rintro e w2 ⟨rfl, hW2⟩; rw [hd2]; have HW2 := Lib.hid (HW1.out.trans (hW2.mono HW1.out.size)); clear hW2))
    go_ret
    exact ⟨rfl, HW2.out⟩
  have H0 := Lib.hid h0
  have hd2 : (tErr vars l == 0) = true := by rw [beq_iff_eq]; exact h0
  obtain ⟨hv0, hv6, hl1, hl16, hok⟩ := tErr_ok h0
  clear h0 hok
  by_cases ha : haveErr vars a = 0
  case neg =>
    have q5 : (haveErr vars a == 0) = false := by rw [beq_eq_false_iff_ne]; exact ha
    clear ha
    go_enter Try.func8, Try.ntmps8
    go_wp2_with (first
      | (go_at_call 26; refine (uses_ok vars A l capA w HA.out H0.out).mono ?_; rintro e w1 ⟨rfl, hW⟩; have HW1 := Lib.hid hW; clear hW)
      | (go_at_call 15; refine (termed_calls _ _ _ _ _ (Rd.below HA.out HW1.out) hm).mono ?_; rintro e w2 ⟨rfl, hW2⟩; rw [hd2]; have HW2 := Lib.hid (HW1.out.trans (hW2.mono HW1.out.size)); clear hW2)
      | (go_at_call 17; refine (given_calls _ _ _ _ _ (Rd.below HB.out HW2.out) hm').mono ?_; rintro e w7 ⟨rfl, rfl⟩; rw [q5]))
    go_ret
    exact ⟨rfl, HW2.out⟩
  have Ha := Lib.hid ha
  have qa : (haveErr vars a == 0) = true := by rw [beq_iff_eq]; exact ha
  clear ha
  by_cases hb : haveErr vars b = 0
  case neg =>
    have q5 : (haveErr vars b == 0) = false := by rw [beq_eq_false_iff_ne]; exact hb
    clear hb
    go_enter Try.func8, Try.ntmps8
    go_wp2_with (first
      | (go_at_call 26; refine (uses_ok vars A l capA w HA.out H0.out).mono ?_; rintro e w1 ⟨rfl, hW⟩; have HW1 := Lib.hid hW; clear hW)
      | (go_at_call 15; refine (termed_calls _ _ _ _ _ (Rd.below HA.out HW1.out) hm).mono ?_; rintro e w2 ⟨rfl, hW2⟩; rw [hd2]; have HW2 := Lib.hid (HW1.out.trans (hW2.mono HW1.out.size)); clear hW2)
      | (go_at_call 17; with_reducible refine (given_calls _ B a _ _ (Rd.below HB.out HW2.out) hm').mono ?_; rintro e w7 ⟨rfl, rfl⟩; rw [qa])
      | (go_at_call 17; with_reducible refine (given_calls _ C b _ _ (Rd.below HC.out HW2.out) hm'').mono ?_; rintro e w7 ⟨rfl, rfl⟩; rw [q5]))
    go_ret
    exact ⟨rfl, HW2.out⟩
  have Hb := Lib.hid hb
  have qb : (haveErr vars b == 0) = true := by rw [beq_iff_eq]; exact hb
  obtain ⟨la, a2⟩ := haveErr_ok Ha.out
  obtain ⟨lb, b2⟩ := haveErr_ok hb
  clear a2 b2 hb
  obtain ⟨n, hn⟩ : ∃ n : Nat, vars = (n : Int) := Int.eq_ofNat_of_zero_le hv0
  have hmix := Lib.hid (mix_have (s := uW l l.length) Ha.out Hb.out hn.symm)
  have hus := Lib.hid (use_same H0.out (a := a) (b := b) hn.symm)
  have hbd := valB_yes (tVal_bd H0.out Ha.out)
  have u8 := uW_lt (l := l) l.length
  subst hn
  have hln : b.length = n := by omega
  have Hln := Lib.hid hln
  have Hla : Hid (a.length = n) := Lib.hid (by omega)
  have Hz := Lib.hid (@mixTo_zero (uW l l.length) n a b hln)
  have Hy := Lib.hid (fun k => @mixTo_yes (uW l l.length) n k a b)
  have Hn := Lib.hid (fun k => @mixTo_no (uW l l.length) n k a b)
  rw [show uW l l.length = uW l l.length from rfl] at u8
  clear hln la lb
  have HU : Hid (uW l l.length = uW l l.length) := Lib.hid rfl
  generalize hU : uW l l.length = U at *
  have HU2 := Lib.hid hU
  clear hU HU
  go_enter Try.func8, Try.ntmps8
  go_wp2_with (first
    | (go_at_call 26; refine (uses_ok _ A l capA w HA.out H0.out).mono ?_; rintro e w1 ⟨rfl, hW⟩; rw [HU2.out]; have HW1 := Lib.hid hW; clear hW)
    | (go_at_call 15; refine (termed_calls _ _ _ _ _ (Rd.below HA.out HW1.out) hm).mono ?_; rintro e w2 ⟨rfl, hW2⟩; rw [hd2]; have HW2 := Lib.hid (HW1.out.trans (hW2.mono HW1.out.size)); clear hW2)
    | (go_at_call 17; with_reducible refine (given_calls _ B a _ _ (Rd.below HB.out HW2.out) hm').mono ?_; rintro e w7 ⟨rfl, rfl⟩; rw [qa])
    | (go_at_call 17; with_reducible refine (given_calls _ C b _ _ (Rd.below HC.out HW2.out) hm'').mono ?_; rintro e w8 ⟨rfl, rfl⟩; rw [qb]
       have hw2 := HW2.out.size
       have HE := Lib.hid (own_new intCells 1 3 intCells_len w8 w8.heap.size (Nat.le_refl _) [] (by simp [maxLen]))
       have HR2 := Lib.hid (Rd.below HC.out (HW2.out.alloc hw2 (.cells #[] 3)))
       obtain ⟨v3, w3, hrun, hO3, hg3, -⟩ := run_appN (P := Try.prog) 23 23 intCells 1 8 3 (.int .i64 0) Try.underlying23 infoInt rfl (by decide) intCells_len intCells_one w8.heap.size _ [] HE.out C b capC HR2.out (by rw [Hln.out]; simp [maxLen]; omega) (by rw [Hln.out]; simp; omega) (by simp)
       rw [List.nil_append] at hO3
       obtain ⟨A3, c3, rfl, -⟩ := OwnI.rd hO3
       have HO3 := Lib.hid hO3
       have HW3 := Lib.hid (((HW2.out.alloc hw2 (.cells #[] 3))).grown hg3 (by simp; omega) (fun k e => by have e : some w8.heap.size = some k := e; injection e with e; omega))
       clear hO3 hg3)
    | (at_builtin; refine wpList_app_run rfl 23 _ _ rfl rfl rfl hrun ?_; clear hrun))
  have hB8 : w.heap.size ≤ w8.heap.size := HW2.out.size
  go_loopw [12] (fun i wr => ∃ k : Nat, k ≤ n ∧ i = .int .i64 k ∧ OwnI wr w8.heap.size 3 (.slice A3 b.length c3) (mixTo U a b n k) ∧ Below w.heap.size w wr) (fun i _ => n - (intOf i).toNat)
  case atStart => exact ⟨0, Nat.zero_le _, rfl, by rw [Hz.out]; exact HO3.out, HW3.out⟩
  case round =>
    clear HO3 HW3
    obtain ⟨k, hk, rfl, hO, hW⟩ := hrel
    have HO := Lib.hid hO
    have HW := Lib.hid hW
    by_cases hlt : k < n
    · obtain ⟨g, rfl, hg8, hg9, _, hfz, hcell⟩ := OwnI.at2 hO (by rw [mixTo_len]; omega)
      obtain ⟨ba, offa, rfl, hba, ca⟩ := RdI.at1 (Rd.below HB.out hW) (k := k) (by rw [Hla.out]; exact hlt)
      have c5 := hcell k (by rw [mixTo_len]; exact hlt)
      have f5 := hfz k
      have q1 : ((k : Nat) : Int) < ((b.length : Nat) : Int) := by rw [Hln.out]; omega
      have q2 : ((k : Nat) : Int) < ((a.length : Nat) : Int) := by rw [Hla.out]; omega
      have q3 : ((k : Nat) : Int) < ((n : Nat) : Int) := by omega
      have ea : a.getD k 0 = a[k]'(by rw [Hla.out]; exact hlt) := by rw [List.getD_eq_getElem?_getD, List.getElem?_eq_getElem (by rw [Hla.out]; exact hlt)]; rfl
      clear hO hW hfz hcell
      generalize (mixTo U a b n k)[k]'(by rw [mixTo_len]; exact hlt) = old at *
      by_cases hb : U.testBit k = true
      · have HO5 := Lib.hid (OwnI.set_ HO.out (k := k) (by rw [mixTo_len]; exact hlt) (a.getD k 0))
        rw [Hy.out k hb, ea] at HO5
        have HW5 := Lib.hid (HW.out.setCell (p := ⟨g, k, none⟩) (Nat.le_trans hB8 hg8) (.int .i64 (a[k]'(by rw [Hla.out]; exact hlt))))
        clear ea
        go_wp2_with (go_at_call 28; refine (bit_calls U k _ (by omega) (by omega)).mono ?_; rintro e w' ⟨rfl, rfl⟩; rw [hb])
        go_roundw
        case rel => exact ⟨k + 1, by omega, by go_num, HO5.out, HW5.out⟩
        case measure => simp [intOf]; omega
      · have hb : U.testBit k = false := by simpa using hb
        have hn := Hn.out k hb
        clear ea
        go_wp2_with (go_at_call 28; refine (bit_calls U k _ (by omega) (by omega)).mono ?_; rintro e w' ⟨rfl, rfl⟩; rw [hb])
        go_roundw
        case rel => exact ⟨k + 1, by omega, by go_num, by rw [← hn]; exact HO.out, HW.out⟩
        case measure => simp [intOf]; omega
    · have : k = n := by omega
      subst this
      obtain ⟨A4, c4, e4, hR4⟩ := OwnI.rd hO
      rw [mixTo_len] at e4
      injection e4 with e1 e2 e3
      subst e1 e3
      have HR4 := Lib.hid hR4
      have hwz := hW.size
      have HV : Hid (∀ w5 : World, Below wr.heap.size wr w5 → Calls Try.prog 22 #[.int .i64 (k : Int), .slice A l.length capA, .slice A3 b.length c3] w5 fun e w' => e = .returned (.tuple #[.int .i64 (tVal a l), .int .i64 0]) ∧ Below w5.heap.size w5 w') := Lib.hid fun w5 h => by
        have h := value_ok _ A A3 l (mixTo U a b k k) capA c3 w5 (Rd.below HA.out (HW.out.trans (h.mono hwz))) (Rd.below HR4.out h) H0.out hmix.out
        rw [mixTo_len, ← hus.out, ← Hln.out] at h
        rw [← Hln.out]
        exact h
      have HV1 := Lib.hid (value_ok _ A B l a capA capB wr (Rd.below HA.out HW.out) (Rd.below HB.out HW.out) H0.out Ha.out)
      clear hO hW hR4 e2
      go_wp2_with (first
        | (go_at_call 22; with_reducible refine HV1.out.mono ?_; rintro e w5 ⟨rfl, hW5⟩; have HV2 := Lib.hid (HV.out w5 hW5); have HW5 := Lib.hid (HW.out.trans (hW5.mono hwz)); have hw5 := HW5.out.size; clear hW5)
        | (go_at_call 22; with_reducible refine HV2.out.mono ?_; rintro e w6 ⟨rfl, hW6⟩; have HW6 := Lib.hid (HW5.out.trans (hW6.mono hw5)); clear hW6)
        | (go_at_call 29; refine (refValue_calls _ _).mono ?_; rintro e w' ⟨rfl, rfl⟩; rw [hbd]))
      go_ret
      exact ⟨rfl, by first | exact HW6.out | assumption⟩
end Go.Proofs.Ytmglhppfdhphbaa
