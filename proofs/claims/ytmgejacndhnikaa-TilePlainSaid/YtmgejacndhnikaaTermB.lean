/- term.Value and codemasonref.Term: what a list of terms stands for. -/
import Derived.Test.YtmgejacndhnikaaHave
import Derived.Test.YtmgejacndhnikaaTermDo
import Derived.Test.YtmgejacndhnikaaOwn
import Derived.Test.YtmgejacndhnikaaRefOp
import Derived.BigQuiet
import Derived.Deep.QuietTactic
namespace Go.Proofs.Ytmgejacndhnikaa
open Go.RowKit

def val1 (hv : List Int) (vs : List Int) (t : Term) : Int :=
  if t.op = 1 then t.val else if t.op = 2 then hv.getD t.val.toNat 0 else doF t.op (vs.getD t.a.toNat 0) (vs.getD t.b.toNat 0)
def vals (hv : List Int) : List Int → List Term → List Int
  | vs, [] => vs
  | vs, t :: r => vals hv (vs ++ [val1 hv vs t]) r
def valsTo (hv : List Int) (l : List Term) (k : Nat) : List Int := vals hv [] (l.take k)
def tVal (hv : List Int) (l : List Term) : Int := (valsTo hv l l.length).getD (l.length - 1) 0
theorem vals_append (hv : List Int) : ∀ (l r : List Term) (vs : List Int), vals hv vs (l ++ r) = vals hv (vals hv vs l) r
  | [], _, _ => rfl
  | t :: l, r, vs => vals_append hv l r (vs ++ [val1 hv vs t])
theorem vals_len (hv : List Int) : ∀ (l : List Term) (vs : List Int), (vals hv vs l).length = vs.length + l.length
  | [], vs => rfl
  | t :: l, vs => by rw [show vals hv vs (t :: l) = vals hv (vs ++ [val1 hv vs t]) l from rfl, vals_len hv l]; simp; omega
theorem valsTo_succ (hv : List Int) {l : List Term} {k : Nat} (hk : k < l.length) : valsTo hv l (k + 1) = valsTo hv l k ++ [val1 hv (valsTo hv l k) l[k]] := by
  unfold valsTo
  rw [List.take_succ_eq_append_getElem hk, vals_append]
  rfl
theorem valsTo_len (hv : List Int) {l : List Term} {k : Nat} (hk : k ≤ l.length) : (valsTo hv l k).length = k := by
  unfold valsTo; rw [vals_len]; simp; omega

/-- What a valid list's terms are. -/
def TOk (vars : Int) (i : Nat) (t : Term) : Prop :=
  1 ≤ t.op ∧ t.op ≤ 6 ∧ (t.op = 1 → 0 ≤ t.val ∧ t.val ≤ 255) ∧ (t.op = 2 → 0 ≤ t.val ∧ t.val < vars) ∧ (3 ≤ t.op → 0 ≤ t.a ∧ t.a < i ∧ 0 ≤ t.b ∧ t.b < i)
theorem tErr1_ok {vars : Int} {i : Nat} {t : Term} (h : tErr1 vars i t = 0) : TOk vars i t := by
  unfold tErr1 at h
  unfold TOk
  split at h
  · omega
  · split at h
    · omega
    · split at h
      · omega
      · omega
theorem tErrs_ok {vars : Int} : ∀ {l : List Term} {i : Nat}, tErrs vars i l = 0 → ∀ k (h : k < l.length), TOk vars (i + k) l[k]
  | [], _, _, k, h => absurd h (by simp)
  | t :: r, i, h, k, hk => by
    rw [show tErrs vars i (t :: r) = if tErr1 vars i t = 0 then tErrs vars (i + 1) r else tErr1 vars i t from rfl] at h
    by_cases h1 : tErr1 vars i t = 0
    · rw [if_pos h1] at h
      cases k with
      | zero => exact tErr1_ok h1
      | succ k =>
        have := tErrs_ok h k (by simpa using hk)
        rw [List.getElem_cons_succ, show i + (k + 1) = i + 1 + k by omega]
        exact this
    · rw [if_neg h1] at h; exact absurd h h1
theorem tErr_ok {vars : Int} {l : List Term} (h : tErr vars l = 0) : 0 ≤ vars ∧ vars ≤ 6 ∧ 1 ≤ l.length ∧ l.length ≤ 16 ∧ ∀ k (h : k < l.length), TOk vars k l[k] := by
  unfold tErr at h
  by_cases h1 : vars < 0 ∨ 6 < vars ∨ l.length = 0 ∨ 16 < l.length
  · rw [if_pos h1] at h; exact absurd h (by decide)
  rw [if_neg h1] at h
  refine ⟨by omega, by omega, by omega, by omega, fun k hk => ?_⟩
  have := tErrs_ok h k hk
  rwa [Nat.zero_add] at this
theorem getD_mem_bd {l : List Int} (h : ∀ x ∈ l, 0 ≤ x ∧ x ≤ 255) (i : Nat) : 0 ≤ l.getD i 0 ∧ l.getD i 0 ≤ 255 := by
  by_cases hi : i < l.length
  · rw [List.getD_eq_getElem?_getD, List.getElem?_eq_getElem hi]; exact h _ (List.getElem_mem hi)
  · rw [List.getD_eq_getElem?_getD, List.getElem?_eq_none (by omega)]; simp
theorem valsTo_bd {vars : Int} {hv : List Int} {l : List Term} (hl : ∀ k (h : k < l.length), TOk vars k l[k]) (hh : ∀ x ∈ hv, 0 ≤ x ∧ x ≤ 255) : ∀ k, k ≤ l.length → ∀ x ∈ valsTo hv l k, 0 ≤ x ∧ x ≤ 255 := by
  intro k
  induction k with
  | zero => intro _ x hx; simp [valsTo, vals] at hx
  | succ k ih =>
    intro hk x hx
    rw [valsTo_succ hv (by omega)] at hx
    rcases List.mem_append.1 hx with h | h
    · exact ih (by omega) x h
    · simp at h
      subst h
      have ht := hl k (by omega)
      unfold val1
      split
      · rename_i h1; exact ht.2.2.1 h1
      · split
        · exact getD_mem_bd hh _
        · exact doF_bd _ _ _

set_option maxHeartbeats 400000 in
theorem value_bad1 (vars : Int) (A B : Option Addr) (l : List Term) (hv : List Int) (capA capB : Nat) (w : World) (hA : RdT w A l) (hm : l.length ≤ maxLen) (h0 : tErr vars l ≠ 0) :
    Calls Try.prog 76 #[.int .i64 vars, .slice A l.length capA, .slice B hv.length capB] w fun e w' => e = .returned (.tuple #[.int .i64 0, .int .i64 (tErr vars l)]) ∧ Below w.heap.size w w' := by
  have q : (tErr vars l != 0) = true := by rw [bne_iff_ne]; exact h0
  have HA := Lib.hid hA
  have H0 := Lib.hid h0
  clear hA h0
  go_enter Try.func76, Try.ntmps76
  go_wp2_with (go_at_call 72; refine (check_calls _ _ _ _ _ HA.out hm).mono ?_; rintro e w' ⟨rfl, hW⟩)
  go_ret2
  exact ⟨rfl, hW⟩
set_option maxHeartbeats 400000 in
theorem value_bad2 (vars : Int) (A B : Option Addr) (l : List Term) (hv : List Int) (capA capB : Nat) (w : World) (hA : RdT w A l) (hB : RdI w B hv) (hm : l.length ≤ maxLen) (hm' : hv.length ≤ maxLen) (h0 : tErr vars l = 0) (h1 : haveErr vars hv ≠ 0) :
    Calls Try.prog 76 #[.int .i64 vars, .slice A l.length capA, .slice B hv.length capB] w fun e w' => e = .returned (.tuple #[.int .i64 0, .int .i64 (haveErr vars hv)]) ∧ Below w.heap.size w w' := by
  have q : (haveErr vars hv != 0) = true := by rw [bne_iff_ne]; exact h1
  have HA := Lib.hid hA
  have HB := Lib.hid hB
  have H0 := Lib.hid h0
  have H1 := Lib.hid h1
  clear hA hB h0 h1
  go_enter Try.func76, Try.ntmps76
  go_wp2_with (first
    | (go_at_call 72; refine (check_calls _ _ _ _ _ HA.out hm).mono ?_; rintro e w1 ⟨rfl, hW⟩; rw [H0.out]; have HW := Lib.hid hW; clear hW)
    | (go_at_call 46; refine (have_calls _ _ _ _ _ (Rd.below HB.out HW.out) hm').mono ?_; rintro e w2 ⟨rfl, rfl⟩))
  go_ret2
  exact ⟨rfl, HW.out⟩
theorem getD_get {l : List Int} {i : Nat} (h : i < l.length) : l.getD i 0 = l[i] := by rw [List.getD_eq_getElem?_getD, List.getElem?_eq_getElem h]; rfl

set_option maxHeartbeats 2000000 in
theorem value_ok (vars : Int) (A B : Option Addr) (l : List Term) (hv : List Int) (capA capB : Nat) (w : World) (hA : RdT w A l) (hB : RdI w B hv) (h0 : tErr vars l = 0) (h1 : haveErr vars hv = 0) :
    Calls Try.prog 76 #[.int .i64 vars, .slice A l.length capA, .slice B hv.length capB] w fun e w' => e = .returned (.tuple #[.int .i64 (tVal hv l), .int .i64 0]) ∧ Below w.heap.size w w' := by
  obtain ⟨hv0, hv6, hl1, hl16, hok⟩ := tErr_ok h0
  obtain ⟨hhl, hhb⟩ := haveErr_ok h1
  have Hbd := Lib.hid (valsTo_bd hok hhb)
  have Hok := Lib.hid hok
  have HA := Lib.hid hA
  have HB := Lib.hid hB
  have H0 := Lib.hid h0
  have H1 := Lib.hid h1
  have Hhb := Lib.hid hhb
  have hhl1 : (hv.length : Int) ≤ vars := by omega
  have hhl2 : vars ≤ (hv.length : Int) := by omega
  clear hA hB h0 h1 hok hhl hhb
  go_enter Try.func76, Try.ntmps76
  go_wp2_with (first
    | (go_at_call 72; refine (check_calls _ _ _ _ _ HA.out (by unfold maxLen; omega)).mono ?_; rintro e w1 ⟨rfl, hW⟩; rw [H0.out]; have HW := Lib.hid hW; clear hW)
    | (go_at_call 46; refine (have_calls _ _ _ _ _ (Rd.below HB.out HW.out) (by unfold maxLen; omega)).mono ?_; rintro e w2 ⟨rfl, rfl⟩; rw [H1.out]))
  go_loopw [10, 28] (fun v i wr => ∃ k : Nat, k ≤ l.length ∧ i = .int .i64 k ∧ OwnI wr w.heap.size 3 v (valsTo hv l k) ∧ Below w.heap.size w wr) (fun _ i _ => l.length - (intOf i).toNat)
  case atStart => exact ⟨0, Nat.zero_le _, rfl, Own.nil_ _ _ _, HW.out⟩
  case round =>
    obtain ⟨k, hk, rfl, hown, hW⟩ := hrel
    have hw1 := hW.size
    by_cases hlt : k < l.length
    · obtain ⟨b, off, rfl, hb, c0, c1, c2, c3⟩ := RdT.at4 (Rd.below HA.out hW) hlt
      have hsucc := valsTo_succ hv hlt
      have hlen := valsTo_len hv hk
      have hto := Hok.out k hlt
      have hbdk := Hbd.out k hk
      generalize hT : l[k] = t at *
      clear hT
      generalize hV : valsTo hv l k = vs at *
      clear hV
      obtain ⟨op, ta, tb, tv⟩ := t
      dsimp only at c0 c1 c2 c3
      obtain ⟨ho1, ho6, hon, hov, hob⟩ := hto
      dsimp only at ho1 ho6 hon hov hob
      have Hown := Lib.hid hown
      have Hlen := Lib.hid hlen
      have hlen1 : vs.length ≤ 16 := by omega
      rcases (show op = 1 ∨ op = 2 ∨ (3 ≤ op ∧ op ≤ 6) by omega) with rfl | rfl | ⟨h3, h6⟩
      · have hx : val1 hv vs ⟨1, ta, tb, tv⟩ = tv := by simp [val1]
        rw [hx] at hsucc
        have Hsucc := Lib.hid hsucc
        clear hsucc hx hon hov hob hlen hown hbdk
        go_wp2_with (at_builtin; refine wpList_appI rfl _ _ rfl w.heap.size _ _ tv rfl ((Hown.out.alloc _).alloc _) _ _ rfl (cell_new _ _ _ _ (by simp) _) (by omega) (by simp; omega) ?_; intro v' w3 hown' hgrow)
        go_roundw
        case rel => exact ⟨k + 1, by omega, by go_num, by rw [Hsucc.out]; exact hown', below_own ((hW.alloc hw1 _).alloc (by simp; omega) _) hgrow ((Hown.out.alloc _).alloc _) (Nat.le_refl _) (by simp; omega)⟩
        case measure => simp [intOf]; omega
      · obtain ⟨hv1, hv2⟩ := hov rfl
        obtain ⟨n, rfl⟩ := Int.eq_ofNat_of_zero_le hv1
        have hnl : n < hv.length := by omega
        obtain ⟨b2, off2, rfl, hb2, d0⟩ := RdI.at1 (Rd.below HB.out hW) hnl
        have hx : val1 hv vs ⟨2, ta, tb, n⟩ = hv[n] := by unfold val1; dsimp only; rw [if_neg (by decide), if_pos rfl, Int.toNat_natCast, getD_get hnl]
        rw [hx] at hsucc
        have Hsucc := Lib.hid hsucc
        clear hsucc hx hon hov hob hlen hown hbdk
        generalize hv[n] = x at *
        go_wp2_with (at_builtin; refine wpList_appI rfl _ _ rfl w.heap.size _ _ x rfl ((Hown.out.alloc _).alloc _) _ _ rfl (cell_new _ _ _ _ (by simp) _) (by omega) (by simp; omega) ?_; intro v' w3 hown' hgrow)
        go_roundw
        case rel => exact ⟨k + 1, by omega, by go_num, by rw [Hsucc.out]; exact hown', below_own ((hW.alloc hw1 _).alloc (by simp; omega) _) hgrow ((Hown.out.alloc _).alloc _) (Nat.le_refl _) (by simp; omega)⟩
        case measure => simp [intOf]; omega
      · obtain ⟨ha0, ha1, hb0, hb1⟩ := hob h3
        obtain ⟨na, rfl⟩ := Int.eq_ofNat_of_zero_le ha0
        obtain ⟨nb, rfl⟩ := Int.eq_ofNat_of_zero_le hb0
        have hna : na < vs.length := by omega
        have hnb : nb < vs.length := by omega
        obtain ⟨g, cp, rfl, hg1, hg2, hg3, hg4, hg5⟩ := OwnI.at_ hown (by omega)
        have d1 := hg5 na hna
        have d2 := hg5 nb hnb
        have hx : val1 hv vs ⟨op, na, nb, tv⟩ = doF op vs[na] vs[nb] := by
          unfold val1
          dsimp only
          rw [if_neg (by omega), if_neg (by omega), Int.toNat_natCast, Int.toNat_natCast, getD_get hna, getD_get hnb]
        rw [hx] at hsucc
        have Hsucc := Lib.hid hsucc
        have bd1 := hbdk _ (List.getElem_mem hna)
        have bd2 := hbdk _ (List.getElem_mem hnb)
        have hcl := do_calls op vs[na] vs[nb]
        have e2 : (op == 2) = false := by simp only [beq_eq_false_iff_ne]; omega
        have q1 : decide (2 < op) = true := decide_eq_true (by omega)
        have q3 : (na : Int) < (vs.length : Int) := by omega
        have q4 : (nb : Int) < (vs.length : Int) := by omega
        have Hcl := Lib.hid hcl
        clear hsucc hx hon hov hob hlen hown hbdk hg4 hg5 hcl
        generalize vs[na] = x at *
        generalize vs[nb] = y at *
        generalize hz : doF op x y = z at *
        clear hz
        go_wp2
        go_quiet ((go_at_call 50; exact Calls.quiet_of_same (Hcl.out _ bd1 bd2)))
        go_wp2_with (at_builtin; refine wpList_appI rfl _ _ rfl w.heap.size _ _ z rfl (((Hown.out.alloc _).drewN _).alloc _) _ _ rfl (cell_new _ _ _ _ (by simp) _) (by omega) (by simp; omega) ?_; intro v' w3 hown' hgrow)
        go_roundw
        case rel => exact ⟨k + 1, by omega, by go_num, by rw [Hsucc.out]; exact hown', below_own ((below_dN (hW.alloc hw1 _) _).alloc (by simp; omega) _) hgrow (((Hown.out.alloc _).drewN _).alloc _) (Nat.le_refl _) (by simp; omega)⟩
        case measure => simp [intOf]; omega
    · have : k = l.length := by omega
      subst this
      have hlen := valsTo_len hv (Nat.le_refl l.length)
      obtain ⟨g, cp, rfl, hg1, hg2, hg3, hg4, hg5⟩ := OwnI.at_ hown (by omega)
      have d1 := hg5 (l.length - 1) (by omega)
      rw [← getD_get] at d1
      rw [hlen]
      have q1 : ((l.length : Int) - 1).toNat = l.length - 1 := by omega
      clear hg4 hg5 hown hlen
      go_wp2
      go_ret2
      exact ⟨rfl, hW⟩
end Go.Proofs.Ytmgejacndhnikaa
