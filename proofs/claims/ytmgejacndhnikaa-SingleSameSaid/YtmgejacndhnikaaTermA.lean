/- api.Term; term.Check and codemasonref.TermsCheck answer tErr. -/
import Derived.Test.YtmgejacndhnikaaRows
import Derived.Test.YtmgejacndhnikaaLib
import Derived.Test.YtmgejacndhnikaaInside
import Derived.BigGuardPart
import Derived.Outline
namespace Go.Proofs.Ytmgejacndhnikaa
open Go.RowKit

/-- api.Term -/
structure Term where
  op : Int
  a : Int
  b : Int
  val : Int
def Term.cells (t : Term) : List Value := [.int .i64 t.op, .int .i64 t.a, .int .i64 t.b, .int .i64 t.val]
abbrev RdT (w : World) (A : Option Addr) (l : List Term) : Prop := Rd Term.cells 4 w A l
theorem RdT.at4 {w : World} {A : Option Addr} {l : List Term} (h : RdT w A l) {k : Nat} (hk : k < l.length) :
    ∃ b off, A = some ⟨b, off, none⟩ ∧ b < w.heap.size ∧ w.cell? ⟨b, off + k * 4, none⟩ = some (.int .i64 l[k].op) ∧ w.cell? ⟨b, off + k * 4 + 1, none⟩ = some (.int .i64 l[k].a) ∧
      w.cell? ⟨b, off + k * 4 + 2, none⟩ = some (.int .i64 l[k].b) ∧ w.cell? ⟨b, off + k * 4 + 3, none⟩ = some (.int .i64 l[k].val) := by
  obtain ⟨b, off, e, hb, hc⟩ := h.at_ hk
  exact ⟨b, off, e, hb, by simpa [Term.cells] using hc 0 (by omega), by simpa [Term.cells] using hc 1 (by omega), by simpa [Term.cells] using hc 2 (by omega), by simpa [Term.cells] using hc 3 (by omega)⟩

def tErr1 (vars : Int) (i : Nat) (t : Term) : Int :=
  if t.op < 1 ∨ 6 < t.op then 6
  else if (t.op = 1 ∧ (t.val < 0 ∨ 255 < t.val)) ∨ (t.op = 2 ∧ (t.val < 0 ∨ vars ≤ t.val)) then 4
  else if 3 ≤ t.op ∧ (t.a < 0 ∨ i ≤ t.a ∨ t.b < 0 ∨ i ≤ t.b) then 2 else 0
def tErrs (vars : Int) : Nat → List Term → Int
  | _, [] => 0
  | i, t :: r => if tErr1 vars i t = 0 then tErrs vars (i + 1) r else tErr1 vars i t
def tErr (vars : Int) (l : List Term) : Int := if vars < 0 ∨ 6 < vars ∨ l.length = 0 ∨ 16 < l.length then 1 else tErrs vars 0 l

theorem tErrs_drop {vars : Int} {l : List Term} {k : Nat} {E : Int} (hk : k < l.length) (h0 : tErrs vars k (l.drop k) = E) :
    (∀ e, tErr1 vars k l[k] = e → e ≠ 0 → E = e) ∧ (tErr1 vars k l[k] = 0 → tErrs vars (k + 1) (l.drop (k + 1)) = E) := by
  rw [List.drop_eq_getElem_cons hk, show ∀ t r, tErrs vars k (t :: r) = if tErr1 vars k t = 0 then tErrs vars (k + 1) r else tErr1 vars k t from fun _ _ => rfl] at h0
  constructor
  · intro e he hne; rw [if_neg (by rw [he]; exact hne)] at h0; rw [← h0, he]
  · intro h; rw [if_pos h] at h0; exact h0
theorem tErr1_4 {vars op a b val : Int} {i : Nat} (h0 : 1 ≤ op) (h6 : op ≤ 6) (h : (op = 1 ∧ (val < 0 ∨ 255 < val)) ∨ (op = 2 ∧ (val < 0 ∨ vars ≤ val))) : tErr1 vars i ⟨op, a, b, val⟩ = 4 := by
  unfold tErr1; rw [if_neg (by dsimp only; omega), if_pos h]
theorem tErr1_6 {vars op a b val : Int} {i : Nat} (h : op < 1 ∨ 6 < op) : tErr1 vars i ⟨op, a, b, val⟩ = 6 := by
  unfold tErr1; rw [if_pos h]
theorem tErr1_2 {vars op a b val : Int} {i : Nat} (h0 : 3 ≤ op) (h6 : op ≤ 6) (h : a < 0 ∨ (i : Int) ≤ a ∨ b < 0 ∨ (i : Int) ≤ b) : tErr1 vars i ⟨op, a, b, val⟩ = 2 := by
  unfold tErr1; rw [if_neg (by dsimp only; omega), if_neg (by dsimp only; omega), if_pos ⟨h0, h⟩]
theorem tErr1_0 {vars op a b val : Int} {i : Nat} (h0 : 1 ≤ op) (h6 : op ≤ 6) (h1 : op = 1 → 0 ≤ val ∧ val ≤ 255) (h2 : op = 2 → 0 ≤ val ∧ val < vars) (h3 : 3 ≤ op → 0 ≤ a ∧ a < i ∧ 0 ≤ b ∧ b < i) : tErr1 vars i ⟨op, a, b, val⟩ = 0 := by
  unfold tErr1; rw [if_neg (by dsimp only; omega), if_neg (by dsimp only; omega), if_neg (by dsimp only; omega)]

set_option maxHeartbeats 2000000 in
theorem check_calls (vars : Int) (A : Option Addr) (l : List Term) (cap : Nat) (w : World) (hA : RdT w A l) (hm : l.length ≤ maxLen) :
    Calls Try.prog 72 #[.int .i64 vars, .slice A l.length cap] w fun e w' => e = .returned (.int .i64 (tErr vars l)) ∧ Below w.heap.size w w' := by
  unfold maxLen at hm
  have HA := Lib.hid hA; clear hA
  by_cases hn : vars < 0 ∨ 6 < vars ∨ l.length = 0 ∨ 16 < l.length
  · have hfin : tErr vars l = 1 := by rw [tErr, if_pos hn]
    rw [hfin]
    have hd : vars < 0 ∨ (0 ≤ vars ∧ 6 < vars) ∨ (0 ≤ vars ∧ vars ≤ 6 ∧ ((l.length : Int) == 0) = true) ∨ (0 ≤ vars ∧ vars ≤ 6 ∧ ((l.length : Int) == 0) = false ∧ decide ((16 : Int) < (l.length : Int)) = true) := by
      simp only [beq_iff_eq, beq_eq_false_iff_ne, decide_eq_true_eq]; omega
    clear hn hfin
    rcases hd with h1 | ⟨h1, h2⟩ | ⟨h1, h2, h3⟩ | ⟨h1, h2, h3, h4⟩
    all_goals
      go_enter Try.func72, Try.ntmps72
      go_wp2
      all_goals first | (exfalso; simp only [decide_eq_true_eq] at *; omega) | (go_ret; exact ⟨rfl, Below.refl _ _⟩)
  have hfin : tErr vars l = tErrs vars 0 l := by rw [tErr, if_neg hn]
  have Hfin := Lib.hid hfin; clear hfin
  have hn1 : 0 ≤ vars := by omega
  have hn2 : vars ≤ 6 := by omega
  have hn3 : 1 ≤ l.length := by omega
  have hn4 : l.length ≤ 16 := by omega
  have hn5 : ((l.length : Int) == 0) = false := by simp only [beq_eq_false_iff_ne]; omega
  have q1 : decide (vars < 0) = false := decide_eq_false (by omega)
  have q2 : decide (6 < vars) = false := decide_eq_false (by omega)
  have q4 : decide (16 < l.length) = false := decide_eq_false (by omega)
  clear hn hm
  go_enter Try.func72, Try.ntmps72
  go_wp2
  clear hn5 q1 q2 q4
  go_loopw [25] (fun i wr => ∃ k : Nat, k ≤ l.length ∧ i = .int .i64 k ∧ Hid (tErrs vars k (l.drop k) = tErr vars l) ∧ Below w.heap.size w wr) (fun i _ => l.length - (intOf i).toNat)
  case atStart => exact ⟨0, Nat.zero_le _, rfl, Hfin.out.symm, Below.refl _ _⟩
  case round =>
    obtain ⟨k, hk, rfl, hE, hW⟩ := hrel
    by_cases hlt : k < l.length
    · obtain ⟨b, off, rfl, hb, c0, c1, c2, c3⟩ := RdT.at4 (Rd.below HA.out hW) hlt
      have hst := tErrs_drop hlt hE.out
      have hw1 := hW.size
      generalize l[k] = p at *
      obtain ⟨op, ta, tb, tv⟩ := p
      dsimp only at c0 c1 c2 c3
      have HS := Lib.hid hst; clear hst hE
      rcases (show (op < 1) ∨ 6 < op ∨ op = 1 ∨ op = 2 ∨ (3 ≤ op ∧ op ≤ 6) by omega) with h | h | rfl | rfl | ⟨h, h'⟩
      rotate_right
      · have e1 : (op == 1) = false := by simp only [beq_eq_false_iff_ne]; omega
        have e2 : (op == 2) = false := by simp only [beq_eq_false_iff_ne]; omega
        rcases Int.lt_trichotomy ta tb with hab | rfl | hab
        all_goals
          go_wp2
          all_goals first
            | (exfalso; omega)
            | (go_ret
               exact ⟨ret_int (HS.out.1 2 (tErr1_2 (by omega) (by omega) (by omega)) (by decide)).symm, hW.alloc hw1 _⟩)
            | (go_roundw
               case rel => exact ⟨k + 1, by omega, by go_num, HS.out.2 (tErr1_0 (by omega) (by omega) (by omega) (by omega) (by omega)), hW.alloc hw1 _⟩
               case measure => simp [intOf]; omega)
      all_goals
        go_wp2
        all_goals first
          | (go_ret
             exact ⟨ret_int (HS.out.1 6 (tErr1_6 (by omega)) (by decide)).symm, hW.alloc hw1 _⟩)
          | (go_ret
             exact ⟨ret_int (HS.out.1 4 (tErr1_4 (by omega) (by omega) (by omega)) (by decide)).symm, hW.alloc hw1 _⟩)
          | (go_roundw
             case rel => exact ⟨k + 1, by omega, by go_num, HS.out.2 (tErr1_0 (by omega) (by omega) (by omega) (by omega) (by omega)), hW.alloc hw1 _⟩
             case measure => simp [intOf]; omega)
    · go_wp2
      go_ret
      have : k = l.length := by omega
      subst this
      refine ⟨ret_int ?_, hW⟩
      rw [← hE.out, List.drop_length]; rfl
def valB (x : Int) : Bool := decide (0 ≤ x ∧ x ≤ 255)
theorem valB_yes {x : Int} (h : 0 ≤ x ∧ x ≤ 255) : valB x = true := decide_eq_true h
theorem valB_no {x : Int} (h : ¬ (0 ≤ x ∧ x ≤ 255)) : valB x = false := decide_eq_false h
set_option maxHeartbeats 400000 in
theorem refValue_calls (x : Int) (w : World) : Calls Try.prog 100 #[.int .i64 x] w fun e w' => e = .returned (.bool (valB x)) ∧ w' = w := by
  by_cases h : 0 ≤ x ∧ x ≤ 255
  · rw [valB_yes h]
    obtain ⟨h1, h2⟩ := h
    go_enter Try.func100, Try.ntmps100
    go_wp2
    all_goals first | (exfalso; omega) | (go_ret; exact ⟨ret_bool (by first | rfl | (simp; omega)), rfl⟩)
  · rw [valB_no h]
    by_cases h1 : 0 ≤ x
    · have h2 : 255 < x := by omega
      clear h
      go_enter Try.func100, Try.ntmps100
      go_wp2
      all_goals first | (exfalso; omega) | (go_ret; exact ⟨ret_bool (by first | rfl | (simp; omega)), rfl⟩)
    · clear h
      go_enter Try.func100, Try.ntmps100
      go_wp2
      all_goals first | (exfalso; omega) | (go_ret; exact ⟨ret_bool (by first | rfl | (simp; omega)), rfl⟩)

theorem insideB_1 {n x : Int} : insideB n [x] = decide (0 ≤ x ∧ x < n) := by rw [insideB_cons]; simp [insideB]
theorem insideB_2 {n x y : Int} : insideB n [x, y] = decide ((0 ≤ x ∧ x < n) ∧ 0 ≤ y ∧ y < n) := by rw [insideB_cons, insideB_1, ← Bool.decide_and]

set_option maxHeartbeats 4000000 in
theorem termsCheck_calls (vars : Int) (A : Option Addr) (l : List Term) (cap : Nat) (w : World) (hA : RdT w A l) (hm : l.length ≤ maxLen) :
    Calls Try.prog 115 #[.int .i64 vars, .slice A l.length cap] w fun e w' => e = .returned (.int .i64 (tErr vars l)) ∧ Below w.heap.size w w' := by
  unfold maxLen at hm
  have HA := Lib.hid hA; clear hA
  by_cases hn : vars < 0 ∨ 6 < vars ∨ l.length = 0 ∨ 16 < l.length
  · have hfin : tErr vars l = 1 := by rw [tErr, if_pos hn]
    rw [hfin]
    have hd : vars < 0 ∨ (0 ≤ vars ∧ 6 < vars) ∨ (0 ≤ vars ∧ vars ≤ 6 ∧ decide ((l.length : Int) < 1) = true) ∨ (0 ≤ vars ∧ vars ≤ 6 ∧ decide ((l.length : Int) < 1) = false ∧ decide ((16 : Int) < (l.length : Int)) = true) := by
      simp only [decide_eq_false_iff_not, decide_eq_true_eq]; omega
    clear hn hfin
    rcases hd with h1 | ⟨h1, h2⟩ | ⟨h1, h2, h3⟩ | ⟨h1, h2, h3, h4⟩
    all_goals
      go_enter Try.func115, Try.ntmps115
      go_wp2
      all_goals first | (exfalso; simp only [decide_eq_true_eq, decide_eq_false_iff_not] at *; omega) | (go_ret; exact ⟨rfl, Below.refl _ _⟩)
  have hfin : tErr vars l = tErrs vars 0 l := by rw [tErr, if_neg hn]
  have Hfin := Lib.hid hfin; clear hfin
  have hn1 : 0 ≤ vars := by omega
  have hn2 : vars ≤ 6 := by omega
  have hn3 : 1 ≤ l.length := by omega
  have hn4 : l.length ≤ 16 := by omega
  have q1 : decide (vars < 0) = false := decide_eq_false (by omega)
  have q2 : decide (6 < vars) = false := decide_eq_false (by omega)
  have q3 : decide ((l.length : Int) < 1) = false := decide_eq_false (by omega)
  have q4 : decide (16 < l.length) = false := decide_eq_false (by omega)
  clear hn hm
  go_enter Try.func115, Try.ntmps115
  go_wp2
  clear q1 q2 q3 q4
  go_loopw [25] (fun i wr => ∃ k : Nat, k ≤ l.length ∧ i = .int .i64 k ∧ Hid (tErrs vars k (l.drop k) = tErr vars l) ∧ Below w.heap.size w wr) (fun i _ => l.length - (intOf i).toNat)
  case atStart => exact ⟨0, Nat.zero_le _, rfl, Hfin.out.symm, Below.refl _ _⟩
  case round =>
    obtain ⟨k, hk, rfl, hE, hW⟩ := hrel
    by_cases hlt : k < l.length
    · obtain ⟨b, off, rfl, hb, c0, c1, c2, c3⟩ := RdT.at4 (Rd.below HA.out hW) hlt
      have hst := tErrs_drop hlt hE.out
      have hw1 := hW.size
      generalize l[k] = p at *
      obtain ⟨op, ta, tb, tv⟩ := p
      dsimp only at c0 c1 c2 c3
      have HS := Lib.hid hst; clear hst hE
      rcases (show (op < 1) ∨ 6 < op ∨ op = 1 ∨ op = 2 ∨ (3 ≤ op ∧ op ≤ 6) by omega) with h | h | rfl | rfl | ⟨h, h'⟩
      · go_wp2
        go_ret
        exact ⟨ret_int (HS.out.1 6 (tErr1_6 (by omega)) (by decide)).symm, hW.alloc hw1 _⟩
      · go_wp2
        all_goals first
          | (exfalso; omega)
          | (go_ret; exact ⟨ret_int (HS.out.1 6 (tErr1_6 (by omega)) (by decide)).symm, hW.alloc hw1 _⟩)
      · by_cases hv : 0 ≤ tv ∧ tv ≤ 255
        · have Hv := Lib.hid (valB_yes hv)
          go_wp2_with (go_at_call 100; refine (refValue_calls _ _).mono ?_; rintro e w' ⟨rfl, rfl⟩; rw [Hv.out])
          go_roundw
          case rel => exact ⟨k + 1, by omega, by go_num, HS.out.2 (tErr1_0 (by omega) (by omega) (by omega) (by omega) (by omega)), hW.alloc hw1 _⟩
          case measure => simp [intOf]; omega
        · have Hv := Lib.hid (valB_no hv)
          have hv' : tv < 0 ∨ 255 < tv := by omega
          clear hv
          go_wp2_with (go_at_call 100; refine (refValue_calls _ _).mono ?_; rintro e w' ⟨rfl, rfl⟩; rw [Hv.out])
          go_ret
          exact ⟨ret_int (HS.out.1 4 (tErr1_4 (by omega) (by omega) (by omega)) (by decide)).symm, hW.alloc hw1 _⟩
      · by_cases hv : 0 ≤ tv ∧ tv < vars
        · have Hv := Lib.hid (show insideB vars [tv] = true by rw [insideB_1]; exact decide_eq_true hv)
          go_wp2_with (go_at_call 62; refine (inside_calls _ _ [tv] _ _ (rdI_new1 _ _ _ _ (by simp)) (by simp [maxLen])).mono ?_; rintro e w' ⟨rfl, rfl⟩; rw [Hv.out])
          go_roundw
          case rel => exact ⟨k + 1, by omega, by go_num, HS.out.2 (tErr1_0 (by omega) (by omega) (by omega) (by omega) (by omega)), (hW.alloc hw1 _).alloc (by simp; omega) _⟩
          case measure => simp [intOf]; omega
        · have Hv := Lib.hid (show insideB vars [tv] = false by rw [insideB_1]; exact decide_eq_false hv)
          have hv' : tv < 0 ∨ vars ≤ tv := by omega
          clear hv
          go_wp2_with (go_at_call 62; refine (inside_calls _ _ [tv] _ _ (rdI_new1 _ _ _ _ (by simp)) (by simp [maxLen])).mono ?_; rintro e w' ⟨rfl, rfl⟩; rw [Hv.out])
          go_ret
          exact ⟨ret_int (HS.out.1 4 (tErr1_4 (by omega) (by omega) (by omega)) (by decide)).symm, (hW.alloc hw1 _).alloc (by simp; omega) _⟩
      · have e1 : (op == 1) = false := by simp only [beq_eq_false_iff_ne]; omega
        have e2 : (op == 2) = false := by simp only [beq_eq_false_iff_ne]; omega
        have q1 : decide (op < 1) = false := decide_eq_false (by omega)
        have q2 : decide (6 < op) = false := decide_eq_false (by omega)
        by_cases hv : (0 ≤ ta ∧ ta < k) ∧ 0 ≤ tb ∧ tb < k
        · have Hv := Lib.hid (show insideB k [ta, tb] = true by rw [insideB_2]; exact decide_eq_true hv)
          go_wp2_with (go_at_call 62; refine (inside_calls _ _ [ta, tb] _ _ (rdI_new2 _ _ _ _ _ (by simp)) (by simp [maxLen])).mono ?_; rintro e w' ⟨rfl, rfl⟩; rw [Hv.out])
          go_roundw
          case rel => exact ⟨k + 1, by omega, by go_num, HS.out.2 (tErr1_0 (by omega) (by omega) (by omega) (by omega) (by omega)), (hW.alloc hw1 _).alloc (by simp; omega) _⟩
          case measure => simp [intOf]; omega
        · have Hv := Lib.hid (show insideB k [ta, tb] = false by rw [insideB_2]; exact decide_eq_false hv)
          have Hv' := Lib.hid (show ta < 0 ∨ (k : Int) ≤ ta ∨ tb < 0 ∨ (k : Int) ≤ tb by omega)
          clear hv
          go_wp2_with (go_at_call 62; refine (inside_calls _ _ [ta, tb] _ _ (rdI_new2 _ _ _ _ _ (by simp)) (by simp [maxLen])).mono ?_; rintro e w' ⟨rfl, rfl⟩; rw [Hv.out])
          go_ret
          exact ⟨ret_int (HS.out.1 2 (tErr1_2 (by omega) (by omega) Hv'.out) (by decide)).symm, (hW.alloc hw1 _).alloc (by simp; omega) _⟩
    · go_wp2
      go_ret
      have : k = l.length := by omega
      subst this
      refine ⟨ret_int ?_, hW⟩
      rw [← hE.out, List.drop_length]; rfl
end Go.Proofs.Ytmgejacndhnikaa
