/- Ways: [][]int as lists of lists; way.Check and codemasonref.WayCheck answer wayErr. -/
import Derived.Test.YtljmignfbagomaaOwn
import Derived.Test.YtljmignfbagomaaInside
import Derived.BigGuardPart
import Derived.Outline
namespace Go.Proofs.Ytljmignfbagomaa
open Go.RowKit

/-- The slice of slices at A reads as ls. -/
def RdN (w : World) (A : Option Addr) (ls : List (List Int)) : Prop :=
  0 < ls.length → ∃ b off, A = some ⟨b, off, none⟩ ∧ b < w.heap.size ∧
    ∀ (k : Nat) (l : List Int), ls[k]? = some l → ∃ A' cap', w.cell? ⟨b, off + k, none⟩ = some (.slice A' l.length cap') ∧ RdI w A' l
theorem RdN.below {w w' : World} {A : Option Addr} {ls : List (List Int)} (h : RdN w A ls) (hb : Below w.heap.size w w') : RdN w' A ls := fun hn => by
  obtain ⟨b, off, e, hlt, hc⟩ := h hn
  refine ⟨b, off, e, by have := hb.size; omega, fun k l hk => ?_⟩
  obtain ⟨A', cap', h1, h2⟩ := hc k l hk
  exact ⟨A', cap', (hb.cell (p := ⟨b, off + k, none⟩) hlt).trans h1, Rd.below h2 hb⟩
theorem RdN.at_ {w : World} {A : Option Addr} {ls : List (List Int)} (h : RdN w A ls) {k : Nat} (hk : k < ls.length) :
    ∃ b off A' cap', A = some ⟨b, off, none⟩ ∧ b < w.heap.size ∧ w.cell? ⟨b, off + k, none⟩ = some (.slice A' ls[k].length cap') ∧ RdI w A' ls[k] := by
  obtain ⟨b, off, e, hlt, hc⟩ := h (by omega)
  obtain ⟨A', cap', h1, h2⟩ := hc k _ (List.getElem?_eq_getElem hk)
  exact ⟨b, off, A', cap', e, hlt, h1, h2⟩

def wErr1 (n : Nat) (l : List Int) : Int := if 3 < l.length then 1 else if insideB n l then 0 else 2
def wErrs (n : Nat) : List (List Int) → Int
  | [] => 0
  | l :: r => if wErr1 n l = 0 then wErrs n r else wErr1 n l
def wayErr (ls : List (List Int)) : Int := if ls.length = 0 ∨ 8 < ls.length then 1 else wErrs ls.length ls
theorem wErrs_drop {n : Nat} {l : List (List Int)} {k : Nat} {E : Int} (hk : k < l.length) (h0 : wErrs n (l.drop k) = E) :
    (∀ e, wErr1 n l[k] = e → e ≠ 0 → E = e) ∧ (wErr1 n l[k] = 0 → wErrs n (l.drop (k + 1)) = E) := by
  rw [List.drop_eq_getElem_cons hk, show ∀ t r, wErrs n (t :: r) = if wErr1 n t = 0 then wErrs n r else wErr1 n t from fun _ _ => rfl] at h0
  constructor
  · intro e he hne; rw [if_neg (by rw [he]; exact hne)] at h0; rw [← h0, he]
  · intro h; rw [if_pos h] at h0; exact h0
theorem wErr1_1 {n : Nat} {l : List Int} (h : 3 < l.length) : wErr1 n l = 1 := by unfold wErr1; rw [if_pos h]
theorem wErr1_2 {n : Nat} {l : List Int} (h : ¬ 3 < l.length) (h' : insideB n l = false) : wErr1 n l = 2 := by unfold wErr1; rw [if_neg h, h']; rfl
theorem wErr1_0 {n : Nat} {l : List Int} (h : ¬ 3 < l.length) (h' : insideB n l = true) : wErr1 n l = 0 := by unfold wErr1; rw [if_neg h, h']; rfl

set_option maxHeartbeats 1000000 in
theorem wayCheck_calls (A : Option Addr) (ls : List (List Int)) (cap : Nat) (w : World) (hA : RdN w A ls) (hm : ls.length ≤ maxLen) :
    Calls Try.prog 46 #[.slice A ls.length cap] w fun e w' => e = .returned (.int .i64 (wayErr ls)) ∧ w' = w := by
  unfold maxLen at hm
  have HA := Lib.hid hA; clear hA
  by_cases hn : ls.length = 0 ∨ 8 < ls.length
  · rw [show wayErr ls = 1 from by unfold wayErr; rw [if_pos hn]]
    have hd : decide ((ls.length : Int) < 1) = true ∨ (decide ((ls.length : Int) < 1) = false ∧ decide ((8 : Int) < (ls.length : Int)) = true) := by
      simp only [decide_eq_true_eq, decide_eq_false_iff_not]; omega
    clear hn
    rcases hd with h1 | ⟨h1, h2⟩
    all_goals
      go_enter Try.func46, Try.ntmps46
      go_wp2
      all_goals first | (exfalso; simp only [decide_eq_true_eq, decide_eq_false_iff_not] at *; omega) | (go_ret; exact ⟨rfl, rfl⟩)
  have Hfin := Lib.hid (show wayErr ls = wErrs ls.length ls from by unfold wayErr; rw [if_neg hn])
  have hn1 : 1 ≤ ls.length := by omega
  have hn8 : ls.length ≤ 8 := by omega
  have q1 : decide ((ls.length : Int) < 1) = false := decide_eq_false (by omega)
  have q2 : decide (8 < ls.length) = false := decide_eq_false (by omega)
  clear hn hm
  go_enter Try.func46, Try.ntmps46
  go_wp2
  clear q1 q2
  go_loop [15] (fun i => ∃ k : Nat, k ≤ ls.length ∧ i = .int .i64 k ∧ Hid (wErrs ls.length (ls.drop k) = wayErr ls)) (fun i => ls.length - (intOf i).toNat)
  case atStart => exact ⟨0, Nat.zero_le _, rfl, Hfin.out.symm⟩
  case round =>
    obtain ⟨k, hk, rfl, hE⟩ := hrel
    by_cases hlt : k < ls.length
    · obtain ⟨b, off, A', cap', rfl, hb, c0, hR⟩ := RdN.at_ HA.out hlt
      have HS := Lib.hid (wErrs_drop hlt hE.out)
      have HR := Lib.hid hR
      clear hE hR
      generalize ls[k] = l at *
      by_cases h3 : 3 < l.length
      · go_wp2
        go_ret
        exact ⟨ret_int (HS.out.1 1 (wErr1_1 h3) (by decide)).symm, rfl⟩
      · cases hin : insideB ls.length l
        · have Hin := Lib.hid hin
          clear hin
          go_wp2_with (go_at_call 27; refine (inside_calls _ _ l _ _ HR.out (by unfold maxLen; omega)).mono ?_; rintro e w' ⟨rfl, rfl⟩; rw [Hin.out])
          go_ret
          exact ⟨ret_int (HS.out.1 2 (wErr1_2 h3 Hin.out) (by decide)).symm, rfl⟩
        · have Hin := Lib.hid hin
          clear hin
          go_wp2_with (go_at_call 27; refine (inside_calls _ _ l _ _ HR.out (by unfold maxLen; omega)).mono ?_; rintro e w' ⟨rfl, rfl⟩; rw [Hin.out])
          go_round
          case rel => exact ⟨k + 1, by omega, by go_num, HS.out.2 (wErr1_0 h3 Hin.out)⟩
          case measure => simp [intOf]; omega
    · go_wp2
      go_ret
      have : k = ls.length := by omega
      subst this
      refine ⟨ret_int ?_, rfl⟩
      rw [← hE.out, List.drop_length]; rfl

/-- The closure of way.Check: out of 0 .. n - 1? -/
def outB (n : Int) (x : Int) : Bool := decide (x < 0 ∨ n ≤ x)
set_option maxHeartbeats 400000 in
theorem out_no (N n cap : Nat) (A : Option Addr) (x : Int) (w : World) (hc : w.cell? ⟨N, 0, none⟩ = some (.slice A n cap)) (h : outB n x = false) :
    Calls Try.prog 61 #[.int .i64 x, .pointer (some ⟨N, 0, none⟩)] w fun e w' => e = .returned (.bool false) ∧ w' = w := by
  have h' : ¬ (x < 0 ∨ (n : Int) ≤ x) := of_decide_eq_false h
  have h1 : decide (x < 0) = false := decide_eq_false (by omega)
  have h2 : decide ((n : Int) ≤ x) = false := decide_eq_false (by omega)
  clear h h'
  go_enter Try.func61, Try.ntmps61
  go_wp2
  go_ret
  exact ⟨ret_bool (by first | rfl | (simp at *; omega)), rfl⟩
set_option maxHeartbeats 400000 in
theorem out_yes (N n cap : Nat) (A : Option Addr) (x : Int) (w : World) (hc : w.cell? ⟨N, 0, none⟩ = some (.slice A n cap)) (h : outB n x = true) :
    Calls Try.prog 61 #[.int .i64 x, .pointer (some ⟨N, 0, none⟩)] w fun e w' => e = .returned (.bool true) ∧ w' = w := by
  have h' : x < 0 ∨ (n : Int) ≤ x := of_decide_eq_true h
  clear h
  by_cases h1 : x < 0
  · clear h'
    go_enter Try.func61, Try.ntmps61
    go_wp2
    go_ret
    exact ⟨rfl, rfl⟩
  · have h2 : (n : Int) ≤ x := by omega
    have h1' : decide (x < 0) = false := decide_eq_false h1
    clear h' h1
    go_enter Try.func61, Try.ntmps61
    go_wp2
    go_ret
    exact ⟨ret_bool (by first | rfl | (simp at *; omega)), rfl⟩
theorem take_all_succ {α : Type} {p : α → Prop} {l : List α} {k : Nat} (hk : k < l.length) (h : ∀ x ∈ l.take k, p x) (h' : p l[k]) : ∀ x ∈ l.take (k + 1), p x := by
  rw [List.take_succ_eq_append_getElem hk]
  intro x hx
  rcases List.mem_append.1 hx with h1 | h1
  · exact h x h1
  · simp at h1; subst h1; exact h'
def OutEnd (n : Nat) (l : List Int) (w : World) (e : Ending) (w' : World) : Prop :=
  w' = w ∧ ∃ m : Int, e = .returned (.int .i64 m) ∧ ((m = -1 ∧ ∀ x ∈ l, outB n x = false) ∨ (0 ≤ m ∧ ∃ x ∈ l, outB n x = true))
set_option maxHeartbeats 400000 in
theorem outIndex_calls (N n capn : Nat) (An A : Option Addr) (l : List Int) (cap : Nat) (w : World) (hc : w.cell? ⟨N, 0, none⟩ = some (.slice An n capn)) (hA : RdI w A l) (hm : l.length ≤ maxLen) :
    Calls Try.prog 70 #[.slice A l.length cap, .func (.func 61) #[] #[.pointer (some ⟨N, 0, none⟩)]] w (OutEnd n l w) := by
  unfold maxLen at hm
  have HA := Lib.hid hA; clear hA
  have Hc := Lib.hid hc; clear hc
  go_enter Try.func70, Try.ntmps70
  go_wp2
  go_loop [8] (fun i => ∃ k : Nat, k ≤ l.length ∧ i = .int .i64 k ∧ Hid (∀ x ∈ l.take k, outB n x = false)) (fun i => l.length - (intOf i).toNat)
  case atStart => exact ⟨0, Nat.zero_le _, rfl, fun x hx => by simp at hx⟩
  case round =>
    obtain ⟨k, hk, rfl, hP⟩ := hrel
    by_cases hlt : k < l.length
    · obtain ⟨b, off, rfl, hb, c0⟩ := RdI.at1 HA.out hlt
      have hmem := List.getElem_mem hlt
      have Hmem := Lib.hid hmem
      have Hst := Lib.hid (take_all_succ (p := fun x => outB n x = false) hlt hP.out)
      clear hmem hP
      generalize l[k] = x at *
      cases hx : outB n x
      · have Hx := Lib.hid hx
        clear hx
        go_wp2_with (go_at_call 61; refine (out_no N n capn An _ _ Hc.out Hx.out).mono ?_; rintro e w' ⟨rfl, rfl⟩)
        go_round
        case rel => exact ⟨k + 1, by omega, by go_num, Hst.out Hx.out⟩
        case measure => simp [intOf]; omega
      · have Hx := Lib.hid hx
        clear hx
        go_wp2_with (go_at_call 61; refine (out_yes N n capn An _ _ Hc.out Hx.out).mono ?_; rintro e w' ⟨rfl, rfl⟩)
        go_ret
        exact ⟨rfl, k, rfl, .inr ⟨by omega, x, Hmem.out, Hx.out⟩⟩
    · go_wp2
      go_ret
      have : k = l.length := by omega
      subst this
      have := hP.out
      rw [List.take_length] at this
      exact ⟨rfl, -1, rfl, .inl ⟨rfl, this⟩⟩
set_option maxHeartbeats 400000 in
theorem outContains_calls (N n capn : Nat) (An A : Option Addr) (l : List Int) (cap : Nat) (w : World) (hc : w.cell? ⟨N, 0, none⟩ = some (.slice An n capn)) (hA : RdI w A l) (hm : l.length ≤ maxLen) :
    Calls Try.prog 60 #[.slice A l.length cap, .func (.func 61) #[] #[.pointer (some ⟨N, 0, none⟩)]] w fun e w' => e = .returned (.bool (!insideB n l)) ∧ w' = w := by
  have HA := Lib.hid hA; clear hA
  have hall : (∀ x ∈ l, outB n x = false) → insideB n l = true := fun h => by
    unfold insideB
    rw [List.all_eq_true]
    intro x hx
    have := of_decide_eq_false (h x hx)
    simp only [decide_eq_true_eq]
    omega
  have hany : (∃ x ∈ l, outB n x = true) → insideB n l = false := fun ⟨x, hx, h⟩ => by
    unfold insideB
    rw [List.all_eq_false]
    refine ⟨x, hx, ?_⟩
    have := of_decide_eq_true h
    simp only [decide_eq_true_eq]
    omega
  have Hall := Lib.hid hall
  have Hany := Lib.hid hany
  clear hall hany
  go_enter Try.func60, Try.ntmps60
  go_wp2_with fail
  refine (outIndex_calls N n capn An A l cap w hc HA.out hm).mono ?_
  rintro e w' ⟨rfl, m, rfl, h⟩
  rcases h with ⟨rfl, h⟩ | ⟨h0, h⟩
  · have Ha := Lib.hid (Hall.out h)
    clear h hm
    go_wp2
    go_ret
    exact ⟨ret_bool (by rw [Ha.out]; first | rfl | simp), rfl⟩
  · have Ha := Lib.hid (Hany.out h)
    clear h hm
    go_wp2
    go_ret
    exact ⟨ret_bool (by rw [Ha.out]; try (simp; try omega)), rfl⟩

set_option maxHeartbeats 1000000 in
theorem check_calls (A : Option Addr) (ls : List (List Int)) (cap : Nat) (w : World) (hA : RdN w A ls) (hm : ls.length ≤ maxLen) :
    Calls Try.prog 44 #[.slice A ls.length cap] w fun e w' => e = .returned (.int .i64 (wayErr ls)) ∧ Below w.heap.size w w' := by
  unfold maxLen at hm
  have HA := Lib.hid hA; clear hA
  by_cases hn : ls.length = 0 ∨ 8 < ls.length
  · rw [show wayErr ls = 1 from by unfold wayErr; rw [if_pos hn]]
    have hd : decide ((ls.length : Int) < 1) = true ∨ (decide ((ls.length : Int) < 1) = false ∧ decide ((8 : Int) < (ls.length : Int)) = true) := by
      simp only [decide_eq_true_eq, decide_eq_false_iff_not]; omega
    clear hn
    rcases hd with h1 | ⟨h1, h2⟩
    all_goals
      go_enter Try.func44, Try.ntmps44
      go_wp2
      all_goals first | (exfalso; simp only [decide_eq_true_eq, decide_eq_false_iff_not] at *; omega) | (go_ret; exact ⟨rfl, (Below.refl _ _).alloc (Nat.le_refl _) _⟩)
  have Hfin := Lib.hid (show wayErr ls = wErrs ls.length ls from by unfold wayErr; rw [if_neg hn])
  have hn1 : 1 ≤ ls.length := by omega
  have hn8 : ls.length ≤ 8 := by omega
  have q1 : decide ((ls.length : Int) < 1) = false := decide_eq_false (by omega)
  have q2 : decide (8 < ls.length) = false := decide_eq_false (by omega)
  clear hn hm
  go_enter Try.func44, Try.ntmps44
  go_wp2
  clear q1 q2
  have Hcell := Lib.hid (cell_new w #[.slice A ls.length cap] 22 w.heap.size rfl 0)
  have HA1 := Lib.hid (RdN.below HA.out ((Below.refl _ _).alloc (Nat.le_refl _) (.cells #[.slice A ls.length cap] 22)))
  go_loop [15] (fun i => ∃ k : Nat, k ≤ ls.length ∧ i = .int .i64 k ∧ Hid (wErrs ls.length (ls.drop k) = wayErr ls)) (fun i => ls.length - (intOf i).toNat)
  case atStart => exact ⟨0, Nat.zero_le _, rfl, Hfin.out.symm⟩
  case round =>
    obtain ⟨k, hk, rfl, hE⟩ := hrel
    by_cases hlt : k < ls.length
    · obtain ⟨b, off, A', cap', hA', hb, c0, hR⟩ := RdN.at_ HA1.out hlt
      subst hA'
      have HS := Lib.hid (wErrs_drop hlt hE.out)
      have HR := Lib.hid hR
      clear hE hR
      generalize ls[k] = l at *
      by_cases h3 : 3 < l.length
      · go_wp2
        go_ret
        exact ⟨ret_int (HS.out.1 1 (wErr1_1 h3) (by decide)).symm, (Below.refl _ _).alloc (Nat.le_refl _) _⟩
      · cases hin : insideB ls.length l
        · have Hin := Lib.hid hin
          clear hin
          go_wp2_with (go_at_call 60; refine (outContains_calls w.heap.size ls.length cap _ _ l _ _ Hcell.out HR.out (by unfold maxLen; omega)).mono ?_; rintro e w' ⟨rfl, rfl⟩; rw [Hin.out])
          go_ret
          exact ⟨ret_int (HS.out.1 2 (wErr1_2 h3 Hin.out) (by decide)).symm, (Below.refl _ _).alloc (Nat.le_refl _) _⟩
        · have Hin := Lib.hid hin
          clear hin
          go_wp2_with (go_at_call 60; refine (outContains_calls w.heap.size ls.length cap _ _ l _ _ Hcell.out HR.out (by unfold maxLen; omega)).mono ?_; rintro e w' ⟨rfl, rfl⟩; rw [Hin.out])
          go_round
          case rel => exact ⟨k + 1, by omega, by go_num, HS.out.2 (wErr1_0 h3 Hin.out)⟩
          case measure => simp [intOf]; omega
    · go_wp2
      go_ret
      have : k = ls.length := by omega
      subst this
      refine ⟨ret_int ?_, (Below.refl _ _).alloc (Nat.le_refl _) _⟩
      rw [← hE.out, List.drop_length]; rfl

/-- What a valid way is. -/
theorem wayErr_ok {ls : List (List Int)} (h : wayErr ls = 0) : 1 ≤ ls.length ∧ ls.length ≤ 8 ∧ ∀ l ∈ ls, l.length ≤ 3 ∧ ∀ x ∈ l, 0 ≤ x ∧ x < ls.length := by
  unfold wayErr at h
  by_cases h1 : ls.length = 0 ∨ 8 < ls.length
  · rw [if_pos h1] at h; exact absurd h (by decide)
  rw [if_neg h1] at h
  refine ⟨by omega, by omega, ?_⟩
  generalize ls.length = n at *
  clear h1
  induction ls with
  | nil => simp
  | cons l r ih =>
    rw [show wErrs n (l :: r) = if wErr1 n l = 0 then wErrs n r else wErr1 n l from rfl] at h
    by_cases h0 : wErr1 n l = 0
    · rw [if_pos h0] at h
      intro m hm
      rcases List.mem_cons.1 hm with rfl | hm
      · unfold wErr1 at h0
        by_cases h3 : 3 < m.length
        · rw [if_pos h3] at h0; exact absurd h0 (by decide)
        · rw [if_neg h3] at h0
          refine ⟨by omega, fun x hx => ?_⟩
          cases hin : insideB n m
          · rw [hin] at h0; exact absurd h0 (by decide)
          · unfold insideB at hin
            rw [List.all_eq_true] at hin
            exact of_decide_eq_true (hin x hx)
      · exact ih h m hm
    · rw [if_neg h0] at h; exact absurd h h0
/-- codemasonkeep.may -/
theorem may_calls (A : Option Addr) (ls : List (List Int)) (cap : Nat) (w : World) (hA : RdN w A ls) (hm : ls.length ≤ maxLen) :
    Calls Try.prog 18 #[.slice A ls.length cap] w fun e w' => e = .returned (.bool (wayErr ls == 0)) ∧ w' = w := by
  have HA := Lib.hid hA; clear hA
  go_enter Try.func18, Try.ntmps18
  go_wp2_with (go_at_call 46; refine (wayCheck_calls _ _ _ _ HA.out hm).mono ?_; rintro e w' ⟨rfl, rfl⟩)
  go_ret
  exact ⟨rfl, rfl⟩
end Go.Proofs.Ytljmignfbagomaa
