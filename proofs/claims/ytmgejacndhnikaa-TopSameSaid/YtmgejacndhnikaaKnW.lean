/- known.wrong, known.In; codemasonref.StartCheck, codemasonkeep.started. -/
import Derived.Test.YtmgejacndhnikaaKnE
import Derived.Test.YtmgejacndhnikaaBlkI
import Derived.Test.YtmgejacndhnikaaHave
namespace Go.Proofs.Ytmgejacndhnikaa
open Go.RowKit

def badK (x : Int) : Bool := decide (x < -1 ∨ 255 < x)
set_option maxHeartbeats 400000 in
theorem closureK_no (x : Int) (w : World) (h : badK x = false) : Calls Try.prog 116 #[.int .i64 x] w fun e w' => e = .returned (.bool false) ∧ w' = w := by
  have h' : ¬ (x < -1 ∨ 255 < x) := of_decide_eq_false h
  have h1 : -1 ≤ x := by omega
  have h2 : x ≤ 255 := by omega
  clear h h'
  go_enter Try.func116, Try.ntmps116
  go_wp2
  all_goals first | (exfalso; omega) | (go_ret; exact ⟨ret_bool (by first | rfl | (simp; omega)), rfl⟩)
set_option maxHeartbeats 400000 in
theorem closureK_yes (x : Int) (w : World) (h : badK x = true) : Calls Try.prog 116 #[.int .i64 x] w fun e w' => e = .returned (.bool true) ∧ w' = w := by
  have h' : x < -1 ∨ 255 < x := of_decide_eq_true h
  clear h
  rcases h' with h' | h'
  all_goals
    go_enter Try.func116, Try.ntmps116
    go_wp2
    all_goals first | (exfalso; omega) | (go_ret; exact ⟨ret_bool (by first | rfl | (simp; omega)), rfl⟩)

/-- slices.IndexFunc with that closure: -1 just if no number is bad. -/
def IdxEndK (l : List Int) (w : World) (e : Ending) (w' : World) : Prop :=
  w' = w ∧ ∃ n : Int, e = .returned (.int .i64 n) ∧ ((n = -1 ∧ ∀ x ∈ l, badK x = false) ∨ (0 ≤ n ∧ ∃ x ∈ l, badK x = true))
set_option maxHeartbeats 400000 in
theorem indexK_calls (A : Option Addr) (l : List Int) (cap : Nat) (w : World) (hA : RdI w A l) (hm : l.length ≤ maxLen) :
    Calls Try.prog 120 #[.slice A l.length cap, .func (.func 116) #[] #[]] w (IdxEndK l w) := by
  unfold maxLen at hm
  have HA := Lib.hid hA; clear hA
  go_enter Try.func120, Try.ntmps120
  go_wp2
  go_loop [8] (fun i => ∃ k : Nat, k ≤ l.length ∧ i = .int .i64 k ∧ Hid (∀ x ∈ l.take k, badK x = false)) (fun i => l.length - (intOf i).toNat)
  case atStart => exact ⟨0, Nat.zero_le _, rfl, fun x hx => by simp at hx⟩
  case round =>
    obtain ⟨k, hk, rfl, hP⟩ := hrel
    by_cases hlt : k < l.length
    · obtain ⟨b, off, rfl, hb, c0⟩ := RdI.at1 HA.out hlt
      have hmem := List.getElem_mem hlt
      have Hmem := Lib.hid hmem
      have Hst := Lib.hid (take_all_succ (p := fun x => badK x = false) hlt hP.out)
      clear hmem hP
      generalize l[k] = x at *
      cases hx : badK x
      · have Hx := Lib.hid hx
        clear hx
        go_wp2_with (go_at_call 116; refine (closureK_no _ _ Hx.out).mono ?_; rintro e w' ⟨rfl, rfl⟩)
        go_round
        case rel => exact ⟨k + 1, by omega, by go_num, Hst.out Hx.out⟩
        case measure => simp [intOf]; omega
      · have Hx := Lib.hid hx
        clear hx
        go_wp2_with (go_at_call 116; refine (closureK_yes _ _ Hx.out).mono ?_; rintro e w' ⟨rfl, rfl⟩)
        go_ret
        exact ⟨rfl, k, rfl, .inr ⟨by omega, x, Hmem.out, Hx.out⟩⟩
    · go_wp2
      go_ret
      have : k = l.length := by omega
      subst this
      have := hP.out
      rw [List.take_length] at this
      exact ⟨rfl, -1, rfl, .inl ⟨rfl, this⟩⟩
set_option maxHeartbeats 400000 in
theorem containsK_calls (A : Option Addr) (l : List Int) (cap : Nat) (w : World) (hA : RdI w A l) (hm : l.length ≤ maxLen) :
    Calls Try.prog 101 #[.slice A l.length cap, .func (.func 116) #[] #[]] w fun e w' => e = .returned (.bool (l.any badK)) ∧ w' = w := by
  have HA := Lib.hid hA; clear hA
  go_enter Try.func101, Try.ntmps101
  go_wp2_with fail
  refine (indexK_calls A l cap w HA.out hm).mono ?_
  rintro e w' ⟨rfl, n, rfl, h⟩
  rcases h with ⟨rfl, h⟩ | ⟨h0, x, hx, hb⟩
  · have Ha := Lib.hid (show l.any badK = false by rw [List.any_eq_false]; intro x hx; rw [h x hx]; decide)
    clear h hm
    go_wp2
    go_ret
    exact ⟨ret_bool Ha.out.symm, rfl⟩
  · have Ha := Lib.hid (show l.any badK = true by rw [List.any_eq_true]; exact ⟨x, hx, hb⟩)
    clear hx hb hm
    go_wp2
    go_ret
    exact ⟨ret_bool (by rw [Ha.out]; try (simp; try omega)), rfl⟩


def startErr (vars : Int) (l : List Int) : Int := if (l.length : Int) ≠ vars then 3 else if l.any badK then 4 else 0
theorem startErr_ok {vars : Int} {l : List Int} (h : startErr vars l = 0) : (l.length : Int) = vars ∧ ∀ x ∈ l, -1 ≤ x ∧ x ≤ 255 := by
  unfold startErr at h
  split at h
  · cases h
  · rename_i h1
    split at h
    · cases h
    · rename_i h2
      refine ⟨by omega, fun x hx => ?_⟩
      have h3 : badK x = false := by
        cases hb : badK x with
        | false => rfl
        | true => exact absurd (List.any_eq_true.2 ⟨x, hx, hb⟩) h2
      have := of_decide_eq_false h3
      omega
set_option maxRecDepth 100000 in
set_option maxHeartbeats 1000000 in
theorem knWrong_calls (vars : Int) (A B : Option Addr) (p : List Blk) (h0 : List Int) (cap capB : Nat) (w : World) (hA : RdBk w A p) (hB : RdI w B h0) (hm : p.length ≤ maxLen) (hmc : smallB p) (hm' : h0.length ≤ maxLen) :
    Calls Try.prog 86 #[.int .i64 vars, .slice A p.length cap, .slice B h0.length capB] w fun e w' => e = .returned (.int .i64 (if pkErr vars p = 0 then startErr vars h0 else pkErr vars p)) ∧ Below w.heap.size w w' := by
  have HB := Lib.hid hB
  have Hc := Lib.hid (blkCheck_calls vars A p cap w hA hm hmc)
  have Hk := Lib.hid (fun w hB => containsK_calls B h0 capB w hB hm')
  clear hA hB
  generalize pkErr vars p = er at *
  by_cases h1 : er = 0
  · subst h1
    rw [if_pos rfl]
    by_cases h : (h0.length : Int) ≠ vars
    · rw [show startErr vars h0 = 3 from by rw [startErr, if_pos h]]
      have q : ((h0.length : Int) != vars) = true := by rw [bne_iff_ne]; exact h
      clear h
      go_enter Try.func86, Try.ntmps86
      go_wp2_with (go_at_call 41; refine Hc.out.mono ?_; rintro e w1 ⟨rfl, hW⟩; have HW1 := Lib.hid hW; clear hW)
      go_ret
      exact ⟨rfl, HW1.out⟩
    · have q : ((h0.length : Int) != vars) = false := by simpa using h
      have hh : startErr vars h0 = if h0.any badK then 4 else 0 := by rw [startErr, if_neg h]
      rw [hh]
      clear h hh
      cases ha : h0.any badK
      all_goals
        have Ha := Lib.hid ha
        clear ha
        go_enter Try.func86, Try.ntmps86
        go_wp2_with (first
          | (go_at_call 41; refine Hc.out.mono ?_; rintro e w1 ⟨rfl, hW⟩; have HW1 := Lib.hid hW; clear hW)
          | (go_at_call 101; refine (Hk.out _ (Rd.below HB.out HW1.out)).mono ?_; rintro e w' ⟨rfl, rfl⟩; rw [Ha.out]))
        go_ret
        exact ⟨rfl, HW1.out⟩
  · rw [if_neg h1]
    have q : (er != 0) = true := by rw [bne_iff_ne]; exact h1
    go_enter Try.func86, Try.ntmps86
    go_wp2_with (go_at_call 41; refine Hc.out.mono ?_; rintro e w1 ⟨rfl, hW⟩; have HW1 := Lib.hid hW; clear hW)
    go_ret
    exact ⟨rfl, HW1.out⟩
/-- How known.In ends where it may. -/
def InEndK (vars : Int) (p : List Blk) (h0 : List Int) (w : World) (e : Ending) (w' : World) : Prop :=
  ∃ F vals b B', e = .returned (.tuple #[.slice (some ⟨b, 0, none⟩) p.length p.length, .int .i64 0]) ∧ SolK vars p h0 F ∧ LLn w' b B' vals F ∧ w.heap.size ≤ b ∧ Below w.heap.size w w'
set_option maxRecDepth 100000 in
set_option maxHeartbeats 1000000 in
theorem knIn_ok (vars : Int) (A B : Option Addr) (p : List Blk) (h0 : List Int) (cap capB : Nat) (w : World) (hA : RdBk w A p) (hB : RdI w B h0) (hm : p.length ≤ maxLen) (hmc : smallB p) (hm' : h0.length ≤ maxLen) (h1 : pkErr vars p = 0) (h2 : startErr vars h0 = 0) :
    Calls Try.prog 85 #[.int .i64 vars, .slice A p.length cap, .slice B h0.length capB] w (InEndK vars p h0 w) := by
  have HA := Lib.hid hA
  have HB := Lib.hid hB
  have Hc := Lib.hid (knWrong_calls vars A B p h0 cap capB w hA hB hm hmc hm')
  rw [if_pos h1, h2] at Hc
  obtain ⟨hl, hb⟩ := startErr_ok h2
  have Hs := Lib.hid (fun w hA hB => solve_calls vars A B p h0 cap capB w hA hB (pok_of h1) hl hb)
  clear hA hB h1 h2 hl hb
  go_enter Try.func85, Try.ntmps85
  go_wp2_with (first
    | (go_at_call 86; refine Hc.out.mono ?_; rintro e w1 ⟨rfl, hW⟩; have HW1 := Lib.hid hW; clear hW)
    | (go_at_call 87; refine (Hs.out _ (HA.out.below HW1.out) (Rd.below HB.out HW1.out)).mono ?_; rintro e w2 ⟨F, vals, B', rfl, hS, hL, hW2⟩; have HL := Lib.hid hL; have HS := Lib.hid hS; have HW2 := Lib.hid (HW1.out.trans (hW2.mono HW1.out.size)); clear hL hS hW2))
  go_ret2
  exact ⟨F, vals, w1.heap.size, B', rfl, HS.out, HL.out, HW1.out.size, HW2.out⟩
set_option maxRecDepth 100000 in
set_option maxHeartbeats 1000000 in
theorem knIn_bad (vars : Int) (A B : Option Addr) (p : List Blk) (h0 : List Int) (cap capB : Nat) (w : World) (hA : RdBk w A p) (hB : RdI w B h0) (hm : p.length ≤ maxLen) (hmc : smallB p) (hm' : h0.length ≤ maxLen) (h : pkErr vars p ≠ 0 ∨ startErr vars h0 ≠ 0) :
    Calls Try.prog 85 #[.int .i64 vars, .slice A p.length cap, .slice B h0.length capB] w fun e w' => (∃ x, x ≠ 0 ∧ e = .returned (.tuple #[.slice none 0 0, .int .i64 x])) ∧ Below w.heap.size w w' := by
  have Hc := Lib.hid (knWrong_calls vars A B p h0 cap capB w hA hB hm hmc hm')
  have hne : (if pkErr vars p = 0 then startErr vars h0 else pkErr vars p) ≠ 0 := by split <;> rename_i h1 <;> (try exact h1) <;> (rcases h with h | h; exact absurd h1 h; exact h)
  clear hA hB h
  generalize (if pkErr vars p = 0 then startErr vars h0 else pkErr vars p) = er at *
  have q : (er != 0) = true := by rw [bne_iff_ne]; exact hne
  go_enter Try.func85, Try.ntmps85
  go_wp2_with (go_at_call 86; refine Hc.out.mono ?_; rintro e w1 ⟨rfl, hW⟩; have HW1 := Lib.hid hW; clear hW)
  go_ret2
  exact ⟨⟨er, hne, rfl⟩, HW1.out⟩
set_option maxHeartbeats 400000 in
theorem startCheck_calls (vars : Int) (A : Option Addr) (l : List Int) (cap : Nat) (w : World) (hA : RdI w A l) (hm : l.length ≤ maxLen) :
    Calls Try.prog 44 #[.int .i64 vars, .slice A l.length cap] w fun e w' => e = .returned (.int .i64 (startErr vars l)) ∧ w' = w := by
  unfold maxLen at hm
  have HA := Lib.hid hA; clear hA
  by_cases h : (l.length : Int) ≠ vars
  · rw [show startErr vars l = 3 from by rw [startErr, if_pos h]]
    have q : ((l.length : Int) != vars) = true := by rw [bne_iff_ne]; exact h
    clear h
    go_enter Try.func44, Try.ntmps44
    go_wp2
    go_ret
    exact ⟨rfl, rfl⟩
  · have q : ((l.length : Int) != vars) = false := by simpa using h
    have hh : startErr vars l = if l.any badK then 4 else 0 := by rw [startErr, if_neg h]
    have Hh := Lib.hid hh
    clear h hh
    go_enter Try.func44, Try.ntmps44
    go_wp2
    clear q
    go_loop [13] (fun i => ∃ k : Nat, k ≤ l.length ∧ i = .int .i64 k ∧ Hid (∀ x ∈ l.take k, badK x = false)) (fun i => l.length - (intOf i).toNat)
    case atStart => exact ⟨0, Nat.zero_le _, rfl, fun x hx => by simp at hx⟩
    case round =>
      obtain ⟨k, hk, rfl, hP⟩ := hrel
      by_cases hlt : k < l.length
      · obtain ⟨b, off, rfl, hb, c0⟩ := RdI.at1 HA.out hlt
        have hmem := List.getElem_mem hlt
        have Hmem := Lib.hid hmem
        have Hst := Lib.hid (take_all_succ (p := fun x => badK x = false) hlt hP.out)
        clear hmem hP
        generalize l[k] = x at *
        by_cases hx1 : x = -1
        · subst hx1
          go_wp2
          go_round
          case rel => exact ⟨k + 1, by omega, by go_num, Hst.out (by decide)⟩
          case measure => simp [intOf]; omega
        have qx : (x != -1) = true := by rw [bne_iff_ne]; exact hx1
        cases hx : valB x
        · have Hx := Lib.hid (show badK x = true from decide_eq_true (by unfold valB at hx; have := of_decide_eq_false hx; omega))
          have Hv := Lib.hid hx
          clear hx
          go_wp2_with (go_at_call 100; refine (refValue_calls _ _).mono ?_; rintro e w' ⟨rfl, rfl⟩; rw [Hv.out])
          go_ret
          exact ⟨ret_int (by rw [Hh.out, if_pos (by rw [List.any_eq_true]; exact ⟨x, Hmem.out, Hx.out⟩)]), rfl⟩
        · have Hx := Lib.hid (show badK x = false from decide_eq_false (by unfold valB at hx; have := of_decide_eq_true hx; omega))
          have Hv := Lib.hid hx
          clear hx
          go_wp2_with (go_at_call 100; refine (refValue_calls _ _).mono ?_; rintro e w' ⟨rfl, rfl⟩; rw [Hv.out])
          go_round
          case rel => exact ⟨k + 1, by omega, by go_num, Hst.out Hx.out⟩
          case measure => simp [intOf]; omega
      · go_wp2
        go_ret
        have : k = l.length := by omega
        subst this
        have hall := hP.out
        rw [List.take_length] at hall
        exact ⟨ret_int (by rw [Hh.out, if_neg (by rw [List.any_eq_true]; rintro ⟨x, hx, hb⟩; rw [hall x hx] at hb; cases hb)]), rfl⟩
end Go.Proofs.Ytmgejacndhnikaa
