/- slices.Clone, slices.Equal of ints. -/
import Derived.Test.YtdkkmmljaijomaaOwn
import Derived.Test.YtdkkmmljaijomaaAppN
import Derived.Lib.SliceRun
import Derived.BigQuiet
import Derived.Deep.QuietTactic
import Derived.BigGuardPart
namespace Go.Proofs.Ytdkkmmljaijomaa
open Go.RowKit

set_option maxRecDepth 100000 in
set_option maxHeartbeats 1000000 in
theorem cloneI_calls (A : Option Addr) (l : List Int) (cap : Nat) (w : World) (hA : RdI w A l) (h1 : 1 ≤ l.length) (h16 : l.length ≤ 1000) :
    Calls Try.prog 48 #[.slice A l.length cap] w fun e w' => ∃ v, e = .returned v ∧ OwnI w' w.heap.size 3 v l ∧ Below w.heap.size w w' := by
  have HA := Lib.hid hA
  obtain ⟨b, off, rfl, hb, -⟩ := hA (by omega)
  clear hA
  have HE := Lib.hid (own_new intCells 1 3 intCells_len w w.heap.size (Nat.le_refl _) [] (by simp [maxLen]))
  have HR := Lib.hid (Rd.below HA.out ((Below.refl w.heap.size w).alloc (Nat.le_refl _) (.cells #[] 3)))
  obtain ⟨v3, w3, hrun, hO3, hg3, -⟩ := run_appN (P := Try.prog) 22 22 intCells 1 8 3 (.int .i64 0) Try.underlying22 infoInt rfl (by decide) intCells_len intCells_one w.heap.size _ [] HE.out _ l cap HR.out (by simp [maxLen]; omega) (by simp; omega) (by simp)
  rw [List.nil_append] at hO3
  have HO3 := Lib.hid hO3
  have HW3 := Lib.hid (((Below.refl w.heap.size w).alloc (Nat.le_refl _) (.cells #[] 3)).grown hg3 (by simp) (fun k e => by have e : some w.heap.size = some k := e; injection e with e; omega))
  have Hrun := Lib.hid hrun
  clear hO3 hg3 hrun
  have q22 : ∀ (w : World) (a : Option Addr) (n c n' c' : Nat), (binOp .eql 22 (.slice a n c) (.slice none n' c')).run Try.prog w = .ok (.bool a.isNone) w := fun w a n c n' c' => Lib.run_eql_slice_nil w _ _ a n c n' c' Try.underlying22
  go_enter Try.func48, Try.ntmps48
  go_wp2_with (at_builtin; refine wpList_app_run rfl 22 _ _ rfl rfl rfl Hrun.out ?_)
  go_ret
  exact ⟨_, rfl, HO3.out, HW3.out⟩
set_option maxHeartbeats 400000 in
theorem equalI_calls (A B : Option Addr) (a b : List Int) (ca cb : Nat) (w : World) (hA : RdI w A a) (hB : RdI w B b) (ha : a.length < 1000000) :
    Calls Try.prog 50 #[.slice A a.length ca, .slice B b.length cb] w fun e w' => e = .returned (.bool (decide (a = b))) ∧ ∃ nq, w' = w.drewN nq := by
  have HA := Lib.hid hA; clear hA
  have HB := Lib.hid hB; clear hB
  by_cases hl : a.length = b.length
  case neg =>
    have q1 : ((a.length : Int) != (b.length : Int)) = true := by rw [bne_iff_ne]; omega
    have H := Lib.hid (show a ≠ b from fun h => hl (by rw [h]))
    clear hl
    go_enter Try.func50, Try.ntmps50
    go_wp2
    all_goals first | (exfalso; omega) | (go_ret; exact ⟨ret_bool (decide_eq_false H.out).symm, 0, rfl⟩)
  have q1 : ((a.length : Int) != (b.length : Int)) = false := by rw [bne_eq_false_iff_eq]; omega
  have Hl := Lib.hid hl
  clear hl
  go_enter Try.func50, Try.ntmps50
  go_wp2
  clear q1
  go_loopw [13] (fun i wr => ∃ k : Nat, k ≤ a.length ∧ i = .int .i64 k ∧ Hid (a.take k = b.take k) ∧ ∃ nq, wr = w.drewN nq) (fun i _ => a.length - (intOf i).toNat)
  case atStart => exact ⟨0, Nat.zero_le _, rfl, Lib.hid rfl, 0, rfl⟩
  case round =>
    obtain ⟨k, hk, rfl, hE, nq, rfl⟩ := hrel
    by_cases hlt : k < a.length
    · have hltb : k < b.length := by have := Hl.out; omega
      obtain ⟨b1, off1, rfl, hb1, c0⟩ := RdI.at1 HA.out hlt
      obtain ⟨b2, off2, rfl, hb2, c1⟩ := RdI.at1 HB.out hltb
      have k1 : ((k : Nat) : Int) < ((a.length : Nat) : Int) := by omega
      have k2 : ((k : Nat) : Int) < ((b.length : Nat) : Int) := by omega
      by_cases he : a[k] = b[k]
      · have q2 : a[k] = b[k] := he
        have Hn : Hid (a.take (k + 1) = b.take (k + 1)) := by
          rw [List.take_succ_eq_append_getElem hlt, List.take_succ_eq_append_getElem hltb, hE.out, he]; exact Lib.hid rfl
        clear he hE
        generalize a[k] = x at *
        generalize b[k] = y at *
        go_wp2
        go_quiet (fail)
        go_wp2
        go_roundw
        case rel => exact ⟨k + 1, by omega, by go_num, Hn, _, rfl⟩
        case measure => simp [intOf]; omega
      · have q2 : (a[k] != b[k]) = true := by rw [bne_iff_ne]; exact he
        have Hn := Lib.hid (show a ≠ b from fun h => he (by simp [h]))
        clear he hE
        generalize a[k] = x at *
        generalize b[k] = y at *
        go_wp2
        go_quiet (fail)
        go_wp2
        go_ret
        exact ⟨ret_bool (decide_eq_false Hn.out).symm, _, World.drewN_drewN _ _ _⟩
    · go_wp2
      go_ret
      refine ⟨ret_bool ?_, _, rfl⟩
      have := hE.out
      have hl := Hl.out
      rw [List.take_of_length_le (by omega), List.take_of_length_le (by omega)] at this
      exact (decide_eq_true this).symm
end Go.Proofs.Ytdkkmmljaijomaa
