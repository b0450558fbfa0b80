/- codemasonref.Ints: are two lists of numbers the same? -/
import Derived.Test.YtmgejacndhnikaaTurnG
import Derived.BigGuardPart
import Derived.BigQuiet
import Derived.Deep.QuietTactic
namespace Go.Proofs.Ytmgejacndhnikaa
open Go.RowKit

theorem take_eq_succ {a b : List Int} {k : Nat} (ha : k < a.length) (hb : k < b.length) (h : a.take k = b.take k) (he : a[k] = b[k]) : a.take (k + 1) = b.take (k + 1) := by
  rw [List.take_succ_eq_append_getElem ha, List.take_succ_eq_append_getElem hb, h, he]
set_option maxRecDepth 100000 in
set_option maxHeartbeats 1000000 in
theorem ints_calls (A B : Option Addr) (a b : List Int) (ca cb : Nat) (w : World) (hA : RdI w A a) (hB : RdI w B b) (hm : a.length ≤ maxLen) :
    Calls Try.prog 24 #[.slice A a.length ca, .slice B b.length cb] w fun e w' => e = .returned (.bool (decide (a = b))) ∧ Below w.heap.size w w' := by
  unfold maxLen at hm
  have HA := Lib.hid hA
  have HB := Lib.hid hB
  clear hA hB
  by_cases hl : a.length = b.length
  · have q : ((a.length : Int) != (b.length : Int)) = false := by rw [bne_eq_false_iff_eq]; omega
    go_enter Try.func24, Try.ntmps24
    go_wp2
    clear q
    go_loopw [5] (fun i wr => ∃ k : Nat, k ≤ a.length ∧ i = .int .i64 k ∧ Hid (a.take k = b.take k) ∧ Below w.heap.size w wr) (fun i _ => a.length - (intOf i).toNat)
    case atStart => exact ⟨0, Nat.zero_le _, rfl, Lib.hid rfl, Below.refl _ _⟩
    case round =>
      obtain ⟨k, hk, rfl, hE, hW⟩ := hrel
      have HW := Lib.hid hW
      by_cases hlt : k < a.length
      · have hlb : k < b.length := by omega
        obtain ⟨b0, o0, rfl, hb0, c0⟩ := RdI.at1 (Rd.below HA.out hW) hlt
        obtain ⟨b1, o1, rfl, hb1, c1⟩ := RdI.at1 (Rd.below HB.out hW) hlb
        have HS := Lib.hid (take_eq_succ hlt hlb hE.out)
        have HN := Lib.hid (show a[k] ≠ b[k] → decide (a = b) = false from fun h => decide_eq_false (fun e => h (by subst e; rfl)))
        have q1 : (k : Int) < (a.length : Int) := by omega
        have q2 : (k : Int) < (b.length : Int) := by omega
        clear hE hW
        generalize a[k] = x at *
        generalize b[k] = y at *
        by_cases hxy : x = y
        · have q3 : (x != y) = false := by simpa using hxy
          go_wp2
          go_quiet (fail)
          go_wp2
          go_roundw
          case rel => exact ⟨k + 1, by omega, by go_num, Lib.hid (HS.out hxy), below_dN HW.out _⟩
          case measure => simp [intOf]; omega
        · have q3 : (x != y) = true := by rw [bne_iff_ne]; exact hxy
          go_wp2
          go_quiet (fail)
          go_wp2
          go_ret
          exact ⟨ret_bool (HN.out hxy).symm, below_dN HW.out _⟩
      · have hke : k = a.length := by omega
        subst hke
        have he : decide (a = b) = true := decide_eq_true (by have := hE.out; rw [List.take_length, hl, List.take_length] at this; exact this)
        have He := Lib.hid he
        clear hE hW he
        go_wp2
        go_ret
        exact ⟨ret_bool He.out.symm, HW.out⟩
  · have q : ((a.length : Int) != (b.length : Int)) = true := by rw [bne_iff_ne]; omega
    have He := Lib.hid (show decide (a = b) = false from decide_eq_false (fun e => hl (by rw [e])))
    go_enter Try.func24, Try.ntmps24
    go_wp2
    go_ret
    exact ⟨ret_bool He.out.symm, Below.refl _ _⟩
end Go.Proofs.Ytmgejacndhnikaa
