/- jump.begins: the sums of the first 0, 1, .. sizes. -/
import Derived.Test.YtiphhadhbokgmaaJumpA
import Derived.Test.YtiphhadhbokgmaaOwn
namespace Go.Proofs.Ytiphhadhbokgmaa
open Go.RowKit

def psum (l : List Int) (i : Nat) : Int := (l.take i).sum
def begs (l : List Int) : List Int := (List.range (l.length + 1)).map (psum l)
def begsTo (l : List Int) (k : Nat) : List Int := (List.range (k + 1)).map (psum l)
def small (l : List Int) : Prop := ∀ x ∈ l, 0 ≤ x ∧ x ≤ 200
theorem psum_succ {l : List Int} {k : Nat} (hk : k < l.length) : psum l (k + 1) = psum l k + l[k] := by
  unfold psum
  rw [List.take_succ_eq_append_getElem hk, List.sum_append]; simp
theorem psum_bd {l : List Int} (h : small l) : ∀ k, 0 ≤ psum l k ∧ psum l k ≤ 200 * k := by
  intro k
  induction k with
  | zero => simp [psum]
  | succ k ih =>
    by_cases hk : k < l.length
    · rw [psum_succ hk]
      have := h _ (List.getElem_mem hk)
      omega
    · have : psum l (k + 1) = psum l k := by unfold psum; rw [List.take_of_length_le (by omega), List.take_of_length_le (by omega)]
      omega
theorem begsTo_succ (l : List Int) (k : Nat) : begsTo l (k + 1) = begsTo l k ++ [psum l (k + 1)] := by
  unfold begsTo; rw [List.range_succ (n := k + 1), List.map_append]; rfl
theorem begsTo_len (l : List Int) (k : Nat) : (begsTo l k).length = k + 1 := by simp [begsTo]
theorem begsTo_get (l : List Int) (k i : Nat) (h : i < (begsTo l k).length) : (begsTo l k)[i] = psum l i := by simp [begsTo]

set_option maxHeartbeats 400000 in
theorem begins_calls (A : Option Addr) (l : List Int) (cap : Nat) (w : World) (hA : RdI w A l) (hn : l.length ≤ 10) (hs : small l) :
    Calls Try.prog 28 #[.slice A l.length cap] w fun e w' => ∃ v, e = .returned v ∧ OwnI w' w.heap.size 3 v (begs l) ∧ Below w.heap.size w w' := by
  have HA := Lib.hid hA; clear hA
  have Hs := Lib.hid hs; clear hs
  go_enter Try.func28, Try.ntmps28
  go_wp2
  go_loopw [3, 9] (fun v i wr => ∃ k : Nat, k ≤ l.length ∧ i = .int .i64 k ∧ OwnI wr w.heap.size 3 v (begsTo l k) ∧ Below w.heap.size w wr) (fun _ i _ => l.length - (intOf i).toNat)
  case atStart => exact ⟨0, Nat.zero_le _, rfl, OwnI.lit w [0] _ (Nat.le_refl _) (by decide), (Below.refl _ _).alloc (Nat.le_refl _) _⟩
  case round =>
    obtain ⟨k, hk, rfl, hown, hW⟩ := hrel
    by_cases hlt : k < l.length
    · obtain ⟨b, off, rfl, hb, c0⟩ := RdI.at1 (Rd.below HA.out hW) hlt
      obtain ⟨g, cp, rfl, hg1, hg2, hg3, hg4, hg5⟩ := OwnI.at_ hown (by rw [begsTo_len]; omega)
      have c1 := hg5 k (by rw [begsTo_len]; omega)
      rw [begsTo_get] at c1
      have hps := psum_succ hlt
      have hb1 := psum_bd Hs.out k
      have hb2 := Hs.out _ (List.getElem_mem hlt)
      have Hown := Lib.hid hown; clear hown hg5 hg4
      have Hps := Lib.hid hps; clear hps
      have hw1 := hW.size
      have hlen := begsTo_len l k
      have Hlen := Lib.hid hlen
      have hlk : k < (begsTo l k).length := by omega
      rw [hlen] at hg3
      clear hlen
      generalize l[k] = x at *
      generalize psum l k = s at *
      go_wp2_with (at_builtin; refine wpList_appI rfl _ _ rfl w.heap.size _ _ (s + x) rfl (Hown.out.alloc _) _ _ rfl (cell_new _ _ _ _ (by simp) _) (by rw [Hlen.out]; omega) (by simp; omega) ?_; intro v' w1 hown' hgrow)
      go_roundw
      case rel =>
        refine ⟨k + 1, by omega, by go_num, ?_, below_own (hW.alloc hw1 _) hgrow (Hown.out.alloc _) (Nat.le_refl _) (by simp; omega)⟩
        rw [begsTo_succ, Hps.out]; exact hown'
      case measure => simp [intOf]; omega
    · have : k = l.length := by omega
      subst this
      go_wp2
      go_ret
      exact ⟨_, rfl, hown, hW⟩
end Go.Proofs.Ytiphhadhbokgmaa
