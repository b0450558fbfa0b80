/- hold.Play; HoldBelady. -/
import Derived.Test.YtdkkmmljaijomaaHoldH
import Derived.Test.YtdkkmmljaijomaaHoldG
namespace Go.Proofs.Ytdkkmmljaijomaa
open Go.RowKit

def PlayEnd (refs : List Int) (P : Int) (w : World) (e : Ending) (w' : World) : Prop :=
  Below w.heap.size w w' ∧ ((¬ Held refs P ∧ e = .returned (.tuple #[.int .i64 0, .int .i64 1])) ∨
    (∃ P' : Nat, P = P' ∧ Held refs P ∧ ((e = .returned (.tuple #[.int .i64 0, .int .i64 5]) ∧ Stuck false P' refs []) ∨ ∃ m : Nat, e = .returned (.tuple #[.int .i64 m, .int .i64 0]) ∧ m ≤ refs.length ∧ Runs false P' PickAny refs [] m)))
set_option maxHeartbeats 2000000 in
theorem playAll_calls (A B : Option Addr) (refs outs : List Int) (cap capB : Nat) (P : Int) (w : World) (hA : RdI w A refs) (hm : refs.length ≤ maxLen) (hB : RdI w B outs) (hmB : outs.length ≤ maxLen) (hcB : outs.length ≤ capB) :
    Calls Try.prog 18 #[.slice A refs.length cap, .int .i64 P, .slice B outs.length capB] w (PlayEnd refs P w) := by
  have hB1 : Below w.heap.size w (w.alloc (.cells #[.slice B outs.length capB] 22)) := (Below.refl _ _).alloc (Nat.le_refl _) _
  have HO : Hid (OutsAt w w.heap.size (w.alloc (.cells #[.slice B outs.length capB] 22))) :=
    ⟨B, outs, capB, cell_new w #[.slice B outs.length capB] 22 w.heap.size rfl 0, by unfold World.frozen?; rw [heap_alloc_new w _]; rfl, hB, hcB, hmB⟩
  have HA := Lib.hid hA
  have HB1 := Lib.hid hB1
  clear hA hB1 hB hmB hcB
  by_cases h : Held refs P
  · have H := Lib.hid h
    obtain ⟨P, rfl⟩ := Int.eq_ofNat_of_zero_le (show 0 ≤ P by have := h.2.1; omega)
    obtain ⟨h1, h2, h3⟩ := h
    go_enter Try.func18, Try.ntmps18
    go_wp2_with (go_at_call 33; refine (wrong_calls _ _ _ _ _ hm).mono ?_; rintro e w1 ⟨rfl, rfl⟩; rw [if_pos H.out])
    refine (play2_calls P w _ refs cap _ HA.out (by omega) (by omega) (by omega) HB1.out (by simp) HO.out).mono ?_
    rintro e w2 ⟨hB2, hr⟩
    have HB2 := Lib.hid hB2
    clear hB2
    rcases hr with ⟨rfl, hs⟩ | ⟨m, rfl, hmm, hr⟩
    · have Hs := Lib.hid hs
      clear hs
      go_wp2
      go_ret2
      exact ⟨HB2.out, .inr ⟨P, rfl, H.out, .inl ⟨rfl, Hs.out⟩⟩⟩
    · have Hr := Lib.hid hr
      clear hr
      go_wp2
      go_ret2
      exact ⟨HB2.out, .inr ⟨P, rfl, H.out, .inr ⟨m, rfl, hmm, Hr.out⟩⟩⟩
  · have H := Lib.hid h
    clear h
    go_enter Try.func18, Try.ntmps18
    go_wp2_with (go_at_call 33; refine (wrong_calls _ _ _ _ _ hm).mono ?_; rintro e w1 ⟨rfl, rfl⟩; rw [if_neg H.out])
    go_ret2
    exact ⟨HB1.out, .inl ⟨H.out, rfl⟩⟩
set_option maxHeartbeats 4000000 in
theorem holdBelady_calls (A B : Option Addr) (refs outs : List Int) (cap capB : Nat) (P : Int) (w : World) (hA : RdI w A refs) (hm : refs.length ≤ maxLen) (hcap : refs.length ≤ cap) (hB : RdI w B outs) (hmB : outs.length ≤ maxLen) (hcB : outs.length ≤ capB) :
    Calls Try.prog 5 #[.slice A refs.length cap, .int .i64 P, .slice B outs.length capB] w fun e w' => e = .returned (.bool true) ∧ Below w.heap.size w w' := by
  have HA := Lib.hid hA; clear hA
  have HBo := Lib.hid hB; clear hB
  by_cases h : Held refs P
  case neg =>
    have H := Lib.hid h
    have H' := Lib.hid (decide_eq_false h)
    clear h
    go_enter Try.func5, Try.ntmps5
    go_wp2_with (first
      | (go_at_call 14; refine (held_calls _ _ _ _ _ hm).mono ?_; rintro e w1 ⟨rfl, rfl⟩; rw [H'.out])
      | (go_at_call 16; refine (min_calls _ _ _ _ _ HA.out hm hcap).mono ?_; intro e w2 h2; obtain ⟨hB, rfl⟩ := h2.bad H.out; have HB := Lib.hid hB; clear hB h2))
    go_ret
    exact ⟨rfl, HB.out⟩
  have H := Lib.hid h
  have H' := Lib.hid (decide_eq_true h)
  obtain ⟨P, rfl⟩ := Int.eq_ofNat_of_zero_le (show 0 ≤ P by have := h.2.1; omega)
  obtain ⟨h1, h2, h3⟩ := h
  go_enter Try.func5, Try.ntmps5
  go_wp2_with fail
  refine (min_calls _ _ _ _ _ HA.out hm hcap).mono ?_
  intro e w2 hr
  obtain ⟨hB, k, rfl, hk, hrk⟩ := hr.ok H.out
  have HB2 := Lib.hid hB
  have Hrk := Lib.hid hrk
  have hw2 := hB.size
  clear hB hr hrk
  go_wp2_with (go_at_call 14; refine (held_calls _ _ _ _ _ hm).mono ?_; rintro e w1 ⟨rfl, rfl⟩; rw [H'.out])
  refine (lru_calls _ _ _ _ _ (Rd.below HA.out HB2.out) hm).mono ?_
  intro e w3 hr
  obtain ⟨hB, a, rfl, ha, hra⟩ := hr.ok H.out
  have HB3 := Lib.hid (HB2.out.trans (hB.mono hw2))
  have Hra := Lib.hid hra
  have hw3 := HB3.out.size
  clear hB hr hra
  go_wp2_with fail
  refine (fifo_calls _ _ _ _ _ (Rd.below HA.out HB3.out) hm).mono ?_
  intro e w4 hr
  obtain ⟨hB, b, rfl, hb, hrb⟩ := hr.ok H.out
  have HB4 := Lib.hid (HB3.out.trans (hB.mono hw3))
  have Hrb := Lib.hid hrb
  have hw4 := HB4.out.size
  clear hB hr hrb
  go_wp2_with fail
  refine (playAll_calls _ _ _ outs _ _ _ _ (Rd.below HA.out HB4.out) hm (Rd.below HBo.out HB4.out) hmB hcB).mono ?_
  rintro e w5 ⟨hB, hr⟩
  have HB5 := Lib.hid (HB4.out.trans (hB.mono hw4))
  clear hB
  have k1 : k ≤ a := belady0 (Nat.le_refl P) Hrk.out (Hra.out.legal0 (by omega))
  have k2 : k ≤ b := belady0 (Nat.le_refl P) Hrk.out (Hrb.out.legal0 (by omega))
  have q1 : decide ((k : Int) ≤ (a : Int)) = true := decide_eq_true (by omega)
  have q2 : decide ((k : Int) ≤ (b : Int)) = true := decide_eq_true (by omega)
  have q3 : decide ((k : Int) ≤ (refs.length : Int)) = true := decide_eq_true (by omega)
  rcases hr with ⟨h0, _⟩ | ⟨P', hp, _, hr⟩
  · exact absurd H.out h0
  have : P' = P := by omega
  subst this
  rcases hr with ⟨rfl, _⟩ | ⟨m, rfl, hmm, hr⟩
  · clear hp
    go_wp2
    all_goals first
      | (exfalso; omega)
      | (go_ret
         exact ⟨ret_bool (by first | rfl | (simp; omega)), HB5.out⟩)
  · have k3 : k ≤ m := belady0 (Nat.le_refl P') Hrk.out (hr.legal0 (by omega))
    have q4 : decide ((k : Int) ≤ (m : Int)) = true := decide_eq_true (by omega)
    clear hp hr
    go_wp2
    all_goals first
      | (exfalso; omega)
      | (go_ret
         exact ⟨ret_bool (by first | rfl | (simp; omega)), HB5.out⟩)
end Go.Proofs.Ytdkkmmljaijomaa
