/- color.Least. -/
import Derived.Test.YtckmedmebabkjaaDoorColC
namespace Go.Proofs.YtckmedmebabkjaaDoor
open Go.RowKit

theorem full_all {ws : List Nat} : Full ws.length ws [] := by
  refine ⟨List.range ws.length, ⟨_, rfl⟩, by simp, fun c hc => List.mem_range.1 hc, fun i j hj hi _ => ?_⟩
  simp only [List.length_range] at hi
  rw [getD_of (by simp; omega), getD_of (by simp; omega)]
  simp; omega
/-- A list of colors, the fewest. -/
structure LeastL (ws l : List Nat) (K : Nat) : Prop where
  len : l.length = ws.length
  k1 : 1 ≤ K
  kn : K ≤ ws.length
  good : Good K ws l
  least : ∀ k, 1 ≤ k → k < K → ¬ Full k ws []
def LeastEnd (n : Int) (ps : List (Int × Int)) (w : World) (e : Ending) (w' : World) : Prop :=
  Below w.heap.size w w' ∧ ((clErr n ps ≠ 0 ∧ e = .returned (.tuple #[.slice none 0 0, .int .i64 (clErr n ps)])) ∨
    (∃ m : Nat, n = m ∧ ClOk m ps ∧ ∃ A cap l K, e = .returned (.tuple #[.slice A l.length cap, .int .i64 0]) ∧ RdC w' A l ∧ LeastL (clL m ps) l K))
set_option maxHeartbeats 4000000 in
theorem least_calls (n : Int) (A : Option Addr) (ps : List (Int × Int)) (cap : Nat) (w : World) (hA : RdP w A ps) (hm : ps.length ≤ maxLen) :
    Calls Tryd.prog 8 #[.int .i64 n, .slice A ps.length cap] w (LeastEnd n ps w) := by
  have HA := Lib.hid hA; clear hA
  go_enter Tryd.func8, Tryd.ntmps8
  go_wp2_with fail
  refine (clashes_any _ _ _ _ _ HA.out hm).mono ?_
  rintro e w1 ⟨v, rfl, hW, hr⟩
  have HW := Lib.hid hW
  have hw1 := hW.size
  clear hW
  rcases hr with ⟨h0, rfl⟩ | ⟨m, rfl, hok, hown⟩
  · have q : (clErr n ps != 0) = true := by rw [bne_iff_ne]; exact h0
    have H0 := Lib.hid h0
    clear h0
    go_wp2
    go_ret2
    exact ⟨HW.out, .inl ⟨H0.out, rfl⟩⟩
  · rw [hok.err]
    have Hok := Lib.hid hok
    have h1 := hok.n1
    have h8 := hok.n8
    obtain ⟨B, capB, rfl, hR⟩ := hown.rd
    have HR := Lib.hid hR
    have Hws := Lib.hid (show ∀ s ∈ clL m ps, s < 256 from fun s hs => by
      obtain ⟨i, hi, rfl⟩ := List.getElem_of_mem hs
      rw [clL_get]; exact clS_lt _ _)
    have Hl := Lib.hid (clL_len m ps)
    clear hok hown hR
    obtain ⟨ws, hws⟩ : ∃ ws, ws = clL m ps := ⟨_, rfl⟩
    have Heq := Lib.hid hws
    rw [← hws] at Hl HR Hws ⊢
    clear hws
    go_wp2
    go_loopw [8] (fun i wr => ∃ k : Nat, 1 ≤ k ∧ k ≤ m ∧ i = .int .i64 k ∧ Hid (∀ k', 1 ≤ k' → k' < k → ¬ Full k' ws []) ∧ Below w1.heap.size w1 wr) (fun i _ => m - (intOf i).toNat)
    case atStart => exact ⟨1, Nat.le_refl _, h1, rfl, fun k' a b => by omega, Below.refl _ _⟩
    case round =>
      obtain ⟨k, hk1, hk, rfl, hP, hW⟩ := hrel
      have HW2 := Lib.hid hW
      have hw2 := hW.size
      clear hW
      go_wp2_with fail
      refine (fill_calls k (by omega) ws Hws.out (by rw [Hl.out]; omega) B capB ws.length [] none 0 wr (by simp) (Rd.below HR.out HW2.out) Rd.nil_ (fun _ => ⟨rfl, rfl⟩) (by simp) ⟨by simp, fun i j _ hi => by simp at hi⟩).mono ?_
      rintro e w4 ⟨hB4, hr4⟩
      have HB4 := Lib.hid (HW2.out.trans (hB4.mono hw2))
      clear hB4
      rcases hr4 with ⟨A5, cap5, l5, rfl, hR5, hp5, hl5, hg5⟩ | ⟨rfl, hn5⟩
      · have HR5 := Lib.hid hR5
        have HL5 : Hid (LeastL ws l5 k) := ⟨hl5, hk1, by rw [Hl.out]; exact hk, hg5, hP.out⟩
        clear hR5 hp5 hl5 hg5
        go_wp2
        go_ret2
        refine ⟨HW.out.trans (HB4.out.mono hw1), .inr ⟨m, rfl, Hok.out, A5, cap5, l5, k, rfl, HR5.out, by rw [← Heq.out]; exact HL5.out⟩⟩
      · have Hn5 := Lib.hid hn5
        have hkm : k ≠ m := fun e => by
          subst e
          have := @full_all ws
          rw [Hl.out] at this
          exact hn5 this
        clear hn5
        go_wp2
        go_roundw
        case rel => exact ⟨k + 1, by omega, by omega, by go_num, fun k' a b => by
          rcases Nat.lt_or_ge k' k with h | h
          · exact hP.out k' a h
          · have : k' = k := by omega
            subst this; exact Hn5.out, HB4.out⟩
        case measure => simp [intOf]; omega
end Go.Proofs.YtckmedmebabkjaaDoor
