/- mach.step walked: a step's bytes. -/
import Derived.Test.YtmgejacndhnikaaRowB
import Derived.Test.YtmgejacndhnikaaMchR
import Derived.Test.YtmgejacndhnikaaRecK
namespace Go.Proofs.Ytmgejacndhnikaa
set_option maxRecDepth 100000
open Go.RowKit

theorem rdB_new (w : World) (l : List Int) (cs : Array Value) (e s : Nat) (hs : w.heap.size = s) (hc : (l.map (Value.int .u8)).toArray = cs) : RdB (w.alloc (.cells cs e)) (some ⟨s, 0, none⟩) l :=
  rd_new w l _ e s hs fun k x hx j hj => by
    have : j = 0 := by omega
    subst this
    simp [byteCells, ← hc, hx]
theorem wrap_u8_in {x : Int} (h0 : 0 ≤ x) (h1 : x ≤ 255) : IntKind.u8.wrap x = x := by rw [IntKind.wrap_u8]; omega
def StepE (s : Step) (w : World) (e : Ending) (w' : World) : Prop := ∃ A cap, e = .returned (.slice A (stepY s).length cap) ∧ RdB w' A (stepY s) ∧ Below w.heap.size w w'
set_option maxHeartbeats 4000000 in
theorem mstep_calls (vars : Int) (s : Step) (w : World) (hv : vars ≤ 6) (hs : SOk vars s) : Calls Try.prog 43 #[s.agg] w (StepE s w) := by
  obtain ⟨o1, o6, on, ov, ot, oa⟩ := hs
  have u3 : IntKind.u8.wrap (24 + s.to) = 24 + s.to := wrap_u8_in (by omega) (by omega)
  by_cases h1 : s.op = 1
  · have := on h1
    have u4 : IntKind.u8.wrap s.val = s.val := wrap_u8_in (by omega) (by omega)
    have e : stepY s = [8, s.val, 24 + s.to] := by unfold stepY; rw [if_pos h1]
    unfold StepE
    rw [e]
    clear e on ov oa o1 o6
    obtain ⟨op, to, a, b, val⟩ := s
    dsimp only at *
    subst h1
    unfold Step.agg
    go_enter Try.func43, Try.ntmps43
    go_wp2
    go_ret
    exact ⟨_, _, rfl, rdB_new _ _ _ _ _ (by simp) rfl, ((Below.refl _ _).alloc (Nat.le_refl _) _).alloc (by simp) _⟩
  · by_cases h2 : s.op = 2
    · have := ov h2
      have u4 : IntKind.u8.wrap (16 + s.val) = 16 + s.val := wrap_u8_in (by omega) (by omega)
      have e : stepY s = [16 + s.val, 24 + s.to] := by unfold stepY; rw [if_neg h1, if_pos h2]
      unfold StepE
      rw [e]
      clear e on ov oa o1 o6 h1
      obtain ⟨op, to, a, b, val⟩ := s
      dsimp only at *
      subst h2
      unfold Step.agg
      go_enter Try.func43, Try.ntmps43
      go_wp2
      go_ret
      exact ⟨_, _, rfl, rdB_new _ _ _ _ _ (by simp) rfl, ((Below.refl _ _).alloc (Nat.le_refl _) _).alloc (by simp) _⟩
    · obtain ⟨a1, a2⟩ := oa (by omega)
      have u4 : IntKind.u8.wrap (16 + s.a) = 16 + s.a := wrap_u8_in (by omega) (by omega)
      have u5 : IntKind.u8.wrap ((s.op - 3 + 4) * 8 + s.b) = (s.op - 3 + 4) * 8 + s.b := wrap_u8_in (by omega) (by omega)
      have e : stepY s = [16 + s.a, (s.op - 3 + 4) * 8 + s.b, 24 + s.to] := by unfold stepY; rw [if_neg h1, if_neg h2]
      unfold StepE
      rw [e]
      clear e on ov oa
      obtain ⟨op, to, a, b, val⟩ := s
      dsimp only at *
      have q1 : (op == 1) = false := by rw [beq_eq_false_iff_ne]; exact h1
      have q2 : (op == 2) = false := by rw [beq_eq_false_iff_ne]; exact h2
      unfold Step.agg
      go_enter Try.func43, Try.ntmps43
      go_wp2
      go_ret
      exact ⟨_, _, rfl, rdB_new _ _ _ _ _ (by simp) rfl, ((Below.refl _ _).alloc (Nat.le_refl _) _).alloc (by simp) _⟩
end Go.Proofs.Ytmgejacndhnikaa
