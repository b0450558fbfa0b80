/- need.Check, need.Run walked, for steps that may be. -/
import Derived.Test.YtmglhppfdhphbaaPutP
import Derived.Test.YtmglhppfdhphbaaRecK
import Derived.Test.YtmglhppfdhphbaaHave
import Derived.Test.YtmglhppfdhphbaaAppRun
import Derived.BigGuardPart
import Derived.Deep.RegionHeld3
namespace Go.Proofs.Ytmglhppfdhphbaa
open Go.RowKit

theorem reg_ok (R : Nat) (regs x : Int) (w : World) (hR : w.cell? ⟨R, 0, none⟩ = some (.int .i64 regs)) (h0 : 0 ≤ x) (h1 : x < regs) :
    Calls Try.prog 56 #[.int .i64 x, .pointer (some ⟨R, 0, none⟩)] w fun e w' => e = .returned (.bool true) ∧ w' = w := by
  have d0 : decide (0 ≤ x) = true := decide_eq_true h0
  have d1 : decide (x < regs) = true := decide_eq_true h1
  go_enter Try.func56, Try.ntmps56
  go_wp2
  go_ret
  exact ⟨rfl, rfl⟩
set_option maxRecDepth 100000 in
set_option maxHeartbeats 4000000 in
theorem needCheck_ok (vars regs : Int) (A : Option Addr) (c : List Step) (cap : Nat) (w : World) (hA : RdSt w A c) (hv0 : 0 ≤ vars) (hv6 : vars ≤ 6) (hr1 : 1 ≤ regs) (hr8 : regs ≤ 8) (hn : c.length ≤ 40) (hs : ∀ s ∈ c, StOk vars regs s) :
    Calls Try.prog 51 #[.int .i64 vars, .slice A c.length cap, .int .i64 regs] w fun e w' => e = .returned (.int .i64 0) ∧ Below w.heap.size w w' := by
  have HA := Lib.hid hA
  have HS := Lib.hid hs
  have HW0 := Lib.hid ((Below.refl w.heap.size w).alloc (Nat.le_refl _) (.cells #[.int .i64 regs] 3))
  have HR0 := Lib.hid (heap_alloc_new w (.cells #[.int .i64 regs] 3))
  clear hA hs
  go_enter Try.func51, Try.ntmps51
  go_wp2
  all_goals (try (exfalso; omega))
  go_loopw [32] (fun i wr => ∃ k : Nat, k ≤ c.length ∧ i = .int .i64 k ∧ wr.heap[w.heap.size]? = some (.cells #[.int .i64 regs] 3 (0, 0)) ∧ Below w.heap.size w wr) (fun i _ => c.length - (intOf i).toNat)
  case atStart => exact ⟨0, Nat.zero_le _, rfl, HR0.out, HW0.out⟩
  case round =>
    obtain ⟨k, hk, rfl, hR, hW⟩ := hrel
    have HW := Lib.hid hW
    have HR := Lib.hid hR
    have hws := hW.size
    by_cases hlt : k < c.length
    · obtain ⟨b, off, rfl, hb, k0, k1, k2, k3, k4⟩ := RdSt.at5 (Rd.below HA.out hW) hlt
      have q1 : ((k : Nat) : Int) < ((c.length : Nat) : Int) := by omega
      obtain ⟨o1, o6, on, ov, ⟨t0, t1⟩, oab⟩ := HS.out c[k] (List.getElem_mem hlt)
      have HWa := Lib.hid (fun o : Int => HW.out.alloc hws (.cells #[.int .i64 o, .int .i64 c[k].to, .int .i64 c[k].a, .int .i64 c[k].b, .int .i64 c[k].val] 44))
      have HRa := Lib.hid (fun o : Int => (Below.heap_alloc wr (.cells #[.int .i64 o, .int .i64 c[k].to, .int .i64 c[k].a, .int .i64 c[k].b, .int .i64 c[k].val] 44) _ (lt_h hR)).trans hR)
      clear hW hR
      generalize c[k] = s at *
      obtain ⟨op, sto, sa, sb, sv⟩ := s
      dsimp only at o1 o6 on ov t0 t1 oab k0 k1 k2 k3 k4 HWa HRa
      have Hcl := Lib.hid (fun (o x : Int) (h0 : 0 ≤ x) (h1 : x < regs) => reg_ok w.heap.size regs x (wr.alloc (.cells #[.int .i64 o, .int .i64 sto, .int .i64 sa, .int .i64 sb, .int .i64 sv] 44)) (cell_h (HRa.out o) 0) h0 h1)
      by_cases h1 : op = 1
      · subst h1
        obtain ⟨v0, v1⟩ := on rfl
        clear on ov oab
        go_wp2_with (go_at_call 56; refine (Hcl.out _ _ (by omega) (by omega)).mono ?_; rintro e w' ⟨rfl, rfl⟩)
        all_goals (try (exfalso; omega))
        go_roundw
        case rel => exact ⟨k + 1, by omega, by go_num, HRa.out _, HWa.out _⟩
        case measure => simp [intOf]; omega
      by_cases h2 : op = 2
      · subst h2
        obtain ⟨v0, v1⟩ := ov rfl
        clear on ov oab
        go_wp2_with (go_at_call 56; refine (Hcl.out _ _ (by omega) (by omega)).mono ?_; rintro e w' ⟨rfl, rfl⟩)
        all_goals (try (exfalso; omega))
        go_roundw
        case rel => exact ⟨k + 1, by omega, by go_num, HRa.out _, HWa.out _⟩
        case measure => simp [intOf]; omega
      · obtain ⟨⟨a0, a1⟩, b0, b1⟩ := oab (by omega)
        have q6 : (op == 1) = false := by rw [beq_eq_false_iff_ne]; exact h1
        have q7 : (op == 2) = false := by rw [beq_eq_false_iff_ne]; exact h2
        have q8 : decide (2 < op) = true := decide_eq_true (by omega)
        clear on ov oab
        go_wp2_with (go_at_call 56; refine (Hcl.out _ _ (by omega) (by omega)).mono ?_; rintro e w' ⟨rfl, rfl⟩)
        all_goals (try (exfalso; omega))
        go_roundw
        case rel => exact ⟨k + 1, by omega, by go_num, HRa.out _, HWa.out _⟩
        case measure => simp [intOf]; omega
    · clear hW hR
      go_wp2
      go_ret
      exact ⟨rfl, HW.out⟩
end Go.Proofs.Ytmglhppfdhphbaa
