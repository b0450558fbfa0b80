/- codemasonkeep.runs. -/
import Derived.Test.YtadmmciiahdmcaaBlkE
import Derived.Test.YtadmmciiahdmcaaHaveB
namespace Go.Proofs.Ytadmmciiahdmcaa
open Go.RowKit
set_option maxHeartbeats 1000000 in
theorem runs_calls (vars : Int) (A B : Option Addr) (p : List Blk) (hv : List Int) (cap capB : Nat) (w : World) (hA : RdBk w A p) (hB : RdI w B hv) (hm : p.length ≤ maxLen) (hmc : smallB p) (hm' : hv.length ≤ maxLen) :
    Calls Try.prog 16 #[.int .i64 vars, .slice A p.length cap, .slice B hv.length capB] w fun e w' => e = .returned (.bool (pkErr vars p == 0 && haveErr vars hv == 0)) ∧ Below w.heap.size w w' := by
  have HA := Lib.hid hA
  have HB := Lib.hid hB
  clear hA hB
  have Hc := Lib.hid (progCheck_calls vars A p cap w HA.out hm hmc)
  have Hg := Lib.hid (fun w hB => given_calls vars B hv capB w hB hm')
  generalize pkErr vars p = er at *
  generalize (haveErr vars hv == 0) = hg at *
  by_cases h1 : er = 0
  · subst h1
    go_enter Try.func16, Try.ntmps16
    go_wp2_with (first
      | (go_at_call 23; refine Hc.out.mono ?_; rintro e w1 ⟨rfl, hW⟩; have HW1 := Lib.hid hW; clear hW)
      | (go_at_call 19; refine (Hg.out _ (Rd.below HB.out HW1.out)).mono ?_; rintro e w2 ⟨rfl, rfl⟩))
    go_ret
    exact ⟨ret_bool (by simp), HW1.out⟩
  · have q : (er == 0) = false := by rw [beq_eq_false_iff_ne]; exact h1
    go_enter Try.func16, Try.ntmps16
    go_wp2_with (go_at_call 23; refine Hc.out.mono ?_; rintro e w1 ⟨rfl, hW⟩; have HW1 := Lib.hid hW; clear hW)
    go_ret
    exact ⟨ret_bool (by rw [q]; rfl), HW1.out⟩
end Go.Proofs.Ytadmmciiahdmcaa
