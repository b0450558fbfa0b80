/- block.Way walked. -/
import Derived.Test.YtmgejacndhnikaaBlkC
import Derived.Test.YtmgejacndhnikaaBlkN
import Derived.Test.YtmgejacndhnikaaBlkI
namespace Go.Proofs.Ytmgejacndhnikaa
open Go.RowKit

set_option maxHeartbeats 1000000 in
theorem way_ok (vars : Int) (A : Option Addr) (p : List Blk) (cap : Nat) (w : World) (hA : RdBk w A p) (hm : p.length ≤ maxLen) (hmc : smallB p) (h : pkErr vars p = 0) :
    Calls Try.prog 52 #[.int .i64 vars, .slice A p.length cap] w fun e w' => ∃ b : Nat, e = .returned (.tuple #[.slice (some ⟨b, 0, none⟩) p.length p.length, .int .i64 0]) ∧ RdN w' (some ⟨b, 0, none⟩) (nexts p) ∧ Below w.heap.size w w' := by
  have HA := Lib.hid hA
  have H0 := Lib.hid h
  have hp := pok_of h
  have n1 := hp.n1
  have n8 := hp.n8
  clear hA h hp
  go_enter Try.func52, Try.ntmps52
  go_wp2_with (first
    | (go_at_call 41; refine (blkCheck_calls vars A p cap w HA.out hm hmc).mono ?_; rintro e w1 ⟨rfl, hW⟩; rw [H0.out]; have HW1 := Lib.hid hW; clear hW)
    | (go_at_call 65; refine (next_calls A p cap w1 (HA.out.below HW1.out) n1 n8).mono ?_; rintro e w2 ⟨b, rfl, hR, hW2⟩; have HR := Lib.hid hR; have HW2 := Lib.hid (HW1.out.trans (hW2.mono HW1.out.size)); clear hR hW2))
  go_ret2
  exact ⟨_, rfl, HR.out, HW2.out⟩
set_option maxHeartbeats 1000000 in
theorem way_bad (vars : Int) (A : Option Addr) (p : List Blk) (cap : Nat) (w : World) (hA : RdBk w A p) (hm : p.length ≤ maxLen) (hmc : smallB p) (h : pkErr vars p ≠ 0) :
    Calls Try.prog 52 #[.int .i64 vars, .slice A p.length cap] w fun e w' => (∃ x, x ≠ 0 ∧ e = .returned (.tuple #[.slice none 0 0, .int .i64 x])) ∧ Below w.heap.size w w' := by
  have Hc := Lib.hid (blkCheck_calls vars A p cap w hA hm hmc)
  clear hA
  generalize pkErr vars p = er at *
  have q : (er != 0) = true := by rw [bne_iff_ne]; exact h
  go_enter Try.func52, Try.ntmps52
  go_wp2_with (go_at_call 41; refine Hc.out.mono ?_; rintro e w1 ⟨rfl, hW⟩; have HW1 := Lib.hid hW; clear hW)
  go_ret2
  exact ⟨⟨er, h, rfl⟩, HW1.out⟩
end Go.Proofs.Ytmgejacndhnikaa
