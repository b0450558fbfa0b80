/- slices.Clone of ints. -/
import Derived.Test.YtmgejacndhnikaaOwn
import Derived.Test.YtmgejacndhnikaaAppN
import Derived.Lib.SliceRun
namespace Go.Proofs.Ytmgejacndhnikaa
open Go.RowKit

set_option maxRecDepth 100000 in
set_option maxHeartbeats 1000000 in
theorem cloneI_calls (A : Option Addr) (l : List Int) (cap : Nat) (w : World) (hA : RdI w A l) (h1 : 1 ≤ l.length) (h16 : l.length ≤ 1000) :
    Calls Try.prog 59 #[.slice A l.length cap] w fun e w' => ∃ v, e = .returned v ∧ OwnI w' w.heap.size 3 v l ∧ Below w.heap.size w w' := by
  have HA := Lib.hid hA
  obtain ⟨b, off, rfl, hb, -⟩ := hA (by omega)
  clear hA
  have HE := Lib.hid (own_new intCells 1 3 intCells_len w w.heap.size (Nat.le_refl _) [] (by simp [maxLen]))
  have HR := Lib.hid (Rd.below HA.out ((Below.refl w.heap.size w).alloc (Nat.le_refl _) (.cells #[] 3)))
  obtain ⟨v3, w3, hrun, hO3, hg3, -⟩ := run_appN (P := Try.prog) 23 23 intCells 1 8 3 (.int .i64 0) Try.underlying23 infoInt rfl (by decide) intCells_len intCells_one w.heap.size _ [] HE.out _ l cap HR.out (by simp [maxLen]; omega) (by simp; omega) (by simp)
  rw [List.nil_append] at hO3
  have HO3 := Lib.hid hO3
  have HW3 := Lib.hid (((Below.refl w.heap.size w).alloc (Nat.le_refl _) (.cells #[] 3)).grown hg3 (by simp) (fun k e => by have e : some w.heap.size = some k := e; injection e with e; omega))
  have Hrun := Lib.hid hrun
  clear hO3 hg3 hrun
  have q22 : ∀ (w : World) (a : Option Addr) (n c n' c' : Nat), (binOp .eql 23 (.slice a n c) (.slice none n' c')).run Try.prog w = .ok (.bool a.isNone) w := fun w a n c n' c' => Lib.run_eql_slice_nil w _ _ a n c n' c' Try.underlying23
  go_enter Try.func59, Try.ntmps59
  go_wp2_with (at_builtin; refine wpList_app_run rfl 23 _ _ rfl rfl rfl Hrun.out ?_)
  go_ret
  exact ⟨_, rfl, HO3.out, HW3.out⟩
end Go.Proofs.Ytmgejacndhnikaa
