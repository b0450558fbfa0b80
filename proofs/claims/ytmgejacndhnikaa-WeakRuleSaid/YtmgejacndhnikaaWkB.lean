/- weak.wrong walked; weak.Ahead's refusals. -/
import Derived.Test.YtmgejacndhnikaaWkA
import Derived.Test.YtmgejacndhnikaaBlkC
namespace Go.Proofs.Ytmgejacndhnikaa
set_option maxRecDepth 100000
open Go.RowKit

/-- What weak.wrong answers. -/
def wkE (vars : Int) (code : List Step) : Int := pkErr vars [⟨code, -1, -1, 0⟩]
theorem wkE_ok {vars : Int} {code : List Step} (h : wkE vars code = 0) : 1 ≤ vars ∧ vars ≤ 6 ∧ code.length ≤ 20 ∧ ∀ s ∈ code, SOk vars s := by
  unfold wkE pkErr at h
  by_cases h1 : vars < 1 ∨ 6 < vars ∨ [(⟨code, -1, -1, 0⟩ : Blk)].length < 1 ∨ 8 < [(⟨code, -1, -1, 0⟩ : Blk)].length ∨ 20 < manyB [(⟨code, -1, -1, 0⟩ : Blk)]
  · rw [if_pos h1] at h; exact absurd h (by decide)
  rw [if_neg h1] at h
  have hm : manyB [(⟨code, -1, -1, 0⟩ : Blk)] = code.length := by simp [manyB]
  rw [hm] at h1
  refine ⟨by omega, by omega, by omega, soks_of ?_⟩
  rw [show ∀ n b, bErrs vars n [b] = if bErr vars n b = 0 then 0 else bErr vars n b from fun _ _ => rfl] at h
  by_cases h2 : bErr vars (([(⟨code, -1, -1, 0⟩ : Blk)].length : Nat) : Int) ⟨code, -1, -1, 0⟩ = 0
  · unfold bErr at h2
    dsimp only at h2
    by_cases h3 : cErrs vars code = 0
    · exact h3
    · rw [if_neg h3] at h2; exact absurd h2 h3
  · rw [if_neg h2] at h; exact absurd h h2
set_option maxHeartbeats 1000000 in
theorem wkWrong_calls (vars : Int) (A : Option Addr) (code : List Step) (cap : Nat) (w : World) (hA : RdSt w A code) (hm : code.length ≤ 140737488355328) :
    Calls Try.prog 71 #[.int .i64 vars, .slice A code.length cap] w fun e w' => e = .returned (.int .i64 (wkE vars code)) ∧ Below w.heap.size w w' := by
  have HA := Lib.hid hA
  have Hm := Lib.hid hm
  clear hA hm
  go_enter Try.func71, Try.ntmps71
  go_wp2_with (go_at_call 41
               obtain ⟨w1, hw1⟩ : ∃ w1, w1 = w.alloc (.cells #[.slice A code.length cap, .int .i64 (-1), .int .i64 (-1), .int .i64 0] 85) := ⟨_, rfl⟩
               rw [← hw1]
               have hB : Below w.heap.size w w1 := by rw [hw1]; exact (Below.refl _ _).alloc (Nat.le_refl _) _
               have hR : RdBk w1 (some ⟨w.heap.size, 0, none⟩) [⟨code, -1, -1, 0⟩] := fun _ => by
                 refine ⟨w.heap.size, 0, rfl, by rw [hw1]; simp, fun k x hk => ?_⟩
                 obtain ⟨hk0, hx⟩ := List.getElem?_eq_some_iff.1 hk
                 have hk1 : k = 0 := by simp at hk0; exact hk0
                 subst hk1
                 simp at hx
                 subst hx
                 refine ⟨A, cap, ?_, ?_, ?_, ?_, Rd.below HA.out hB⟩
                 · rw [hw1]; exact cell_new w _ _ w.heap.size rfl 0
                 · rw [hw1]; exact cell_new w _ _ w.heap.size rfl 1
                 · rw [hw1]; exact cell_new w _ _ w.heap.size rfl 2
                 · rw [hw1]; exact cell_new w _ _ w.heap.size rfl 3
               refine (blkCheck_calls vars _ _ 1 w1 hR (by unfold maxLen; simp) (fun b hb => by simp at hb; subst hb; exact Hm.out)).mono ?_
               rintro e w2 ⟨rfl, hW⟩
               have HW := Lib.hid (hB.trans (hW.mono hB.size))
               clear hW hR hw1)
  go_ret
  exact ⟨rfl, HW.out⟩
/-- What weak.Ahead answers when it refuses. -/
def wkErr (vars : Int) (code : List Step) (post : List Term) : Int := if wkE vars code = 0 then tErr vars post else wkE vars code
theorem ahead_bad (vars : Int) (A B : Option Addr) (code : List Step) (post : List Term) (cap c2 : Nat) (w : World) (hA : RdSt w A code) (hB : RdT w B post) (hm : code.length ≤ 140737488355328) (hm2 : post.length ≤ maxLen) (h0 : wkErr vars code post ≠ 0) :
    Calls Try.prog 25 #[.int .i64 vars, .slice A code.length cap, .slice B post.length c2] w fun e w' => e = .returned (.tuple #[.slice none 0 0, .int .i64 (wkErr vars code post)]) ∧ Below w.heap.size w w' := by
  have Hw := Lib.hid (wkWrong_calls vars A code cap w hA hm)
  have Hc := Lib.hid (fun w hB => check_calls vars B post c2 w hB hm2)
  have HB := Lib.hid hB
  clear hA hB hm hm2
  unfold wkErr at h0 ⊢
  by_cases h1 : wkE vars code = 0
  · rw [if_pos h1] at h0 ⊢
    have q : (tErr vars post != 0) = true := by rw [bne_iff_ne]; exact h0
    rw [h1] at Hw
    clear h1 h0
    generalize tErr vars post = x at *
    go_enter Try.func25, Try.ntmps25
    go_wp2_with (first
      | (go_at_call 71; refine Hw.out.mono ?_; rintro e w1 ⟨rfl, hW⟩; have HW := Lib.hid hW; have HB1 := Lib.hid (Rd.below HB.out hW); clear hW)
      | (go_at_call 72; refine (Hc.out _ HB1.out).mono ?_; rintro e w2 ⟨rfl, hW⟩; have HW2 := Lib.hid (HW.out.trans (hW.mono HW.out.size)); clear hW))
    go_ret2
    exact ⟨rfl, HW2.out⟩
  · rw [if_neg h1] at h0 ⊢
    have q : (wkE vars code != 0) = true := by rw [bne_iff_ne]; exact h0
    clear h1 h0
    generalize wkE vars code = x at *
    go_enter Try.func25, Try.ntmps25
    go_wp2_with (go_at_call 71; refine Hw.out.mono ?_; rintro e w1 ⟨rfl, hW⟩; have HW := Lib.hid hW; clear hW)
    go_ret2
    exact ⟨rfl, HW.out⟩
end Go.Proofs.Ytmgejacndhnikaa
