/- slices.Backward over steps. -/
import Derived.Test.YtadmmciiahdmcaaStep
import Derived.Test.YtadmmciiahdmcaaRound
import Derived.Shelf.Abstract
import Derived.Shelf.RegionOpen
import Derived.OwnWalkIn
import Derived.TacticsInMore
import Derived.LoopNIn
import Derived.LoopIn
namespace Go.Proofs.Ytadmmciiahdmcaa
open Go.RowKit Go.Shelf
attribute [local go_sem] Oper.semAt_some

set_option maxRecDepth 100000 in
set_option maxHeartbeats 2000000 in
theorem backS1_in (l Bs n₀ : Nat) (A : Option Addr) (cap : Nat) (zs : List Step) (hm : zs.length ≤ 1000000) (J Jx : List (Ix zs.length) → World → Prop)
    (hY : ∀ pre x W, J pre W → pre.length < zs.length → YieldAt Fence.wide 1 Try.prog l #[.int .i64 (x.1 : Int), (zs[x.1]'x.2).agg] W fun e W' =>
      (e = .returned (.bool true) ∧ J (pre ++ [x]) W' ∧ KpB n₀ Bs W W') ∨ (e = .returned (.bool false) ∧ Jx (pre ++ [x]) W'))
    (W : World) (hBs : W.cell? ⟨Bs, 0, none⟩ = some (.slice A zs.length cap)) (hR : RdB n₀ Step.cells 5 W A zs) (h0 : J [] W) :
    CallsIn Fence.wide 2 Try.prog 72 #[.func (.yield l) #[] #[], .pointer (some ⟨Bs, 0, none⟩)] W fun e W' => (∃ v, e = .returned v) ∧
      ((∃ ys, ys.map (·.1) = backN zs.length zs.length ∧ J ys W') ∨ (∃ pre, pre.map (·.1) = backN zs.length pre.length ∧ Jx pre W')) := by
  refine callsIn_of_wp Try.func72 rfl trivial ?_ rfl
  simp only [Try.ntmps72, List.size_toArray, List.length_cons, List.length_nil, Nat.reduceAdd, Nat.reduceSub, Array.replicate_succ, Array.replicate_zero, List.push_toArray, List.append_toArray, List.nil_append, List.cons_append]
  gi_wp2
  gi_loopw [3] (fun i wr => ∃ (t : Nat) (pre : List (Ix zs.length)), t ≤ zs.length ∧ i = .int .i64 ((t : Int) - 1) ∧ pre.map (·.1) = backN zs.length (zs.length - t) ∧ J pre wr ∧ KpB n₀ Bs W wr)
    (fun i _ => (intOf i + 1).toNat)
  case atStart => exact ⟨zs.length, [], Nat.le_refl _, by first | rfl | go_num, by rw [Nat.sub_self]; rfl, h0, Below.refl _ _, fun _ h => h⟩
  case round =>
    obtain ⟨t, pre, ht, rfl, hpre, hJs, hnx⟩ := hrel
    have hbs := hnx.2 _ hBs
    cases t with
    | zero =>
      have hq : ((0 : Nat) : Int) - 1 = -1 := rfl
      rw [hq]
      rw [Nat.sub_zero] at hpre
      gi_wp2
      go_end0
      exact ⟨⟨_, rfl⟩, .inl ⟨_, hpre, hJs⟩⟩
    | succ t =>
      have hq : ((t + 1 : Nat) : Int) - 1 = (t : Int) := by omega
      rw [hq]
      obtain ⟨b, off, rfl, hb, c0, c1, c2, c3, c4⟩ := RdSt.at5 (hR.below hnx.1).1 (show t < zs.length by omega)
      have ht1 : ((t : Nat) : Int) < ((zs.length : Nat) : Int) := by omega
      have hpl : pre.length = zs.length - (t + 1) := by rw [← List.length_map (f := fun x : Ix zs.length => x.1), hpre, backN_len]
      have htl : t < zs.length := by omega
      have hsn : (pre ++ [(⟨t, htl⟩ : Ix zs.length)]).map (·.1) = backN zs.length (zs.length - t) := by
        rw [show zs.length - t = (zs.length - (t + 1)) + 1 by omega, backN_succ, List.map_append, hpre]
        congr 1
        show [t] = _
        congr 1; omega
      have hsl : (pre ++ [(⟨t, htl⟩ : Ix zs.length)]).length = zs.length - t := by rw [List.length_append, hpl]; simp; omega
      obtain ⟨fn, tmps, assign, body, hy, hR⟩ := hY pre ⟨t, htl⟩ wr hJs (by omega)
      generalize zs[t] = x at *
      unfold Step.agg at hy
      gi_wp2
      refine hR.mono ?_
      rintro e W3 (⟨rfl, hJ3, hk3⟩ | ⟨rfl, hJx3⟩)
      · gi_wp2
        go_roundw
        case rel => exact ⟨t, _, by omega, by first | rfl | go_num, hsn, hJ3, kpB_t hnx hk3⟩
        case measure => first | (simp [intOf]; done) | (simp [intOf]; omega)
      · gi_wp2
        refine bodyPost_ret (results_none rfl _ _ _) rfl ?_
        exact ⟨⟨_, rfl⟩, .inr ⟨_, by rw [hsl]; exact hsn, hJx3⟩⟩

/-- slices.Backward(l): what it hands back. -/
theorem backS_calls (A : Option Addr) (len cap : Nat) (w : World) :
    Calls Try.prog 48 #[.slice A len cap] w fun e w' => e = .returned (.func (.func 72) #[] #[.pointer (some ⟨w.heap.size, 0, none⟩)]) ∧ w' = w.alloc (.cells #[.slice A len cap] 22) := by
  go_enter Try.func48, Try.ntmps48
  go_wp2
  go_ret
  exact ⟨rfl, rfl⟩

theorem backS_stops (Bs n₀ : Nat) (A : Option Addr) (cap : Nat) (zs : List Step) (hm : zs.length ≤ 1000000) (w : World) (hBs : Bs < w.heap.size) (hn₀ : n₀ ≤ w.heap.size) (hc : w.cell? ⟨Bs, 0, none⟩ = some (.slice A zs.length cap)) (hR : RdB n₀ Step.cells 5 w A zs) :
    SeqStopsK Fence.wide 2 Try.prog 72 #[.pointer (some ⟨Bs, 0, none⟩)] (fun x : Ix zs.length => #[Value.int .i64 (x.1 : Int), (zs[x.1]'x.2).agg]) (KpB n₀ Bs)
      (fun ys => ys.map (·.1) = backN zs.length zs.length) (fun pre => pre.map (·.1) = backN zs.length pre.length) zs.length w := fun l J Jx W hW _ _ hY h0 =>
  backS1_in l Bs n₀ A cap zs hm J Jx hY W ((hW.cell (p := ⟨Bs, 0, none⟩) hBs).trans hc) (hR.below (hW.mono hn₀)) h0
end Go.Proofs.Ytadmmciiahdmcaa
