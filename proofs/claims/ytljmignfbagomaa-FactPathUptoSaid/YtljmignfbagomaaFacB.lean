/- fact.wrong: slices.Concat, Grow, ContainsFunc of words. -/
import Derived.Test.YtljmignfbagomaaFacA
import Derived.Test.YtljmignfbagomaaAppN
import Derived.Lib.AppendZeros
namespace Go.Proofs.Ytljmignfbagomaa
open Go.RowKit

theorem u32_under : Try.prog.underlying 29 = some (.int .u32) := by kernel_rfl
set_option maxHeartbeats 1000000 in
theorem grow_calls (n : Nat) (w : World) (h0 : 0 < n) (hn : n ≤ 1000) :
    Calls Try.prog 75 #[.slice none 0 0, .int .i64 (n : Nat)] w fun e w' => ∃ v, e = .returned v ∧ OwnU w' w.heap.size 29 v [] ∧ Below w.heap.size w w' := by
  obtain ⟨i, hi, hz0, hz1, hz2⟩ := info_parts infoU
  have hrun : ∀ ty, (Builtin.append_ #[23, 3] ty #[.slice none 0 0, .int .i64 (n : Nat)]).run Try.prog w = _ := fun ty => Go.Lib.run_append_nil_zeros w 23 3 ty 29 i (.int .u32 0) .i64 .i64 Try.underlying23 Try.underlying3 hi hz0 n h0 (by omega) (by omega) (by rw [hz2]; omega)
  have hge := grownCap_ge w n 0 29
  have hcm := grownCap_le_maxLen w n 0 29 (by unfold maxLen; omega)
  have hcm2 : grownCap w n 0 29 ≤ 9223372036854775807 := by unfold maxLen at hcm; omega
  have HO : Hid (OwnU (w.drew.alloc (.cells (Builtin.zeroCells (Value.int .u32 0).cells n ++ Builtin.zeroCells (Value.int .u32 0).cells (grownCap w n 0 29 - n)) 29)) w.heap.size 29 (.slice (some ⟨w.heap.size, 0, none⟩) 0 (grownCap w n 0 29)) []) :=
    Lib.hid ⟨rfl, .inr ⟨w.heap.size, _, _, rfl, Nat.le_refl _, heap_alloc_new w.drew _, Nat.zero_le _, hcm, by
      simp only [Array.size_append, size_zeroCells]
      rw [show (Value.int IntKind.u32 0).cells.size = 1 from rfl]; omega, by simp⟩⟩
  have HB := Lib.hid ((Below.refl w.heap.size w).drew.alloc (Nat.le_refl _) (.cells (Builtin.zeroCells (Value.int .u32 0).cells n ++ Builtin.zeroCells (Value.int .u32 0).cells (grownCap w n 0 29 - n)) 29))
  generalize grownCap w n 0 29 = G at *
  generalize (w.drew.alloc (.cells (Builtin.zeroCells (Value.int .u32 0).cells n ++ Builtin.zeroCells (Value.int .u32 0).cells (G - n)) 29)) = w2 at *
  have Hrun := Lib.hid hrun
  clear hrun hcm hz0 hz1 hz2 hi
  go_enter Try.func75, Try.ntmps75
  go_wp2_with (at_builtin; refine wpList_app_run2 rfl 23 3 _ _ rfl rfl rfl (Hrun.out _) ?_)
  all_goals first
    | (exfalso; omega)
    | (go_ret
       exact ⟨_, rfl, HO.out, HB.out⟩)
/-- A slice of slices of words. -/
def RdW (w : World) (A : Option Addr) (ls : List (List Nat)) : Prop :=
  0 < ls.length → ∃ b off, A = some ⟨b, off, none⟩ ∧ b < w.heap.size ∧
    ∀ (k : Nat) (l : List Nat), ls[k]? = some l → ∃ A' cap', w.cell? ⟨b, off + k, none⟩ = some (.slice A' l.length cap') ∧ RdU w A' l
theorem RdW.below {w w' : World} {A : Option Addr} {ls : List (List Nat)} (h : RdW w A ls) (hb : Below w.heap.size w w') : RdW w' A ls := fun hn => by
  obtain ⟨b, off, e, hlt, hc⟩ := h hn
  refine ⟨b, off, e, by have := hb.size; omega, fun k l hk => ?_⟩
  obtain ⟨A', cap', h1, h2⟩ := hc k l hk
  exact ⟨A', cap', (hb.cell (p := ⟨b, off + k, none⟩) hlt).trans h1, Rd.below h2 hb⟩
theorem RdW.at_ {w : World} {A : Option Addr} {ls : List (List Nat)} (h : RdW w A ls) {k : Nat} (hk : k < ls.length) :
    ∃ b off A' cap', A = some ⟨b, off, none⟩ ∧ b < w.heap.size ∧ w.cell? ⟨b, off + k, none⟩ = some (.slice A' ls[k].length cap') ∧ RdU w A' ls[k] := by
  obtain ⟨b, off, e, hlt, hc⟩ := h (by omega)
  obtain ⟨A', cap', h1, h2⟩ := hc k _ (List.getElem?_eq_getElem hk)
  exact ⟨b, off, A', cap', e, hlt, h1, h2⟩
theorem flat_take {ls : List (List Nat)} {k : Nat} (hk : k < ls.length) : (ls.take (k + 1)).flatten = (ls.take k).flatten ++ ls[k] := by
  rw [List.take_succ_eq_append_getElem hk, List.flatten_append, List.flatten_cons, List.flatten_nil, List.append_nil]
def flen (ls : List (List Nat)) : Nat := ls.flatten.length
set_option maxHeartbeats 2000000 in
theorem concat_calls (A : Option Addr) (ls : List (List Nat)) (cap : Nat) (w : World) (hA : RdW w A ls) (h0 : 0 < flen ls) (hb : flen ls ≤ 1000) (hm : ls.length ≤ 1000) :
    Calls Try.prog 68 #[.slice A ls.length cap] w fun e w' => ∃ v, e = .returned v ∧ OwnU w' w.heap.size 29 v ls.flatten ∧ Below w.heap.size w w' := by
  have HA := Lib.hid hA; clear hA
  have Hle : Hid (∀ k (_ : k < ls.length), flen (ls.take k) + ls[k].length ≤ flen ls) := Lib.hid fun k hk => by
    unfold flen
    have e : ls.flatten = (ls.take (k + 1)).flatten ++ (ls.drop (k + 1)).flatten := by rw [← List.flatten_append, List.take_append_drop]
    rw [e, flat_take hk]; simp
  go_enter Try.func68, Try.ntmps68
  go_wp2
  go_loop [3, 11] (fun s i => ∃ k : Nat, k ≤ ls.length ∧ s = .int .i64 (flen (ls.take k) : Nat) ∧ i = .int .i64 k) (fun _ i => ls.length - (intOf i).toNat)
  case atStart => exact ⟨0, Nat.zero_le _, rfl, rfl⟩
  case round =>
    obtain ⟨k, hk, rfl, rfl⟩ := hrel
    by_cases hlt : k < ls.length
    · obtain ⟨b, off, A', cap', rfl, hb2, c0, hR⟩ := RdW.at_ HA.out hlt
      have hle := Hle.out k hlt
      have Hs := Lib.hid (show flen (ls.take (k + 1)) = flen (ls.take k) + ls[k].length by unfold flen; rw [flat_take hlt, List.length_append])
      clear hR
      generalize hF : flen (ls.take k) = F at *
      clear hF
      go_wp2
      all_goals first
        | (exfalso; omega)
        | (go_round
           case rel => exact ⟨k + 1, by omega, by rw [Hs.out]; go_num, by go_num⟩
           case measure => simp [intOf]; omega)
    · have : k = ls.length := by omega
      subst this
      rw [List.take_length]
      go_wp2_with (go_at_call 75; refine (grow_calls _ _ h0 hb).mono ?_; rintro e w1 ⟨v, rfl, hown, hB⟩; have HO := Lib.hid hown; have HB := Lib.hid hB; clear hown hB)
      go_loopw [6, 27] (fun v i wr => ∃ k : Nat, k ≤ ls.length ∧ i = .int .i64 k ∧ OwnU wr w.heap.size 29 v (ls.take k).flatten ∧ Below w.heap.size w wr) (fun _ i _ => ls.length - (intOf i).toNat)
      case atStart => exact ⟨0, Nat.zero_le _, rfl, by simpa using HO.out, HB.out⟩
      case round =>
        clear HO HB
        obtain ⟨k, hk, rfl, hown, hW⟩ := hrel
        have HO := Lib.hid hown
        have HW := Lib.hid hW
        have hw1 := hW.size
        by_cases hlt : k < ls.length
        · obtain ⟨b, off, A', cap', rfl, hb2, c0, hR⟩ := RdW.at_ (RdW.below HA.out hW) hlt
          have hle : (ls.take k).flatten.length + ls[k].length ≤ flen ls := Hle.out k hlt
          have HR := Lib.hid hR
          have Hs := Lib.hid (flat_take hlt)
          clear hR hown hW
          obtain ⟨v2, w2, hrun, hown, hgrow, hat⟩ := run_appN (P := Try.prog) (w := wr) 23 23 u32Cells 1 4 29 (.int .u32 0) Try.underlying23 infoU rfl (by decide) u32Cells_len u32Cells_one w.heap.size _ (ls.take k).flatten HO.out A' ls[k] cap' HR.out (by unfold maxLen; omega) (by omega) hw1
          have HO2 := Lib.hid hown
          have HB2 := Lib.hid (HW.out.grown hgrow hw1 (fun j hj => (World.ownsRow.lt HO.out j hj).1))
          have Hrun := Lib.hid hrun
          clear hown hgrow hat hrun
          generalize ls[k] = lk at *
          go_wp2_with (at_builtin; refine wpList_app_run rfl 23 _ _ rfl rfl rfl Hrun.out ?_)
          go_roundw
          case rel => exact ⟨k + 1, by omega, by go_num, by rw [Hs.out]; exact HO2.out, HB2.out⟩
          case measure => simp [intOf]; omega
        · have : k = ls.length := by omega
          subst this
          have HOl := Lib.hid (show OwnU wr w.heap.size 29 u6 ls.flatten by have := HO.out; rwa [List.take_length] at this)
          clear hown hW
          go_wp2
          go_ret
          exact ⟨_, rfl, HOl.out, HW.out⟩
end Go.Proofs.Ytljmignfbagomaa
