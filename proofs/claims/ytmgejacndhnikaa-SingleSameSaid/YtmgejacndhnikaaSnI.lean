/- SingleSame: does a block set a variable? (slices.ContainsFunc with Build's closure.) -/
import Derived.Test.YtmgejacndhnikaaSsaX
import Derived.Test.YtmgejacndhnikaaHave
namespace Go.Proofs.Ytmgejacndhnikaa
set_option maxRecDepth 100000
open Go.RowKit

def setsB (v : Int) (s : Step) : Bool := s.to == v
set_option maxHeartbeats 1000000 in
theorem buildC_calls (v : Int) (s : Step) (PV : Nat) (w : World) (hP : w.cell? ⟨PV, 0, none⟩ = some (.int .i64 v)) (hlt : PV < w.heap.size) :
    Calls Try.prog 57 #[s.agg, .pointer (some ⟨PV, 0, none⟩)] w fun e w' => e = .returned (.bool (setsB v s)) ∧ Below w.heap.size w w' := by
  obtain ⟨op, tg, sa, sb, sv⟩ := s
  unfold Step.agg setsB
  dsimp only
  have HB := Lib.hid ((Below.refl w.heap.size w).alloc (Nat.le_refl _) (.cells #[.int .i64 op, .int .i64 tg, .int .i64 sa, .int .i64 sb, .int .i64 sv] 87))
  go_enter Try.func57, Try.ntmps57
  go_wp2
  go_ret
  exact ⟨rfl, HB.out⟩
def IdxS (v : Int) (l : List Step) (w : World) (e : Ending) (w' : World) : Prop :=
  Below w.heap.size w w' ∧ ∃ n : Int, e = .returned (.int .i64 n) ∧ ((n = -1 ∧ ∀ x ∈ l, setsB v x = false) ∨ (0 ≤ n ∧ ∃ x ∈ l, setsB v x = true))
set_option maxHeartbeats 1000000 in
theorem buildI_calls (v : Int) (A : Option Addr) (l : List Step) (cap PV : Nat) (w : World) (hA : RdSt w A l) (hm : l.length ≤ 1000) (hP : w.cell? ⟨PV, 0, none⟩ = some (.int .i64 v)) (hlt : PV < w.heap.size) :
    Calls Try.prog 105 #[.slice A l.length cap, .func (.func 57) #[] #[.pointer (some ⟨PV, 0, none⟩)]] w (IdxS v l w) := by
  have HA := Lib.hid hA; clear hA
  have HP := Lib.hid hP; clear hP
  go_enter Try.func105, Try.ntmps105
  go_wp2
  go_loopw [8] (fun i wr => ∃ k : Nat, k ≤ l.length ∧ i = .int .i64 k ∧ Hid (∀ x ∈ l.take k, setsB v x = false) ∧ Hid (Below w.heap.size w wr)) (fun i _ => l.length - (intOf i).toNat)
  case atStart => exact ⟨0, Nat.zero_le _, rfl, Lib.hid (fun x hx => by simp at hx), Below.refl _ _⟩
  case round =>
    obtain ⟨k, hk, rfl, hPr, hW⟩ := hrel
    by_cases hltk : k < l.length
    · obtain ⟨b, off, rfl, hb, e0, e1, e2, e3, e4⟩ := RdSt.at5 (Rd.below HA.out hW.out) hltk
      have Hmem := Lib.hid (List.getElem_mem hltk)
      have Hst := Lib.hid (take_all_succ (p := fun x => setsB v x = false) hltk hPr.out)
      have hlw : PV < wr.heap.size := by have := hW.out.size; omega
      have hkl : ((k : Nat) : Int) < ((l.length : Nat) : Int) := by omega
      have Hcl := Lib.hid (buildC_calls v l[k] PV wr ((hW.out.cell (p := ⟨PV, 0, none⟩) hlt).trans HP.out) hlw)
      unfold Step.agg at Hcl
      generalize l[k] = s at *
      obtain ⟨op, tg, sa, sb, sv⟩ := s
      dsimp only at e0 e1 e2 e3 e4 Hcl
      cases hx : setsB v ⟨op, tg, sa, sb, sv⟩
      · have Hx := Lib.hid hx
        rw [hx] at Hcl
        clear hx hPr
        go_wp2_with fail
        (with_reducible refine Hcl.out.mono ?_)
        rintro e w' ⟨rfl, hB⟩
        have HW2 := Lib.hid (hW.out.trans (hB.mono hW.out.size))
        clear hW hB
        go_wp2
        go_roundw
        case rel => exact ⟨k + 1, by omega, by go_num, Lib.hid (Hst.out Hx.out), HW2⟩
        case measure => simp [intOf]; omega
      · have Hx := Lib.hid hx
        rw [hx] at Hcl
        clear hx hPr
        go_wp2_with fail
        (with_reducible refine Hcl.out.mono ?_)
        rintro e w' ⟨rfl, hB⟩
        have HW2 := Lib.hid (hW.out.trans (hB.mono hW.out.size))
        clear hW hB
        go_wp2
        go_ret
        exact ⟨HW2.out, k, rfl, .inr ⟨by omega, _, Hmem.out, Hx.out⟩⟩
    · have : k = l.length := by omega
      subst this
      go_wp2
      go_ret
      have := hPr.out
      rw [List.take_length] at this
      exact ⟨hW.out, -1, rfl, .inl ⟨rfl, this⟩⟩
set_option maxHeartbeats 1000000 in
theorem buildCo_calls (v : Int) (A : Option Addr) (l : List Step) (cap PV : Nat) (w : World) (hA : RdSt w A l) (hm : l.length ≤ 1000) (hP : w.cell? ⟨PV, 0, none⟩ = some (.int .i64 v)) (hlt : PV < w.heap.size) :
    Calls Try.prog 56 #[.slice A l.length cap, .func (.func 57) #[] #[.pointer (some ⟨PV, 0, none⟩)]] w fun e w' => e = .returned (.bool (l.any (setsB v))) ∧ Below w.heap.size w w' := by
  have H := Lib.hid (buildI_calls v A l cap PV w hA hm hP hlt)
  clear hP hA
  go_enter Try.func56, Try.ntmps56
  go_wp2_with fail
  (with_reducible refine H.out.mono ?_)
  rintro e w' ⟨hB, n, rfl, h⟩
  have HB := Lib.hid hB
  clear hB
  rcases h with ⟨rfl, h⟩ | ⟨h0, x, hx, hb⟩
  · have Ha := Lib.hid (show l.any (setsB v) = false by rw [List.any_eq_false]; intro x hx; rw [h x hx]; decide)
    clear h hm
    go_wp2
    go_ret
    exact ⟨ret_bool Ha.out.symm, HB.out⟩
  · have Ha := Lib.hid (show l.any (setsB v) = true by rw [List.any_eq_true]; exact ⟨x, hx, hb⟩)
    clear hx hb hm
    go_wp2
    go_ret
    exact ⟨ret_bool (by rw [Ha.out]; try (simp; try omega)), HB.out⟩
end Go.Proofs.Ytmgejacndhnikaa
