/- api.Block: slices of blocks; block.step and codemasonref.StepCheck answer stErr. -/
import Derived.Test.YtmgejacndhnikaaTurnG
import Derived.Test.YtmgejacndhnikaaBackS
import Derived.Test.YtmgejacndhnikaaLLn
import Derived.Test.YtmgejacndhnikaaInside
import Derived.BigGuardPart
import Derived.Outline
namespace Go.Proofs.Ytmgejacndhnikaa
open Go.RowKit

/-- api.Block -/
structure Blk where
  code : List Step
  test : Int
  thn : Int
  els : Int
/-- The slice of blocks at A reads as l. -/
def RdBk (w : World) (A : Option Addr) (l : List Blk) : Prop :=
  0 < l.length → ∃ b off, A = some ⟨b, off, none⟩ ∧ b < w.heap.size ∧
    ∀ (k : Nat) (x : Blk), l[k]? = some x → ∃ A' cap', w.cell? ⟨b, off + k * 4, none⟩ = some (.slice A' x.code.length cap') ∧ w.cell? ⟨b, off + k * 4 + 1, none⟩ = some (.int .i64 x.test) ∧
      w.cell? ⟨b, off + k * 4 + 2, none⟩ = some (.int .i64 x.thn) ∧ w.cell? ⟨b, off + k * 4 + 3, none⟩ = some (.int .i64 x.els) ∧ RdSt w A' x.code
theorem RdBk.below {w w' : World} {A : Option Addr} {l : List Blk} (h : RdBk w A l) (hb : Below w.heap.size w w') : RdBk w' A l := fun hn => by
  obtain ⟨b, off, e, hlt, hc⟩ := h hn
  refine ⟨b, off, e, by have := hb.size; omega, fun k x hk => ?_⟩
  obtain ⟨A', cap', h0, h1, h2, h3, h4⟩ := hc k x hk
  exact ⟨A', cap', (hb.cell (p := ⟨b, _, none⟩) hlt).trans h0, (hb.cell (p := ⟨b, _, none⟩) hlt).trans h1, (hb.cell (p := ⟨b, _, none⟩) hlt).trans h2, (hb.cell (p := ⟨b, _, none⟩) hlt).trans h3, Rd.below h4 hb⟩
theorem RdBk.at_ {w : World} {A : Option Addr} {l : List Blk} (h : RdBk w A l) {k : Nat} (hk : k < l.length) :
    ∃ b off A' cap', A = some ⟨b, off, none⟩ ∧ b < w.heap.size ∧ w.cell? ⟨b, off + k * 4, none⟩ = some (.slice A' l[k].code.length cap') ∧ w.cell? ⟨b, off + k * 4 + 1, none⟩ = some (.int .i64 l[k].test) ∧
      w.cell? ⟨b, off + k * 4 + 2, none⟩ = some (.int .i64 l[k].thn) ∧ w.cell? ⟨b, off + k * 4 + 3, none⟩ = some (.int .i64 l[k].els) ∧ RdSt w A' l[k].code := by
  obtain ⟨b, off, e, hlt, hc⟩ := h (by omega)
  obtain ⟨A', cap', h0, h1, h2, h3, h4⟩ := hc k _ (List.getElem?_eq_getElem hk)
  exact ⟨b, off, A', cap', e, hlt, h0, h1, h2, h3, h4⟩

def stErr (vars : Int) (s : Step) : Int :=
  if s.op < 1 ∨ 6 < s.op then 6
  else if (s.op = 1 ∧ (s.val < 0 ∨ 255 < s.val)) ∨ (s.op = 2 ∧ (s.val < 0 ∨ vars ≤ s.val)) then 4
  else if (s.to < 0 ∨ vars ≤ s.to) ∨ (3 ≤ s.op ∧ (s.a < 0 ∨ vars ≤ s.a ∨ s.b < 0 ∨ vars ≤ s.b)) then 2 else 0
section
variable {vars : Int} {op sto sa sb sv : Int}
theorem stErr_6 (h : op < 1 ∨ 6 < op) : stErr vars ⟨op, sto, sa, sb, sv⟩ = 6 := by unfold stErr; rw [if_pos h]
theorem stErr_4 (h0 : 1 ≤ op) (h6 : op ≤ 6) (h : (op = 1 ∧ (sv < 0 ∨ 255 < sv)) ∨ (op = 2 ∧ (sv < 0 ∨ vars ≤ sv))) : stErr vars ⟨op, sto, sa, sb, sv⟩ = 4 := by
  unfold stErr; rw [if_neg (by dsimp only; omega), if_pos h]
theorem stErr_2 (h0 : 1 ≤ op) (h6 : op ≤ 6) (h1 : op = 1 → 0 ≤ sv ∧ sv ≤ 255) (h2 : op = 2 → 0 ≤ sv ∧ sv < vars) (h : (sto < 0 ∨ vars ≤ sto) ∨ (3 ≤ op ∧ (sa < 0 ∨ vars ≤ sa ∨ sb < 0 ∨ vars ≤ sb))) : stErr vars ⟨op, sto, sa, sb, sv⟩ = 2 := by
  unfold stErr; rw [if_neg (by dsimp only; omega), if_neg (by dsimp only; omega), if_pos h]
theorem stErr_0 (h0 : 1 ≤ op) (h6 : op ≤ 6) (h1 : op = 1 → 0 ≤ sv ∧ sv ≤ 255) (h2 : op = 2 → 0 ≤ sv ∧ sv < vars) (h3 : 0 ≤ sto ∧ sto < vars) (h4 : 3 ≤ op → (0 ≤ sa ∧ sa < vars) ∧ 0 ≤ sb ∧ sb < vars) : stErr vars ⟨op, sto, sa, sb, sv⟩ = 0 := by
  unfold stErr; rw [if_neg (by dsimp only; omega), if_neg (by dsimp only; omega), if_neg (by dsimp only; omega)]
end
theorem v_yes (R : Nat) (vars x : Int) (w : World) (hR : w.cell? ⟨R, 0, none⟩ = some (.int .i64 vars)) (h0 : 0 ≤ x) (h1 : x < vars) :
    Calls Try.prog 119 #[.int .i64 x, .pointer (some ⟨R, 0, none⟩)] w fun e w' => e = .returned (.bool true) ∧ w' = w := by
  have d0 : decide (0 ≤ x) = true := decide_eq_true h0
  have d1 : decide (x < vars) = true := decide_eq_true h1
  go_enter Try.func119, Try.ntmps119
  go_wp2
  go_ret
  exact ⟨rfl, rfl⟩
theorem v_no (R : Nat) (vars x : Int) (w : World) (hR : w.cell? ⟨R, 0, none⟩ = some (.int .i64 vars)) (h : x < 0 ∨ vars ≤ x) :
    Calls Try.prog 119 #[.int .i64 x, .pointer (some ⟨R, 0, none⟩)] w fun e w' => e = .returned (.bool false) ∧ w' = w := by
  by_cases h0 : 0 ≤ x
  · have d0 : decide (0 ≤ x) = true := decide_eq_true h0
    have d1 : decide (x < vars) = false := decide_eq_false (by omega)
    go_enter Try.func119, Try.ntmps119
    go_wp2
    go_ret
    exact ⟨rfl, rfl⟩
  · have d0 : decide (0 ≤ x) = false := decide_eq_false h0
    go_enter Try.func119, Try.ntmps119
    go_wp2
    go_ret
    exact ⟨rfl, rfl⟩
set_option maxRecDepth 100000 in
set_option maxHeartbeats 4000000 in
theorem step_calls (vars : Int) (s : Step) (w : World) :
    Calls Try.prog 98 #[.int .i64 vars, s.agg] w fun e w' => e = .returned (.int .i64 (stErr vars s)) ∧ Below w.heap.size w w' := by
  obtain ⟨op, sto, sa, sb, sv⟩ := s
  have HW := Lib.hid (((Below.refl w.heap.size w).alloc (Nat.le_refl _) (.cells #[.int .i64 vars] 3)).alloc (by rw [World.size_alloc]; omega) (.cells #[.int .i64 op, .int .i64 sto, .int .i64 sa, .int .i64 sb, .int .i64 sv] 87))
  have HR : ((w.alloc (.cells #[.int .i64 vars] 3)).alloc (.cells #[.int .i64 op, .int .i64 sto, .int .i64 sa, .int .i64 sb, .int .i64 sv] 87)).cell? ⟨w.heap.size, 0, none⟩ = some (.int .i64 vars) :=
    cell_h ((Below.heap_alloc (w.alloc (.cells #[.int .i64 vars] 3)) (.cells #[.int .i64 op, .int .i64 sto, .int .i64 sa, .int .i64 sb, .int .i64 sv] 87) _ (by rw [World.size_alloc]; omega)).trans (heap_alloc_new w (.cells #[.int .i64 vars] 3))) 0
  have Hy := Lib.hid (fun x h0 h1 => v_yes w.heap.size vars x _ HR h0 h1)
  have Hn := Lib.hid (fun x h => v_no w.heap.size vars x _ HR h)
  clear HR
  unfold Step.agg
  dsimp only
  by_cases h1 : op < 1
  · rw [stErr_6 (by omega)]
    go_enter Try.func98, Try.ntmps98
    go_wp2
    all_goals (try (exfalso; omega))
    go_ret
    exact ⟨rfl, HW.out⟩
  by_cases h6 : 6 < op
  · rw [stErr_6 (by omega)]
    go_enter Try.func98, Try.ntmps98
    go_wp2
    all_goals (try (exfalso; omega))
    go_ret
    exact ⟨rfl, HW.out⟩
  by_cases o1 : op = 1
  · subst o1
    by_cases v0 : 0 ≤ sv
    · by_cases v1 : sv ≤ 255
      · by_cases t0 : 0 ≤ sto ∧ sto < vars
        · rw [stErr_0 (by omega) (by omega) (fun _ => ⟨v0, v1⟩) (fun h => by omega) t0 (fun h => by omega)]
          go_enter Try.func98, Try.ntmps98
          go_wp2_with (go_at_call 119; refine (Hy.out _ (by omega) (by omega)).mono ?_; rintro e w' ⟨rfl, rfl⟩)
          all_goals (try (exfalso; omega))
          go_ret
          exact ⟨rfl, HW.out⟩
        · rw [stErr_2 (by omega) (by omega) (fun _ => ⟨v0, v1⟩) (fun h => by omega) (.inl (by omega))]
          go_enter Try.func98, Try.ntmps98
          go_wp2_with (go_at_call 119; refine (Hn.out _ (by omega)).mono ?_; rintro e w' ⟨rfl, rfl⟩)
          all_goals (try (exfalso; omega))
          go_ret
          exact ⟨rfl, HW.out⟩
      · rw [stErr_4 (by omega) (by omega) (.inl ⟨rfl, by omega⟩)]
        go_enter Try.func98, Try.ntmps98
        go_wp2
        all_goals (try (exfalso; omega))
        go_ret
        exact ⟨rfl, HW.out⟩
    · rw [stErr_4 (by omega) (by omega) (.inl ⟨rfl, by omega⟩)]
      go_enter Try.func98, Try.ntmps98
      go_wp2
      all_goals (try (exfalso; omega))
      go_ret
      exact ⟨rfl, HW.out⟩
  have q1 : (op == 1) = false := by rw [beq_eq_false_iff_ne]; exact o1
  by_cases o2 : op = 2
  · subst o2
    by_cases v0 : 0 ≤ sv ∧ sv < vars
    · by_cases t0 : 0 ≤ sto ∧ sto < vars
      · rw [stErr_0 (by omega) (by omega) (fun h => by omega) (fun h => v0) t0 (fun h => by omega)]
        go_enter Try.func98, Try.ntmps98
        go_wp2_with (go_at_call 119; refine (Hy.out _ (by omega) (by omega)).mono ?_; rintro e w' ⟨rfl, rfl⟩)
        all_goals (try (exfalso; omega))
        go_ret
        exact ⟨rfl, HW.out⟩
      · rw [stErr_2 (by omega) (by omega) (fun h => by omega) (fun h => v0) (.inl (by omega))]
        go_enter Try.func98, Try.ntmps98
        go_wp2_with (go_at_call 119; first | (refine (Hy.out _ (by omega) (by omega)).mono ?_; rintro e w' ⟨rfl, rfl⟩) | (refine (Hn.out _ (by omega)).mono ?_; rintro e w' ⟨rfl, rfl⟩))
        all_goals (try (exfalso; omega))
        go_ret
        exact ⟨rfl, HW.out⟩
    · rw [stErr_4 (by omega) (by omega) (.inr ⟨rfl, by omega⟩)]
      go_enter Try.func98, Try.ntmps98
      go_wp2_with (go_at_call 119; refine (Hn.out _ (by omega)).mono ?_; rintro e w' ⟨rfl, rfl⟩)
      all_goals (try (exfalso; omega))
      go_ret
      exact ⟨rfl, HW.out⟩
  have q2 : (op == 2) = false := by rw [beq_eq_false_iff_ne]; exact o2
  have q3 : decide (2 < op) = true := decide_eq_true (by omega)
  by_cases t0 : 0 ≤ sto ∧ sto < vars
  · by_cases a0 : 0 ≤ sa ∧ sa < vars
    · by_cases b0 : 0 ≤ sb ∧ sb < vars
      · rw [stErr_0 (by omega) (by omega) (fun h => by omega) (fun h => by omega) t0 (fun _ => ⟨a0, b0⟩)]
        go_enter Try.func98, Try.ntmps98
        go_wp2_with (go_at_call 119; refine (Hy.out _ (by omega) (by omega)).mono ?_; rintro e w' ⟨rfl, rfl⟩)
        all_goals (try (exfalso; omega))
        go_ret
        exact ⟨rfl, HW.out⟩
      · rw [stErr_2 (by omega) (by omega) (fun h => by omega) (fun h => by omega) (.inr ⟨by omega, by omega⟩)]
        go_enter Try.func98, Try.ntmps98
        go_wp2_with (go_at_call 119; first | (refine (Hy.out _ (by omega) (by omega)).mono ?_; rintro e w' ⟨rfl, rfl⟩) | (refine (Hn.out _ (by omega)).mono ?_; rintro e w' ⟨rfl, rfl⟩))
        all_goals (try (exfalso; omega))
        go_ret
        exact ⟨rfl, HW.out⟩
    · rw [stErr_2 (by omega) (by omega) (fun h => by omega) (fun h => by omega) (.inr ⟨by omega, by omega⟩)]
      go_enter Try.func98, Try.ntmps98
      go_wp2_with (go_at_call 119; first | (refine (Hy.out _ (by omega) (by omega)).mono ?_; rintro e w' ⟨rfl, rfl⟩) | (refine (Hn.out _ (by omega)).mono ?_; rintro e w' ⟨rfl, rfl⟩))
      all_goals (try (exfalso; omega))
      go_ret
      exact ⟨rfl, HW.out⟩
  · rw [stErr_2 (by omega) (by omega) (fun h => by omega) (fun h => by omega) (.inl (by omega))]
    go_enter Try.func98, Try.ntmps98
    go_wp2_with (go_at_call 119; refine (Hn.out _ (by omega)).mono ?_; rintro e w' ⟨rfl, rfl⟩)
    all_goals (try (exfalso; omega))
    go_ret
    exact ⟨rfl, HW.out⟩
end Go.Proofs.Ytmgejacndhnikaa
