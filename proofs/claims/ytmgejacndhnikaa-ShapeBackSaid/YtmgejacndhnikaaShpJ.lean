/- shape.Flat walked. -/
import Derived.Test.YtmgejacndhnikaaShpI
namespace Go.Proofs.Ytmgejacndhnikaa
set_option maxRecDepth 100000
open Go.RowKit

theorem FS.rd {w0 w : World} {T g cap : Nat} {raws : List RB} {l : List Blk} (h : FS w0 w T g cap raws l) : RdBk w (some ⟨g, 0, none⟩) l := by
  intro _
  refine ⟨g, 0, rfl, h.glo.2, fun k b hk => ?_⟩
  have hi : k < l.length := (List.getElem?_eq_some_iff.1 hk).1
  obtain ⟨x, hx, hb, e1, e2, e3, hO⟩ := h.raw hi
  rw [hk] at hb
  injection hb with hb
  rw [← hb] at e1 e2 e3 hO
  obtain ⟨⟨q0, q1, q2, q3⟩, _⟩ := h.cells hx
  obtain ⟨A', cap', ev, hR⟩ := OwnSt.rd hO
  rw [ev] at q0
  rw [e1] at q1
  rw [e2] at q2
  rw [e3] at q3
  refine ⟨A', cap', ?_, ?_, ?_, ?_, hR⟩
  · rw [show (0 : Nat) + k * 4 = k * 4 by omega]; exact q0
  · rw [show (0 : Nat) + k * 4 + 1 = k * 4 + 1 by omega]; exact q1
  · rw [show (0 : Nat) + k * 4 + 2 = k * 4 + 2 by omega]; exact q2
  · rw [show (0 : Nat) + k * 4 + 3 = k * 4 + 3 by omega]; exact q3
theorem FS.start (w : World) : FS w ((w.alloc (.cells #[.slice none 0 0, .int .i64 (-1), .int .i64 (-1), .int .i64 0] 85)).alloc (.cells #[.slice (some ⟨w.heap.size, 0, none⟩) 1 1] 142)) (w.heap.size + 1) w.heap.size 1 [⟨.slice none 0 0, -1, -1, 0, rfl⟩] [nbl] := by
  refine ⟨((Below.refl w.heap.size w).alloc (Nat.le_refl _) _).alloc (by simp) _, by omega, ?_, ?_, rfl, fun k x b hx hb => ?_, fun j k x y hx hy hne => ?_⟩
  · have := heap_alloc_new (w.alloc (.cells #[.slice none 0 0, .int .i64 (-1), .int .i64 (-1), .int .i64 0] 85)) (.cells #[.slice (some ⟨w.heap.size, 0, none⟩) 1 1] 142)
    rw [World.size_alloc] at this
    exact this
  · exact (own_new RB.cells 4 85 rbCells_len w w.heap.size (Nat.le_refl _) [⟨.slice none 0 0, -1, -1, 0, rfl⟩] (by simp [maxLen])).alloc _
  · match k, hx with
    | 0, hx =>
      simp at hx hb
      subst hx hb
      exact ⟨rfl, rfl, rfl, Own.nil_ _ _ _⟩
    | k + 1, hx => simp at hx
  · match j, k, hx, hy with
    | 0, 0, _, _ => exact absurd rfl hne
    | 0, k + 1, _, hy => simp at hy
    | j + 1, _, hx, _ => simp at hx
def FlatE (vars : Int) (d : Nat) (l : List Shp) (w : World) (e : Ending) (w' : World) : Prop :=
  Below w.heap.size w w' ∧ ((∃ x : Int, x ≠ 0 ∧ e = .returned (.tuple #[.slice none 0 0, .int .i64 x])) ∨ (1 ≤ vars ∧ vars ≤ 6 ∧ stepsL d l ≤ 20 ∧ OkS vars d l ∧ (flatP d l).length ≤ 1000 ∧ ∃ A cap, e = .returned (.tuple #[.slice A (flatP d l).length cap, .int .i64 0]) ∧ RdBk w' A (flatP d l)))
set_option maxHeartbeats 8000000 in
theorem shFlat_calls (vars : Int) (d : Nat) (A : Option Addr) (l : List Shp) (cap : Nat) (w : World) (hA : RdSh w d A l) (hl : l.length ≤ 2199023255552) :
    Calls Try.prog 31 #[.int .i64 vars, .slice A l.length cap] w (FlatE vars d l w) := by
  have HC := Lib.hid (shpCheck_calls vars d A l cap w hA hl)
  have HA := Lib.hid hA
  clear hA
  go_enter Try.func31, Try.ntmps31
  go_wp2_with fail
  (with_reducible refine HC.out.mono ?_)
  rintro e w1 ⟨hb1, x, rfl, hx⟩
  have HW1 := Lib.hid hb1
  have Hx := Lib.hid hx
  clear hb1 hx HC
  by_cases h0 : x = 0
  · subst h0
    obtain ⟨v1, v6, hst, hok, hcnt⟩ := Hx.out rfl
    have HS := Lib.hid (FS.start w1)
    have HOK := Lib.hid (⟨v1, v6, hst, hok⟩ : 1 ≤ vars ∧ vars ≤ 6 ∧ stepsL d l ≤ 20 ∧ OkS vars d l)
    have Hln : Hid ((flatP d l).length ≤ 1000) := Lib.hid (by
      have := flat_len d l [nbl] 0
      have e : [nbl].length = 1 := rfl
      unfold flatP
      omega)
    have HL := Lib.hid (flist_calls w1 (w1.heap.size + 1) vars (d + 1) d (Nat.lt_succ_self d) A l cap _ _ _ _ [nbl] 0 (RdSh.below HW1.out HA.out) hl hok HS.out (by decide) (by have e : [nbl].length = 1 := rfl; omega) (by have e : manyB [nbl] = 0 := rfl; omega))
    rw [show ((0 : Nat) : Int) = 0 from rfl] at HL
    clear hst hok hcnt Hx v1 v6
    go_wp2_with fail
    (with_reducible refine HL.out.mono ?_)
    rintro e w2 ⟨rfl, g2, cap2, raws2, hS2, hF2⟩
    have hS2 : FS w1 w2 (w1.heap.size + 1) g2 cap2 raws2 (flatP d l) := hS2
    have HS2 := Lib.hid hS2
    have cT := hS2.tcell
    clear hS2 hF2 HL
    go_wp2_with fail
    go_ret2
    exact ⟨HW1.out.trans (HS2.out.bel.mono HW1.out.size), .inr ⟨HOK.out.1, HOK.out.2.1, HOK.out.2.2.1, HOK.out.2.2.2, Hln.out, _, _, rfl, HS2.out.rd⟩⟩
  · have q : (x != 0) = true := by rw [bne_iff_ne]; exact h0
    have H0 := Lib.hid h0
    clear h0
    go_wp2_with fail
    go_ret2
    exact ⟨HW1.out, .inl ⟨x, H0.out, rfl⟩⟩
end Go.Proofs.Ytmgejacndhnikaa
