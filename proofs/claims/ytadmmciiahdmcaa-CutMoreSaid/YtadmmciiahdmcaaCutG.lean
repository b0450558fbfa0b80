/- cut.Needs walked; CutMore: what is needed for some is needed for more. -/
import Derived.Test.YtadmmciiahdmcaaCutF
namespace Go.Proofs.Ytadmmciiahdmcaa
set_option maxRecDepth 100000
open Go.RowKit

def NeedsE (n : Nat) (p : List Blk) (A : Option Addr) (cap want : Nat) (w : World) (e : Ending) (w' : World) : Prop :=
  (∃ x, x ≠ 0 ∧ e = .returned (.tuple #[.slice none 0 0, .int .u32 0, .int .i64 x]) ∧ Below w.heap.size w w') ∨
  (pkErr (n : Int) p = 0 ∧ want < 2 ^ n ∧ ∃ (T SB FB : Nat) (R : Nat → Nat) (b cS t : Nat) (F : List Nat) (B : Nat → List Bool), e = .returned (.tuple #[.slice (some ⟨SB, 0, none⟩) p.length cS, .int .u32 (t : Nat), .int .i64 0]) ∧
    SX n p (getU (W.onL (nexts p))) want w T SB FB R (.slice A p.length cap) (.slice (some ⟨b, 0, none⟩) p.length p.length) cS t F B w' ∧ Clo p (getU (W.onL (nexts p))) want ⟨F, MB p.length B, t⟩)
theorem SX.drewN {n : Nat} {p : List Blk} {on : Nat → Nat} {want : Nat} {w0 : World} {T SB FB : Nat} {R : Nat → Nat} {vp vn : Value} {cS t : Nat} {F : List Nat} {B : Nat → List Bool} {wr : World} (h : SX n p on want w0 T SB FB R vp vn cS t F B wr) (k : Nat) : SX n p on want w0 T SB FB R vp vn cS t F B (wr.drewN k) := ⟨h.ct.drewN k, below_dN h.bel k, h.low, h.len, h.lt, h.t8, h.tt, h.base⟩
set_option maxHeartbeats 1000000 in
theorem needs_bad (vars : Int) (A : Option Addr) (p : List Blk) (cap want : Nat) (w : World) (hA : RdBk w A p) (hm : p.length ≤ maxLen) (hmc : smallB p) (h0 : pkErr vars p ≠ 0) :
    Calls Try.prog 35 #[.int .i64 vars, .slice A p.length cap, .int .u32 want] w fun e w' => ∃ x, x ≠ 0 ∧ e = .returned (.tuple #[.slice none 0 0, .int .u32 0, .int .i64 x]) ∧ Below w.heap.size w w' := by
  have Hb := Lib.hid (build_bad vars A p cap want w hA hm hmc h0)
  clear hA h0
  go_enter Try.func35, Try.ntmps35
  go_upto_region 2 with (go_at_call 64; refine Hb.out.mono ?_; rintro e w1 ⟨x, hx, rfl, hW⟩; have HW1 := Lib.hid hW; clear hW)
  have q : (x != 0) = true := by rw [bne_iff_ne]; exact hx
  have Hx := Lib.hid hx
  clear hx
  go_wp2
  go_ret3
  exact ⟨x, Hx.out, rfl, HW1.out⟩
set_option maxHeartbeats 1000000 in
theorem needs_calls (n : Nat) (A : Option Addr) (p : List Blk) (cap want : Nat) (w : World) (hA : RdBk w A p) (hm : p.length ≤ maxLen) (hmc : smallB p) :
    Calls Try.prog 35 #[.int .i64 (n : Nat), .slice A p.length cap, .int .u32 want] w (NeedsE n p A cap want w) := by
  have Hb := Lib.hid (build_calls n A p cap want w hA hm hmc)
  clear hA
  go_enter Try.func35, Try.ntmps35
  go_wp2_with (go_at_call 64; refine Hb.out.mono ?_; clear Hb; rintro e w1 (⟨x, hx, rfl, hW⟩ | ⟨h0, h1, T, SB, FB, R, b, cS, t, F, B, vs, rfl, hX, hC, -⟩))
  · have q : (x != 0) = true := by rw [bne_iff_ne]; exact hx
    have Hx := Lib.hid hx
    have HW1 := Lib.hid hW
    clear hx hW
    go_wp2
    go_ret3
    exact .inl ⟨x, Hx.out, rfl, HW1.out⟩
  · have H0 := Lib.hid h0
    have H1 := Lib.hid h1
    have HX := Lib.hid hX
    have HC := Lib.hid hC
    obtain ⟨-, -, -, c3, c4, -⟩ := hX.ct.at_
    clear h0 h1 hX hC
    go_wp2
    go_quiet (fail)
    go_wp2
    go_ret3
    exact .inr ⟨H0.out, H1.out, T, SB, FB, R, b, cS, t, F, B, rfl, HX.out.drewN _, HC.out⟩
theorem inRef_calls (s t : Nat) (hs : s < 4294967296) (ht : t < 4294967296) (h : ∀ x, s.testBit x = true → t.testBit x = true) (w : World) :
    Calls Try.prog 36 #[.int .u32 s, .int .u32 t] w fun e w' => e = .returned (.bool true) ∧ w' = w := by
  have r := or_u32 s t hs ht
  have e : s ||| t = t := set_ext fun k => by
    rw [Nat.testBit_or]
    cases hk : s.testBit k
    · rw [Bool.false_or]
    · rw [h k hk]; rfl
  rw [e] at r
  clear h e
  go_enter Try.func36, Try.ntmps36
  go_wp2
  go_ret
  exact ⟨by first | rfl | simp, rfl⟩
end Go.Proofs.Ytadmmciiahdmcaa
