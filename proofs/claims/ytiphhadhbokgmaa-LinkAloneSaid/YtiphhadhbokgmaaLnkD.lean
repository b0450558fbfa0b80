/- link.Find walked; rows of bytes. -/
import Derived.Test.YtiphhadhbokgmaaLnkC
namespace Go.Proofs.Ytiphhadhbokgmaa
set_option maxRecDepth 100000
open Go.RowKit Go.Maps

def FindE (l : List Ob) (x : Int) (w : World) (e : Ending) (w' : World) : Prop :=
  Below w.heap.size w w' ∧ ((obErr l ≠ 0 ∧ e = .returned (.tuple #[.int .i64 0, .int .i64 (obErr l)])) ∨
    (OkL l ∧ ((lk (entsL l) x = none ∧ e = .returned (.tuple #[.int .i64 0, .int .i64 5])) ∨ ∃ i a, lk (entsL l) x = some (i, a) ∧ e = .returned (.tuple #[.int .i64 a, .int .i64 0]))))
set_option maxHeartbeats 8000000 in
theorem find_calls (A : Option Addr) (l : List Ob) (cap : Nat) (x : Int) (w : World) (hA : RdOb w A l) (hm : l.length ≤ maxLen) (hwf : WfL l) (hml : ∀ o ∈ l, o.bytes.length ≤ maxLen ∧ o.has.length ≤ maxLen ∧ o.wants.length ≤ maxLen) (hx : i64In x) :
    Calls Try.prog 22 #[.slice A l.length cap, .int .i64 x] w (FindE l x w) := by
  have HC := Lib.hid (build_calls A l cap w hA hm hwf hml)
  clear hA hm hwf hml
  by_cases h0 : obErr l = 0
  · have H0 := Lib.hid h0
    cases hv : lk (entsL l) x with
    | none =>
      have Hv := Lib.hid hv
      clear hv h0
      go_enter Try.func22, Try.ntmps22
      go_wp2_with (go_at_call 35; (with_reducible refine HC.out.mono ?_); rintro e w5 ⟨hb, h⟩; obtain ⟨hok, M, V, rfl, hM, hT⟩ := h.resolve_left (fun h => h.1 H0.out); have hlk := (hT.look hx).2; unfold fE at hlk; rw [Hv.out] at hlk; change (Instr.lookup 89 (.map (some (M + 1))) (.int .i64 x) true).run Try.prog w5 = .ok (.tuple #[.int .i64 0, .bool false]) w5 at hlk; have hc := hT.cells; change w5.cell? ⟨M + 2, 0, none⟩ = _ ∧ w5.cell? ⟨M + 2, 1, none⟩ = _ ∧ w5.cell? ⟨M + 2, 2, none⟩ = _ ∧ _ at hc; obtain ⟨t0, t1, t2, -⟩ := hc; have HB := Lib.hid hb; have HOk := Lib.hid hok; clear h hT hb hok)
      go_ret2
      exact ⟨HB.out, .inr ⟨HOk.out, .inl ⟨Hv.out, rfl⟩⟩⟩
    | some p =>
      obtain ⟨i, a⟩ := p
      have Hv := Lib.hid hv
      clear hv h0
      go_enter Try.func22, Try.ntmps22
      go_wp2_with (go_at_call 35; (with_reducible refine HC.out.mono ?_); rintro e w5 ⟨hb, h⟩; obtain ⟨hok, M, V, rfl, hM, hT⟩ := h.resolve_left (fun h => h.1 H0.out); have hlk := (hT.look hx).2; unfold fE at hlk; rw [Hv.out] at hlk; change (Instr.lookup 89 (.map (some (M + 1))) (.int .i64 x) true).run Try.prog w5 = .ok (.tuple #[.int .i64 a, .bool true]) w5 at hlk; have hc := hT.cells; change w5.cell? ⟨M + 2, 0, none⟩ = _ ∧ w5.cell? ⟨M + 2, 1, none⟩ = _ ∧ w5.cell? ⟨M + 2, 2, none⟩ = _ ∧ _ at hc; obtain ⟨t0, t1, t2, -⟩ := hc; have HB := Lib.hid hb; have HOk := Lib.hid hok; clear h hT hb hok)
      go_ret2
      exact ⟨HB.out, .inr ⟨HOk.out, .inr ⟨i, a, Hv.out, rfl⟩⟩⟩
  · have H0 := Lib.hid h0
    obtain ⟨E, hE⟩ : ∃ E, E = obErr l := ⟨_, rfl⟩
    have q2 : (E != 0) = true := by rw [bne_iff_ne, hE]; exact h0
    have HE := Lib.hid hE
    clear hE
    go_enter Try.func22, Try.ntmps22
    go_wp2_with (go_at_call 35; (with_reducible refine HC.out.mono ?_); rintro e w5 ⟨hb, h⟩; obtain ⟨-, rfl⟩ := h.resolve_right (fun h => H0.out (obErr_iff.2 h.1)); rw [← HE.out]; have HB := Lib.hid hb; clear h hb)
    go_ret2
    exact ⟨HB.out, .inl ⟨H0.out, by rw [← HE.out]; rfl⟩⟩
end Go.Proofs.Ytiphhadhbokgmaa
