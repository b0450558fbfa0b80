/- Rows of words (uint32) as lists of naturals. -/
import Derived.Test.YtmgejacndhnikaaTurnG
import Derived.BigQuiet
import Derived.Deep.QuietTactic
import Derived.BigGuardPart
namespace Go.Proofs.Ytmgejacndhnikaa
open Go.RowKit
def u32Cells (s : Nat) : List Value := [.int .u32 (s : Int)]
abbrev OwnU (w : World) (base E : Nat) (v : Value) (l : List Nat) : Prop := Own u32Cells 1 w base E v l
abbrev RdU (w : World) (A : Option Addr) (l : List Nat) : Prop := Rd u32Cells 1 w A l
theorem RdU.at1 {w : World} {A : Option Addr} {l : List Nat} (h : RdU w A l) {k : Nat} (hk : k < l.length) :
    ∃ b off, A = some ⟨b, off, none⟩ ∧ b < w.heap.size ∧ w.cell? ⟨b, off + k, none⟩ = some (.int .u32 (l[k] : Nat)) := by
  obtain ⟨b, off, h1, h2, h3⟩ := h.at_ hk
  refine ⟨b, off, h1, h2, ?_⟩
  have := h3 0 (by omega)
  simpa [u32Cells] using this
theorem infoU : (Try.prog.info? 24).map (fun i => (i.zero, i.size, i.bytes)) = some (some (.int .u32 0), 1, 4) := by kernel_rfl
theorem u32Cells_len (x : Nat) : (u32Cells x).length = 1 := rfl
theorem u32Cells_one (x : Nat) : ∀ u ∈ u32Cells x, u.oneCell' = true := by intro u hu; simp [u32Cells] at hu; subst hu; rfl

/-- 'out = append(out, y)' for ints, as the translation has it: y alone in a new block. -/
theorem wpList_appU {w : World} {ops : Array Oper} {rest : List Oper} {o : Oper} {a : Act} {Q : Exit → Act → World → Prop} (hgd : o.guard = none) (s x : Operand)
    (ho : o.op = .call { callee := .builtin .append, args := #[s, x], argTypes := #[100, 100] })
    (base : Nat) (v : Value) (l : List Nat) (y : Nat) (hs : a.eval s = v) (hown : OwnU w base 24 v l) (S c : Nat) (hx : a.eval x = .slice (some ⟨S, 0, none⟩) 1 c)
    (hnew : w.cell? ⟨S, 0, none⟩ = some (.int .u32 y)) (hlen : l.length < 1000000) (hbase : base ≤ w.heap.size)
    (h : ∀ v' w', OwnU w' base 24 v' (l ++ [y]) → w.grownBy w' v.ownBlock → wpList Try.prog ops Q rest (a.put o.dst v') w') : wpList Try.prog ops Q (o :: rest) a w :=
  wpList_app1 hgd s x 100 ho u32Cells 1 4 24 (.int .u32 0) Try.underlying100 infoU rfl (by decide) u32Cells_len u32Cells_one base v l y hs hown S c hx
    (fun j hj => by have : j = 0 := by omega
                    subst this; rw [hnew]; rfl) (by unfold maxLen; omega) (by omega) hbase h

/-- 'make([]int, n)'. -/
theorem wpList_makeU {w : World} {ops : Array Oper} {rest : List Oper} {o : Oper} {a : Act} {Q : Exit → Act → World → Prop} (hg : o.guard = none) (lo c : Operand) (hop : o.op = Op.makeSlice 100 lo c)
    (base n : Nat) (hl : a.eval lo = .int .i64 (n : Int)) (hc : a.eval c = .int .i64 (n : Int)) (hn : n < 1000000) (hbase : base ≤ w.heap.size)
    (h : ∀ w', OwnU w' base 24 (.slice (some ⟨w.heap.size, 0, none⟩) n n) (List.replicate n 0) → w.grownBy w' none → wpList Try.prog ops Q rest (a.put o.dst (.slice (some ⟨w.heap.size, 0, none⟩) n n)) w') : wpList Try.prog ops Q (o :: rest) a w := by
  obtain ⟨i, hi, hz0, hz1, hz2⟩ := info_parts infoU
  refine wpList_make_full w hg lo c 100 hop base 24 i (.int .u32 0) 1 Try.underlying100 hi hz0 hz1 .i64 .i64 n n n hl hc rfl rfl (by rw [hz2]; omega) (by unfold maxLen; omega) hbase fun w' h1 h2 => ?_
  refine h w' ?_ h2
  have e : (madeCells (Value.int .u32 0).cells (n * 1)).toList = (List.replicate n (0 : Nat)).flatMap u32Cells := by
    rw [show (Value.int .u32 0).cells = #[.int .u32 0] from rfl, Nat.mul_one, toList_madeCells_one]
    clear h1 h2 hl hc h
    induction n with
    | zero => rfl
    | succ n ih => rw [List.replicate_succ, List.replicate_succ, List.flatMap_cons, ← ih (by omega)]; rfl
  rw [e] at h1
  unfold OwnU Own
  rw [List.length_replicate]
  exact h1

/-- A row of ints: its head, each cell, none frozen. -/
theorem OwnU.at_ {w : World} {base : Nat} {v : Value} {l : List Nat} (h : OwnU w base 24 v l) (hl : 0 < l.length) :
    ∃ g cap, v = .slice (some ⟨g, 0, none⟩) l.length cap ∧ base ≤ g ∧ g < w.heap.size ∧ l.length ≤ cap ∧ (∀ j, w.frozen? ⟨g, j, none⟩ = false) ∧ ∀ k (hk : k < l.length), w.cell? ⟨g, k, none⟩ = some (.int .u32 (l[k]'hk : Nat)) := by
  obtain ⟨g, cap, rfl, h1, h2, h3, h4⟩ := h.some_ hl
  refine ⟨g, cap, rfl, h1, h2, h3, h4, fun k hk => ?_⟩
  have := h.cell_ u32Cells_len hk (j := 0) (by decide)
  simpa [u32Cells] using this
theorem OwnU.at2 {w : World} {base n c : Nat} {A : Option Addr} {l : List Nat} (h : OwnU w base 24 (.slice A n c) l) (hl : 0 < l.length) :
    ∃ g, A = some ⟨g, 0, none⟩ ∧ base ≤ g ∧ g < w.heap.size ∧ l.length ≤ c ∧ (∀ j, w.frozen? ⟨g, j, none⟩ = false) ∧ ∀ k (_hk : k < l.length), w.cell? ⟨g, k, none⟩ = some (.int .u32 (l[k] : Nat)) := by
  obtain ⟨g, cap, e, h1, h2, h3, h4, h5⟩ := h.at_ hl
  injection e with e1 e2 e3
  subst e1 e3
  exact ⟨g, rfl, h1, h2, h3, h4, h5⟩
theorem OwnU.rd {w : World} {base : Nat} {v : Value} {l : List Nat} (h : OwnU w base 24 v l) : ∃ A cap, v = .slice A l.length cap ∧ RdU w A l :=
  let ⟨A, cap, h1, h2, _⟩ := h.form u32Cells_len
  ⟨A, cap, h1, h2⟩
/-- A slice literal of ints. -/
theorem OwnU.lit (w : World) (l : List Nat) (base : Nat) (hb : base ≤ w.heap.size) (hl : l.length ≤ maxLen) : OwnU (w.alloc (.cells (l.map (fun s : Nat => Value.int .u32 s)).toArray 24)) base 24 (.slice (some ⟨w.heap.size, 0, none⟩) l.length l.length) l := by
  have h := World.ownsRow_lit (base := base) (e := 24) (size := 1) w (l.map (fun s : Nat => Value.int .u32 s)).toArray l.length hb hl (by simp)
  have e : l.flatMap u32Cells = l.map (fun s : Nat => Value.int .u32 s) := by
    induction l with
    | nil => rfl
    | cons x r ih => rw [List.flatMap_cons, ih (by simp at hl; omega) (World.ownsRow_lit w _ _ hb (by simp at hl; omega) (by simp))]; rfl
  unfold OwnU Own
  rw [e]
  simpa using h
/-- l[k] = y -/
theorem OwnU.set_ {w : World} {base g cap n : Nat} {l : List Nat} (h : OwnU w base 24 (.slice (some ⟨g, 0, none⟩) n cap) l) {k : Nat} (_hk : k < l.length) (y : Nat) :
    OwnU (w.setCell ⟨g, k, none⟩ (.int .u32 y)) base 24 (.slice (some ⟨g, 0, none⟩) n cap) (l.set k y) := by
  have hn : n = l.length := by
    rcases h.2 with ⟨h0, _⟩ | ⟨_, _, _, h0, _⟩
    · cases h0
    · injection h0
  subst hn
  have e : ∀ l : List Nat, l.flatMap u32Cells = l.map (fun s : Nat => Value.int .u32 s) := fun l => by
    induction l with
    | nil => rfl
    | cons x r ih => rw [List.flatMap_cons, ih]; rfl
  have h1 := World.ownsRow.stored (w := w) (base := base) (e := 24) (size := 1) (g := g) (cap := cap) (n := l.length) (xs := l.flatMap u32Cells) h k (.int .u32 y)
  unfold OwnU Own
  rw [e] at h1 ⊢
  rw [List.length_set, List.map_set]
  exact h1.1
end Go.Proofs.Ytmgejacndhnikaa
namespace Go.Proofs.Ytmgejacndhnikaa
open Go.RowKit

set_option maxHeartbeats 400000 in
theorem equalU_calls (A B : Option Addr) (a b : List Nat) (ca cb : Nat) (w : World) (hA : RdU w A a) (hB : RdU w B b) (ha : a.length < 1000000) :
    Calls Try.prog 117 #[.slice A a.length ca, .slice B b.length cb] w fun e w' => e = .returned (.bool (decide (a = b))) ∧ ∃ nq, w' = w.drewN nq := by
  have HA := Lib.hid hA; clear hA
  have HB := Lib.hid hB; clear hB
  by_cases hl : a.length = b.length
  case neg =>
    have q1 : ((a.length : Int) != (b.length : Int)) = true := by rw [bne_iff_ne]; omega
    have H := Lib.hid (show a ≠ b from fun h => hl (by rw [h]))
    clear hl
    go_enter Try.func117, Try.ntmps117
    go_wp2
    all_goals first | (exfalso; omega) | (go_ret; exact ⟨ret_bool (decide_eq_false H.out).symm, 0, rfl⟩)
  have q1 : ((a.length : Int) != (b.length : Int)) = false := by rw [bne_eq_false_iff_eq]; omega
  have Hl := Lib.hid hl
  clear hl
  go_enter Try.func117, Try.ntmps117
  go_wp2
  clear q1
  go_loopw [13] (fun i wr => ∃ k : Nat, k ≤ a.length ∧ i = .int .i64 k ∧ Hid (a.take k = b.take k) ∧ ∃ nq, wr = w.drewN nq) (fun i _ => a.length - (intOf i).toNat)
  case atStart => exact ⟨0, Nat.zero_le _, rfl, Lib.hid rfl, 0, rfl⟩
  case round =>
    obtain ⟨k, hk, rfl, hE, nq, rfl⟩ := hrel
    by_cases hlt : k < a.length
    · have hltb : k < b.length := by have := Hl.out; omega
      obtain ⟨b1, off1, rfl, hb1, c0⟩ := RdU.at1 HA.out hlt
      obtain ⟨b2, off2, rfl, hb2, c1⟩ := RdU.at1 HB.out hltb
      have k1 : ((k : Nat) : Int) < ((a.length : Nat) : Int) := by omega
      have k2 : ((k : Nat) : Int) < ((b.length : Nat) : Int) := by omega
      by_cases he : a[k] = b[k]
      · have q2 : ((a[k] : Nat) : Int) = ((b[k] : Nat) : Int) := by rw [he]
        have Hn : Hid (a.take (k + 1) = b.take (k + 1)) := by
          rw [List.take_succ_eq_append_getElem hlt, List.take_succ_eq_append_getElem hltb, hE.out, he]; exact Lib.hid rfl
        clear he hE
        generalize a[k] = x at *
        generalize b[k] = y at *
        go_wp2
        go_quiet (fail)
        go_wp2
        go_roundw
        case rel => exact ⟨k + 1, by omega, by go_num, Hn, _, rfl⟩
        case measure => simp [intOf]; omega
      · have q2 : (((a[k] : Nat) : Int) != ((b[k] : Nat) : Int)) = true := by rw [bne_iff_ne]; omega
        have Hn := Lib.hid (show a ≠ b from fun h => he (by simp [h]))
        clear he hE
        generalize a[k] = x at *
        generalize b[k] = y at *
        go_wp2
        go_quiet (fail)
        go_wp2
        go_ret
        exact ⟨ret_bool (decide_eq_false Hn.out).symm, _, World.drewN_drewN _ _ _⟩
    · go_wp2
      go_ret
      refine ⟨ret_bool ?_, _, rfl⟩
      have := hE.out
      have hl := Hl.out
      rw [List.take_of_length_le (by omega), List.take_of_length_le (by omega)] at this
      exact (decide_eq_true this).symm
end Go.Proofs.Ytmgejacndhnikaa
