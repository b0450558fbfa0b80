/- stack.Back walked. -/
import Derived.Test.YtmglhppfdhphbaaStkB
import Derived.Test.YtmglhppfdhphbaaStkR
import Derived.Deep.CutRange
import Derived.Deep.DeepCutAuto
namespace Go.Proofs.Ytmglhppfdhphbaa
open Go.RowKit

def bErr (vars : Int) (c : List SOp) : Int :=
  if vars < 0 then 1 else if sErr vars c ≠ 0 then sErr vars c else if c.length = 0 ∨ 16 < c.length then 1 else if (bkTo c c.length).2.length ≠ 1 then 3 else 0
theorem bk1_slen (st : List Term × List Int) (c : SOp) : (bk1 st c).2.length ≤ st.2.length + 1 := by
  unfold bk1; split <;> simp <;> omega
theorem bkTo_slen {c : List SOp} : ∀ {k : Nat}, k ≤ c.length → (bkTo c k).2.length ≤ k
  | 0, _ => Nat.le_refl _
  | k + 1, h => by rw [bkTo_succ h]; have := bk1_slen (bkTo c k) c[k]; have := bkTo_slen (c := c) (k := k) (by omega); omega
/-- Two rows of the call's own: one term behind the one, one number behind the other. -/
theorem two_apps {w0 wz : World} {base : Nat} {v7 v8 : Value} {l : List Term} {s : List Int} (hT : OwnT wz base v7 l) (hI : OwnI wz base 3 v8 s) (hW : Below w0.heap.size w0 wz) (hb : w0.heap.size ≤ base) (hb' : base ≤ wz.heap.size) (t : Term) (x : Int) (hl : l.length < 1000) (hs : s.length < 1000) :
    ∃ A7 c7 w1, (Builtin.append_ #[22, 22] 22 #[v7, .slice (some ⟨wz.heap.size, 0, none⟩) 1 1]).run Try.prog (wz.alloc (.cells #[.int .i64 t.op, .int .i64 t.a, .int .i64 t.b, .int .i64 t.val] 37)) = .ok (.slice A7 (l.length + 1) c7) w1 ∧
      ∃ A8 c8 w2, (Builtin.append_ #[23, 23] 23 #[v8, .slice (some ⟨w1.heap.size, 0, none⟩) 1 1]).run Try.prog (w1.alloc (.cells #[.int .i64 x] 3)) = .ok (.slice A8 (s.length + 1) c8) w2 ∧
        OwnT w2 base (.slice A7 (l.length + 1) c7) (l ++ [t]) ∧ OwnI w2 base 3 (.slice A8 (s.length + 1) c8) (s ++ [x]) ∧ Below w0.heap.size w0 w2 ∧ base ≤ w2.heap.size := by
  obtain ⟨v9, w1, hrun, hown9, hg9, hat9⟩ := run_app1 (P := Try.prog) (w := wz.alloc (.cells #[.int .i64 t.op, .int .i64 t.a, .int .i64 t.b, .int .i64 t.val] 37)) 22 22 Term.cells 4 32 37 (Term.mk 0 0 0 0).agg Try.underlying22 infoTerm rfl (by decide) termCells_len termCells_one base _ l t (hT.alloc _) wz.heap.size 1 (fun j _ => cellT_new wz t _ _ _ rfl rfl j) (by unfold maxLen; omega) (by omega) (by simp; omega)
  obtain ⟨A7, c7, rfl, -⟩ := Own.form termCells_len hown9
  rw [List.length_append, List.length_singleton] at hrun hown9 hat9
  have hI1 := (hI.alloc (.cells #[.int .i64 t.op, .int .i64 t.a, .int .i64 t.b, .int .i64 t.val] 37)).kept hg9 (own_apart hI hT (by decide))
  have hW1 := (hW.alloc hW.size (.cells #[.int .i64 t.op, .int .i64 t.a, .int .i64 t.b, .int .i64 t.val] 37)).grown hg9 (by simp; have := hW.size; omega) (fun k e => by have := (own_lt' hT k e).1; omega)
  have hs1 : base ≤ w1.heap.size := by have := hg9.size; simp at this; omega
  obtain ⟨v8', w2, hrun2, hown8, hg8, hat8⟩ := run_app1 (P := Try.prog) (w := w1.alloc (.cells #[.int .i64 x] 3)) 23 23 intCells 1 8 3 (.int .i64 0) Try.underlying23 infoInt rfl (by decide) intCells_len intCells_one base _ s x (hI1.alloc _) w1.heap.size 1 (intNew _ _ _ _ rfl) (by unfold maxLen; omega) (by omega) (by simp; omega)
  obtain ⟨A8, c8, rfl, -⟩ := Own.form intCells_len hown8
  rw [List.length_append, List.length_singleton] at hrun2 hown8 hat8
  have hT2 := (hown9.alloc (.cells #[.int .i64 x] 3)).kept hg8 (own_apart hown9 hI1 (by decide))
  have hW2 := (hW1.alloc hW1.size (.cells #[.int .i64 x] 3)).grown hg8 (by simp; have := hW1.size; omega) (fun k e => by have := (own_lt' hI1 k e).1; omega)
  exact ⟨A7, c7, w1, hrun, A8, c8, w2, hrun2, hT2, hown8, hW2, by have := hg8.size; simp at this; omega⟩
set_option maxRecDepth 100000 in
set_option maxHeartbeats 8000000 in
theorem back_calls (vars : Int) (A : Option Addr) (c : List SOp) (capA : Nat) (w : World) (hA : RdS w A c) (hm : c.length ≤ maxLen) :
    Calls Try.prog 34 #[.int .i64 vars, .slice A c.length capA] w fun e w' => ((bErr vars c ≠ 0 ∧ e = .returned (.tuple #[.slice none 0 0, .int .i64 (bErr vars c)])) ∨ (bErr vars c = 0 ∧ ∃ v, e = .returned (.tuple #[v, .int .i64 0]) ∧ OwnT w' w.heap.size v (bkTo c c.length).1)) ∧ Below w.heap.size w w' := by
  have HA := Lib.hid hA
  clear hA
  by_cases hv : vars < 0
  · have hb : bErr vars c = 1 := by unfold bErr; rw [if_pos hv]
    have hd : decide (vars < 0) = true := decide_eq_true hv
    rw [hb]
    go_enter Try.func34, Try.ntmps34
    go_wp2
    go_ret2
    exact ⟨Or.inl ⟨by decide, rfl⟩, Below.refl _ _⟩
  have hd : decide (vars < 0) = false := decide_eq_false hv
  by_cases h0 : sErr vars c = 0
  case neg =>
    have hb : bErr vars c = sErr vars c := by unfold bErr; rw [if_neg hv, if_pos h0]
    have q : (sErr vars c != 0) = true := by rw [bne_iff_ne]; exact h0
    rw [hb]
    go_enter Try.func34, Try.ntmps34
    go_wp2_with (go_at_call 50; refine (stkWrong_calls _ A c capA w HA.out hm).mono ?_; rintro e w1 ⟨rfl, hW⟩; have HW1 := Lib.hid hW; clear hW)
    go_ret2
    exact ⟨Or.inl ⟨h0, rfl⟩, HW1.out⟩
  have H0 := Lib.hid h0
  by_cases hn : c.length = 0 ∨ 16 < c.length
  · have hb : bErr vars c = 1 := by unfold bErr; rw [if_neg hv, if_neg (by rw [h0]; decide), if_pos hn]
    rw [hb]
    clear h0
    by_cases hz : c.length = 0
    · have q1 : (((c.length : Nat) : Int) == 0) = true := by rw [hz]; rfl
      clear hz hn
      go_enter Try.func34, Try.ntmps34
      go_wp2_with (go_at_call 50; refine (stkWrong_calls _ A c capA w HA.out hm).mono ?_; rintro e w1 ⟨rfl, hW⟩; rw [H0.out]; have HW1 := Lib.hid hW; clear hW)
      go_ret2
      exact ⟨Or.inl ⟨by decide, rfl⟩, HW1.out⟩
    · have q1 : (((c.length : Nat) : Int) == 0) = false := by rw [beq_eq_false_iff_ne]; omega
      have q2 : decide (16 < (c.length : Int)) = true := decide_eq_true (by omega)
      go_enter Try.func34, Try.ntmps34
      go_wp2_with (go_at_call 50; refine (stkWrong_calls _ A c capA w HA.out hm).mono ?_; rintro e w1 ⟨rfl, hW⟩; rw [H0.out]; have HW1 := Lib.hid hW; clear hW)
      go_ret2
      exact ⟨Or.inl ⟨by decide, rfl⟩, HW1.out⟩
  have hE : sErrs vars 0 c = 0 := by
    by_cases hx : 6 < vars ∨ 40 < c.length
    · unfold sErr at h0; rw [if_pos hx] at h0; cases h0
    · unfold sErr at h0; rw [if_neg hx] at h0; exact h0
  have hb : bErr vars c = if (bkTo c c.length).2.length ≠ 1 then 3 else 0 := by unfold bErr; rw [if_neg hv, if_neg (by rw [h0]; decide), if_neg hn]
  have HBI := Lib.hid (bi_all (by omega : 0 ≤ vars) hE)
  have Hb := Lib.hid hb
  have h1 : 1 ≤ c.length := by omega
  have h16 : c.length ≤ 16 := by omega
  have q1 : (((c.length : Nat) : Int) == 0) = false := by rw [beq_eq_false_iff_ne]; omega
  clear h0 hE hb hn
  go_enter Try.func34, Try.ntmps34
  go_wp2_with (go_at_call 50; refine (stkWrong_calls _ A c capA w HA.out hm).mono ?_; rintro e w1 ⟨rfl, hW⟩; rw [H0.out]; have HW1 := Lib.hid hW; clear hW)
  have hw1 := HW1.out.size
  go_loopw [7, 8, 31] (fun v7 v8 i wr => ∃ k : Nat, k ≤ c.length ∧ i = .int .i64 k ∧ OwnT wr w1.heap.size v7 (bkTo c k).1 ∧ OwnI wr w1.heap.size 3 v8 (bkTo c k).2 ∧ w1.heap.size ≤ wr.heap.size ∧ Below w.heap.size w wr) (fun _ _ i _ => c.length - (intOf i).toNat)
  case atStart => exact ⟨0, Nat.zero_le _, rfl, Own.nil_ _ _ _, Own.nil_ _ _ _, Nat.le_refl _, HW1.out⟩
  case round =>
    obtain ⟨k, hk, rfl, hT, hI, hwr, hW⟩ := hrel
    have hbi := HBI.out k hk
    have hTl := hbi.len
    have hsl : (bkTo c k).2.length ≤ k := bkTo_slen hk
    have Hbi := Lib.hid hbi
    have Hsucc := Lib.hid (fun hlt => @bkTo_succ c k hlt)
    have hfin : k = c.length → bkTo c k = bkTo c c.length := fun e => by rw [e]
    have Hfin := Lib.hid hfin
    generalize hst : bkTo c k = st at *
    obtain ⟨l, s⟩ := st
    dsimp only at hT hI hTl hsl
    obtain ⟨A7, c7, rfl, -⟩ := OwnT.rd hT
    obtain ⟨A8, c8, rfl, -⟩ := OwnI.rd hI
    rw [hTl] at hT ⊢
    have HT := Lib.hid hT
    have HI := Lib.hid hI
    have HW := Lib.hid hW
    have Hlen := Lib.hid hTl
    have hws := hW.size
    clear hbi hfin hTl
    by_cases hlt : k < c.length
    · obtain ⟨b, off, rfl, hb, c0, c1⟩ := RdS.at2 (Rd.below HA.out hW) hlt
      have q2 : ((k : Nat) : Int) < ((c.length : Nat) : Int) := by omega
      have hs1 := Hsucc.out hlt
      have Hnext := Lib.hid hs1
      have htwo := errs_two hlt Hbi.out.errs
      clear hT hI hW hs1 Hsucc
      generalize c[k] = cc at *
      obtain ⟨op, val⟩ := cc
      dsimp only at c0 c1 htwo
      have HTa := Lib.hid ((HT.out.alloc (.cells #[.int .i64 op, .int .i64 val] 62)).alloc (.cells #[.int .i64 op, .int .i64 0, .int .i64 0, .int .i64 val] 37))
      have HIa := Lib.hid ((HI.out.alloc (.cells #[.int .i64 op, .int .i64 val] 62)).alloc (.cells #[.int .i64 op, .int .i64 0, .int .i64 0, .int .i64 val] 37))
      have HWa := Lib.hid ((HW.out.alloc hws (.cells #[.int .i64 op, .int .i64 val] 62)).alloc (by simp; omega) (.cells #[.int .i64 op, .int .i64 0, .int .i64 0, .int .i64 val] 37))
      by_cases h2 : 2 < op
      · have hs2 : 2 ≤ s.length := by have := htwo h2; omega
        obtain ⟨m, hm⟩ : ∃ m, s.length = m + 2 := ⟨s.length - 2, by omega⟩
        have hd2 : decide (2 < op) = true := decide_eq_true h2
        have e1 : bk1 (l, s) ⟨op, val⟩ = (l ++ [⟨op, s.getD m 0, s.getD (m + 1) 0, 0⟩], s.take m ++ [(l.length : Int)]) := by unfold bk1; rw [if_neg (Int.not_le.2 h2)]; dsimp only; rw [hm]; rfl
        rw [e1] at Hnext
        obtain ⟨g, rfl, hg1, hg2, _, _, hcell⟩ := OwnI.at2 HI.out (by omega)
        have d0 := hcell m (by omega)
        have d1 := hcell (m + 1) (by omega)
        rw [show s[m] = s.getD m 0 from (getD_get (by omega)).symm] at d0
        rw [show s[m + 1] = s.getD (m + 1) 0 from (getD_get (by omega)).symm] at d1
        generalize s.getD m 0 = x at *
        generalize s.getD (m + 1) 0 = y at *
        have hTN : (Value.slice A7 k c7).ownBlock ≠ some (wr.heap.size + 1) := fun e => by have := (own_lt' HT.out _ e).2; omega
        have hIN : (Value.slice (some ⟨g, 0, none⟩) s.length c8).ownBlock ≠ some (wr.heap.size + 1) := fun e => by have := (own_lt' HI.out _ e).2; omega
        have hwN : w.heap.size ≤ wr.heap.size + 1 := by omega
        have hn0 : ((wr.alloc (.cells #[.int .i64 op, .int .i64 val] 62)).alloc (.cells #[.int .i64 op, .int .i64 0, .int .i64 0, .int .i64 val] 37)).drew.heap[wr.heap.size + 1]? = some (.cells #[.int .i64 op, .int .i64 0, .int .i64 0, .int .i64 val] 37 (0, 0)) := by
          have h := heap_alloc_new (wr.alloc (.cells #[.int .i64 op, .int .i64 val] 62)) (.cells #[.int .i64 op, .int .i64 0, .int .i64 0, .int .i64 val] 37)
          rw [show (wr.alloc (.cells #[.int .i64 op, .int .i64 val] 62)).heap.size = wr.heap.size + 1 by simp] at h
          exact h
        have hn4 := heap_setCell_ _ _ 3 (.int .i64 0) _ _ (heap_setCell_ _ _ 2 (.int .i64 y) _ _ (heap_setCell_ _ _ 1 (.int .i64 x) _ _ (heap_setCell_ ((wr.alloc (.cells #[.int .i64 op, .int .i64 val] 62)).alloc (.cells #[.int .i64 op, .int .i64 0, .int .i64 0, .int .i64 val] 37)).drew (wr.heap.size + 1) 0 (.int .i64 op) _ _ hn0)))
        have Hn4 := Lib.hid hn4
        have HT4 := Lib.hid ((((HTa.out.drew.far (p := ⟨wr.heap.size + 1, 0, none⟩) hTN (.int .i64 op)).far (p := ⟨wr.heap.size + 1, 1, none⟩) hTN (.int .i64 x)).far (p := ⟨wr.heap.size + 1, 2, none⟩) hTN (.int .i64 y)).far (p := ⟨wr.heap.size + 1, 3, none⟩) hTN (.int .i64 0))
        have HI4 := Lib.hid (Own.take_ intCells_len ((((HIa.out.drew.far (p := ⟨wr.heap.size + 1, 0, none⟩) hIN (.int .i64 op)).far (p := ⟨wr.heap.size + 1, 1, none⟩) hIN (.int .i64 x)).far (p := ⟨wr.heap.size + 1, 2, none⟩) hIN (.int .i64 y)).far (p := ⟨wr.heap.size + 1, 3, none⟩) hIN (.int .i64 0)) (k := m) (by omega) (by omega))
        have HW4 := Lib.hid ((((HWa.out.drew.setCell (p := ⟨wr.heap.size + 1, 0, none⟩) hwN (.int .i64 op)).setCell (p := ⟨wr.heap.size + 1, 1, none⟩) hwN (.int .i64 x)).setCell (p := ⟨wr.heap.size + 1, 2, none⟩) hwN (.int .i64 y)).setCell (p := ⟨wr.heap.size + 1, 3, none⟩) hwN (.int .i64 0))
        have Hsz : Hid (((((((wr.alloc (.cells #[.int .i64 op, .int .i64 val] 62)).alloc (.cells #[.int .i64 op, .int .i64 0, .int .i64 0, .int .i64 val] 37)).drew.setCell ⟨wr.heap.size + 1, 0, none⟩ (.int .i64 op)).setCell ⟨wr.heap.size + 1, 1, none⟩ (.int .i64 x)).setCell ⟨wr.heap.size + 1, 2, none⟩ (.int .i64 y)).setCell ⟨wr.heap.size + 1, 3, none⟩ (.int .i64 0)).heap.size = wr.heap.size + 2) := Lib.hid (by simp [World.setCell])
        have Hm : Hid (((wr.alloc (.cells #[.int .i64 op, .int .i64 val] 62)).alloc (.cells #[.int .i64 op, .int .i64 0, .int .i64 0, .int .i64 val] 37)).drew.cell? ⟨wr.heap.size + 1, 0, none⟩ = some (.int .i64 op) ∧ ((wr.alloc (.cells #[.int .i64 op, .int .i64 val] 62)).alloc (.cells #[.int .i64 op, .int .i64 0, .int .i64 0, .int .i64 val] 37)).drew.cell? ⟨wr.heap.size + 1, 1, none⟩ = some (.int .i64 0) ∧ ((wr.alloc (.cells #[.int .i64 op, .int .i64 val] 62)).alloc (.cells #[.int .i64 op, .int .i64 0, .int .i64 0, .int .i64 val] 37)).drew.cell? ⟨wr.heap.size + 1, 2, none⟩ = some (.int .i64 0) ∧ ((wr.alloc (.cells #[.int .i64 op, .int .i64 val] 62)).alloc (.cells #[.int .i64 op, .int .i64 0, .int .i64 0, .int .i64 val] 37)).drew.cell? ⟨wr.heap.size + 1, 3, none⟩ = some (.int .i64 val) ∧ ∀ j, ((wr.alloc (.cells #[.int .i64 op, .int .i64 val] 62)).alloc (.cells #[.int .i64 op, .int .i64 0, .int .i64 0, .int .i64 val] 37)).drew.frozen? ⟨wr.heap.size + 1, j, none⟩ = false) :=
          Lib.hid ⟨cell_h hn0 0, cell_h hn0 1, cell_h hn0 2, cell_h hn0 3, fun j => fz_h hn0 j⟩
        have Hs0 : Hid (((wr.alloc (.cells #[.int .i64 op, .int .i64 val] 62)).alloc (.cells #[.int .i64 op, .int .i64 0, .int .i64 0, .int .i64 val] 37)).drew.cell? ⟨wr.heap.size, 0, none⟩ = some (.int .i64 op) ∧ ((wr.alloc (.cells #[.int .i64 op, .int .i64 val] 62)).alloc (.cells #[.int .i64 op, .int .i64 0, .int .i64 0, .int .i64 val] 37)).drew.cell? ⟨g, m, none⟩ = some (.int .i64 x) ∧ ((wr.alloc (.cells #[.int .i64 op, .int .i64 val] 62)).alloc (.cells #[.int .i64 op, .int .i64 0, .int .i64 0, .int .i64 val] 37)).drew.cell? ⟨g, m + 1, none⟩ = some (.int .i64 y)) := Lib.hid ⟨(cell_grown (World.grownBy_alloc (wr.alloc (.cells #[.int .i64 op, .int .i64 val] 62)) _ none) _ 0 (by simp) (by simp)).trans (cell_new wr _ _ wr.heap.size rfl 0), (cell_grown (World.grownBy_alloc (wr.alloc (.cells #[.int .i64 op, .int .i64 val] 62)) _ none) _ m (by simp; omega) (by simp)).trans ((cell_grown (World.grownBy_alloc wr _ none) _ m hg2 (by simp)).trans d0), (cell_grown (World.grownBy_alloc (wr.alloc (.cells #[.int .i64 op, .int .i64 val] 62)) _ none) _ (m + 1) (by simp; omega) (by simp)).trans ((cell_grown (World.grownBy_alloc wr _ none) _ (m + 1) hg2 (by simp)).trans d1)⟩
        have Hkp : Hid (∀ (w' : World) (j : Nat) (u : Value), (w'.cell? ⟨wr.heap.size, 0, none⟩ = some (.int .i64 op) ∧ w'.cell? ⟨g, m, none⟩ = some (.int .i64 x) ∧ w'.cell? ⟨g, m + 1, none⟩ = some (.int .i64 y)) → ((w'.setCell ⟨wr.heap.size + 1, j, none⟩ u).cell? ⟨wr.heap.size, 0, none⟩ = some (.int .i64 op) ∧ (w'.setCell ⟨wr.heap.size + 1, j, none⟩ u).cell? ⟨g, m, none⟩ = some (.int .i64 x) ∧ (w'.setCell ⟨wr.heap.size + 1, j, none⟩ u).cell? ⟨g, m + 1, none⟩ = some (.int .i64 y))) := Lib.hid fun w' j u hs => by
          rw [World.cell?_setCell_far _ _ _ _ (by show wr.heap.size + 1 ≠ wr.heap.size; omega), World.cell?_setCell_far _ _ _ _ (by show wr.heap.size + 1 ≠ g; omega), World.cell?_setCell_far _ _ _ _ (by show wr.heap.size + 1 ≠ g; omega)]
          exact hs
        have q3 : ((s.length : Nat) : Int) - 2 = ((m : Nat) : Int) := by omega
        have q4 : ((m : Nat) : Int) < ((s.length : Nat) : Int) := by omega
        have q5 : ((m : Nat) : Int) + 1 < ((s.length : Nat) : Int) := by omega
        have q8 : IntKind.i64.wrap ((m : Int) + 1) = (m : Int) + 1 := by rw [IntKind.wrap_i64]; omega
        have q9 : 0 ≤ (m : Int) + 1 := by omega
        have hml : (s.take m).length = m := by rw [List.length_take]; omega
        have Hml := Lib.hid hml
        have hgw : g < wr.heap.size := hg2
        clear hn0 hn4 hcell d0 d1 e1 hTN hIN HTa HIa HWa hm hs2 htwo hml
        go_wp2
        refine wp_region_held_drew (S := fun w' => w'.cell? ⟨wr.heap.size, 0, none⟩ = some (.int .i64 op) ∧ w'.cell? ⟨g, m, none⟩ = some (.int .i64 x) ∧ w'.cell? ⟨g, m + 1, none⟩ = some (.int .i64 y)) (by kernel_rfl) Hs0.out (fun hH0 => ?_)
        generalize ((wr.alloc (.cells #[.int .i64 op, .int .i64 val] 62)).alloc (.cells #[.int .i64 op, .int .i64 0, .int .i64 0, .int .i64 val] 37)).drew = w0 at *
        -- the region
        refine wpAnyH_take (i := 0) (oi := { dst := some 47, op := Go.Op.fieldAddr 62 (Go.Operand.tmp 10) 0, type := 0, pos := "stack.go:115", after := #[], guard := none }) rfl (by kernel_rfl) (by kernel_rfl) (by kernel_rfl) (fun _ _ _ h => h) (Or.inl ⟨by rfl, fun w hw => by (go_simp; try with_reducible rfl)⟩) (by assumption) ?_
        try simp only [Act.put, List.setIfInBounds_toArray, List.set_cons_zero, List.set_cons_succ]
        refine wpAnyH_take (i := 1) (oi := { dst := some 48, op := Go.Op.load 3 (Go.Operand.tmp 47), type := 3, pos := "stack.go:115", after := #[{ on := 0, ground := Go.Ground.data }], guard := none }) rfl (by kernel_rfl) (by kernel_rfl) (by kernel_rfl) (fun _ _ _ h => h) (Or.inl ⟨by rfl, fun w hw => by (obtain ⟨p0, p1, p2⟩ := hw; go_simp; try with_reducible rfl)⟩) (by assumption) ?_
        try simp only [Act.put, List.setIfInBounds_toArray, List.set_cons_zero, List.set_cons_succ]
        refine wpAnyH_take (i := 2) (oi := { dst := some 49, op := Go.Op.move (Go.Operand.tmp 8), type := 23, pos := "stack.go:115", after := #[], guard := none }) rfl (by kernel_rfl) (by kernel_rfl) (by kernel_rfl) (fun _ _ _ h => h) (Or.inl ⟨by rfl, fun w hw => by (go_simp; try with_reducible rfl)⟩) (by assumption) ?_
        try simp only [Act.put, List.setIfInBounds_toArray, List.set_cons_zero, List.set_cons_succ]
        refine wpAnyH_take (i := 3) (oi := { dst := some 50, op := Go.Op.move (Go.Operand.tmp 12), type := 3, pos := "stack.go:115", after := #[], guard := none }) rfl (by kernel_rfl) (by kernel_rfl) (by kernel_rfl) (fun _ _ _ h => h) (Or.inl ⟨by rfl, fun w hw => by (go_simp; try with_reducible rfl)⟩) (by assumption) ?_
        try simp only [Act.put, List.setIfInBounds_toArray, List.set_cons_zero, List.set_cons_succ]
        refine wpAnyH_take (i := 4) (oi := { dst := some 51, op := Go.Op.indexAddr 23 (Go.Operand.tmp 49) (Go.Operand.tmp 50), type := 0, pos := "stack.go:115", after := #[{ on := 2, ground := Go.Ground.data }, { on := 3, ground := Go.Ground.data }], guard := none }) rfl (by kernel_rfl) (by kernel_rfl) (by kernel_rfl) (fun _ _ _ h => h) (Or.inl ⟨by rfl, fun w hw => by (go_simp; try with_reducible rfl)⟩) (by assumption) ?_
        try simp only [Act.put, List.setIfInBounds_toArray, List.set_cons_zero, List.set_cons_succ]
        refine wpAnyH_take (i := 5) (oi := { dst := some 52, op := Go.Op.load 3 (Go.Operand.tmp 51), type := 3, pos := "stack.go:115", after := #[{ on := 4, ground := Go.Ground.data }], guard := none }) rfl (by kernel_rfl) (by kernel_rfl) (by kernel_rfl) (fun _ _ _ h => h) (Or.inl ⟨by rfl, fun w hw => by (obtain ⟨p0, p1, p2⟩ := hw; go_simp; try with_reducible rfl)⟩) (by assumption) ?_
        try simp only [Act.put, List.setIfInBounds_toArray, List.set_cons_zero, List.set_cons_succ]
        refine wpAnyH_take (i := 6) (oi := { dst := some 53, op := Go.Op.move (Go.Operand.tmp 8), type := 23, pos := "stack.go:115", after := #[], guard := none }) rfl (by kernel_rfl) (by kernel_rfl) (by kernel_rfl) (fun _ _ _ h => h) (Or.inl ⟨by rfl, fun w hw => by (go_simp; try with_reducible rfl)⟩) (by assumption) ?_
        try simp only [Act.put, List.setIfInBounds_toArray, List.set_cons_zero, List.set_cons_succ]
        refine wpAnyH_take (i := 7) (oi := { dst := some 54, op := Go.Op.move (Go.Operand.tmp 12), type := 3, pos := "stack.go:115", after := #[], guard := none }) rfl (by kernel_rfl) (by kernel_rfl) (by kernel_rfl) (fun _ _ _ h => h) (Or.inl ⟨by rfl, fun w hw => by (go_simp; try with_reducible rfl)⟩) (by assumption) ?_
        try simp only [Act.put, List.setIfInBounds_toArray, List.set_cons_zero, List.set_cons_succ]
        refine wpAnyH_take (i := 8) (oi := { dst := some 55, op := Go.Op.binOp Go.BinOp.add 3 (Go.Operand.tmp 54) (Go.Operand.const (Go.Value.int Go.IntKind.i64 1)) 3, type := 3, pos := "stack.go:115", after := #[{ on := 7, ground := Go.Ground.data }], guard := none }) rfl (by kernel_rfl) (by kernel_rfl) (by kernel_rfl) (fun _ _ _ h => h) (Or.inl ⟨by rfl, fun w hw => by (go_simp; try with_reducible rfl)⟩) (by assumption) ?_
        try simp only [Act.put, List.setIfInBounds_toArray, List.set_cons_zero, List.set_cons_succ]
        refine wpAnyH_take (i := 9) (oi := { dst := some 56, op := Go.Op.indexAddr 23 (Go.Operand.tmp 53) (Go.Operand.tmp 55), type := 0, pos := "stack.go:115", after := #[{ on := 6, ground := Go.Ground.data }, { on := 8, ground := Go.Ground.data }], guard := none }) rfl (by kernel_rfl) (by kernel_rfl) (by kernel_rfl) (fun _ _ _ h => h) (Or.inl ⟨by rfl, fun w hw => by (go_simp; try with_reducible rfl)⟩) (by assumption) ?_
        try simp only [Act.put, List.setIfInBounds_toArray, List.set_cons_zero, List.set_cons_succ]
        refine wpAnyH_take (i := 10) (oi := { dst := some 57, op := Go.Op.load 3 (Go.Operand.tmp 56), type := 3, pos := "stack.go:115", after := #[{ on := 9, ground := Go.Ground.data }], guard := none }) rfl (by kernel_rfl) (by kernel_rfl) (by kernel_rfl) (fun _ _ _ h => h) (Or.inl ⟨by rfl, fun w hw => by (obtain ⟨p0, p1, p2⟩ := hw; go_simp; try with_reducible rfl)⟩) (by assumption) ?_
        try simp only [Act.put, List.setIfInBounds_toArray, List.set_cons_zero, List.set_cons_succ]
        refine wpAnyH_take (i := 11) (oi := { dst := some 58, op := Go.Op.build 37 #[(0, Go.Operand.tmp 48), (1, Go.Operand.tmp 52), (2, Go.Operand.tmp 57)], type := 37, pos := "stack.go:115", after := #[{ on := 1, ground := Go.Ground.data }, { on := 5, ground := Go.Ground.data }, { on := 10, ground := Go.Ground.data }], guard := none }) rfl (by kernel_rfl) (by kernel_rfl) (by kernel_rfl) (fun _ _ _ h => h) (Or.inl ⟨by rfl, fun w hw => by (go_simp; try with_reducible rfl)⟩) (by assumption) ?_
        try simp only [Act.put, List.setIfInBounds_toArray, List.set_cons_zero, List.set_cons_succ]
        refine wpAnyH_ready (rs := [12]) (by kernel_rfl) (by simp) ?_
        refine AllReadyH.cons (o := { dst := none, op := Go.Op.store 37 (Go.Operand.tmp 11) (Go.Operand.tmp 58), type := 0, pos := "stack.go:115", after := #[{ on := 11, ground := Go.Ground.data }, { on := 0, ground := Go.Ground.phase }, { on := 1, ground := Go.Ground.phase }, { on := 2, ground := Go.Ground.phase }, { on := 3, ground := Go.Ground.phase }, { on := 4, ground := Go.Ground.phase }, { on := 5, ground := Go.Ground.phase }, { on := 6, ground := Go.Ground.phase }, { on := 7, ground := Go.Ground.phase }, { on := 8, ground := Go.Ground.phase }, { on := 9, ground := Go.Ground.phase }, { on := 10, ground := Go.Ground.phase }, { on := 11, ground := Go.Ground.phase }], guard := none }) rfl (fun K hK => ?_) AllReadyH.nil
        have f0 := Hm.out.2.2.2.2 0
        have f1 := Hm.out.2.2.2.2 1
        have f2 := Hm.out.2.2.2.2 2
        have f3 := Hm.out.2.2.2.2 3
        have e0 := Hm.out.1
        have e1 := Hm.out.2.1
        have e2 := Hm.out.2.2.1
        have e3 := Hm.out.2.2.2.1
        go_simp
        refine hK.out _ _ (Hkp.out _ _ _ (Hkp.out _ _ _ (Hkp.out _ _ _ (Hkp.out _ _ _ hH0)))) (fun hH2 => ?_)
        clear hK hH0
        try simp only [Act.put, List.setIfInBounds_toArray, List.set_cons_zero, List.set_cons_succ]
        refine wpAnyH_done (by kernel_rfl) ?_ _
        clear hH2
        -- behind the region
        generalize ((((w0.setCell ⟨wr.heap.size + 1, 0, none⟩ (.int .i64 op)).setCell ⟨wr.heap.size + 1, 1, none⟩ (.int .i64 x)).setCell ⟨wr.heap.size + 1, 2, none⟩ (.int .i64 y)).setCell ⟨wr.heap.size + 1, 3, none⟩ (.int .i64 0)) = wz at *
        have hm0 := (cell_h Hn4.out 0).trans (show _ = some (Value.int .i64 op) from rfl)
        have hm1 := (cell_h Hn4.out 1).trans (show _ = some (Value.int .i64 x) from rfl)
        have hm2 := (cell_h Hn4.out 2).trans (show _ = some (Value.int .i64 y) from rfl)
        have hm3 := (cell_h Hn4.out 3).trans (show _ = some (Value.int .i64 0) from rfl)
        obtain ⟨A7', c7', w5, hr5, A8', c8', w6, hr6, hT6, hI6, hW6, hs6⟩ := two_apps HT4.out HI4.out HW4.out hw1 (by rw [Hsz.out]; omega) ⟨op, x, y, 0⟩ (l.length : Int) (by rw [Hlen.out]; omega) (by rw [Hml.out]; omega)
        rw [Hlen.out] at hr5 hT6
        rw [Hml.out] at hr6 hI6
        have Hr5 := Lib.hid hr5
        have Hr6 := Lib.hid hr6
        have HT6 : Hid (OwnT w6 w1.heap.size (.slice A7' (k + 1) c7') (bkTo c (k + 1)).1) := Lib.hid (by rw [Hnext.out]; exact hT6)
        have HI6 : Hid (OwnI w6 w1.heap.size 3 (.slice A8' (m + 1) c8') (bkTo c (k + 1)).2) := Lib.hid (by rw [Hnext.out]; exact hI6)
        have HW6 := Lib.hid hW6
        rw [Hlen.out] at Hr6
        clear hr5 hr6 hT6 hI6 hW6 Hnext HT4 HI4 HW4 Hsz Hn4 Hm Hs0 Hkp Hml
        go_wp2_with (first
          | (at_builtin; refine wpList_app_run rfl 22 _ _ rfl rfl rfl Hr5.out ?_)
          | (at_builtin; refine wpList_app_run rfl 23 _ _ rfl rfl rfl Hr6.out ?_))
        go_roundw
        case rel => exact ⟨k + 1, by omega, by go_num, HT6.out, HI6.out, hs6, HW6.out⟩
        case measure => simp [intOf]; omega
      · have hd2 : decide (2 < op) = false := decide_eq_false h2
        have e1 : bk1 (l, s) ⟨op, val⟩ = (l ++ [⟨op, 0, 0, val⟩], s ++ [(l.length : Int)]) := by unfold bk1; rw [if_pos (Int.not_lt.1 h2)]
        rw [e1] at Hnext
        obtain ⟨A7', c7', w5, hr5, A8', c8', w6, hr6, hT6, hI6, hW6, hs6⟩ := two_apps HTa.out HIa.out HWa.out hw1 (by simp; omega) ⟨op, 0, 0, val⟩ (l.length : Int) (by rw [Hlen.out]; omega) (by omega)
        rw [Hlen.out] at hr5 hT6
        have hsz : ((wr.alloc (.cells #[.int .i64 op, .int .i64 val] 62)).alloc (.cells #[.int .i64 op, .int .i64 0, .int .i64 0, .int .i64 val] 37)).heap.size = wr.heap.size + 2 := by simp
        rw [hsz] at hr5
        have Hr5 := Lib.hid hr5
        have Hr6 := Lib.hid hr6
        have HT6 : Hid (OwnT w6 w1.heap.size (.slice A7' (k + 1) c7') (bkTo c (k + 1)).1) := Lib.hid (by rw [Hnext.out]; exact hT6)
        have HI6 : Hid (OwnI w6 w1.heap.size 3 (.slice A8' (s.length + 1) c8') (bkTo c (k + 1)).2) := Lib.hid (by rw [Hnext.out]; exact hI6)
        have HW6 := Lib.hid hW6
        rw [Hlen.out] at Hr6
        clear hr5 hr6 hT6 hI6 hW6 e1 Hnext HTa HIa HWa
        go_wp2_with (first
          | (at_builtin; refine wpList_app_run rfl 22 _ _ rfl rfl rfl Hr5.out ?_)
          | (at_builtin; refine wpList_app_run rfl 23 _ _ rfl rfl rfl Hr6.out ?_))
        go_roundw
        case rel => exact ⟨k + 1, by omega, by go_num, HT6.out, HI6.out, hs6, HW6.out⟩
        case measure => simp [intOf]; omega
    · have : k = c.length := by omega
      subst this
      have hf := Hfin.out rfl
      have Hf1 : Hid ((bkTo c c.length).1 = l) := Lib.hid (by rw [← hf])
      have Hf2 : Hid ((bkTo c c.length).2 = s) := Lib.hid (by rw [← hf])
      clear hf hT hI hW
      by_cases hs1 : s.length = 1
      · have q2 : (((s.length : Nat) : Int) != 1) = false := by rw [hs1]; rfl
        have hb0 : bErr vars c = 0 := by rw [Hb.out, Hf2.out, if_neg (fun h => h hs1)]
        have HB0 := Lib.hid hb0
        clear hb0
        have Hs1 := Lib.hid hs1
        clear hs1
        go_wp2
        go_ret2
        exact ⟨Or.inr ⟨HB0.out, _, rfl, Own.base_ HT.out hw1⟩, HW.out⟩
      · have q2 : (((s.length : Nat) : Int) != 1) = true := by rw [bne_iff_ne]; omega
        have hb0 : bErr vars c = 3 := by rw [Hb.out, Hf2.out, if_pos hs1]
        have HB0 := Lib.hid hb0
        clear hb0 Hb
        go_wp2
        go_ret2
        exact ⟨Or.inl ⟨by rw [HB0.out]; decide, by rw [HB0.out]; rfl⟩, HW.out⟩
end Go.Proofs.Ytmglhppfdhphbaa
