/- hold.Play: by a list of things that are to go. -/
import Derived.Test.YtdkkmmljaijomaaHoldF
namespace Go.Proofs.Ytdkkmmljaijomaa
open Go.RowKit

/-- The things that are still to go, in the box at Bo. -/
def OutsAt (W0 : World) (Bo : Nat) (w : World) : Prop := ∃ (A : Option Addr) (outs : List Int) (c : Nat), w.cell? ⟨Bo, 0, none⟩ = some (.slice A outs.length c) ∧ w.frozen? ⟨Bo, 0, none⟩ = false ∧ RdI W0 A outs ∧ outs.length ≤ c ∧ outs.length ≤ maxLen
def GoesEnd (W0 : World) (Bo : Nat) (S : List Int) (w : World) (e : Ending) (w' : World) : Prop :=
  ∃ i : Int, e = .returned (.int .i64 i) ∧ (i = -1 ∨ (0 ≤ i ∧ i < S.length)) ∧ (w' = w ∨ ∃ v, w' = w.setCell ⟨Bo, 0, none⟩ v) ∧ OutsAt W0 Bo w'
theorem idxOf_bd (S : List Int) (x : Int) : Lib.idxOf S x = -1 ∨ (0 ≤ Lib.idxOf S x ∧ Lib.idxOf S x < S.length) := by
  by_cases h : x ∈ S
  · right; rw [idxOf_yes h]; have := List.idxOf_lt_length_iff.2 h; omega
  · left; exact idxOf_no h
theorem cf_play : ∀ (args : Array Value) (w : World), Sem.run Try.prog (callFunc 38 args) w = .ok (.enter 38 args) w := run_cf Try.func38 (by kernel_rfl) rfl
set_option maxHeartbeats 2000000 in
theorem playGoes_calls (W0 w : World) (B : Option Addr) (S : List Int) (c k : Nat) (hW : Below W0.heap.size W0 w) (hBs : ∀ v, RdI (w.setCell ⟨W0.heap.size, 0, none⟩ v) B S) (hS8 : S.length ≤ 100) (hO : OutsAt W0 W0.heap.size w) :
    Calls Try.prog 38 #[.int .i64 k, .slice B S.length c, .pointer (some ⟨W0.heap.size, 0, none⟩)] w (GoesEnd W0 W0.heap.size S w) := by
  obtain ⟨A, outs, co, hbox, hfz, hR, hco, hmo⟩ := hO
  have HBs := Lib.hid hBs
  have HW := Lib.hid hW
  clear hBs hW
  cases outs with
  | nil =>
    have HO : Hid (OutsAt W0 W0.heap.size w) := ⟨A, [], co, hbox, hfz, hR, hco, hmo⟩
    clear hR hco hmo
    have hbox' : w.cell? ⟨W0.heap.size, 0, none⟩ = some (.slice A 0 co) := hbox
    clear hbox
    go_enter Try.func38, Try.ntmps38
    go_wp2
    go_ret
    exact ⟨_, rfl, .inl rfl, .inl rfl, HO.out⟩
  | cons x r =>
    obtain ⟨b, off, rfl, hb, hc⟩ := hR (by simp)
    have c0 := hc 0 x rfl 0 (by decide)
    simp only [Nat.zero_mul, Nat.add_zero, intCells] at c0
    have c0' : w.cell? ⟨b, off, none⟩ = some (.int .i64 x) := (HW.out.cell (p := ⟨b, off, none⟩) hb).trans c0
    have hlt : W0.heap.size < w.heap.size := by
      rcases Nat.lt_or_ge W0.heap.size w.heap.size with h | h
      · exact h
      · unfold World.cell? at hbox; rw [Array.getElem?_eq_none h] at hbox; cases hbox
    have hbox' : w.cell? ⟨W0.heap.size, 0, none⟩ = some (.slice (some ⟨b, off, none⟩) (r.length + 1) co) := hbox
    have hco' : r.length + 1 ≤ co := hco
    have hm2 : r.length + 1 ≤ 9223372036854775807 := by have := hmo; unfold maxLen at this; simpa using this
    have Hend := Lib.hid (fun (A' : Option Addr) (hR' : RdI W0 A' r) => show OutsAt W0 W0.heap.size (w.setCell ⟨W0.heap.size, 0, none⟩ (.slice A' r.length (co - 1))) from
      ⟨A', r, co - 1, World.cell?_setCell_same' w _ _ (by rw [hbox']; rfl), by rw [World.frozen?_setCell]; exact hfz, hR', by omega, by unfold maxLen; omega⟩)
    have HR' := Lib.hid (show RdI W0 (some ⟨b, off + 1, none⟩) r from fun _ => ⟨b, off + 1, rfl, hb, fun j y hy t ht => by
      have := hc (j + 1) y hy t ht
      rw [← this]; congr 2; omega⟩)
    have Hbd := Lib.hid (idxOf_bd S x)
    clear hbox hc c0 hmo hco
    by_cases hc1 : co - 1 = 0
    · have hr : r = [] := List.length_eq_zero_iff.1 (by omega)
      subst hr
      have H1 : Hid (OutsAt W0 W0.heap.size (w.setCell ⟨W0.heap.size, 0, none⟩ (.slice (some ⟨b, off, none⟩) 0 0))) := by
        have := Hend.out (some ⟨b, off, none⟩) Rd.nil_
        rw [hc1] at this
        exact this
      go_enter Try.func38, Try.ntmps38
      go_wp2_with (go_at_call 37; refine (indexI_calls _ _ _ _ _ (HBs.out _) (by unfold maxLen; omega)).mono ?_; rintro e w3 ⟨rfl, rfl⟩)
      go_ret
      exact ⟨_, rfl, Hbd.out, .inr ⟨_, rfl⟩, H1.out⟩
    · have H1 := Lib.hid (Hend.out (some ⟨b, off + 1, none⟩) HR'.out)
      have q0 : ¬ co = 1 := by omega
      go_enter Try.func38, Try.ntmps38
      go_wp2_with (go_at_call 37; refine (indexI_calls _ _ _ _ _ (HBs.out _) (by unfold maxLen; omega)).mono ?_; rintro e w3 ⟨rfl, rfl⟩)
      go_ret
      exact ⟨_, rfl, Hbd.out, .inr ⟨_, rfl⟩, H1.out⟩
theorem OutsAt.below {W0 w w' : World} {Bo B : Nat} (h : OutsAt W0 Bo w) (hb : Below B w w') (hB : Bo < B) : OutsAt W0 Bo w' := by
  obtain ⟨A, outs, c, h1, h2, h3⟩ := h
  exact ⟨A, outs, c, (hb.cell (p := ⟨Bo, 0, none⟩) hB).trans h1, (hb.frozen (p := ⟨Bo, 0, none⟩) hB).trans h2, h3⟩
def PickAny : List Int → List Int → Nat → Prop := fun _ _ _ => True
set_option maxHeartbeats 8000000 in
theorem play2_calls (P : Nat) (W0 : World) (A : Option Addr) (refs : List Int) (cap : Nat) (w : World) (hA : RdI W0 A refs) (h40 : refs.length ≤ 100) (hP : 1 ≤ P) (hP8 : P ≤ 100)
    (hBw : Below W0.heap.size W0 w) (hws : W0.heap.size < w.heap.size) (hO : OutsAt W0 W0.heap.size w) :
    Calls Try.prog 34 #[.slice A refs.length cap, .int .i64 P, .bool false, .func (.func 38) #[] #[.pointer (some ⟨W0.heap.size, 0, none⟩)]] w fun e w' => Below W0.heap.size W0 w' ∧ ((e = .returned (.int .i64 (-1)) ∧ Stuck false P refs []) ∨ ∃ m : Nat, e = .returned (.int .i64 m) ∧ m ≤ refs.length ∧ Runs false P PickAny refs [] m) := by
  have HA := Lib.hid hA; clear hA
  have HO := Lib.hid hO; clear hO
  have HBw := Lib.hid hBw; clear hBw
  go_enter Try.func34, Try.ntmps34
  go_wp2
  go_loopw [9, 10, 17] (fun th ms i wr => ∃ (k : Nat) (S : List Int) (m : Nat), k ≤ refs.length ∧ i = .int .i64 k ∧ ms = .int .i64 m ∧ OwnI wr w.heap.size 3 th S ∧ Hid (Pl false P PickAny refs k S m) ∧ Below W0.heap.size W0 wr ∧ w.heap.size ≤ wr.heap.size ∧ OutsAt W0 W0.heap.size wr) (fun _ _ i _ => refs.length - (intOf i).toNat)
  case atStart => exact ⟨0, [], 0, Nat.zero_le _, rfl, rfl, Own.nil_ _ _ _, Lib.hid (Pl.first false P PickAny refs), HBw.out, Nat.le_refl _, HO.out⟩
  case round =>
    obtain ⟨k, S, m, hk, rfl, rfl, hown, hPl, hW, hw2, hO⟩ := hrel
    have HO := Lib.hid hO
    clear hO
    have HW := Lib.hid hW
    have Hown := Lib.hid hown
    have hmk := hPl.out.mle
    have hSP := hPl.out.len
    by_cases hlt : k < refs.length
    · obtain ⟨B, c, rfl, hR, _, hc⟩ := hown.form intCells_len
      obtain ⟨b0, off0, rfl, hb0, c0⟩ := RdI.at1 (Rd.below HA.out hW) hlt
      have HR := Lib.hid hR
      clear hR hown hW
      by_cases hr : refs[k] ∈ S
      · have Hix := Lib.hid (idxOf_yes hr)
        have hix : S.idxOf refs[k] < S.length := List.idxOf_lt_length_iff.2 hr
        have Hst := Lib.hid (hPl.out.hit0 hlt hr)
        clear hr
        generalize S.idxOf refs[k] = j at *
        generalize refs[k] = r at *
        go_wp2_with (go_at_call 37; refine (indexI_calls _ _ _ _ _ HR.out (by unfold maxLen; omega)).mono ?_; rintro e w3 ⟨rfl, rfl⟩; rw [Hix.out])
        go_roundw
        case rel => exact ⟨k + 1, S, m, by omega, by go_num, rfl, Hown.out, Hst, HW.out, hw2, HO.out⟩
        case measure => simp [intOf]; omega
      · have Hix := Lib.hid (idxOf_no hr)
        by_cases hfull : S.length = P
        · have q : ((S.length : Int) == (P : Int)) = true := by rw [beq_iff_eq, hfull]
          have Hst := Lib.hid (fun (i : Nat) (h1 : i < S.length) h2 => hPl.out.goes hlt hr hfull h1 h2)
          have Hf := Lib.hid hfull
          clear hfull
          have Hs := Lib.hid (hPl.out.stuck (by rw [List.drop_eq_getElem_cons hlt]; exact .stop hr Hf.out))
          clear hr
          generalize refs[k] = r at *
          go_wp2_with (go_at_call 37; refine (indexI_calls _ _ _ _ _ HR.out (by unfold maxLen; omega)).mono ?_; rintro e w3 ⟨rfl, rfl⟩; rw [Hix.out])
          have hfar : ∀ v, OwnI (w3.setCell ⟨W0.heap.size, 0, none⟩ v) w.heap.size 3 (.slice B S.length c) S := fun v => Own.far Hown.out (by
            obtain ⟨g, cg, eg, hg, _⟩ := Own.some_ Hown.out (by rw [Hf.out]; omega)
            rw [eg]
            intro hx
            simp [Value.ownBlock] at hx
            omega) v
          have Hfar := Lib.hid hfar
          refine (playGoes_calls W0 _ _ S c k HW.out (fun v => by
            obtain ⟨A', c', e1, e2, _⟩ := Own.form intCells_len (hfar v)
            injection e1 with e1 _ _
            rw [e1]; exact e2) (by omega) HO.out).mono ?_
          clear hfar
          rintro e w6 ⟨i, rfl, hi, hw6, hO6⟩
          have h6 : Below W0.heap.size W0 w6 ∧ OwnI w6 w.heap.size 3 (.slice B S.length c) S ∧ w6.heap.size = w3.heap.size := by
            rcases hw6 with rfl | ⟨v, rfl⟩
            · exact ⟨HW.out, Hown.out, rfl⟩
            · exact ⟨HW.out.setCell (Nat.le_refl _) _, Hfar.out v, by simp⟩
          obtain ⟨hW6, hown6, hsz6⟩ := h6
          have HW6 := Lib.hid hW6
          have Hown6 := Lib.hid hown6
          have HO6 := Lib.hid hO6
          have hw6s : w.heap.size ≤ w6.heap.size := by omega
          clear hW6 hown6 hO6 hw6 hsz6
          rcases hi with rfl | ⟨hi0, hi⟩
          · go_wp2
            go_ret
            exact ⟨HW6.out, .inl ⟨rfl, Hs.out⟩⟩
          obtain ⟨i, rfl⟩ := Int.eq_ofNat_of_zero_le hi0
          have hi' : i < S.length := by omega
          have Hst2 := Lib.hid (Hst.out i hi' trivial)
          have hlen := len_eraseIdx_ hi'
          clear Hst
          go_wp2_with (first
            | (go_at_call 51; refine (deleteI_calls w.heap.size _ _ i _ Hown6.out hi').mono ?_; rintro e w4 ⟨v4, rfl, hown4, hs4, hB4⟩; have HB4 := Lib.hid (hB4 w.heap.size w6 (Nat.le_refl _) (Below.refl _ _)); have Hown4 := Lib.hid hown4; clear hB4 hown4)
            | (at_builtin; refine wpList_appI rfl _ _ rfl w.heap.size _ _ r rfl (Hown4.out.alloc _) _ _ rfl (cell_new _ _ _ _ rfl _) (by omega) (by simp; omega) ?_; intro v5 w5 hown5 hgrow5))
          all_goals first
            | (exfalso; omega)
            | (have HB5 := Lib.hid (below_own (HB4.out.alloc (by omega) _) hgrow5 (Hown4.out.alloc _) (Nat.le_refl _) (by simp; omega))
               have Hown5 := Lib.hid hown5
               have hs5 := HB5.out.size
               clear hown5 hgrow5
               go_roundw
               case rel => exact ⟨k + 1, _, m + 1, by omega, by go_num, by go_num, Hown5.out, Hst2, HW6.out.trans (HB5.out.mono (by omega)), by omega, HO6.out.below HB5.out hws⟩
               case measure => simp [intOf]; omega)
        · have q : ((S.length : Int) == (P : Int)) = false := by rw [beq_eq_false_iff_ne]; omega
          have Hst2 := Lib.hid (hPl.out.room hlt hr hfull)
          clear hr hfull
          generalize refs[k] = r at *
          go_wp2_with (first
            | (go_at_call 37; refine (indexI_calls _ _ _ _ _ HR.out (by unfold maxLen; omega)).mono ?_; rintro e w3 ⟨rfl, rfl⟩; rw [Hix.out])
            | (at_builtin; refine wpList_appI rfl _ _ rfl w.heap.size _ _ r rfl (Hown.out.alloc _) _ _ rfl (cell_new _ _ _ _ rfl _) (by omega) (by simp; omega) ?_; intro v5 w5 hown5 hgrow5))
          have HB5 := Lib.hid (below_own (((Below.refl _ _).alloc hw2 _)) hgrow5 (Hown.out.alloc _) (Nat.le_refl _) (by simp; omega))
          have Hown5 := Lib.hid hown5
          have hs5 := HB5.out.size
          clear hown5 hgrow5
          go_roundw
          case rel => exact ⟨k + 1, _, m + 1, by omega, by go_num, by go_num, Hown5.out, Hst2, HW.out.trans (HB5.out.mono (by omega)), by omega, HO.out.below HB5.out hws⟩
          case measure => simp [intOf]; omega
    · have : k = refs.length := by omega
      subst this
      have Hr := Lib.hid hPl.out.end_
      clear hown hW hPl
      go_wp2
      go_ret
      exact ⟨HW.out, .inr ⟨m, rfl, hmk, Hr.out⟩⟩
end Go.Proofs.Ytdkkmmljaijomaa
