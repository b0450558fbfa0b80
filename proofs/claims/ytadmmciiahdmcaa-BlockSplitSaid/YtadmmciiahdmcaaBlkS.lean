/- BlockSplit walked. -/
import Derived.Test.YtadmmciiahdmcaaBlkI
import Derived.Test.YtadmmciiahdmcaaBlkQ
import Derived.Test.YtadmmciiahdmcaaBlkR
import Derived.Test.YtadmmciiahdmcaaIntsR
import Derived.Deep.RegionHeld3
namespace Go.Proofs.Ytadmmciiahdmcaa
open Go.RowKit

theorem rdBk_one {w : World} {A : Option Addr} {c : List Step} (cap S : Nat) (hs : w.heap.size = S) (hA : RdSt w A c) : RdBk (w.alloc (.cells #[.slice A c.length cap, .int .i64 (-1), .int .i64 (-1), .int .i64 0] 25)) (some ⟨S, 0, none⟩) (oneB c) := fun _ => by
  refine ⟨S, 0, rfl, by simp [← hs], fun k x hx => ?_⟩
  match k, hx with
  | 0, hx =>
    simp [oneB] at hx
    subst hx
    exact ⟨A, cap, cell_new w _ _ S hs 0, cell_new w _ _ S hs 1, cell_new w _ _ S hs 2, cell_new w _ _ S hs 3, Rd.below hA ((Below.refl w.heap.size w).alloc (Nat.le_refl _) _)⟩
  | k + 1, hx => simp [oneB] at hx
theorem rd_take {α : Type} {f : α → List Value} {size : Nat} {w : World} {A : Option Addr} {l : List α} (h : Rd f size w A l) (i : Nat) : Rd f size w A (l.take i) := fun hn => by
  obtain ⟨b, off, e, hb, hc⟩ := h (by simp at hn; omega)
  refine ⟨b, off, e, hb, fun k x hx => hc k x ?_⟩
  rw [List.getElem?_take] at hx
  split at hx
  · exact hx
  · cases hx
theorem ints_same (A B : Option Addr) (a : List Int) (ca cb : Nat) (w : World) (hA : RdI w A a) (hB : RdI w B a) (hm : a.length ≤ maxLen) :
    Calls Try.prog 17 #[.slice A a.length ca, .slice B a.length cb] w fun e w' => e = .returned (.bool true) ∧ Below w.heap.size w w' := by
  have h := ints_calls A B a a ca cb w hA hB hm
  rw [decide_eq_true rfl] at h; exact h
theorem rd_drop {w : World} {A : Option Addr} {l : List Step} (h : RdSt w A l) (i : Nat) : RdSt w (A.map fun x => x.add (i * 5)) (l.drop i) := fun hn => by
  obtain ⟨b, off, rfl, hb, hc⟩ := h (by simp at hn; omega)
  refine ⟨b, off + i * 5, ?_, hb, fun k x hx j hj => ?_⟩
  · simp only [Option.map_some]; congr 1; unfold Addr.add; by_cases h0 : i * 5 = 0 <;> simp [h0]
  · rw [List.getElem?_drop] at hx
    rw [← hc (i + k) x hx j hj]
    congr 2
    omega
theorem rdBk_two {w : World} {A A2 : Option Addr} {c : List Step} {i : Nat} (C1 C2 S : Nat) (hs : w.heap.size = S) (hil : i ≤ c.length) (hA : RdSt w A (c.take i)) (hA2 : RdSt w A2 (c.drop i)) :
    RdBk (w.alloc (.cells #[.slice A i C1, .int .i64 (-1), .int .i64 1, .int .i64 0, .slice A2 (c.length - i) C2, .int .i64 (-1), .int .i64 (-1), .int .i64 0] 25)) (some ⟨S, 0, none⟩) (twoB c i) := fun _ => by
  refine ⟨S, 0, rfl, by simp [← hs], fun k x hx => ?_⟩
  have hb := (Below.refl w.heap.size w).alloc (Nat.le_refl _) (.cells #[.slice A i C1, .int .i64 (-1), .int .i64 1, .int .i64 0, .slice A2 (c.length - i) C2, .int .i64 (-1), .int .i64 (-1), .int .i64 0] 25)
  match k, hx with
  | 0, hx =>
    simp [twoB] at hx
    subst hx
    refine ⟨A, C1, ?_, cell_new w _ _ S hs 1, cell_new w _ _ S hs 2, cell_new w _ _ S hs 3, Rd.below hA hb⟩
    rw [show (⟨c.take i, -1, 1, 0⟩ : Blk).code.length = i by simp; omega]
    exact cell_new w _ _ S hs 0
  | 1, hx =>
    simp [twoB] at hx
    subst hx
    refine ⟨A2, C2, ?_, cell_new w _ _ S hs 5, cell_new w _ _ S hs 6, cell_new w _ _ S hs 7, Rd.below hA2 hb⟩
    rw [show (⟨c.drop i, -1, -1, 0⟩ : Blk).code.length = c.length - i by simp]
    exact cell_new w _ _ S hs 4
  | k + 2, hx => simp [twoB] at hx
theorem one_out {c : List Step} {v : List Int} {w w' : World} {e : Ending} (h : RunEnd (oneB c) v w e w') : Below w.heap.size w w' ∧ ∃ x y, e = .returned (.tuple #[x, y, .int .i64 0]) ∧ OwnI w' w.heap.size 3 x (dgR v c) := by
  obtain ⟨hB, h | ⟨h, _⟩⟩ := h
  · obtain ⟨k, x, y, k1, k2, hr, hn, rfl, hx, hy⟩ := h
    have := one_end k1 hr
    subst this
    exact ⟨hB, x, y, rfl, hx⟩
  · have := h 1 (by decide); rw [one_1] at this; exact absurd this (show ¬ (0 : Int) ≤ -1 by decide)
theorem two_out {c : List Step} {i : Nat} {v : List Int} {w w' : World} {e : Ending} (h : RunEnd (twoB c i) v w e w') : Below w.heap.size w w' ∧ ∃ x y, e = .returned (.tuple #[x, y, .int .i64 0]) ∧ OwnI w' w.heap.size 3 x (dgR v c) ∧ OwnI w' w.heap.size 3 y [0, 1] := by
  obtain ⟨hB, h | ⟨h, _⟩⟩ := h
  · obtain ⟨k, x, y, k1, k2, hr, hn, rfl, hx, hy⟩ := h
    have := two_end k1 hr hn
    subst this
    rw [two_2] at hx
    exact ⟨hB, x, y, rfl, hx, hy⟩
  · have := h 2 (by decide); rw [two_2] at this; exact absurd this (show ¬ (0 : Int) ≤ -1 by decide)
set_option maxRecDepth 100000 in
set_option maxHeartbeats 4000000 in
theorem blockSplit_u (vars kk : Int) (A B : Option Addr) (c : List Step) (hv : List Int) (cap capB : Nat) (w : World) (hA : RdSt w A c) (hB : RdI w B hv) (hm : c.length * 40 ≤ 140737488351232) (hcc : c.length ≤ cap) (hm' : hv.length ≤ maxLen) (hk0 : 0 ≤ kk) (hk1 : kk < 256) :
    Calls Try.prog 3 #[.int .i64 vars, .slice A c.length cap, .int .u8 kk, .slice B hv.length capB] w fun e w' => e = .returned (.bool true) ∧ Below w.heap.size w w' := by
  have HA := Lib.hid hA
  have HB := Lib.hid hB
  obtain ⟨kn, rfl⟩ := Int.eq_ofNat_of_zero_le hk0
  have hrem : ((kn : Nat) : Int).tmod ((c.length : Int) + 1) = ((kn % (c.length + 1) : Nat) : Int) := by rw [show ((c.length : Int) + 1) = ((c.length + 1 : Nat) : Int) from rfl, Int.ofNat_tmod]
  have hil : kn % (c.length + 1) ≤ c.length := by have := Nat.mod_lt kn (show 0 < c.length + 1 by omega); omega
  generalize kn % (c.length + 1) = i at *
  clear hA hB
  go_enter Try.func3, Try.ntmps3
  have HW0 := Lib.hid (((Below.refl w.heap.size w).alloc (Nat.le_refl _) (.cells #[.slice A c.length cap, .int .i64 (-1), .int .i64 (-1), .int .i64 0] 25)).drew)
  have HP0 := Lib.hid ((rdBk_one cap w.heap.size rfl HA.out).below (((Below.refl (w.alloc (.cells #[.slice A c.length cap, .int .i64 (-1), .int .i64 (-1), .int .i64 0] 25)).heap.size (w.alloc (.cells #[.slice A c.length cap, .int .i64 (-1), .int .i64 (-1), .int .i64 0] 25))).drew)))
  have q1 : (i : Int) ≤ (c.length : Int) := by omega
  have q2 : (i : Int) ≤ (cap : Int) := by omega
  have q3 : (c.length : Int) ≤ (cap : Int) := by omega
  have hs1 : smallB (oneB c) := fun b hb => by simp [oneB] at hb; subst hb; show c.length ≤ _; omega
  have hs2 : smallB (twoB c i) := fun b hb => by
    simp [twoB] at hb
    rcases hb with rfl | rfl
    · show (c.take i).length ≤ _; simp; omega
    · show (c.drop i).length ≤ _; simp; omega
  go_wp2
  clear hrem hk0 hk1
  refine wp_region_held_drew (S := fun _ => True) (by kernel_rfl) trivial (fun hH0 => ?_)
  generalize (w.alloc (.cells #[.slice A c.length cap, .int .i64 (-1), .int .i64 (-1), .int .i64 0] 25)).drew = w0 at *
  have HA0 := Lib.hid (Rd.below HA.out HW0.out)
  by_cases hci : cap = i
  · subst hci
    have hz : c.length - cap = 0 := by omega
    have HPt := Lib.hid (show RdBk (w0.alloc (.cells #[.slice A cap cap, .int .i64 (-1), .int .i64 1, .int .i64 0, .slice A 0 0, .int .i64 (-1), .int .i64 (-1), .int .i64 0] 25)) (some ⟨w0.heap.size, 0, none⟩) (twoB c cap) by
      have h := rdBk_two (A := A) (A2 := A) cap 0 w0.heap.size rfl hil (rd_take HA0.out cap) (by rw [List.drop_of_length_le (by omega)]; exact Rd.nil_)
      rw [hz] at h; exact h)
    have HWt := Lib.hid (HW0.out.alloc HW0.out.size (.cells #[.slice A cap cap, .int .i64 (-1), .int .i64 1, .int .i64 0, .slice A 0 0, .int .i64 (-1), .int .i64 (-1), .int .i64 0] 25))
    have HPo := Lib.hid (HP0.out.below ((Below.refl w0.heap.size w0).alloc (Nat.le_refl _) (.cells #[.slice A cap cap, .int .i64 (-1), .int .i64 1, .int .i64 0, .slice A 0 0, .int .i64 (-1), .int .i64 (-1), .int .i64 0] 25)))
    -- region 3a
    refine wpAnyH_take (i := 0) (oi := { dst := some 27, op := Go.Op.move (Go.Operand.tmp 1), type := 22, pos := "high.go:58", after := #[], guard := none }) rfl (by kernel_rfl) (by kernel_rfl) (by kernel_rfl) (fun _ _ _ h => h) (Or.inl ⟨by rfl, fun w hw => by (go_simp; try with_reducible rfl)⟩) (by assumption) ?_
    try simp only [Act.put, List.setIfInBounds_toArray, List.set_cons_zero, List.set_cons_succ]
    refine wpAnyH_take (i := 1) (oi := { dst := some 28, op := Go.Op.move (Go.Operand.tmp 10), type := 3, pos := "high.go:58", after := #[], guard := none }) rfl (by kernel_rfl) (by kernel_rfl) (by kernel_rfl) (fun _ _ _ h => h) (Or.inl ⟨by rfl, fun w hw => by (go_simp; try with_reducible rfl)⟩) (by assumption) ?_
    try simp only [Act.put, List.setIfInBounds_toArray, List.set_cons_zero, List.set_cons_succ]
    refine wpAnyH_take (i := 2) (oi := { dst := some 29, op := Go.Op.slice 22 (Go.Operand.tmp 27) none (some (Go.Operand.tmp 28)) none, type := 22, pos := "high.go:58", after := #[{ on := 0, ground := Go.Ground.data }, { on := 1, ground := Go.Ground.data }], guard := none }) rfl (by kernel_rfl) (by kernel_rfl) (by kernel_rfl) (fun _ _ _ h => h) (Or.inl ⟨by rfl, fun w hw => by (go_simp; try with_reducible rfl)⟩) (by assumption) ?_
    try simp only [Act.put, List.setIfInBounds_toArray, List.set_cons_zero, List.set_cons_succ]
    refine wpAnyH_take (i := 3) (oi := { dst := some 30, op := Go.Op.build 25 #[(0, Go.Operand.tmp 29), (1, Go.Operand.const (Go.Value.int Go.IntKind.i64 (-1))), (2, Go.Operand.const (Go.Value.int Go.IntKind.i64 1))], type := 25, pos := "high.go:58", after := #[{ on := 2, ground := Go.Ground.data }], guard := none }) rfl (by kernel_rfl) (by kernel_rfl) (by kernel_rfl) (fun _ _ _ h => h) (Or.inl ⟨by rfl, fun w hw => by (go_simp; try with_reducible rfl)⟩) (by assumption) ?_
    try simp only [Act.put, List.setIfInBounds_toArray, List.set_cons_zero, List.set_cons_succ]
    refine wpAnyH_take (i := 4) (oi := { dst := some 31, op := Go.Op.move (Go.Operand.tmp 1), type := 22, pos := "high.go:58", after := #[], guard := none }) rfl (by kernel_rfl) (by kernel_rfl) (by kernel_rfl) (fun _ _ _ h => h) (Or.inl ⟨by rfl, fun w hw => by (go_simp; try with_reducible rfl)⟩) (by assumption) ?_
    try simp only [Act.put, List.setIfInBounds_toArray, List.set_cons_zero, List.set_cons_succ]
    refine wpAnyH_take (i := 5) (oi := { dst := some 32, op := Go.Op.move (Go.Operand.tmp 10), type := 3, pos := "high.go:58", after := #[], guard := none }) rfl (by kernel_rfl) (by kernel_rfl) (by kernel_rfl) (fun _ _ _ h => h) (Or.inl ⟨by rfl, fun w hw => by (go_simp; try with_reducible rfl)⟩) (by assumption) ?_
    try simp only [Act.put, List.setIfInBounds_toArray, List.set_cons_zero, List.set_cons_succ]
    refine wpAnyH_take (i := 6) (oi := { dst := some 33, op := Go.Op.slice 22 (Go.Operand.tmp 31) (some (Go.Operand.tmp 32)) none none, type := 22, pos := "high.go:58", after := #[{ on := 4, ground := Go.Ground.data }, { on := 5, ground := Go.Ground.data }], guard := none }) rfl (by kernel_rfl) (by kernel_rfl) (by kernel_rfl) (fun _ _ _ h => h) (Or.inl ⟨by rfl, fun w hw => by (go_simp; try with_reducible rfl)⟩) (by assumption) ?_
    try simp only [Act.put, List.setIfInBounds_toArray, List.set_cons_zero, List.set_cons_succ]
    refine wpAnyH_take (i := 7) (oi := { dst := some 34, op := Go.Op.build 25 #[(0, Go.Operand.tmp 33), (1, Go.Operand.const (Go.Value.int Go.IntKind.i64 (-1))), (2, Go.Operand.const (Go.Value.int Go.IntKind.i64 (-1)))], type := 25, pos := "high.go:58", after := #[{ on := 6, ground := Go.Ground.data }], guard := none }) rfl (by kernel_rfl) (by kernel_rfl) (by kernel_rfl) (fun _ _ _ h => h) (Or.inl ⟨by rfl, fun w hw => by (go_simp; try with_reducible rfl)⟩) (by assumption) ?_
    try simp only [Act.put, List.setIfInBounds_toArray, List.set_cons_zero, List.set_cons_succ]
    refine wpAnyH_ready (rs := [8]) (by kernel_rfl) (by simp) ?_
    refine AllReadyH.cons (o := { dst := some 35, op := Go.Op.buildSlice 26 2 #[(0, Go.Operand.tmp 30), (1, Go.Operand.tmp 34)], type := 26, pos := "high.go:58", after := #[{ on := 3, ground := Go.Ground.data }, { on := 7, ground := Go.Ground.data }], guard := none }) rfl (fun K hK => ?_) AllReadyH.nil
    go_simp
    refine hK.out _ _ trivial (fun hH1 => ?_)
    clear hK hH0
    have hH0 := hH1
    clear hH1
    try simp only [Act.put, List.setIfInBounds_toArray, List.set_cons_zero, List.set_cons_succ]
    refine wpAnyH_take (i := 9) (oi := { dst := some 11, op := Go.Op.assign (Go.Operand.tmp 35), type := 26, pos := "high.go:58", after := #[{ on := 8, ground := Go.Ground.data }, { on := 0, ground := Go.Ground.phase }, { on := 1, ground := Go.Ground.phase }, { on := 2, ground := Go.Ground.phase }, { on := 3, ground := Go.Ground.phase }, { on := 4, ground := Go.Ground.phase }, { on := 5, ground := Go.Ground.phase }, { on := 6, ground := Go.Ground.phase }, { on := 7, ground := Go.Ground.phase }, { on := 8, ground := Go.Ground.phase }], guard := none }) rfl (by kernel_rfl) (by kernel_rfl) (by kernel_rfl) (fun _ _ _ h => h) (Or.inl ⟨by rfl, fun w hw => by (go_simp; try with_reducible rfl)⟩) (by assumption) ?_
    try simp only [Act.put, List.setIfInBounds_toArray, List.set_cons_zero, List.set_cons_succ]
    refine wpAnyH_done (by kernel_rfl) ?_ _
    clear hH0
    generalize (w0.alloc (.cells #[.slice A cap cap, .int .i64 (-1), .int .i64 1, .int .i64 0, .slice A 0 0, .int .i64 (-1), .int .i64 (-1), .int .i64 0] 25)) = w1 at *
    generalize w0.heap.size = S0 at *
    have HB1 := Lib.hid (Rd.below HB.out HWt.out)
    clear HA0 HP0 HW0 HA
    by_cases hr : pkErr vars (oneB c) = 0 ∧ haveErr vars hv = 0
    · obtain ⟨r1, r2⟩ := hr
      have r3 := one_two (i := cap) |>.1 r1
      have H1 : Hid (Calls Try.prog 15 #[.int .i64 vars, .slice (some ⟨w.heap.size, 0, none⟩) 1 1, .slice B hv.length capB] w1 (RunEnd (oneB c) hv w1)) := Lib.hid (blkRun_ok vars _ B (oneB c) hv 1 capB w1 HPo.out HB1.out (by simp [oneB, maxLen]) hs1 hm' r1 r2)
      have H2 : Hid (∀ w2, Below w1.heap.size w1 w2 → Calls Try.prog 15 #[.int .i64 vars, .slice (some ⟨S0, 0, none⟩) 2 2, .slice B hv.length capB] w2 (RunEnd (twoB c cap) hv w2)) := Lib.hid (fun w2 h2 => blkRun_ok vars _ B (twoB c cap) hv 2 capB w2 (HPt.out.below h2) (Rd.below HB1.out h2) (by simp [twoB, maxLen]) hs2 hm' r3 r2)
      have H3 : Hid (∀ w2, Below w1.heap.size w1 w2 → Calls Try.prog 16 #[.int .i64 vars, .slice (some ⟨w.heap.size, 0, none⟩) 1 1, .slice B hv.length capB] w2 fun e w' => e = .returned (.bool true) ∧ Below w2.heap.size w2 w') := Lib.hid (fun w2 h2 => by
        have := runs_calls vars _ B (oneB c) hv 1 capB w2 (HPo.out.below h2) (Rd.below HB1.out h2) (by simp [oneB, maxLen]) hs1 hm'
        rw [r1, r2] at this; exact this)
      clear r1 r2 r3
      go_wp2_with (first
        | (go_at_call 15; (with_reducible refine H1.out.mono ?_); intro e w2 he2; obtain ⟨hW2, x1, y1, rfl, hx1⟩ := one_out he2; have HW2 := Lib.hid hW2; have HX1 := Lib.hid hx1; clear hW2 he2 hx1)
        | (go_at_call 15; (with_reducible refine (H2.out _ HW2.out).mono ?_); intro e w3 he3; obtain ⟨hW3, x2, y2, rfl, hx2, hy2⟩ := two_out he3; have HW3 := Lib.hid (HW2.out.trans (hW3.mono HW2.out.size)); have HX2 := Lib.hid (Own.below HX1.out hW3); have HY2 := Lib.hid hx2; have HZ2 := Lib.hid hy2; clear hW3 he3 hx2 hy2)
        | (go_at_call 16; (with_reducible refine (H3.out _ HW3.out).mono ?_); rintro e w4 ⟨rfl, hW4⟩; have HW4 := Lib.hid (HW3.out.trans (hW4.mono HW3.out.size))
           obtain ⟨A1, c1, rfl, ha1⟩ := OwnI.rd (Own.below HX2.out hW4)
           obtain ⟨A2, c2, rfl, ha2⟩ := OwnI.rd (Own.below HY2.out hW4)
           obtain ⟨A3, c3, rfl, ha3⟩ := OwnI.rd (Own.below HZ2.out hW4)
           have HA1 := Lib.hid ha1; have HA2 := Lib.hid ha2; have HA3 := Lib.hid ha3; clear ha1 ha2 ha3 hW4
           have Hi1 := Lib.hid (ints_same A1 A2 _ c1 c2 w4 HA1.out HA2.out (by rw [dgR_len]; exact hm'))
           generalize dgR hv c = rs at *)
        | (go_at_call 17; (with_reducible refine Hi1.out.mono ?_); rintro e w5 ⟨rfl, hW5⟩; have HW5 := Lib.hid (HW4.out.trans (hW5.mono HW4.out.size)); have HA5 := Lib.hid (Rd.below HA3.out hW5); clear hW5)
        | (go_at_call 17; refine (ints_same A3 _ [0, 1] c3 2 _ (Rd.below HA5.out ((Below.refl w5.heap.size w5).alloc (Nat.le_refl _) _)) (rdI_new2 _ _ _ _ _ rfl) (by simp [maxLen])).mono ?_; rintro e w6 ⟨rfl, hW6⟩; have HW6 := Lib.hid ((HW5.out.alloc HW5.out.size _).trans (hW6.mono (by have := HW5.out.size; simp; omega))); clear hW6))
      go_ret
      exact ⟨rfl, HWt.out.trans (HW6.out.mono HWt.out.size)⟩
    · have r1 : pkErr vars (oneB c) ≠ 0 ∨ haveErr vars hv ≠ 0 := by omega
      have r3 : pkErr vars (twoB c cap) ≠ 0 ∨ haveErr vars hv ≠ 0 := by rcases r1 with h | h; exact .inl (fun e => h (one_two.2 e)); exact .inr h
      have rb : (pkErr vars (oneB c) == 0 && haveErr vars hv == 0) = false := by rw [Bool.and_eq_false_iff, beq_eq_false_iff_ne, beq_eq_false_iff_ne]; exact r1
      have H1 : Hid (Calls Try.prog 15 #[.int .i64 vars, .slice (some ⟨w.heap.size, 0, none⟩) 1 1, .slice B hv.length capB] w1 fun e w' => (∃ x, x ≠ 0 ∧ e = .returned (.tuple #[.slice none 0 0, .slice none 0 0, .int .i64 x])) ∧ Below w1.heap.size w1 w') := Lib.hid (blkRun_bad vars _ B (oneB c) hv 1 capB w1 HPo.out HB1.out (by simp [oneB, maxLen]) hs1 hm' r1)
      have H2 : Hid (∀ w2, Below w1.heap.size w1 w2 → Calls Try.prog 15 #[.int .i64 vars, .slice (some ⟨S0, 0, none⟩) 2 2, .slice B hv.length capB] w2 fun e w' => (∃ x, x ≠ 0 ∧ e = .returned (.tuple #[.slice none 0 0, .slice none 0 0, .int .i64 x])) ∧ Below w2.heap.size w2 w') := Lib.hid (fun w2 h2 => blkRun_bad vars _ B (twoB c cap) hv 2 capB w2 (HPt.out.below h2) (Rd.below HB1.out h2) (by simp [twoB, maxLen]) hs2 hm' r3)
      have H3 : Hid (∀ w2, Below w1.heap.size w1 w2 → Calls Try.prog 16 #[.int .i64 vars, .slice (some ⟨w.heap.size, 0, none⟩) 1 1, .slice B hv.length capB] w2 fun e w' => e = .returned (.bool false) ∧ Below w2.heap.size w2 w') := Lib.hid (fun w2 h2 => by
        have := runs_calls vars _ B (oneB c) hv 1 capB w2 (HPo.out.below h2) (Rd.below HB1.out h2) (by simp [oneB, maxLen]) hs1 hm'
        rw [rb] at this; exact this)
      clear r1 r3 rb hr
      go_wp2_with (first
        | (go_at_call 15; (with_reducible refine H1.out.mono ?_); rintro e w2 ⟨⟨x1, hx1, rfl⟩, hW2⟩; have HW2 := Lib.hid hW2; have qx : (x1 != 0) = true := (by rw [bne_iff_ne]; exact hx1); clear hW2)
        | (go_at_call 15; (with_reducible refine (H2.out _ HW2.out).mono ?_); rintro e w3 ⟨⟨x2, hx2, rfl⟩, hW3⟩; have HW3 := Lib.hid (HW2.out.trans (hW3.mono HW2.out.size)); have qy : (x2 != 0) = true := (by rw [bne_iff_ne]; exact hx2); clear hW3)
        | (go_at_call 16; (with_reducible refine (H3.out _ HW3.out).mono ?_); rintro e w4 ⟨rfl, hW4⟩; have HW4 := Lib.hid (HW3.out.trans (hW4.mono HW3.out.size)); clear hW4))
      go_ret
      exact ⟨rfl, HWt.out.trans (HW4.out.mono HWt.out.size)⟩
    -- end region 3a
  · have HPt := Lib.hid (rdBk_two (A := A) cap (cap - i) w0.heap.size rfl hil (rd_take HA0.out i) (rd_drop HA0.out i))
    have HWt := Lib.hid (HW0.out.alloc HW0.out.size (.cells #[.slice A i cap, .int .i64 (-1), .int .i64 1, .int .i64 0, .slice (A.map fun x => x.add (i * 5)) (c.length - i) (cap - i), .int .i64 (-1), .int .i64 (-1), .int .i64 0] 25))
    have HPo := Lib.hid (HP0.out.below ((Below.refl w0.heap.size w0).alloc (Nat.le_refl _) (.cells #[.slice A i cap, .int .i64 (-1), .int .i64 1, .int .i64 0, .slice (A.map fun x => x.add (i * 5)) (c.length - i) (cap - i), .int .i64 (-1), .int .i64 (-1), .int .i64 0] 25)))
    -- region 3b
    refine wpAnyH_take (i := 0) (oi := { dst := some 27, op := Go.Op.move (Go.Operand.tmp 1), type := 22, pos := "high.go:58", after := #[], guard := none }) rfl (by kernel_rfl) (by kernel_rfl) (by kernel_rfl) (fun _ _ _ h => h) (Or.inl ⟨by rfl, fun w hw => by (go_simp; try with_reducible rfl)⟩) (by assumption) ?_
    try simp only [Act.put, List.setIfInBounds_toArray, List.set_cons_zero, List.set_cons_succ]
    refine wpAnyH_take (i := 1) (oi := { dst := some 28, op := Go.Op.move (Go.Operand.tmp 10), type := 3, pos := "high.go:58", after := #[], guard := none }) rfl (by kernel_rfl) (by kernel_rfl) (by kernel_rfl) (fun _ _ _ h => h) (Or.inl ⟨by rfl, fun w hw => by (go_simp; try with_reducible rfl)⟩) (by assumption) ?_
    try simp only [Act.put, List.setIfInBounds_toArray, List.set_cons_zero, List.set_cons_succ]
    refine wpAnyH_take (i := 2) (oi := { dst := some 29, op := Go.Op.slice 22 (Go.Operand.tmp 27) none (some (Go.Operand.tmp 28)) none, type := 22, pos := "high.go:58", after := #[{ on := 0, ground := Go.Ground.data }, { on := 1, ground := Go.Ground.data }], guard := none }) rfl (by kernel_rfl) (by kernel_rfl) (by kernel_rfl) (fun _ _ _ h => h) (Or.inl ⟨by rfl, fun w hw => by (go_simp; try with_reducible rfl)⟩) (by assumption) ?_
    try simp only [Act.put, List.setIfInBounds_toArray, List.set_cons_zero, List.set_cons_succ]
    refine wpAnyH_take (i := 3) (oi := { dst := some 30, op := Go.Op.build 25 #[(0, Go.Operand.tmp 29), (1, Go.Operand.const (Go.Value.int Go.IntKind.i64 (-1))), (2, Go.Operand.const (Go.Value.int Go.IntKind.i64 1))], type := 25, pos := "high.go:58", after := #[{ on := 2, ground := Go.Ground.data }], guard := none }) rfl (by kernel_rfl) (by kernel_rfl) (by kernel_rfl) (fun _ _ _ h => h) (Or.inl ⟨by rfl, fun w hw => by (go_simp; try with_reducible rfl)⟩) (by assumption) ?_
    try simp only [Act.put, List.setIfInBounds_toArray, List.set_cons_zero, List.set_cons_succ]
    refine wpAnyH_take (i := 4) (oi := { dst := some 31, op := Go.Op.move (Go.Operand.tmp 1), type := 22, pos := "high.go:58", after := #[], guard := none }) rfl (by kernel_rfl) (by kernel_rfl) (by kernel_rfl) (fun _ _ _ h => h) (Or.inl ⟨by rfl, fun w hw => by (go_simp; try with_reducible rfl)⟩) (by assumption) ?_
    try simp only [Act.put, List.setIfInBounds_toArray, List.set_cons_zero, List.set_cons_succ]
    refine wpAnyH_take (i := 5) (oi := { dst := some 32, op := Go.Op.move (Go.Operand.tmp 10), type := 3, pos := "high.go:58", after := #[], guard := none }) rfl (by kernel_rfl) (by kernel_rfl) (by kernel_rfl) (fun _ _ _ h => h) (Or.inl ⟨by rfl, fun w hw => by (go_simp; try with_reducible rfl)⟩) (by assumption) ?_
    try simp only [Act.put, List.setIfInBounds_toArray, List.set_cons_zero, List.set_cons_succ]
    refine wpAnyH_take (i := 6) (oi := { dst := some 33, op := Go.Op.slice 22 (Go.Operand.tmp 31) (some (Go.Operand.tmp 32)) none none, type := 22, pos := "high.go:58", after := #[{ on := 4, ground := Go.Ground.data }, { on := 5, ground := Go.Ground.data }], guard := none }) rfl (by kernel_rfl) (by kernel_rfl) (by kernel_rfl) (fun _ _ _ h => h) (Or.inl ⟨by rfl, fun w hw => by (go_simp; try with_reducible rfl)⟩) (by assumption) ?_
    try simp only [Act.put, List.setIfInBounds_toArray, List.set_cons_zero, List.set_cons_succ]
    refine wpAnyH_take (i := 7) (oi := { dst := some 34, op := Go.Op.build 25 #[(0, Go.Operand.tmp 33), (1, Go.Operand.const (Go.Value.int Go.IntKind.i64 (-1))), (2, Go.Operand.const (Go.Value.int Go.IntKind.i64 (-1)))], type := 25, pos := "high.go:58", after := #[{ on := 6, ground := Go.Ground.data }], guard := none }) rfl (by kernel_rfl) (by kernel_rfl) (by kernel_rfl) (fun _ _ _ h => h) (Or.inl ⟨by rfl, fun w hw => by (go_simp; try with_reducible rfl)⟩) (by assumption) ?_
    try simp only [Act.put, List.setIfInBounds_toArray, List.set_cons_zero, List.set_cons_succ]
    refine wpAnyH_ready (rs := [8]) (by kernel_rfl) (by simp) ?_
    refine AllReadyH.cons (o := { dst := some 35, op := Go.Op.buildSlice 26 2 #[(0, Go.Operand.tmp 30), (1, Go.Operand.tmp 34)], type := 26, pos := "high.go:58", after := #[{ on := 3, ground := Go.Ground.data }, { on := 7, ground := Go.Ground.data }], guard := none }) rfl (fun K hK => ?_) AllReadyH.nil
    go_simp
    refine hK.out _ _ trivial (fun hH1 => ?_)
    clear hK hH0
    have hH0 := hH1
    clear hH1
    try simp only [Act.put, List.setIfInBounds_toArray, List.set_cons_zero, List.set_cons_succ]
    refine wpAnyH_take (i := 9) (oi := { dst := some 11, op := Go.Op.assign (Go.Operand.tmp 35), type := 26, pos := "high.go:58", after := #[{ on := 8, ground := Go.Ground.data }, { on := 0, ground := Go.Ground.phase }, { on := 1, ground := Go.Ground.phase }, { on := 2, ground := Go.Ground.phase }, { on := 3, ground := Go.Ground.phase }, { on := 4, ground := Go.Ground.phase }, { on := 5, ground := Go.Ground.phase }, { on := 6, ground := Go.Ground.phase }, { on := 7, ground := Go.Ground.phase }, { on := 8, ground := Go.Ground.phase }], guard := none }) rfl (by kernel_rfl) (by kernel_rfl) (by kernel_rfl) (fun _ _ _ h => h) (Or.inl ⟨by rfl, fun w hw => by (go_simp; try with_reducible rfl)⟩) (by assumption) ?_
    try simp only [Act.put, List.setIfInBounds_toArray, List.set_cons_zero, List.set_cons_succ]
    refine wpAnyH_done (by kernel_rfl) ?_ _
    clear hH0
    generalize (w0.alloc (.cells #[.slice A i cap, .int .i64 (-1), .int .i64 1, .int .i64 0, .slice (A.map fun x => x.add (i * 5)) (c.length - i) (cap - i), .int .i64 (-1), .int .i64 (-1), .int .i64 0] 25)) = w1 at *
    generalize w0.heap.size = S0 at *
    have HB1 := Lib.hid (Rd.below HB.out HWt.out)
    clear HA0 HP0 HW0 HA
    by_cases hr : pkErr vars (oneB c) = 0 ∧ haveErr vars hv = 0
    · obtain ⟨r1, r2⟩ := hr
      have r3 := one_two (i := i) |>.1 r1
      have H1 : Hid (Calls Try.prog 15 #[.int .i64 vars, .slice (some ⟨w.heap.size, 0, none⟩) 1 1, .slice B hv.length capB] w1 (RunEnd (oneB c) hv w1)) := Lib.hid (blkRun_ok vars _ B (oneB c) hv 1 capB w1 HPo.out HB1.out (by simp [oneB, maxLen]) hs1 hm' r1 r2)
      have H2 : Hid (∀ w2, Below w1.heap.size w1 w2 → Calls Try.prog 15 #[.int .i64 vars, .slice (some ⟨S0, 0, none⟩) 2 2, .slice B hv.length capB] w2 (RunEnd (twoB c i) hv w2)) := Lib.hid (fun w2 h2 => blkRun_ok vars _ B (twoB c i) hv 2 capB w2 (HPt.out.below h2) (Rd.below HB1.out h2) (by simp [twoB, maxLen]) hs2 hm' r3 r2)
      have H3 : Hid (∀ w2, Below w1.heap.size w1 w2 → Calls Try.prog 16 #[.int .i64 vars, .slice (some ⟨w.heap.size, 0, none⟩) 1 1, .slice B hv.length capB] w2 fun e w' => e = .returned (.bool true) ∧ Below w2.heap.size w2 w') := Lib.hid (fun w2 h2 => by
        have := runs_calls vars _ B (oneB c) hv 1 capB w2 (HPo.out.below h2) (Rd.below HB1.out h2) (by simp [oneB, maxLen]) hs1 hm'
        rw [r1, r2] at this; exact this)
      clear r1 r2 r3
      go_wp2_with (first
        | (go_at_call 15; (with_reducible refine H1.out.mono ?_); intro e w2 he2; obtain ⟨hW2, x1, y1, rfl, hx1⟩ := one_out he2; have HW2 := Lib.hid hW2; have HX1 := Lib.hid hx1; clear hW2 he2 hx1)
        | (go_at_call 15; (with_reducible refine (H2.out _ HW2.out).mono ?_); intro e w3 he3; obtain ⟨hW3, x2, y2, rfl, hx2, hy2⟩ := two_out he3; have HW3 := Lib.hid (HW2.out.trans (hW3.mono HW2.out.size)); have HX2 := Lib.hid (Own.below HX1.out hW3); have HY2 := Lib.hid hx2; have HZ2 := Lib.hid hy2; clear hW3 he3 hx2 hy2)
        | (go_at_call 16; (with_reducible refine (H3.out _ HW3.out).mono ?_); rintro e w4 ⟨rfl, hW4⟩; have HW4 := Lib.hid (HW3.out.trans (hW4.mono HW3.out.size))
           obtain ⟨A1, c1, rfl, ha1⟩ := OwnI.rd (Own.below HX2.out hW4)
           obtain ⟨A2, c2, rfl, ha2⟩ := OwnI.rd (Own.below HY2.out hW4)
           obtain ⟨A3, c3, rfl, ha3⟩ := OwnI.rd (Own.below HZ2.out hW4)
           have HA1 := Lib.hid ha1; have HA2 := Lib.hid ha2; have HA3 := Lib.hid ha3; clear ha1 ha2 ha3 hW4
           have Hi1 := Lib.hid (ints_same A1 A2 _ c1 c2 w4 HA1.out HA2.out (by rw [dgR_len]; exact hm'))
           generalize dgR hv c = rs at *)
        | (go_at_call 17; (with_reducible refine Hi1.out.mono ?_); rintro e w5 ⟨rfl, hW5⟩; have HW5 := Lib.hid (HW4.out.trans (hW5.mono HW4.out.size)); have HA5 := Lib.hid (Rd.below HA3.out hW5); clear hW5)
        | (go_at_call 17; refine (ints_same A3 _ [0, 1] c3 2 _ (Rd.below HA5.out ((Below.refl w5.heap.size w5).alloc (Nat.le_refl _) _)) (rdI_new2 _ _ _ _ _ rfl) (by simp [maxLen])).mono ?_; rintro e w6 ⟨rfl, hW6⟩; have HW6 := Lib.hid ((HW5.out.alloc HW5.out.size _).trans (hW6.mono (by have := HW5.out.size; simp; omega))); clear hW6))
      go_ret
      exact ⟨rfl, HWt.out.trans (HW6.out.mono HWt.out.size)⟩
    · have r1 : pkErr vars (oneB c) ≠ 0 ∨ haveErr vars hv ≠ 0 := by omega
      have r3 : pkErr vars (twoB c i) ≠ 0 ∨ haveErr vars hv ≠ 0 := by rcases r1 with h | h; exact .inl (fun e => h (one_two.2 e)); exact .inr h
      have rb : (pkErr vars (oneB c) == 0 && haveErr vars hv == 0) = false := by rw [Bool.and_eq_false_iff, beq_eq_false_iff_ne, beq_eq_false_iff_ne]; exact r1
      have H1 : Hid (Calls Try.prog 15 #[.int .i64 vars, .slice (some ⟨w.heap.size, 0, none⟩) 1 1, .slice B hv.length capB] w1 fun e w' => (∃ x, x ≠ 0 ∧ e = .returned (.tuple #[.slice none 0 0, .slice none 0 0, .int .i64 x])) ∧ Below w1.heap.size w1 w') := Lib.hid (blkRun_bad vars _ B (oneB c) hv 1 capB w1 HPo.out HB1.out (by simp [oneB, maxLen]) hs1 hm' r1)
      have H2 : Hid (∀ w2, Below w1.heap.size w1 w2 → Calls Try.prog 15 #[.int .i64 vars, .slice (some ⟨S0, 0, none⟩) 2 2, .slice B hv.length capB] w2 fun e w' => (∃ x, x ≠ 0 ∧ e = .returned (.tuple #[.slice none 0 0, .slice none 0 0, .int .i64 x])) ∧ Below w2.heap.size w2 w') := Lib.hid (fun w2 h2 => blkRun_bad vars _ B (twoB c i) hv 2 capB w2 (HPt.out.below h2) (Rd.below HB1.out h2) (by simp [twoB, maxLen]) hs2 hm' r3)
      have H3 : Hid (∀ w2, Below w1.heap.size w1 w2 → Calls Try.prog 16 #[.int .i64 vars, .slice (some ⟨w.heap.size, 0, none⟩) 1 1, .slice B hv.length capB] w2 fun e w' => e = .returned (.bool false) ∧ Below w2.heap.size w2 w') := Lib.hid (fun w2 h2 => by
        have := runs_calls vars _ B (oneB c) hv 1 capB w2 (HPo.out.below h2) (Rd.below HB1.out h2) (by simp [oneB, maxLen]) hs1 hm'
        rw [rb] at this; exact this)
      clear r1 r3 rb hr
      go_wp2_with (first
        | (go_at_call 15; (with_reducible refine H1.out.mono ?_); rintro e w2 ⟨⟨x1, hx1, rfl⟩, hW2⟩; have HW2 := Lib.hid hW2; have qx : (x1 != 0) = true := (by rw [bne_iff_ne]; exact hx1); clear hW2)
        | (go_at_call 15; (with_reducible refine (H2.out _ HW2.out).mono ?_); rintro e w3 ⟨⟨x2, hx2, rfl⟩, hW3⟩; have HW3 := Lib.hid (HW2.out.trans (hW3.mono HW2.out.size)); have qy : (x2 != 0) = true := (by rw [bne_iff_ne]; exact hx2); clear hW3)
        | (go_at_call 16; (with_reducible refine (H3.out _ HW3.out).mono ?_); rintro e w4 ⟨rfl, hW4⟩; have HW4 := Lib.hid (HW3.out.trans (hW4.mono HW3.out.size)); clear hW4))
      go_ret
      exact ⟨rfl, HWt.out.trans (HW4.out.mono HWt.out.size)⟩
    -- end region 3b
end Go.Proofs.Ytadmmciiahdmcaa
