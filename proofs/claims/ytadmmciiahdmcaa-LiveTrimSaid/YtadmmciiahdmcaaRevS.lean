/- slices.Reverse of steps. -/
import Derived.Test.YtadmmciiahdmcaaEntR
import Derived.Deep.RegionHeld3
namespace Go.Proofs.Ytadmmciiahdmcaa
set_option maxRecDepth 100000
open Go.RowKit

def st0 : Step := ⟨0, 0, 0, 0, 0⟩
/-- The first k and the last k have changed places. -/
def revK (l : List Step) (k : Nat) : List Step := (List.range l.length).map fun x => if x < k ∨ l.length ≤ x + k then l.getD (l.length - 1 - x) st0 else l.getD x st0
theorem revK_len (l : List Step) (k : Nat) : (revK l k).length = l.length := by simp [revK]
theorem revK_get {l : List Step} {k x : Nat} (hx : x < (revK l k).length) : (revK l k)[x] = if x < k ∨ l.length ≤ x + k then l.getD (l.length - 1 - x) st0 else l.getD x st0 := by simp [revK]
theorem revK_zero (l : List Step) : revK l 0 = l := by
  refine List.ext_getElem (revK_len l 0) fun x h1 h2 => ?_
  rw [revK_get, if_neg (by omega), List.getD_eq_getElem?_getD, List.getElem?_eq_getElem h2]; rfl
theorem revK_end {l : List Step} {k : Nat} (hk : l.length ≤ 2 * k + 1) : revK l k = l.reverse := by
  refine List.ext_getElem (by rw [revK_len, List.length_reverse]) fun x h1 h2 => ?_
  have hx : x < l.length := by rw [revK_len] at h1; exact h1
  rw [revK_get, List.getElem_reverse]
  split
  · rw [List.getD_eq_getElem?_getD, List.getElem?_eq_getElem (by omega)]; rfl
  · rw [List.getD_eq_getElem?_getD, List.getElem?_eq_getElem hx]
    show l[x] = _
    congr 1; omega
theorem revK_step {l : List Step} {k : Nat} (hk : 2 * k + 1 < l.length) : ((revK l k).set k ((revK l k)[l.length - 1 - k]'(by rw [revK_len]; omega))).set (l.length - 1 - k) ((revK l k)[k]'(by rw [revK_len]; omega)) = revK l (k + 1) := by
  refine List.ext_getElem (by rw [List.length_set, List.length_set, revK_len, revK_len]) fun x h1 h2 => ?_
  have hx : x < l.length := by rw [revK_len] at h2; exact h2
  simp only [List.getElem_set, revK_get]
  by_cases e1 : l.length - 1 - k = x
  · rw [if_pos e1, if_neg (by omega), if_pos (by omega)]
    congr 1; omega
  · rw [if_neg e1]
    by_cases e2 : k = x
    · rw [if_pos e2, if_neg (by omega), if_pos (by omega)]
      congr 1; omega
    · rw [if_neg e2]
      by_cases e3 : x < k ∨ l.length ≤ x + k
      · rw [if_pos e3, if_pos (by omega)]
      · rw [if_neg e3, if_neg (by omega)]
/-- A step is written. -/
def setSt (w : World) (g i : Nat) (s : Step) : World := ((((w.setCell ⟨g, i * 5, none⟩ (.int .i64 s.op)).setCell ⟨g, i * 5 + 1, none⟩ (.int .i64 s.to)).setCell ⟨g, i * 5 + 2, none⟩ (.int .i64 s.a)).setCell ⟨g, i * 5 + 3, none⟩ (.int .i64 s.b)).setCell ⟨g, i * 5 + 4, none⟩ (.int .i64 s.val)
theorem five_sets : ∀ (l : List Step) (i : Nat) (s : Step), i < l.length → (((((l.flatMap Step.cells).set (i * 5) (.int .i64 s.op)).set (i * 5 + 1) (.int .i64 s.to)).set (i * 5 + 2) (.int .i64 s.a)).set (i * 5 + 3) (.int .i64 s.b)).set (i * 5 + 4) (.int .i64 s.val) = (l.set i s).flatMap Step.cells
  | x :: r, 0, s, _ => by
    obtain ⟨a, b, c, d, e⟩ := x
    rfl
  | x :: r, i + 1, s, h => by
    have ih := five_sets r i s (by simpa using h)
    obtain ⟨a, b, c, d, e⟩ := x
    rw [List.set_cons_succ, List.flatMap_cons, List.flatMap_cons, ← ih, show (i + 1) * 5 = i * 5 + 1 + 1 + 1 + 1 + 1 by omega]
    rfl
theorem OwnSt.setSt {w : World} {base g n cap : Nat} {l : List Step} (h : OwnSt w base 78 (.slice (some ⟨g, 0, none⟩) n cap) l) (hn : n = l.length) {i : Nat} (hi : i < l.length) (s : Step) : OwnSt (setSt w g i s) base 78 (.slice (some ⟨g, 0, none⟩) n cap) (l.set i s) := by
  subst hn
  have h' : w.ownsRow base 78 5 (.slice (some ⟨g, 0, none⟩) l.length cap) l.length (l.flatMap Step.cells) := h
  have h5 := Own.setJ (Own.setJ (Own.setJ (Own.setJ (Own.setJ h' (j := i * 5) (by omega) (.int .i64 s.op)) (j := i * 5 + 1) (by omega) (.int .i64 s.to)) (j := i * 5 + 2) (by omega) (.int .i64 s.a)) (j := i * 5 + 3) (by omega) (.int .i64 s.b)) (j := i * 5 + 4) (by omega) (.int .i64 s.val)
  rw [five_sets l i s hi] at h5
  show World.ownsRow _ _ _ _ _ (l.set i s).length _
  rw [List.length_set]
  exact h5
theorem bel1_setSt {w a : World} {g : Nat} (h : Bel1 g a w) (i : Nat) (s : Step) : Bel1 g a (setSt w g i s) := ((((h.set_ rfl _).set_ rfl _).set_ rfl _).set_ rfl _).set_ rfl _
set_option maxHeartbeats 4000000 in
theorem reverse_calls (base : Nat) (v : Value) (l : List Step) (w : World) (h : OwnSt w base 78 v l) (hl : l.length ≤ 1000) :
    Calls Try.prog 50 #[v] w fun e w' => (∃ u, e = .returned u) ∧ OwnSt w' base 78 v l.reverse ∧ w.grownBy w' v.ownBlock := by
  rcases Nat.eq_zero_or_pos l.length with h0 | h0
  · have : l = [] := List.eq_nil_of_length_eq_zero h0
    subst this
    have HO := Lib.hid h
    obtain ⟨A9, c9, rfl, hR, -⟩ := Own.form stepCells_len h
    clear h hR
    go_enter Try.func50, Try.ntmps50
    go_wp2
    go_loopw [2, 3] (fun i j wr => i = .int .i64 0 ∧ j = .int .i64 (-1) ∧ Hid (wr = w)) (fun i _ _ => 0)
    case atStart => exact ⟨rfl, rfl, Lib.hid rfl⟩
    case round =>
      obtain ⟨rfl, rfl, HWe⟩ := hrel
      obtain rfl := HWe.out
      go_wp2
      go_end0
      exact ⟨⟨_, rfl⟩, HO.out, ⟨rfl, rfl, rfl, Nat.le_refl _, fun _ _ _ => rfl⟩⟩
  · obtain ⟨g, cap, rfl, hg, hgl, hlc, -⟩ := Own.some_ h h0
    have HO := Lib.hid h
    clear h
    go_enter Try.func50, Try.ntmps50
    go_wp2
    go_loopw [2, 3] (fun i j wr => ∃ k : Nat, 2 * k ≤ l.length ∧ i = .int .i64 k ∧ j = .int .i64 ((l.length : Int) - 1 - k) ∧ Hid (OwnSt wr base 78 (.slice (some ⟨g, 0, none⟩) l.length cap) (revK l k)) ∧ Hid (Bel1 g w wr)) (fun i _ _ => l.length - (intOf i).toNat)
    case atStart => exact ⟨0, by omega, rfl, by first | rfl | go_num, Lib.hid (by rw [revK_zero]; exact HO.out), Lib.hid (Bel1.refl _ _)⟩
    case round =>
      clear HO
      obtain ⟨k, hk, rfl, rfl, HO, HB⟩ := hrel
      by_cases hlt : 2 * k + 1 < l.length
      · obtain ⟨w0, hw0⟩ : ∃ w0, w0 = wr.drew := ⟨_, rfl⟩
        have HO0 : Hid (OwnSt w0 base 78 (.slice (some ⟨g, 0, none⟩) l.length cap) (revK l k)) := Lib.hid (by rw [hw0]; exact Own.drew HO.out)
        have HB0 : Hid (Bel1 g w w0) := Lib.hid (by rw [hw0]; exact HB.out.drew)
        have Hw0 := Lib.hid hw0
        clear hw0
        have hk1 : k < (revK l k).length := by rw [revK_len]; omega
        have hk2 : l.length - 1 - k < (revK l k).length := by rw [revK_len]; omega
        obtain ⟨m, hm⟩ : ∃ m : Nat, m = l.length - 1 - k := ⟨_, rfl⟩
        have hmi : ((l.length : Int) - 1 - k) = (m : Int) := by omega
        have Hst := Lib.hid (revK_step hlt)
        have hrl := revK_len l k
        obtain ⟨A9, c9, e9, hR, -⟩ := Own.form stepCells_len HO0.out
        have eA : A9 = some ⟨g, 0, none⟩ := by injection e9 with e9; exact e9.symm
        clear e9
        subst eA
        obtain ⟨b1, o1, e1, hb1, x0, x1, x2, x3, x4⟩ := RdSt.at5 hR hk1
        obtain ⟨b2, o2, e2, hb2, y0, y1, y2, y3, y4⟩ := RdSt.at5 hR hk2
        injection e1 with e1
        injection e1 with e1 e1'
        subst e1 e1'
        injection e2 with e2
        injection e2 with e2 e2'
        subst e2 e2'
        rw [Nat.zero_add] at x0 x1 x2 x3 x4 y0 y1 y2 y3 y4
        have fz : ∀ j, w0.frozen? ⟨g, j, none⟩ = false := fun j => by obtain ⟨cur, hc⟩ := own_ty HO0.out rfl; simp [World.frozen?, hc]
        have HW2 : Hid (∀ s t : Step, Bel1 g w (setSt (setSt w0 g k s) g m t)) := Lib.hid fun s t => bel1_setSt (bel1_setSt HB0.out k s) m t
        have HO3 : Hid (OwnSt (setSt (setSt w0 g k ((revK l k)[l.length - 1 - k])) g m ((revK l k)[k])) base 78 (.slice (some ⟨g, 0, none⟩) l.length cap) (revK l (k + 1))) := Lib.hid (by
          have h1 := OwnSt.setSt HO0.out (by rw [revK_len]) hk1 ((revK l k)[l.length - 1 - k])
          have h2 := OwnSt.setSt h1 (by rw [List.length_set, revK_len]) (i := m) (by rw [List.length_set]; omega) ((revK l k)[k])
          rw [hm, Hst.out] at h2
          rw [hm]; exact h2)
        generalize (revK l k)[l.length - 1 - k] = t at *
        generalize (revK l k)[k] = s at *
        rw [← hm] at y0 y1 y2 y3 y4
        obtain ⟨sop, sto, sa, sb, sv⟩ := s
        obtain ⟨top, tto, ta, tb, tv⟩ := t
        dsimp only at x0 x1 x2 x3 x4 y0 y1 y2 y3 y4
        have HW3 := Lib.hid (HW2.out ⟨top, tto, ta, tb, tv⟩ ⟨sop, sto, sa, sb, sv⟩)
        clear HW2
        unfold setSt at HO3 HW3
        dsimp only at HO3 HW3
        have q1 : ((k : Nat) : Int) < (m : Int) := by omega
        have q2 : ((k : Nat) : Int) < ((l.length : Nat) : Int) := by omega
        have q3 : ((m : Nat) : Int) < ((l.length : Nat) : Int) := by omega
        have Hm := Lib.hid hm
        have Hk := Lib.hid hk
        have Hlt := Lib.hid hlt
        rw [hmi]
        have Hmi := Lib.hid hmi
        clear hm hmi hk hlt hR hb1 hb2 hrl hk1 hk2 HO HO0 HB HB0 Hst
        go_wp2
        refine wp_region_held_drew (S := fun _ => True) (by kernel_rfl) trivial (fun hH0 => ?_)
        rw [← Hw0.out]
        refine wpAnyH_take (i := 0) (oi := { dst := some 14, op := Go.Op.move (Go.Operand.tmp 0), type := 22, pos := "slices.go:485", after := #[], guard := none }) rfl (by kernel_rfl) (by kernel_rfl) (by kernel_rfl) (fun _ _ _ h => h) (Or.inl ⟨by rfl, fun w hw => by (go_simp; try with_reducible rfl)⟩) (by assumption) ?_
        try simp only [Act.put, List.setIfInBounds_toArray, List.set_cons_zero, List.set_cons_succ]
        refine wpAnyH_take (i := 1) (oi := { dst := some 15, op := Go.Op.move (Go.Operand.tmp 2), type := 3, pos := "slices.go:485", after := #[], guard := none }) rfl (by kernel_rfl) (by kernel_rfl) (by kernel_rfl) (fun _ _ _ h => h) (Or.inl ⟨by rfl, fun w hw => by (go_simp; try with_reducible rfl)⟩) (by assumption) ?_
        try simp only [Act.put, List.setIfInBounds_toArray, List.set_cons_zero, List.set_cons_succ]
        refine wpAnyH_take (i := 2) (oi := { dst := some 16, op := Go.Op.move (Go.Operand.tmp 0), type := 22, pos := "slices.go:485", after := #[{ on := 13, ground := Go.Ground.gcOnly Go.Departure.lateStores }], guard := none }) rfl (by kernel_rfl) (by kernel_rfl) (by kernel_rfl) (fun _ _ _ h => h) (Or.inl ⟨by rfl, fun w hw => by (go_simp; try with_reducible rfl)⟩) (by assumption) ?_
        try simp only [Act.put, List.setIfInBounds_toArray, List.set_cons_zero, List.set_cons_succ]
        refine wpAnyH_take (i := 3) (oi := { dst := some 17, op := Go.Op.move (Go.Operand.tmp 3), type := 3, pos := "slices.go:485", after := #[{ on := 13, ground := Go.Ground.gcOnly Go.Departure.lateStores }], guard := none }) rfl (by kernel_rfl) (by kernel_rfl) (by kernel_rfl) (fun _ _ _ h => h) (Or.inl ⟨by rfl, fun w hw => by (go_simp; try with_reducible rfl)⟩) (by assumption) ?_
        try simp only [Act.put, List.setIfInBounds_toArray, List.set_cons_zero, List.set_cons_succ]
        refine wpAnyH_take (i := 4) (oi := { dst := some 18, op := Go.Op.move (Go.Operand.tmp 0), type := 22, pos := "slices.go:485", after := #[], guard := none }) rfl (by kernel_rfl) (by kernel_rfl) (by kernel_rfl) (fun _ _ _ h => h) (Or.inl ⟨by rfl, fun w hw => by (go_simp; try with_reducible rfl)⟩) (by assumption) ?_
        try simp only [Act.put, List.setIfInBounds_toArray, List.set_cons_zero, List.set_cons_succ]
        refine wpAnyH_take (i := 5) (oi := { dst := some 19, op := Go.Op.move (Go.Operand.tmp 3), type := 3, pos := "slices.go:485", after := #[], guard := none }) rfl (by kernel_rfl) (by kernel_rfl) (by kernel_rfl) (fun _ _ _ h => h) (Or.inl ⟨by rfl, fun w hw => by (go_simp; try with_reducible rfl)⟩) (by assumption) ?_
        try simp only [Act.put, List.setIfInBounds_toArray, List.set_cons_zero, List.set_cons_succ]
        refine wpAnyH_take (i := 6) (oi := { dst := some 20, op := Go.Op.indexAddr 22 (Go.Operand.tmp 18) (Go.Operand.tmp 19), type := 0, pos := "slices.go:485", after := #[{ on := 4, ground := Go.Ground.data }, { on := 5, ground := Go.Ground.data }], guard := none }) rfl (by kernel_rfl) (by kernel_rfl) (by kernel_rfl) (fun _ _ _ h => h) (Or.inl ⟨by rfl, fun w hw => by (go_simp; try with_reducible rfl)⟩) (by assumption) ?_
        try simp only [Act.put, List.setIfInBounds_toArray, List.set_cons_zero, List.set_cons_succ]
        refine wpAnyH_take (i := 8) (oi := { dst := some 22, op := Go.Op.move (Go.Operand.tmp 0), type := 22, pos := "slices.go:485", after := #[], guard := none }) rfl (by kernel_rfl) (by kernel_rfl) (by kernel_rfl) (fun _ _ _ h => h) (Or.inl ⟨by rfl, fun w hw => by (go_simp; try with_reducible rfl)⟩) (by assumption) ?_
        try simp only [Act.put, List.setIfInBounds_toArray, List.set_cons_zero, List.set_cons_succ]
        refine wpAnyH_take (i := 9) (oi := { dst := some 23, op := Go.Op.move (Go.Operand.tmp 2), type := 3, pos := "slices.go:485", after := #[], guard := none }) rfl (by kernel_rfl) (by kernel_rfl) (by kernel_rfl) (fun _ _ _ h => h) (Or.inl ⟨by rfl, fun w hw => by (go_simp; try with_reducible rfl)⟩) (by assumption) ?_
        try simp only [Act.put, List.setIfInBounds_toArray, List.set_cons_zero, List.set_cons_succ]
        refine wpAnyH_take (i := 10) (oi := { dst := some 24, op := Go.Op.indexAddr 22 (Go.Operand.tmp 22) (Go.Operand.tmp 23), type := 0, pos := "slices.go:485", after := #[{ on := 8, ground := Go.Ground.data }, { on := 9, ground := Go.Ground.data }], guard := none }) rfl (by kernel_rfl) (by kernel_rfl) (by kernel_rfl) (fun _ _ _ h => h) (Or.inl ⟨by rfl, fun w hw => by (go_simp; try with_reducible rfl)⟩) (by assumption) ?_
        try simp only [Act.put, List.setIfInBounds_toArray, List.set_cons_zero, List.set_cons_succ]
        refine wpAnyH_ready (rs := [7, 11]) (by kernel_rfl) (by simp) ?_
        refine AllReadyH.cons (o := { dst := some 21, op := Go.Op.load 78 (Go.Operand.tmp 20), type := 78, pos := "slices.go:485", after := #[{ on := 6, ground := Go.Ground.data }], guard := none }) rfl (fun K hK => ?_) ?_
        · try rw [if_pos (by rfl)]
          go_simp
          refine hK.out _ _ trivial (fun hH1 => ?_)
          clear hK hH0
          have hH0 := hH1
          clear hH1
          try simp only [Act.put, List.setIfInBounds_toArray, List.set_cons_zero, List.set_cons_succ]
          refine wpAnyH_ready (rs := [11]) (by kernel_rfl) (by simp) ?_
          refine AllReadyH.cons (o := { dst := some 25, op := Go.Op.load 78 (Go.Operand.tmp 24), type := 78, pos := "slices.go:485", after := #[{ on := 10, ground := Go.Ground.data }], guard := none }) rfl (fun K hK => ?_) AllReadyH.nil
          try rw [if_pos (by rfl)]
          go_simp
          refine hK.out _ _ trivial (fun hH1 => ?_)
          clear hK hH0
          have hH0 := hH1
          clear hH1
          try simp only [Act.put, List.setIfInBounds_toArray, List.set_cons_zero, List.set_cons_succ]
          refine wpAnyH_take (i := 12) (oi := { dst := some 26, op := Go.Op.indexAddr 22 (Go.Operand.tmp 14) (Go.Operand.tmp 15), type := 0, pos := "slices.go:485", after := #[{ on := 0, ground := Go.Ground.data }, { on := 1, ground := Go.Ground.data }, { on := 0, ground := Go.Ground.phase }, { on := 1, ground := Go.Ground.phase }, { on := 2, ground := Go.Ground.textOnly Go.Departure.lateStores }, { on := 3, ground := Go.Ground.textOnly Go.Departure.lateStores }, { on := 4, ground := Go.Ground.phase }, { on := 5, ground := Go.Ground.phase }, { on := 6, ground := Go.Ground.phase }, { on := 7, ground := Go.Ground.phase }, { on := 8, ground := Go.Ground.textOnly Go.Departure.lateStores }, { on := 9, ground := Go.Ground.textOnly Go.Departure.lateStores }, { on := 10, ground := Go.Ground.textOnly Go.Departure.lateStoresUnsure }, { on := 11, ground := Go.Ground.phase }], guard := none }) rfl (by kernel_rfl) (by kernel_rfl) (by kernel_rfl) (fun _ _ _ h => h) (Or.inl ⟨by rfl, fun w hw => by (go_simp; try with_reducible rfl)⟩) (by assumption) ?_
          try simp only [Act.put, List.setIfInBounds_toArray, List.set_cons_zero, List.set_cons_succ]
          refine wpAnyH_ready (rs := [13]) (by kernel_rfl) (by simp) ?_
          refine AllReadyH.cons (o := { dst := none, op := Go.Op.store 78 (Go.Operand.tmp 26) (Go.Operand.tmp 21), type := 0, pos := "slices.go:485", after := #[{ on := 12, ground := Go.Ground.data }, { on := 7, ground := Go.Ground.data }, { on := 0, ground := Go.Ground.phase }, { on := 1, ground := Go.Ground.phase }, { on := 2, ground := Go.Ground.textOnly Go.Departure.lateStores }, { on := 3, ground := Go.Ground.textOnly Go.Departure.lateStores }, { on := 4, ground := Go.Ground.phase }, { on := 5, ground := Go.Ground.phase }, { on := 6, ground := Go.Ground.phase }, { on := 7, ground := Go.Ground.phase }, { on := 8, ground := Go.Ground.textOnly Go.Departure.lateStores }, { on := 9, ground := Go.Ground.textOnly Go.Departure.lateStores }, { on := 10, ground := Go.Ground.textOnly Go.Departure.lateStoresUnsure }, { on := 11, ground := Go.Ground.phase }], guard := none }) rfl (fun K hK => ?_) AllReadyH.nil
          try rw [if_pos (by rfl)]
          go_simp
          refine hK.out _ _ trivial (fun hH1 => ?_)
          clear hK hH0
          have hH0 := hH1
          clear hH1
          try simp only [Act.put, List.setIfInBounds_toArray, List.set_cons_zero, List.set_cons_succ]
          refine wpAnyH_take (i := 14) (oi := { dst := some 27, op := Go.Op.indexAddr 22 (Go.Operand.tmp 16) (Go.Operand.tmp 17), type := 0, pos := "slices.go:485", after := #[{ on := 2, ground := Go.Ground.data }, { on := 3, ground := Go.Ground.data }, { on := 0, ground := Go.Ground.phase }, { on := 1, ground := Go.Ground.phase }, { on := 2, ground := Go.Ground.phase }, { on := 3, ground := Go.Ground.phase }, { on := 4, ground := Go.Ground.phase }, { on := 5, ground := Go.Ground.phase }, { on := 6, ground := Go.Ground.phase }, { on := 7, ground := Go.Ground.phase }, { on := 8, ground := Go.Ground.phase }, { on := 9, ground := Go.Ground.phase }, { on := 10, ground := Go.Ground.phase }, { on := 11, ground := Go.Ground.phase }, { on := 12, ground := Go.Ground.phase }, { on := 13, ground := Go.Ground.phase }], guard := none }) rfl (by kernel_rfl) (by kernel_rfl) (by kernel_rfl) (fun _ _ _ h => h) (Or.inl ⟨by rfl, fun w hw => by (go_simp; try with_reducible rfl)⟩) (by assumption) ?_
          try simp only [Act.put, List.setIfInBounds_toArray, List.set_cons_zero, List.set_cons_succ]
          refine wpAnyH_ready (rs := [15]) (by kernel_rfl) (by simp) ?_
          refine AllReadyH.cons (o := { dst := none, op := Go.Op.store 78 (Go.Operand.tmp 27) (Go.Operand.tmp 25), type := 0, pos := "slices.go:485", after := #[{ on := 14, ground := Go.Ground.data }, { on := 11, ground := Go.Ground.data }, { on := 13, ground := Go.Ground.chain }, { on := 0, ground := Go.Ground.phase }, { on := 1, ground := Go.Ground.phase }, { on := 2, ground := Go.Ground.phase }, { on := 3, ground := Go.Ground.phase }, { on := 4, ground := Go.Ground.phase }, { on := 5, ground := Go.Ground.phase }, { on := 6, ground := Go.Ground.phase }, { on := 7, ground := Go.Ground.phase }, { on := 8, ground := Go.Ground.phase }, { on := 9, ground := Go.Ground.phase }, { on := 10, ground := Go.Ground.phase }, { on := 11, ground := Go.Ground.phase }, { on := 12, ground := Go.Ground.phase }, { on := 13, ground := Go.Ground.phase }], guard := none }) rfl (fun K hK => ?_) AllReadyH.nil
          try rw [if_pos (by rfl)]
          go_simp
          refine hK.out _ _ trivial (fun hH1 => ?_)
          clear hK hH0
          have hH0 := hH1
          clear hH1
          try simp only [Act.put, List.setIfInBounds_toArray, List.set_cons_zero, List.set_cons_succ]
          refine wpAnyH_done (by kernel_rfl) ?_ _
          clear hH0
          go_wp2
          go_roundw
          case rel => exact ⟨k + 1, by have := Hlt.out; omega, by go_num, congrArg (Value.int .i64) (by have := Hmi.out; omega), HO3, HW3⟩
          case measure => have := Hlt.out; simp [intOf]; omega
        refine AllReadyH.cons (o := { dst := some 25, op := Go.Op.load 78 (Go.Operand.tmp 24), type := 78, pos := "slices.go:485", after := #[{ on := 10, ground := Go.Ground.data }], guard := none }) rfl (fun K hK => ?_) AllReadyH.nil
        try rw [if_pos (by rfl)]
        go_simp
        refine hK.out _ _ trivial (fun hH1 => ?_)
        clear hK hH0
        have hH0 := hH1
        clear hH1
        try simp only [Act.put, List.setIfInBounds_toArray, List.set_cons_zero, List.set_cons_succ]
        refine wpAnyH_ready (rs := [7]) (by kernel_rfl) (by simp) ?_
        refine AllReadyH.cons (o := { dst := some 21, op := Go.Op.load 78 (Go.Operand.tmp 20), type := 78, pos := "slices.go:485", after := #[{ on := 6, ground := Go.Ground.data }], guard := none }) rfl (fun K hK => ?_) AllReadyH.nil
        try rw [if_pos (by rfl)]
        go_simp
        refine hK.out _ _ trivial (fun hH1 => ?_)
        clear hK hH0
        have hH0 := hH1
        clear hH1
        try simp only [Act.put, List.setIfInBounds_toArray, List.set_cons_zero, List.set_cons_succ]
        refine wpAnyH_take (i := 12) (oi := { dst := some 26, op := Go.Op.indexAddr 22 (Go.Operand.tmp 14) (Go.Operand.tmp 15), type := 0, pos := "slices.go:485", after := #[{ on := 0, ground := Go.Ground.data }, { on := 1, ground := Go.Ground.data }, { on := 0, ground := Go.Ground.phase }, { on := 1, ground := Go.Ground.phase }, { on := 2, ground := Go.Ground.textOnly Go.Departure.lateStores }, { on := 3, ground := Go.Ground.textOnly Go.Departure.lateStores }, { on := 4, ground := Go.Ground.phase }, { on := 5, ground := Go.Ground.phase }, { on := 6, ground := Go.Ground.phase }, { on := 7, ground := Go.Ground.phase }, { on := 8, ground := Go.Ground.textOnly Go.Departure.lateStores }, { on := 9, ground := Go.Ground.textOnly Go.Departure.lateStores }, { on := 10, ground := Go.Ground.textOnly Go.Departure.lateStoresUnsure }, { on := 11, ground := Go.Ground.phase }], guard := none }) rfl (by kernel_rfl) (by kernel_rfl) (by kernel_rfl) (fun _ _ _ h => h) (Or.inl ⟨by rfl, fun w hw => by (go_simp; try with_reducible rfl)⟩) (by assumption) ?_
        try simp only [Act.put, List.setIfInBounds_toArray, List.set_cons_zero, List.set_cons_succ]
        refine wpAnyH_ready (rs := [13]) (by kernel_rfl) (by simp) ?_
        refine AllReadyH.cons (o := { dst := none, op := Go.Op.store 78 (Go.Operand.tmp 26) (Go.Operand.tmp 21), type := 0, pos := "slices.go:485", after := #[{ on := 12, ground := Go.Ground.data }, { on := 7, ground := Go.Ground.data }, { on := 0, ground := Go.Ground.phase }, { on := 1, ground := Go.Ground.phase }, { on := 2, ground := Go.Ground.textOnly Go.Departure.lateStores }, { on := 3, ground := Go.Ground.textOnly Go.Departure.lateStores }, { on := 4, ground := Go.Ground.phase }, { on := 5, ground := Go.Ground.phase }, { on := 6, ground := Go.Ground.phase }, { on := 7, ground := Go.Ground.phase }, { on := 8, ground := Go.Ground.textOnly Go.Departure.lateStores }, { on := 9, ground := Go.Ground.textOnly Go.Departure.lateStores }, { on := 10, ground := Go.Ground.textOnly Go.Departure.lateStoresUnsure }, { on := 11, ground := Go.Ground.phase }], guard := none }) rfl (fun K hK => ?_) AllReadyH.nil
        try rw [if_pos (by rfl)]
        go_simp
        refine hK.out _ _ trivial (fun hH1 => ?_)
        clear hK hH0
        have hH0 := hH1
        clear hH1
        try simp only [Act.put, List.setIfInBounds_toArray, List.set_cons_zero, List.set_cons_succ]
        refine wpAnyH_take (i := 14) (oi := { dst := some 27, op := Go.Op.indexAddr 22 (Go.Operand.tmp 16) (Go.Operand.tmp 17), type := 0, pos := "slices.go:485", after := #[{ on := 2, ground := Go.Ground.data }, { on := 3, ground := Go.Ground.data }, { on := 0, ground := Go.Ground.phase }, { on := 1, ground := Go.Ground.phase }, { on := 2, ground := Go.Ground.phase }, { on := 3, ground := Go.Ground.phase }, { on := 4, ground := Go.Ground.phase }, { on := 5, ground := Go.Ground.phase }, { on := 6, ground := Go.Ground.phase }, { on := 7, ground := Go.Ground.phase }, { on := 8, ground := Go.Ground.phase }, { on := 9, ground := Go.Ground.phase }, { on := 10, ground := Go.Ground.phase }, { on := 11, ground := Go.Ground.phase }, { on := 12, ground := Go.Ground.phase }, { on := 13, ground := Go.Ground.phase }], guard := none }) rfl (by kernel_rfl) (by kernel_rfl) (by kernel_rfl) (fun _ _ _ h => h) (Or.inl ⟨by rfl, fun w hw => by (go_simp; try with_reducible rfl)⟩) (by assumption) ?_
        try simp only [Act.put, List.setIfInBounds_toArray, List.set_cons_zero, List.set_cons_succ]
        refine wpAnyH_ready (rs := [15]) (by kernel_rfl) (by simp) ?_
        refine AllReadyH.cons (o := { dst := none, op := Go.Op.store 78 (Go.Operand.tmp 27) (Go.Operand.tmp 25), type := 0, pos := "slices.go:485", after := #[{ on := 14, ground := Go.Ground.data }, { on := 11, ground := Go.Ground.data }, { on := 13, ground := Go.Ground.chain }, { on := 0, ground := Go.Ground.phase }, { on := 1, ground := Go.Ground.phase }, { on := 2, ground := Go.Ground.phase }, { on := 3, ground := Go.Ground.phase }, { on := 4, ground := Go.Ground.phase }, { on := 5, ground := Go.Ground.phase }, { on := 6, ground := Go.Ground.phase }, { on := 7, ground := Go.Ground.phase }, { on := 8, ground := Go.Ground.phase }, { on := 9, ground := Go.Ground.phase }, { on := 10, ground := Go.Ground.phase }, { on := 11, ground := Go.Ground.phase }, { on := 12, ground := Go.Ground.phase }, { on := 13, ground := Go.Ground.phase }], guard := none }) rfl (fun K hK => ?_) AllReadyH.nil
        try rw [if_pos (by rfl)]
        go_simp
        refine hK.out _ _ trivial (fun hH1 => ?_)
        clear hK hH0
        have hH0 := hH1
        clear hH1
        try simp only [Act.put, List.setIfInBounds_toArray, List.set_cons_zero, List.set_cons_succ]
        refine wpAnyH_done (by kernel_rfl) ?_ _
        clear hH0
        go_wp2
        go_roundw
        case rel => exact ⟨k + 1, by have := Hlt.out; omega, by go_num, congrArg (Value.int .i64) (by have := Hmi.out; omega), HO3, HW3⟩
        case measure => have := Hlt.out; simp [intOf]; omega
      · have HOe : Hid (OwnSt wr base 78 (.slice (some ⟨g, 0, none⟩) l.length cap) l.reverse) := Lib.hid (by rw [← revK_end (k := k) (by omega)]; exact HO.out)
        have q1 : ¬ ((k : Nat) : Int) < (l.length : Int) - 1 - (k : Int) := by omega
        clear hlt hk HO
        go_wp2
        go_end0
        exact ⟨⟨_, rfl⟩, HOe.out, ⟨HB.out.os, HB.out.tape, HB.out.output, HB.out.size, fun i hi hne => HB.out.block i hi (fun e => hne (by rw [e]; rfl))⟩⟩
end Go.Proofs.Ytadmmciiahdmcaa
