/- (*span.place).come walked. -/
import Derived.Test.YtadmmciiahdmcaaSpE
import Derived.Test.YtadmmciiahdmcaaBlkF
import Derived.Lib.SliceRun
import Derived.Deep.RegionHeld3
namespace Go.Proofs.Ytadmmciiahdmcaa
set_option maxRecDepth 100000
open Go.RowKit

/-- What come leaves. -/
def ComeE (n T SB m : Nat) (R : Nat → Nat) (F : FnS) (j : Nat) (v : List Sp) (b : Bool) (w : World) (e : Ending) (w' : World) : Prop :=
  (∃ x, e = .returned x) ∧ ∃ R' C' F' b', ST w' T SB m R' C' F' b' ∧ ComeR n m F j v F' b b' ∧ FrS T SB m R F w w' ∧ ∀ i, i < m → F' i ≠ [] → (F i ≠ [] ∧ R' i = R i) ∨ w.heap.size ≤ R' i
set_option maxHeartbeats 8000000 in
theorem come_new (n T SB m : Nat) (h1 : 1 ≤ n) (h8 : n ≤ 8) (R C : Nat → Nat) (F : FnS) (b : Bool) (j G off : Nat) (v : List Sp) (capv : Nat) (w : World) (h : ST w T SB m R C F b) (hF : RowsS n m F) (hj : j < m) (hv : RdS w (some ⟨G, off, none⟩) v) (hn : v.length = n) (ho : ∀ s ∈ v, spOk s) (h0 : F j = []) :
    Calls Try.prog 62 #[.pointer (some ⟨T, 0, none⟩), .int .i64 (j : Nat), .slice (some ⟨G, off, none⟩) n capv] w (ComeE n T SB m R F j v b w) := by
  have HC := Lib.hid (fun w' hA => cloneS_calls (some ⟨G, off, none⟩) v capv w' hA (by omega) (by omega))
  rw [hn] at HC
  have HN := Lib.hid (ComeR.new (b := b) hF hj h0 hn h1 h8 ho)
  have hvn : v ≠ [] := by intro e; rw [e] at hn; simp at hn; omega
  have HV := Lib.hid hv
  have HS := Lib.hid h
  have c0 := h.c0
  have cS := h.cS hj
  rw [rvS_nil h0] at cS
  have hT := h.ltT
  have hS := h.ltS
  have hmm : ((j : Nat) : Int) < ((m : Nat) : Int) := by omega
  have q22 : ∀ (w : World) (a : Option Addr) (n c n' c' : Nat), (binOp .eql 60 (.slice a n c) (.slice none n' c')).run Try.prog w = .ok (.bool a.isNone) w := fun w a n c n' c' => Lib.run_eql_slice_nil w _ _ a n c n' c' Try.underlying60
  have Hk0 : Hid (w.drew.cell? ⟨T, 0, none⟩ = some (.slice (some ⟨SB, 0, none⟩) m m) ∧ T < w.drew.heap.size) := Lib.hid ⟨h.c0, hT⟩
  have HVd := Lib.hid (show RdS w.drew (some ⟨G, off, none⟩) v from hv.drewN 1)
  have Hwb : Hid (∀ w9, Below w.drew.heap.size w.drew w9 → w9.cell? ⟨T, 0, none⟩ = some (.slice (some ⟨SB, 0, none⟩) m m) ∧ T < w9.heap.size) := Lib.hid (fun w9 hb => ⟨(hb.cell (p := ⟨T, 0, none⟩) hT).trans h.c0, Nat.lt_of_lt_of_le hT hb.size⟩)
  have hts := h.neTS
  have Hks : Hid (∀ (w' : World) (u : Value), w'.cell? ⟨T, 0, none⟩ = some (.slice (some ⟨SB, 0, none⟩) m m) ∧ T < w'.heap.size → (w'.setCell ⟨SB, j, none⟩ u).cell? ⟨T, 0, none⟩ = some (.slice (some ⟨SB, 0, none⟩) m m) ∧ T < (w'.setCell ⟨SB, j, none⟩ u).heap.size) := Lib.hid (fun w' u hs => ⟨(World.cell?_setCell_far _ _ _ _ (by exact fun e => hts e.symm)).trans hs.1, by have := hs.2; simp [World.setCell]; exact this⟩)
  have Hkt : Hid (∀ (w' : World) (u : Value), w'.cell? ⟨T, 0, none⟩ = some (.slice (some ⟨SB, 0, none⟩) m m) ∧ T < w'.heap.size → (w'.setCell ⟨T, 1, none⟩ u).cell? ⟨T, 0, none⟩ = some (.slice (some ⟨SB, 0, none⟩) m m) ∧ T < (w'.setCell ⟨T, 1, none⟩ u).heap.size) := Lib.hid (fun w' u hs => ⟨(World.cell?_setCell_other _ ⟨T, 1, none⟩ ⟨T, 0, none⟩ u (by intro e; injection e with e1 e2; cases e2)).trans hs.1, by have := hs.2; simp [World.setCell]; exact this⟩)
  clear h hv hT hS hts
  go_enter Try.func62, Try.ntmps62
  go_wp2
  go_region_held3 (fun w' => w'.cell? ⟨T, 0, none⟩ = some (.slice (some ⟨SB, 0, none⟩) m m) ∧ T < w'.heap.size)
    (with_reducible first | exact Hk0.out | assumption | exact Hwb.out _ Hb9.out | exact Hks.out _ _ (by assumption) | exact Hkt.out _ _ (by assumption))
    ((with_reducible refine (HC.out _ HVd.out).mono ?_
      rintro e w9 ⟨u, rfl, hO, hb9⟩
      obtain ⟨A9, cap9, rfl, -⟩ := Own.form spCells_len hO
      rw [hn]
      obtain ⟨G9, rfl, hg9, -, -, -, -⟩ := OwnS.at2 hO (by omega)
      have HOr := Lib.hid (RowS.of_own hO)
      have HS9 := Lib.hid (ST.below HS.out.drew hb9)
      have Hb9 := Lib.hid hb9
      have hgw : w.heap.size ≤ G9 := hg9
      have cS9 := HS9.out.cS hj
      rw [rvS_nil h0] at cS9
      have fS9 := HS9.out.fS j
      have HP9 : Hid (ST (w9.setCell ⟨SB, j, none⟩ (.slice (some ⟨G9, 0, none⟩) n cap9)) T SB m (updN R j G9) (updN C j cap9) (updS F j v) b) := Lib.hid (by
        have := HS9.out.putS (c := cap9) hj HOr.out hvn (fun i hi hFi e => by have := HS.out.ltR hi hFi; omega)
        rw [hn] at this
        exact this)
      have c19 := HP9.out.c1
      have f19 := HP9.out.fT 1
      clear hO hb9 hg9 HOr))
  all_goals
    go_wp2
    go_end0
    refine ⟨⟨_, rfl⟩, _, _, _, true, HP9.out.setT true, HN.out, ((FrS.trans (FrS.drew FrS.refl) (FrS.of_below Hb9.out)).setS _ _).setT _ _, fun i hi hFi => ?_⟩
    by_cases e : i = j
    · exact .inr (by unfold updN; rw [if_pos e]; exact hgw)
    · refine .inl ⟨?_, by unfold updN; rw [if_neg e]⟩
      intro e2
      apply hFi
      unfold updS
      rw [if_neg e, e2]
set_option maxHeartbeats 8000000 in
theorem come_wide (n T SB m : Nat) (h1 : 1 ≤ n) (h8 : n ≤ 8) (R C : Nat → Nat) (F : FnS) (b : Bool) (j G off : Nat) (v : List Sp) (capv : Nat) (w : World) (h : ST w T SB m R C F b) (hF : RowsS n m F) (hj : j < m) (hv : RdS w (some ⟨G, off, none⟩) v) (hn : v.length = n) (ho : ∀ s ∈ v, spOk s)
    (hg : G ≠ T ∧ G ≠ SB ∧ ∀ i, i < m → F i ≠ [] → G ≠ R i) (h0 : F j ≠ []) :
    Calls Try.prog 62 #[.pointer (some ⟨T, 0, none⟩), .int .i64 (j : Nat), .slice (some ⟨G, off, none⟩) n capv] w (ComeE n T SB m R F j v b w) := by
  obtain ⟨k1, k2⟩ := (hF j hj).resolve_left h0
  have HN := Lib.hid (fun r b' => ComeR.wide (b := b) (b' := b') (r := r) hF hj h0 hn h1 ho)
  have HV := Lib.hid hv
  have HS := Lib.hid h
  have Ho := Lib.hid (fun i (hi : i < n) => spOk_at ho (by omega : i < v.length))
  have Hr0 := Lib.hid (fun i (hi : i < n) => spOk_at k2 (by omega : i < (F j).length))
  have HG := Lib.hid hg
  have hGl : G < w.heap.size := by obtain ⟨_, _, e, hl, _⟩ := hv (by omega); injection e with e; injection e with e1; omega
  have c0 := h.c0
  have cS := h.cS hj
  rw [rvS_row h0, k1] at cS
  have hT := h.ltT
  have hS := h.ltS
  have hmm : ((j : Nat) : Int) < ((m : Nat) : Int) := by omega
  have q22 : ∀ (w : World) (a : Option Addr) (n c n' c' : Nat), (binOp .eql 60 (.slice a n c) (.slice none n' c')).run Try.prog w = .ok (.bool a.isNone) w := fun w a n c n' c' => Lib.run_eql_slice_nil w _ _ a n c n' c' Try.underlying60
  clear h hv ho k2 hg
  go_enter Try.func62, Try.ntmps62
  go_wp2
  go_loopw [31] (fun i wr => ∃ (k : Nat) (r : List Sp) (b' : Bool), k ≤ n ∧ i = .int .i64 k ∧ Hid (ST wr T SB m R C (updS F j r) b') ∧ Hid (MidS v (F j) r k ∧ FlS (F j) r b b') ∧ Hid (FrS T SB m R F w wr)) (fun i _ => n - (intOf i).toNat)
  case atStart => exact ⟨0, F j, b, Nat.zero_le _, rfl, by rw [updS_self]; exact HS, Lib.hid ⟨MidS.start _ _, .inl ⟨rfl, rfl⟩⟩, Lib.hid FrS.refl⟩
  case round =>
    clear HS c0 cS hT hS
    obtain ⟨k, r, b', hk, rfl, HS, HM, HFr⟩ := hrel
    by_cases hlt : k < n
    · have q1 : ((k : Nat) : Int) < ((n : Nat) : Int) := by omega
      obtain ⟨b1, o1, e1, hb1, d1, d2⟩ := RdS.at2 (RdS.blk HV.out (HFr.out.block G hGl HG.out.1 HG.out.2.1 HG.out.2.2) HFr.out.size) (k := k) (by omega)
      injection e1 with e1; injection e1 with e1 e2
      subst e1 e2
      have hrl : r.length = n := by rw [HM.out.1.1, k1]
      have hrn : updS F j r j ≠ [] := by rw [updS_at]; intro e; rw [e] at hrl; simp at hrl; omega
      have hrow := HS.out.hR j hj hrn
      rw [updS_at] at hrow
      obtain ⟨d3, d4, fR⟩ := hrow.at2 (k := k) (by omega)
      have fR1 := fR (k * 2)
      have fR2 := fR (k * 2 + 1)
      rw [HM.out.1.at_ (by omega)] at d3 d4
      have c0 := HS.out.c0
      have c1 := HS.out.c1
      have fT := HS.out.fT 1
      have cS := HS.out.cS hj
      rw [rvS_row hrn, updS_at, hrl] at cS
      have hT := HS.out.ltT
      have hS := HS.out.ltS
      have hR := HS.out.ltR hj hrn
      have Hk := Ho.out k hlt
      have Hk0 := Hr0.out k hlt
      have Hpl : Hid ((hullS (gS v k) (gS (F j) k) = gS (F j) k → MidS v (F j) r (k + 1) ∧ FlS (F j) r b b') ∧ (hullS (gS v k) (gS (F j) k) ≠ gS (F j) k → MidS v (F j) (r.set k (hullS (gS v k) (gS (F j) k))) (k + 1) ∧ FlS (F j) (r.set k (hullS (gS v k) (gS (F j) k))) b true)) := Lib.hid ⟨fun e => ⟨HM.out.1.skip (by omega) e, HM.out.2⟩, fun e => ⟨HM.out.1.put (by omega), FlS.put HM.out.1 HM.out.2 (by omega) Hk Hk0 e⟩⟩
      clear hrow fR
      generalize gS v k = s at *
      generalize gS (F j) k = o at *
      obtain ⟨s1, s2⟩ := s
      obtain ⟨o1, o2⟩ := o
      dsimp only at d1 d2 d3 d4
      have HMp : Hid ((hullS (s1, s2) (o1, o2) = (o1, o2) → MidS v (F j) r (k + 1) ∧ FlS (F j) r b b') ∧ (hullS (s1, s2) (o1, o2) ≠ (o1, o2) → MidS v (F j) (r.set k (hullS (s1, s2) (o1, o2))) (k + 1) ∧ FlS (F j) (r.set k (hullS (s1, s2) (o1, o2))) b true)) := Hpl
      clear Hpl
      by_cases ha : s1 < o1
      · by_cases hb : o2 < s2
        · have he : hullS (s1, s2) (o1, o2) = (s1, s2) := by unfold hullS; dsimp only; congr 1 <;> omega
          have hne : hullS (s1, s2) (o1, o2) ≠ (o1, o2) := by rw [he]; intro e; injection e with e1 e2; omega
          have Hm2 := Lib.hid (HMp.out.2 hne)
          rw [he] at Hm2
          obtain ⟨w0, hw0⟩ : ∃ w0, w0 = ((wr.alloc (.cells #[.int .i64 s1, .int .i64 s2] 65)).alloc (.cells #[.int .i64 o1, .int .i64 o2] 65)).alloc (.cells #[.int .i64 s1, .int .i64 s2] 65) := ⟨_, rfl⟩
          obtain ⟨P, hP⟩ : ∃ P, P = wr.heap.size + 1 + 1 := ⟨_, rfl⟩
          have HS0 : Hid (ST w0 T SB m R C (updS F j r) b') := Lib.hid (by rw [hw0]; exact ((HS.out.alloc _).alloc _).alloc _)
          have HF0 : Hid (FrS T SB m R F w w0) := Lib.hid (by rw [hw0]; exact ((HFr.out.alloc _).alloc _).alloc _)
          have hPz : ((wr.alloc (.cells #[.int .i64 s1, .int .i64 s2] 65)).alloc (.cells #[.int .i64 o1, .int .i64 o2] 65)).heap.size = P := by rw [hP]; simp
          have hn0 : w0.cell? ⟨P, 0, none⟩ = some (.int .i64 s1) := by rw [hw0]; exact cell_new _ _ _ P hPz 0
          have hn1 : w0.cell? ⟨P, 1, none⟩ = some (.int .i64 s2) := by rw [hw0]; exact cell_new _ _ _ P hPz 1
          have hTP : T ≠ P := by omega
          have hSP : SB ≠ P := by omega
          have hRP : R j ≠ P := by omega
          have hTS := HS.out.neTS
          have hTR := HS.out.neTR hj hrn
          have hSR := HS.out.neSR hj hrn
          have e0 := HS0.out.c0
          have e1 := HS0.out.c1
          have e2 := HS0.out.cS hj
          rw [rvS_row hrn, updS_at, hrl] at e2
          have hrow := HS0.out.hR j hj hrn
          rw [updS_at] at hrow
          obtain ⟨e3, e4, fR⟩ := hrow.at2 (k := k) (by omega)
          have f3 := fR (k * 2)
          have f4 := fR (k * 2 + 1)
          have f1 := HS0.out.fT 1
          have HW1 : Hid (ST ((w0.setCell ⟨R j, k * 2, none⟩ (.int .i64 s1)).setCell ⟨R j, k * 2 + 1, none⟩ (.int .i64 s2)) T SB m R C (updS F j (r.set k (s1, s2))) b') := Lib.hid (by
            have := HS0.out.setR (j := j) (k := k) hj (by rw [updS_at]; omega) (s1, s2)
            rw [updS_at, updS_upd] at this
            exact this)
          have g1 := HW1.out.c1
          have g2 := HW1.out.fT 1
          have HW2 : Hid (ST (((w0.setCell ⟨R j, k * 2, none⟩ (.int .i64 s1)).setCell ⟨R j, k * 2 + 1, none⟩ (.int .i64 s2)).setCell ⟨T, 1, none⟩ (.bool true)) T SB m R C (updS F j (r.set k (s1, s2))) true) := Lib.hid (HW1.out.setT true)
          have HF2 : Hid (FrS T SB m R F w (((w0.setCell ⟨R j, k * 2, none⟩ (.int .i64 s1)).setCell ⟨R j, k * 2 + 1, none⟩ (.int .i64 s2)).setCell ⟨T, 1, none⟩ (.bool true))) := Lib.hid (((HF0.out.setR hj h0 _ _).setR hj h0 _ _).setT _ _)
          have hx1 : ((w0.setCell ⟨R j, k * 2, none⟩ (.int .i64 s1)).setCell ⟨R j, k * 2 + 1, none⟩ (.int .i64 s2)).cell? ⟨P, 0, none⟩ = some (.int .i64 s1) ∧ ((w0.setCell ⟨R j, k * 2, none⟩ (.int .i64 s1)).setCell ⟨R j, k * 2 + 1, none⟩ (.int .i64 s2)).cell? ⟨P, 1, none⟩ = some (.int .i64 s2) := by
            rw [World.cell?_setCell_far _ _ _ _ (by exact hRP), World.cell?_setCell_far _ _ _ _ (by exact hRP), World.cell?_setCell_far _ _ _ _ (by exact hRP), World.cell?_setCell_far _ _ _ _ (by exact hRP)]
            exact ⟨hn0, hn1⟩
          have hrn2 : updS F j (r.set k (s1, s2)) j ≠ [] := by rw [updS_at]; intro e; have := congrArg List.length e; rw [List.length_set, hrl, List.length_nil] at this; omega
          have z1 := HW1.out.cS hj
          rw [rvS_row hrn2, updS_at, List.length_set, hrl] at z1
          have z2 := HW2.out.cS hj
          rw [rvS_row hrn2, updS_at, List.length_set, hrl] at z2
          have HK0 : Hid (w0.drew.cell? ⟨T, 0, none⟩ = some (.slice (some ⟨SB, 0, none⟩) m m) ∧ w0.drew.cell? ⟨SB, j, none⟩ = some (.slice (some ⟨R j, 0, none⟩) n (C j)) ∧ w0.drew.cell? ⟨P, 0, none⟩ = some (.int .i64 s1) ∧ w0.drew.cell? ⟨P, 1, none⟩ = some (.int .i64 s2)) := Lib.hid ⟨e0, e2, hn0, hn1⟩
          have HK1 : Hid (((w0.setCell ⟨R j, k * 2, none⟩ (.int .i64 s1)).setCell ⟨R j, k * 2 + 1, none⟩ (.int .i64 s2)).drew.cell? ⟨T, 0, none⟩ = some (.slice (some ⟨SB, 0, none⟩) m m) ∧ ((w0.setCell ⟨R j, k * 2, none⟩ (.int .i64 s1)).setCell ⟨R j, k * 2 + 1, none⟩ (.int .i64 s2)).drew.cell? ⟨SB, j, none⟩ = some (.slice (some ⟨R j, 0, none⟩) n (C j)) ∧ ((w0.setCell ⟨R j, k * 2, none⟩ (.int .i64 s1)).setCell ⟨R j, k * 2 + 1, none⟩ (.int .i64 s2)).drew.cell? ⟨P, 0, none⟩ = some (.int .i64 s1) ∧ ((w0.setCell ⟨R j, k * 2, none⟩ (.int .i64 s1)).setCell ⟨R j, k * 2 + 1, none⟩ (.int .i64 s2)).drew.cell? ⟨P, 1, none⟩ = some (.int .i64 s2)) := Lib.hid ⟨HW1.out.c0, z1, hx1.1, hx1.2⟩
          have HK2 : Hid ((((w0.setCell ⟨R j, k * 2, none⟩ (.int .i64 s1)).setCell ⟨R j, k * 2 + 1, none⟩ (.int .i64 s2)).setCell ⟨T, 1, none⟩ (.bool true)).drew.cell? ⟨T, 0, none⟩ = some (.slice (some ⟨SB, 0, none⟩) m m) ∧ (((w0.setCell ⟨R j, k * 2, none⟩ (.int .i64 s1)).setCell ⟨R j, k * 2 + 1, none⟩ (.int .i64 s2)).setCell ⟨T, 1, none⟩ (.bool true)).drew.cell? ⟨SB, j, none⟩ = some (.slice (some ⟨R j, 0, none⟩) n (C j)) ∧ (((w0.setCell ⟨R j, k * 2, none⟩ (.int .i64 s1)).setCell ⟨R j, k * 2 + 1, none⟩ (.int .i64 s2)).setCell ⟨T, 1, none⟩ (.bool true)).drew.cell? ⟨P, 0, none⟩ = some (.int .i64 s1) ∧ (((w0.setCell ⟨R j, k * 2, none⟩ (.int .i64 s1)).setCell ⟨R j, k * 2 + 1, none⟩ (.int .i64 s2)).setCell ⟨T, 1, none⟩ (.bool true)).drew.cell? ⟨P, 1, none⟩ = some (.int .i64 s2)) := Lib.hid ⟨HW2.out.c0, z2, (World.cell?_setCell_far _ _ _ _ (by exact hTP)).trans hx1.1, (World.cell?_setCell_far _ _ _ _ (by exact hTP)).trans hx1.2⟩
          have HPh := Lib.hid hP
          have HWh := Lib.hid hw0
          clear hP hw0 hPz hrow fR z1 z2 hx1 HW1 HS0 HF0 he hne HMp
          go_wp2
          rw [← HPh.out, ← HWh.out]
          go_region_held3 (fun w' => w'.cell? ⟨T, 0, none⟩ = some (.slice (some ⟨SB, 0, none⟩) m m) ∧ w'.cell? ⟨SB, j, none⟩ = some (.slice (some ⟨R j, 0, none⟩) n (C j)) ∧ w'.cell? ⟨P, 0, none⟩ = some (.int .i64 s1) ∧ w'.cell? ⟨P, 1, none⟩ = some (.int .i64 s2))
            (with_reducible first | exact HK0.out | exact HK1.out | exact HK2.out | assumption)
            (fail)
          all_goals
            go_wp2
            go_roundw
            case rel => exact ⟨k + 1, _, true, by omega, by go_num, Lib.hid HW2.out.drew, Hm2, Lib.hid HF2.out.drew⟩
            case measure => simp [intOf]; omega
        · have hb' : s2 ≤ o2 := by omega
          have he : hullS (s1, s2) (o1, o2) = (s1, o2) := by unfold hullS; dsimp only; congr 1 <;> omega
          have hne : hullS (s1, s2) (o1, o2) ≠ (o1, o2) := by rw [he]; intro e; injection e with e1 e2; omega
          have Hm2 := Lib.hid (HMp.out.2 hne)
          rw [he] at Hm2
          obtain ⟨w0, hw0⟩ : ∃ w0, w0 = ((wr.alloc (.cells #[.int .i64 s1, .int .i64 s2] 65)).alloc (.cells #[.int .i64 o1, .int .i64 o2] 65)).alloc (.cells #[.int .i64 s1, .int .i64 o2] 65) := ⟨_, rfl⟩
          obtain ⟨P, hP⟩ : ∃ P, P = wr.heap.size + 1 + 1 := ⟨_, rfl⟩
          have HS0 : Hid (ST w0 T SB m R C (updS F j r) b') := Lib.hid (by rw [hw0]; exact ((HS.out.alloc _).alloc _).alloc _)
          have HF0 : Hid (FrS T SB m R F w w0) := Lib.hid (by rw [hw0]; exact ((HFr.out.alloc _).alloc _).alloc _)
          have hPz : ((wr.alloc (.cells #[.int .i64 s1, .int .i64 s2] 65)).alloc (.cells #[.int .i64 o1, .int .i64 o2] 65)).heap.size = P := by rw [hP]; simp
          have hn0 : w0.cell? ⟨P, 0, none⟩ = some (.int .i64 s1) := by rw [hw0]; exact cell_new _ _ _ P hPz 0
          have hn1 : w0.cell? ⟨P, 1, none⟩ = some (.int .i64 o2) := by rw [hw0]; exact cell_new _ _ _ P hPz 1
          have hTP : T ≠ P := by omega
          have hSP : SB ≠ P := by omega
          have hRP : R j ≠ P := by omega
          have hTS := HS.out.neTS
          have hTR := HS.out.neTR hj hrn
          have hSR := HS.out.neSR hj hrn
          have e0 := HS0.out.c0
          have e1 := HS0.out.c1
          have e2 := HS0.out.cS hj
          rw [rvS_row hrn, updS_at, hrl] at e2
          have hrow := HS0.out.hR j hj hrn
          rw [updS_at] at hrow
          obtain ⟨e3, e4, fR⟩ := hrow.at2 (k := k) (by omega)
          have f3 := fR (k * 2)
          have f4 := fR (k * 2 + 1)
          have f1 := HS0.out.fT 1
          have HW1 : Hid (ST ((w0.setCell ⟨R j, k * 2, none⟩ (.int .i64 s1)).setCell ⟨R j, k * 2 + 1, none⟩ (.int .i64 o2)) T SB m R C (updS F j (r.set k (s1, o2))) b') := Lib.hid (by
            have := HS0.out.setR (j := j) (k := k) hj (by rw [updS_at]; omega) (s1, o2)
            rw [updS_at, updS_upd] at this
            exact this)
          have g1 := HW1.out.c1
          have g2 := HW1.out.fT 1
          have HW2 : Hid (ST (((w0.setCell ⟨R j, k * 2, none⟩ (.int .i64 s1)).setCell ⟨R j, k * 2 + 1, none⟩ (.int .i64 o2)).setCell ⟨T, 1, none⟩ (.bool true)) T SB m R C (updS F j (r.set k (s1, o2))) true) := Lib.hid (HW1.out.setT true)
          have HF2 : Hid (FrS T SB m R F w (((w0.setCell ⟨R j, k * 2, none⟩ (.int .i64 s1)).setCell ⟨R j, k * 2 + 1, none⟩ (.int .i64 o2)).setCell ⟨T, 1, none⟩ (.bool true))) := Lib.hid (((HF0.out.setR hj h0 _ _).setR hj h0 _ _).setT _ _)
          have hx1 : ((w0.setCell ⟨R j, k * 2, none⟩ (.int .i64 s1)).setCell ⟨R j, k * 2 + 1, none⟩ (.int .i64 o2)).cell? ⟨P, 0, none⟩ = some (.int .i64 s1) ∧ ((w0.setCell ⟨R j, k * 2, none⟩ (.int .i64 s1)).setCell ⟨R j, k * 2 + 1, none⟩ (.int .i64 o2)).cell? ⟨P, 1, none⟩ = some (.int .i64 o2) := by
            rw [World.cell?_setCell_far _ _ _ _ (by exact hRP), World.cell?_setCell_far _ _ _ _ (by exact hRP), World.cell?_setCell_far _ _ _ _ (by exact hRP), World.cell?_setCell_far _ _ _ _ (by exact hRP)]
            exact ⟨hn0, hn1⟩
          have hrn2 : updS F j (r.set k (s1, o2)) j ≠ [] := by rw [updS_at]; intro e; have := congrArg List.length e; rw [List.length_set, hrl, List.length_nil] at this; omega
          have z1 := HW1.out.cS hj
          rw [rvS_row hrn2, updS_at, List.length_set, hrl] at z1
          have z2 := HW2.out.cS hj
          rw [rvS_row hrn2, updS_at, List.length_set, hrl] at z2
          have HK0 : Hid (w0.drew.cell? ⟨T, 0, none⟩ = some (.slice (some ⟨SB, 0, none⟩) m m) ∧ w0.drew.cell? ⟨SB, j, none⟩ = some (.slice (some ⟨R j, 0, none⟩) n (C j)) ∧ w0.drew.cell? ⟨P, 0, none⟩ = some (.int .i64 s1) ∧ w0.drew.cell? ⟨P, 1, none⟩ = some (.int .i64 o2)) := Lib.hid ⟨e0, e2, hn0, hn1⟩
          have HK1 : Hid (((w0.setCell ⟨R j, k * 2, none⟩ (.int .i64 s1)).setCell ⟨R j, k * 2 + 1, none⟩ (.int .i64 o2)).drew.cell? ⟨T, 0, none⟩ = some (.slice (some ⟨SB, 0, none⟩) m m) ∧ ((w0.setCell ⟨R j, k * 2, none⟩ (.int .i64 s1)).setCell ⟨R j, k * 2 + 1, none⟩ (.int .i64 o2)).drew.cell? ⟨SB, j, none⟩ = some (.slice (some ⟨R j, 0, none⟩) n (C j)) ∧ ((w0.setCell ⟨R j, k * 2, none⟩ (.int .i64 s1)).setCell ⟨R j, k * 2 + 1, none⟩ (.int .i64 o2)).drew.cell? ⟨P, 0, none⟩ = some (.int .i64 s1) ∧ ((w0.setCell ⟨R j, k * 2, none⟩ (.int .i64 s1)).setCell ⟨R j, k * 2 + 1, none⟩ (.int .i64 o2)).drew.cell? ⟨P, 1, none⟩ = some (.int .i64 o2)) := Lib.hid ⟨HW1.out.c0, z1, hx1.1, hx1.2⟩
          have HK2 : Hid ((((w0.setCell ⟨R j, k * 2, none⟩ (.int .i64 s1)).setCell ⟨R j, k * 2 + 1, none⟩ (.int .i64 o2)).setCell ⟨T, 1, none⟩ (.bool true)).drew.cell? ⟨T, 0, none⟩ = some (.slice (some ⟨SB, 0, none⟩) m m) ∧ (((w0.setCell ⟨R j, k * 2, none⟩ (.int .i64 s1)).setCell ⟨R j, k * 2 + 1, none⟩ (.int .i64 o2)).setCell ⟨T, 1, none⟩ (.bool true)).drew.cell? ⟨SB, j, none⟩ = some (.slice (some ⟨R j, 0, none⟩) n (C j)) ∧ (((w0.setCell ⟨R j, k * 2, none⟩ (.int .i64 s1)).setCell ⟨R j, k * 2 + 1, none⟩ (.int .i64 o2)).setCell ⟨T, 1, none⟩ (.bool true)).drew.cell? ⟨P, 0, none⟩ = some (.int .i64 s1) ∧ (((w0.setCell ⟨R j, k * 2, none⟩ (.int .i64 s1)).setCell ⟨R j, k * 2 + 1, none⟩ (.int .i64 o2)).setCell ⟨T, 1, none⟩ (.bool true)).drew.cell? ⟨P, 1, none⟩ = some (.int .i64 o2)) := Lib.hid ⟨HW2.out.c0, z2, (World.cell?_setCell_far _ _ _ _ (by exact hTP)).trans hx1.1, (World.cell?_setCell_far _ _ _ _ (by exact hTP)).trans hx1.2⟩
          have HPh := Lib.hid hP
          have HWh := Lib.hid hw0
          clear hP hw0 hPz hrow fR z1 z2 hx1 HW1 HS0 HF0 he hne HMp
          go_wp2
          rw [← HPh.out, ← HWh.out]
          go_region_held3 (fun w' => w'.cell? ⟨T, 0, none⟩ = some (.slice (some ⟨SB, 0, none⟩) m m) ∧ w'.cell? ⟨SB, j, none⟩ = some (.slice (some ⟨R j, 0, none⟩) n (C j)) ∧ w'.cell? ⟨P, 0, none⟩ = some (.int .i64 s1) ∧ w'.cell? ⟨P, 1, none⟩ = some (.int .i64 o2))
            (with_reducible first | exact HK0.out | exact HK1.out | exact HK2.out | assumption)
            (fail)
          all_goals
            go_wp2
            go_roundw
            case rel => exact ⟨k + 1, _, true, by omega, by go_num, Lib.hid HW2.out.drew, Hm2, Lib.hid HF2.out.drew⟩
            case measure => simp [intOf]; omega
      · have ha' : o1 ≤ s1 := by omega
        by_cases hb : o2 < s2
        · have he : hullS (s1, s2) (o1, o2) = (o1, s2) := by unfold hullS; dsimp only; congr 1 <;> omega
          have hne : hullS (s1, s2) (o1, o2) ≠ (o1, o2) := by rw [he]; intro e; injection e with e1 e2; omega
          have Hm2 := Lib.hid (HMp.out.2 hne)
          rw [he] at Hm2
          obtain ⟨w0, hw0⟩ : ∃ w0, w0 = ((wr.alloc (.cells #[.int .i64 s1, .int .i64 s2] 65)).alloc (.cells #[.int .i64 o1, .int .i64 o2] 65)).alloc (.cells #[.int .i64 o1, .int .i64 s2] 65) := ⟨_, rfl⟩
          obtain ⟨P, hP⟩ : ∃ P, P = wr.heap.size + 1 + 1 := ⟨_, rfl⟩
          have HS0 : Hid (ST w0 T SB m R C (updS F j r) b') := Lib.hid (by rw [hw0]; exact ((HS.out.alloc _).alloc _).alloc _)
          have HF0 : Hid (FrS T SB m R F w w0) := Lib.hid (by rw [hw0]; exact ((HFr.out.alloc _).alloc _).alloc _)
          have hPz : ((wr.alloc (.cells #[.int .i64 s1, .int .i64 s2] 65)).alloc (.cells #[.int .i64 o1, .int .i64 o2] 65)).heap.size = P := by rw [hP]; simp
          have hn0 : w0.cell? ⟨P, 0, none⟩ = some (.int .i64 o1) := by rw [hw0]; exact cell_new _ _ _ P hPz 0
          have hn1 : w0.cell? ⟨P, 1, none⟩ = some (.int .i64 s2) := by rw [hw0]; exact cell_new _ _ _ P hPz 1
          have hTP : T ≠ P := by omega
          have hSP : SB ≠ P := by omega
          have hRP : R j ≠ P := by omega
          have hTS := HS.out.neTS
          have hTR := HS.out.neTR hj hrn
          have hSR := HS.out.neSR hj hrn
          have e0 := HS0.out.c0
          have e1 := HS0.out.c1
          have e2 := HS0.out.cS hj
          rw [rvS_row hrn, updS_at, hrl] at e2
          have hrow := HS0.out.hR j hj hrn
          rw [updS_at] at hrow
          obtain ⟨e3, e4, fR⟩ := hrow.at2 (k := k) (by omega)
          have f3 := fR (k * 2)
          have f4 := fR (k * 2 + 1)
          have f1 := HS0.out.fT 1
          have HW1 : Hid (ST ((w0.setCell ⟨R j, k * 2, none⟩ (.int .i64 o1)).setCell ⟨R j, k * 2 + 1, none⟩ (.int .i64 s2)) T SB m R C (updS F j (r.set k (o1, s2))) b') := Lib.hid (by
            have := HS0.out.setR (j := j) (k := k) hj (by rw [updS_at]; omega) (o1, s2)
            rw [updS_at, updS_upd] at this
            exact this)
          have g1 := HW1.out.c1
          have g2 := HW1.out.fT 1
          have HW2 : Hid (ST (((w0.setCell ⟨R j, k * 2, none⟩ (.int .i64 o1)).setCell ⟨R j, k * 2 + 1, none⟩ (.int .i64 s2)).setCell ⟨T, 1, none⟩ (.bool true)) T SB m R C (updS F j (r.set k (o1, s2))) true) := Lib.hid (HW1.out.setT true)
          have HF2 : Hid (FrS T SB m R F w (((w0.setCell ⟨R j, k * 2, none⟩ (.int .i64 o1)).setCell ⟨R j, k * 2 + 1, none⟩ (.int .i64 s2)).setCell ⟨T, 1, none⟩ (.bool true))) := Lib.hid (((HF0.out.setR hj h0 _ _).setR hj h0 _ _).setT _ _)
          have hx1 : ((w0.setCell ⟨R j, k * 2, none⟩ (.int .i64 o1)).setCell ⟨R j, k * 2 + 1, none⟩ (.int .i64 s2)).cell? ⟨P, 0, none⟩ = some (.int .i64 o1) ∧ ((w0.setCell ⟨R j, k * 2, none⟩ (.int .i64 o1)).setCell ⟨R j, k * 2 + 1, none⟩ (.int .i64 s2)).cell? ⟨P, 1, none⟩ = some (.int .i64 s2) := by
            rw [World.cell?_setCell_far _ _ _ _ (by exact hRP), World.cell?_setCell_far _ _ _ _ (by exact hRP), World.cell?_setCell_far _ _ _ _ (by exact hRP), World.cell?_setCell_far _ _ _ _ (by exact hRP)]
            exact ⟨hn0, hn1⟩
          have hrn2 : updS F j (r.set k (o1, s2)) j ≠ [] := by rw [updS_at]; intro e; have := congrArg List.length e; rw [List.length_set, hrl, List.length_nil] at this; omega
          have z1 := HW1.out.cS hj
          rw [rvS_row hrn2, updS_at, List.length_set, hrl] at z1
          have z2 := HW2.out.cS hj
          rw [rvS_row hrn2, updS_at, List.length_set, hrl] at z2
          have HK0 : Hid (w0.drew.cell? ⟨T, 0, none⟩ = some (.slice (some ⟨SB, 0, none⟩) m m) ∧ w0.drew.cell? ⟨SB, j, none⟩ = some (.slice (some ⟨R j, 0, none⟩) n (C j)) ∧ w0.drew.cell? ⟨P, 0, none⟩ = some (.int .i64 o1) ∧ w0.drew.cell? ⟨P, 1, none⟩ = some (.int .i64 s2)) := Lib.hid ⟨e0, e2, hn0, hn1⟩
          have HK1 : Hid (((w0.setCell ⟨R j, k * 2, none⟩ (.int .i64 o1)).setCell ⟨R j, k * 2 + 1, none⟩ (.int .i64 s2)).drew.cell? ⟨T, 0, none⟩ = some (.slice (some ⟨SB, 0, none⟩) m m) ∧ ((w0.setCell ⟨R j, k * 2, none⟩ (.int .i64 o1)).setCell ⟨R j, k * 2 + 1, none⟩ (.int .i64 s2)).drew.cell? ⟨SB, j, none⟩ = some (.slice (some ⟨R j, 0, none⟩) n (C j)) ∧ ((w0.setCell ⟨R j, k * 2, none⟩ (.int .i64 o1)).setCell ⟨R j, k * 2 + 1, none⟩ (.int .i64 s2)).drew.cell? ⟨P, 0, none⟩ = some (.int .i64 o1) ∧ ((w0.setCell ⟨R j, k * 2, none⟩ (.int .i64 o1)).setCell ⟨R j, k * 2 + 1, none⟩ (.int .i64 s2)).drew.cell? ⟨P, 1, none⟩ = some (.int .i64 s2)) := Lib.hid ⟨HW1.out.c0, z1, hx1.1, hx1.2⟩
          have HK2 : Hid ((((w0.setCell ⟨R j, k * 2, none⟩ (.int .i64 o1)).setCell ⟨R j, k * 2 + 1, none⟩ (.int .i64 s2)).setCell ⟨T, 1, none⟩ (.bool true)).drew.cell? ⟨T, 0, none⟩ = some (.slice (some ⟨SB, 0, none⟩) m m) ∧ (((w0.setCell ⟨R j, k * 2, none⟩ (.int .i64 o1)).setCell ⟨R j, k * 2 + 1, none⟩ (.int .i64 s2)).setCell ⟨T, 1, none⟩ (.bool true)).drew.cell? ⟨SB, j, none⟩ = some (.slice (some ⟨R j, 0, none⟩) n (C j)) ∧ (((w0.setCell ⟨R j, k * 2, none⟩ (.int .i64 o1)).setCell ⟨R j, k * 2 + 1, none⟩ (.int .i64 s2)).setCell ⟨T, 1, none⟩ (.bool true)).drew.cell? ⟨P, 0, none⟩ = some (.int .i64 o1) ∧ (((w0.setCell ⟨R j, k * 2, none⟩ (.int .i64 o1)).setCell ⟨R j, k * 2 + 1, none⟩ (.int .i64 s2)).setCell ⟨T, 1, none⟩ (.bool true)).drew.cell? ⟨P, 1, none⟩ = some (.int .i64 s2)) := Lib.hid ⟨HW2.out.c0, z2, (World.cell?_setCell_far _ _ _ _ (by exact hTP)).trans hx1.1, (World.cell?_setCell_far _ _ _ _ (by exact hTP)).trans hx1.2⟩
          have HPh := Lib.hid hP
          have HWh := Lib.hid hw0
          clear hP hw0 hPz hrow fR z1 z2 hx1 HW1 HS0 HF0 he hne HMp
          go_wp2
          rw [← HPh.out, ← HWh.out]
          go_region_held3 (fun w' => w'.cell? ⟨T, 0, none⟩ = some (.slice (some ⟨SB, 0, none⟩) m m) ∧ w'.cell? ⟨SB, j, none⟩ = some (.slice (some ⟨R j, 0, none⟩) n (C j)) ∧ w'.cell? ⟨P, 0, none⟩ = some (.int .i64 o1) ∧ w'.cell? ⟨P, 1, none⟩ = some (.int .i64 s2))
            (with_reducible first | exact HK0.out | exact HK1.out | exact HK2.out | assumption)
            (fail)
          all_goals
            go_wp2
            go_roundw
            case rel => exact ⟨k + 1, _, true, by omega, by go_num, Lib.hid HW2.out.drew, Hm2, Lib.hid HF2.out.drew⟩
            case measure => simp [intOf]; omega
        · have hb' : s2 ≤ o2 := by omega
          have he : hullS (s1, s2) (o1, o2) = (o1, o2) := by unfold hullS; dsimp only; congr 1 <;> omega
          have Hm2 := Lib.hid (HMp.out.1 he)
          clear he HMp
          go_wp2
          go_roundw
          case rel => exact ⟨k + 1, r, b', by omega, by go_num, Lib.hid (((HS.out.alloc _).alloc _).alloc _), Hm2, Lib.hid (((HFr.out.alloc _).alloc _).alloc _)⟩
          case measure => simp [intOf]; omega
    · have hke : k = n := by omega
      subst hke
      have Hend := Lib.hid (HN.out r b' (by rw [k1]; exact HM.out.1) HM.out.2)
      go_wp2
      go_end0
      refine ⟨⟨_, rfl⟩, R, C, _, b', HS.out, Hend.out, HFr.out, fun i hi hFi => .inl ⟨?_, rfl⟩⟩
      intro e
      unfold updS at hFi
      by_cases e2 : i = j
      · rw [e2] at e; exact h0 e
      · rw [if_neg e2] at hFi; exact hFi e
theorem come_calls (n T SB m : Nat) (h1 : 1 ≤ n) (h8 : n ≤ 8) (R C : Nat → Nat) (F : FnS) (b : Bool) (j G off : Nat) (v : List Sp) (capv : Nat) (w : World) (h : ST w T SB m R C F b) (hF : RowsS n m F) (hj : j < m) (hv : RdS w (some ⟨G, off, none⟩) v) (hn : v.length = n) (ho : ∀ s ∈ v, spOk s)
    (hg : G ≠ T ∧ G ≠ SB ∧ ∀ i, i < m → F i ≠ [] → G ≠ R i) :
    Calls Try.prog 62 #[.pointer (some ⟨T, 0, none⟩), .int .i64 (j : Nat), .slice (some ⟨G, off, none⟩) n capv] w (ComeE n T SB m R F j v b w) := by
  by_cases h0 : F j = []
  · exact come_new n T SB m h1 h8 R C F b j G off v capv w h hF hj hv hn ho h0
  · exact come_wide n T SB m h1 h8 R C F b j G off v capv w h hF hj hv hn ho hg h0
end Go.Proofs.Ytadmmciiahdmcaa
