/- swap.build walked (written by swapbuild.py). -/
import Derived.Test.YtiphhadhbokgmaaSwapS
import Derived.Deep.RegionHeld3
import Derived.Deep.CutRange
import Derived.Deep.DeepCutAuto
import Derived.StillTailTactics
import Derived.BigGuardPart
namespace Go.Proofs.Ytiphhadhbokgmaa
open Go.RowKit

def mkG (n : Nat) (F : Nat → Nat) : List Nat := (List.range n).map F
theorem mkG_len (n : Nat) (F : Nat → Nat) : (mkG n F).length = n := by simp [mkG]
theorem gN_mk {n : Nat} {F : Nat → Nat} {r : Nat} (h : r < n) : gN (mkG n F) r = F r := by
  rw [gN_get (by rw [mkG_len]; exact h)]; simp [mkG]
def fL (n : Nat) (l : List Mv) : List Nat := mkG n fun r => (mfK l (r : Int)).toNat
theorem mfK_snoc {a : List Mv} {m : Mv} {r : Int} (h : ∀ x ∈ a, x.to ≠ m.to) : mfK (a ++ [m]) r = if r = m.to then m.from_ else mfK a r := by
  induction a with
  | nil =>
    show (if m.to = r then m.from_ else r) = _
    by_cases e : m.to = r
    · rw [if_pos e, if_pos e.symm]
    · rw [if_neg e, if_neg (fun h => e h.symm)]; rfl
  | cons x t ih =>
    show (if x.to = r then x.from_ else mfK (t ++ [m]) r) = if r = m.to then m.from_ else if x.to = r then x.from_ else mfK t r
    rw [ih fun y hy => h y (by simp [hy])]
    have hx := h x (by simp)
    by_cases e : x.to = r
    · rw [if_pos e, if_neg (fun h2 => hx (e.trans h2)), if_pos e]
    · rw [if_neg e, if_neg e]
theorem mfK_in {n : Nat} {l : List Mv} (h : ∀ m ∈ l, (0 ≤ m.to ∧ m.to < n) ∧ 0 ≤ m.from_ ∧ m.from_ < n) {r : Int} (hr : 0 ≤ r ∧ r < n) : 0 ≤ mfK l r ∧ mfK l r < n := by
  induction l with
  | nil => exact hr
  | cons x t ih =>
    show 0 ≤ (if x.to = r then x.from_ else mfK t r) ∧ (if x.to = r then x.from_ else mfK t r) < _
    by_cases e : x.to = r
    · rw [if_pos e]; exact (h x (by simp)).2
    · rw [if_neg e]; exact ih fun m hm => h m (by simp [hm])
theorem fL_ran {n : Nat} {l : List Mv} (h : MvOk n l) : Ran (fL n l) n := ⟨mkG_len _ _, fun i hi => by
  unfold fL
  rw [gN_mk hi]
  have := mfK_in h.ins (r := (i : Int)) (by omega)
  omega⟩
theorem fL_at {n : Nat} {l : List Mv} (h : MvOk n l) {r : Nat} (hr : r < n) : ((gN (fL n l) r : Nat) : Int) = mfK l r := by
  unfold fL
  rw [gN_mk hr]
  have := mfK_in h.ins (r := (r : Int)) (by omega)
  omega
def gvB (l : List Mv) (k r : Nat) : Bool := (l.take k).any fun m => decide (m.to = (r : Int))
def BuE (n : Int) (l : List Mv) (w : World) (e : Ending) (w' : World) : Prop :=
  (mvErr n l ≠ 0 ∧ e = .returned (.tuple #[.pointer none, .int .i64 (mvErr n l)]) ∧ Below w.heap.size w w') ∨
  (mvErr n l = 0 ∧ ∃ P gf gn, e = .returned (.tuple #[.pointer (some ⟨P, 0, none⟩), .int .i64 0]) ∧ SwS w' w.heap.size P gf gn n.toNat (fL n.toNat l) (fun r => ((cntG (fL n.toNat l) r n.toNat : Nat) : Int)) ∧ Below w.heap.size w w')
theorem cntG_succ_no {G : List Nat} {k : Nat} (h : gN G k = k) (r : Nat) : cntG G r (k + 1) = cntG G r k := by
  unfold cntG
  rw [show cntP (asks G r) (k + 1) = cntP (asks G r) k + if asks G r k then 1 else 0 from rfl, if_neg (by unfold asks; rw [h]; simp), Nat.add_zero]
theorem cntG_succ_yes {G : List Nat} {k f : Nat} (h : gN G k = f) (hne : f ≠ k) (r : Nat) : ((cntG G r (k + 1) : Nat) : Int) = if r = f then ((cntG G f k : Nat) : Int) + 1 else ((cntG G r k : Nat) : Int) := by
  unfold cntG
  rw [show cntP (asks G r) (k + 1) = cntP (asks G r) k + if asks G r k then 1 else 0 from rfl]
  unfold asks
  rw [h]
  by_cases e : r = f
  · subst e
    rw [if_pos rfl, if_pos (by simp; exact fun h => hne h.symm)]; push_cast; rfl
  · rw [if_neg e, if_neg (by simp; intro h; exact absurd h.symm e)]; rfl
set_option maxRecDepth 100000 in
set_option maxHeartbeats 16000000 in
theorem build_calls (n : Int) (A : Option Addr) (l : List Mv) (cap : Nat) (w : World) (hA : RdMv w A l) (hm : l.length ≤ maxLen) :
    Calls Try.prog 33 #[.int .i64 n, .slice A l.length cap] w (BuE n l w) := by
  unfold maxLen at hm
  have HA := Lib.hid hA
  clear hA
  by_cases h1 : n < 1 ∨ 8 < n ∨ 8 < l.length
  · have he : mvErr n l = 1 := by unfold mvErr; rw [if_pos h1]
    have He := Lib.hid he
    clear he
    go_enter Try.func33, Try.ntmps33
    go_wp2
    all_goals (try (exfalso; omega; done))
    all_goals (go_ret2; exact .inl ⟨by rw [He.out]; decide, by rw [He.out]; rfl, Below.refl _ _⟩)
  have H1 := Lib.hid h1
  have h8 : l.length ≤ 8 := by omega
  obtain ⟨m, rfl⟩ := Int.eq_ofNat_of_zero_le (show 0 ≤ n by omega)
  have n1 : 1 ≤ m := by omega
  have n8 : m ≤ 8 := by omega
  clear h1
  have HB0' : Hid (Below w.heap.size w w.drew) := Lib.hid (Below.refl _ _).drew
  go_enter Try.func33, Try.ntmps33
  go_upto_region 3 with fail
  all_goals (try (exfalso; omega; done))
  go_cut [6] from 26 (fun v6 wx => ∃ P a b, v6 = .pointer (some ⟨P, 0, none⟩) ∧ Hid (SwS wx w.heap.size P a b m (List.replicate m 0) (fun _ => 0)) ∧ Hid (Below w.heap.size w wx))
  case first =>
    try go_upto_region 3 with fail
    refine wp_region_held_drew (S := fun _ => True) (by kernel_rfl) trivial (fun hH0 => ?_)
    have HB0 := HB0'
    clear HB0'
    generalize w.drew = w0 at *
    -- the region
    refine wpAnyH_take (i := 0) (oi := { dst := some 26, op := Go.Op.move (Go.Operand.tmp 0), type := 3, pos := "swap.go:16", after := #[], guard := none }) rfl (by kernel_rfl) (by kernel_rfl) (by kernel_rfl) (fun _ _ _ h => h) (Or.inl ⟨by rfl, fun w hw => by (go_simp; try with_reducible rfl)⟩) (by assumption) ?_
    try simp only [Act.put, List.setIfInBounds_toArray, List.set_cons_zero, List.set_cons_succ]
    refine wpAnyH_take (i := 2) (oi := { dst := some 28, op := Go.Op.move (Go.Operand.tmp 0), type := 3, pos := "swap.go:16", after := #[], guard := none }) rfl (by kernel_rfl) (by kernel_rfl) (by kernel_rfl) (fun _ _ _ h => h) (Or.inl ⟨by rfl, fun w hw => by (go_simp; try with_reducible rfl)⟩) (by assumption) ?_
    try simp only [Act.put, List.setIfInBounds_toArray, List.set_cons_zero, List.set_cons_succ]
    refine wpAnyH_ready (rs := [1, 3]) (by kernel_rfl) (by simp) ?_
    refine AllReadyH.cons (o := { dst := some 27, op := Go.Op.makeSlice 23 (Go.Operand.tmp 26) (Go.Operand.tmp 26), type := 23, pos := "swap.go:16", after := #[{ on := 0, ground := Go.Ground.data }, { on := 0, ground := Go.Ground.data }], guard := none }) rfl (fun K hK => ?_) ?_
    · try rw [if_pos (by rfl)]
      refine wp_makeI _ _ rfl w.heap.size m rfl rfl (by omega) HB0.out.size ?_
      intro w1 hO1 hg
      have HO1 := Lib.hid hO1
      have HB1 := Lib.hid (HB0.out.grown hg HB0.out.size (fun k hk => by cases hk))
      refine hK.out _ _ trivial (fun hH1 => ?_)
      clear hK hg hO1
      try simp only [Act.put, List.setIfInBounds_toArray, List.set_cons_zero, List.set_cons_succ]
      refine wpAnyH_ready (rs := [3]) (by kernel_rfl) (by simp) ?_
      refine AllReadyH.cons (o := { dst := some 29, op := Go.Op.makeSlice 23 (Go.Operand.tmp 28) (Go.Operand.tmp 28), type := 23, pos := "swap.go:16", after := #[{ on := 2, ground := Go.Ground.data }, { on := 2, ground := Go.Ground.data }], guard := none }) rfl (fun K hK => ?_) AllReadyH.nil
      try rw [if_pos (by rfl)]
      refine wp_makeI _ _ rfl w.heap.size m rfl rfl (by omega) HB1.out.size ?_
      intro w2 hO3 hg
      have HO3 := Lib.hid hO3
      have HB2 := Lib.hid (HB1.out.grown hg HB1.out.size (fun k hk => by cases hk))
      have HOx := Lib.hid (HO1.out.kept hg (.inr (by intro h; cases h)))
      have hne : w0.heap.size ≠ w1.heap.size := Nat.ne_of_lt (World.ownsRow.lt HO1.out _ rfl).2
      refine hK.out _ _ trivial (fun hH2 => ?_)
      clear hK hg hO3
      try simp only [Act.put, List.setIfInBounds_toArray, List.set_cons_zero, List.set_cons_succ]
      refine wpAnyH_take (i := 4) (oi := { dst := some 30, op := Go.Op.build 84 #[(0, Go.Operand.tmp 27), (1, Go.Operand.tmp 29)], type := 84, pos := "swap.go:16", after := #[{ on := 1, ground := Go.Ground.data }, { on := 3, ground := Go.Ground.data }], guard := none }) rfl (by kernel_rfl) (by kernel_rfl) (by kernel_rfl) (fun _ _ _ h => h) (Or.inl ⟨by rfl, fun w hw => by (go_simp; try with_reducible rfl)⟩) (by assumption) ?_
      try simp only [Act.put, List.setIfInBounds_toArray, List.set_cons_zero, List.set_cons_succ]
      refine wpAnyH_ready (rs := [5]) (by kernel_rfl) (by simp) ?_
      refine AllReadyH.cons (o := { dst := some 31, op := Go.Op.box 84 (Go.Operand.tmp 30), type := 79, pos := "swap.go:16", after := #[{ on := 4, ground := Go.Ground.data }], guard := none }) rfl (fun K hK => ?_) AllReadyH.nil
      go_simp
      have HSS := Lib.hid (sws_new w2 w.heap.size _ _ m HOx.out HO3.out hne HB2.out.size)
      have HBB := Lib.hid (HB2.out.alloc HB2.out.size (.cells #[.slice (some ⟨w0.heap.size, 0, none⟩) m m, .slice (some ⟨w1.heap.size, 0, none⟩) m m] 84))
      refine hK.out _ _ trivial (fun hH3 => ?_)
      clear hK
      try simp only [Act.put, List.setIfInBounds_toArray, List.set_cons_zero, List.set_cons_succ]
      refine wpAnyH_take (i := 6) (oi := { dst := some 6, op := Go.Op.assign (Go.Operand.tmp 31), type := 79, pos := "swap.go:16", after := #[{ on := 5, ground := Go.Ground.data }, { on := 0, ground := Go.Ground.phase }, { on := 1, ground := Go.Ground.phase }, { on := 2, ground := Go.Ground.phase }, { on := 3, ground := Go.Ground.phase }, { on := 4, ground := Go.Ground.phase }, { on := 5, ground := Go.Ground.phase }], guard := none }) rfl (by kernel_rfl) (by kernel_rfl) (by kernel_rfl) (fun _ _ _ h => h) (Or.inl ⟨by rfl, fun w hw => by (go_simp; try with_reducible rfl)⟩) (by assumption) ?_
      try simp only [Act.put, List.setIfInBounds_toArray, List.set_cons_zero, List.set_cons_succ]
      refine wpAnyH_done (by kernel_rfl) ?_ _
      go_wp2
      go_meet
      case rel => exact ⟨_, _, _, rfl, HSS, HBB⟩
    refine AllReadyH.cons (o := { dst := some 29, op := Go.Op.makeSlice 23 (Go.Operand.tmp 28) (Go.Operand.tmp 28), type := 23, pos := "swap.go:16", after := #[{ on := 2, ground := Go.Ground.data }, { on := 2, ground := Go.Ground.data }], guard := none }) rfl (fun K hK => ?_) AllReadyH.nil
    try rw [if_pos (by rfl)]
    refine wp_makeI _ _ rfl w.heap.size m rfl rfl (by omega) HB0.out.size ?_
    intro w1 hO3 hg
    have HO3 := Lib.hid hO3
    have HB1 := Lib.hid (HB0.out.grown hg HB0.out.size (fun k hk => by cases hk))
    refine hK.out _ _ trivial (fun hH1 => ?_)
    clear hK hg hO3
    try simp only [Act.put, List.setIfInBounds_toArray, List.set_cons_zero, List.set_cons_succ]
    refine wpAnyH_ready (rs := [1]) (by kernel_rfl) (by simp) ?_
    refine AllReadyH.cons (o := { dst := some 27, op := Go.Op.makeSlice 23 (Go.Operand.tmp 26) (Go.Operand.tmp 26), type := 23, pos := "swap.go:16", after := #[{ on := 0, ground := Go.Ground.data }, { on := 0, ground := Go.Ground.data }], guard := none }) rfl (fun K hK => ?_) AllReadyH.nil
    try rw [if_pos (by rfl)]
    refine wp_makeI _ _ rfl w.heap.size m rfl rfl (by omega) HB1.out.size ?_
    intro w2 hO1 hg
    have HO1 := Lib.hid hO1
    have HB2 := Lib.hid (HB1.out.grown hg HB1.out.size (fun k hk => by cases hk))
    have HOx := Lib.hid (HO3.out.kept hg (.inr (by intro h; cases h)))
    have hne : w0.heap.size ≠ w1.heap.size := Nat.ne_of_lt (World.ownsRow.lt HO3.out _ rfl).2
    refine hK.out _ _ trivial (fun hH2 => ?_)
    clear hK hg hO1
    try simp only [Act.put, List.setIfInBounds_toArray, List.set_cons_zero, List.set_cons_succ]
    refine wpAnyH_take (i := 4) (oi := { dst := some 30, op := Go.Op.build 84 #[(0, Go.Operand.tmp 27), (1, Go.Operand.tmp 29)], type := 84, pos := "swap.go:16", after := #[{ on := 1, ground := Go.Ground.data }, { on := 3, ground := Go.Ground.data }], guard := none }) rfl (by kernel_rfl) (by kernel_rfl) (by kernel_rfl) (fun _ _ _ h => h) (Or.inl ⟨by rfl, fun w hw => by (go_simp; try with_reducible rfl)⟩) (by assumption) ?_
    try simp only [Act.put, List.setIfInBounds_toArray, List.set_cons_zero, List.set_cons_succ]
    refine wpAnyH_ready (rs := [5]) (by kernel_rfl) (by simp) ?_
    refine AllReadyH.cons (o := { dst := some 31, op := Go.Op.box 84 (Go.Operand.tmp 30), type := 79, pos := "swap.go:16", after := #[{ on := 4, ground := Go.Ground.data }], guard := none }) rfl (fun K hK => ?_) AllReadyH.nil
    go_simp
    have HSS := Lib.hid (sws_new w2 w.heap.size _ _ m HO1.out HOx.out (Ne.symm hne) HB2.out.size)
    have HBB := Lib.hid (HB2.out.alloc HB2.out.size (.cells #[.slice (some ⟨w1.heap.size, 0, none⟩) m m, .slice (some ⟨w0.heap.size, 0, none⟩) m m] 84))
    refine hK.out _ _ trivial (fun hH3 => ?_)
    clear hK
    try simp only [Act.put, List.setIfInBounds_toArray, List.set_cons_zero, List.set_cons_succ]
    refine wpAnyH_take (i := 6) (oi := { dst := some 6, op := Go.Op.assign (Go.Operand.tmp 31), type := 79, pos := "swap.go:16", after := #[{ on := 5, ground := Go.Ground.data }, { on := 0, ground := Go.Ground.phase }, { on := 1, ground := Go.Ground.phase }, { on := 2, ground := Go.Ground.phase }, { on := 3, ground := Go.Ground.phase }, { on := 4, ground := Go.Ground.phase }, { on := 5, ground := Go.Ground.phase }], guard := none }) rfl (by kernel_rfl) (by kernel_rfl) (by kernel_rfl) (fun _ _ _ h => h) (Or.inl ⟨by rfl, fun w hw => by (go_simp; try with_reducible rfl)⟩) (by assumption) ?_
    try simp only [Act.put, List.setIfInBounds_toArray, List.set_cons_zero, List.set_cons_succ]
    refine wpAnyH_done (by kernel_rfl) ?_ _
    go_wp2
    go_meet
    case rel => exact ⟨_, _, _, rfl, HSS, HBB⟩
  case rest =>
    obtain ⟨P, ga, gb, rfl, HS, HW⟩ := hcut
    clear HB0'
    go_wp2
    go_loopw [34] (fun i wr => ∃ k : Nat, k ≤ l.length ∧ i = .int .i64 k ∧ Hid (∀ x ∈ l.take k, mvBad m x = false) ∧ Hid (SwS wr w.heap.size P ga gb m (List.replicate m 0) (fun _ => 0)) ∧ Below w.heap.size w wr) (fun i _ => l.length - (intOf i).toNat)
    case atStart => exact ⟨0, Nat.zero_le _, rfl, Lib.hid (fun x hx => by simp at hx), HS, HW.out⟩
    case round =>
      clear HS HW
      obtain ⟨k, hk, rfl, hP, HS, hW⟩ := hrel
      have HW := Lib.hid hW
      have hws := hW.size
      by_cases hlt : k < l.length
      · obtain ⟨b, off, rfl, hb, c0, c1⟩ := RdMv.at2 (Rd.below HA.out hW) hlt
        have q1 : ((k : Nat) : Int) < ((l.length : Nat) : Int) := by omega
        have Hbad := Lib.hid (fun h => mvErr_2 H1.out (List.getElem_mem hlt) h)
        have Hok := Lib.hid (any_take hlt hP.out)
        have HWa := Lib.hid (HW.out.alloc hws (.cells #[.int .i64 l[k].to, .int .i64 l[k].from_] 51))
        have HSa := Lib.hid (HS.out.alloc (.cells #[.int .i64 l[k].to, .int .i64 l[k].from_] 51))
        clear hP hW
        generalize l[k] = mm at *
        obtain ⟨mt, mf⟩ := mm
        dsimp only at c0 c1 HWa HSa
        by_cases hb2 : mt < 0 ∨ (m : Int) ≤ mt ∨ mf < 0 ∨ (m : Int) ≤ mf
        · have He := Lib.hid (Hbad.out (by simp [mvBad, insideB]; omega))
          clear Hbad Hok
          go_wp2
          all_goals (try (exfalso; omega; done))
          all_goals (go_ret2; exact .inl ⟨by rw [He.out]; decide, by rw [He.out]; rfl, HWa.out⟩)
        · have Hk := Lib.hid (Hok.out (mvBad_no (by dsimp only; omega)))
          clear Hbad Hok
          go_wp2
          all_goals (try (exfalso; omega; done))
          all_goals
            go_roundw
            case rel => exact ⟨k + 1, by omega, by go_num, Hk, HSa, HWa.out⟩
            case measure => simp [intOf]; omega
      · have hke : k = l.length := by omega
        subst hke
        have Hall : Hid (∀ x ∈ l, mvBad m x = false) := Lib.hid (by have := hP.out; rwa [List.take_length] at this)
        clear hP hW
        obtain ⟨w1, rfl⟩ : ∃ w1 : World, w1 = wr := ⟨_, rfl⟩
        have d0 := HS.out.c0
        go_wp2_with (at_make
                     refine wpList_makeBo rfl _ _ rfl w1.heap.size m rfl rfl (by omega) (Nat.le_refl _) ?_
                     intro w3 hO hg
                     have HO := Lib.hid hO
                     have HS3 := Lib.hid (HS.out.kept hg (by simp) (by simp) (by simp))
                     have HW3 := Lib.hid (HW.out.grown hg hws (fun k hk => by cases hk))
                     have d0 := HS3.out.c0
                     clear hO hg)
        go_loopw [61] (fun i wr => ∃ k : Nat, k ≤ m ∧ i = .int .i64 k ∧ Hid (SwS wr w.heap.size P ga gb m (mkG m fun r => if r < k then r else 0) (fun _ => 0)) ∧ Hid (OwnBo wr w1.heap.size 4 (.slice (some ⟨w1.heap.size, 0, none⟩) m m) (List.replicate m false)) ∧ Below w.heap.size w wr) (fun i _ => m - (intOf i).toNat)
        case atStart => exact ⟨0, Nat.zero_le _, rfl, Lib.hid (HS3.out.congr (fun i hi => by rw [gN_mk hi, if_neg (by omega)]; unfold gN; rw [List.getD_eq_getElem?_getD, List.getElem?_replicate, if_pos hi]; rfl) (fun _ _ => rfl)), HO, HW3.out⟩
        case round =>
          have hfw : ga < w1.heap.size := (HS.out.fAt (j := 0) (by omega)).1
          have hkw : gb < w1.heap.size := (HS.out.kAt (j := 0) (by omega)).1
          have hPw := HS.out.plt
          clear HS3 HO HW3 HS HW d0
          obtain ⟨k, hk, rfl, HS, HO, hW⟩ := hrel
          have HW := Lib.hid hW
          have d0 := HS.out.c0
          by_cases hlt : k < m
          · obtain ⟨f1, f2, f3, f4⟩ := HS.out.fAt hlt
            have q1 : ((k : Nat) : Int) < ((m : Nat) : Int) := by omega
            have HSs : Hid (SwS (wr.setCell ⟨ga, k, none⟩ (.int .i64 (k : Nat))) w.heap.size P ga gb m (mkG m fun r => if r < k + 1 then r else 0) (fun _ => 0)) := Lib.hid ((HS.out.setF (mkG_len _ _) hlt k).congr (fun i hi => by
              rw [gN_set (by rw [mkG_len]; exact hlt), gN_mk hi, gN_mk hi]
              by_cases e : i = k
              · subst e; rw [if_pos rfl, if_pos (by omega)]
              · rw [if_neg e]
                by_cases h : i < k
                · rw [if_pos h, if_pos (by omega)]
                · rw [if_neg h, if_neg (by omega)]) (fun _ _ => rfl))
            have HOs := Lib.hid (own_farC HO.out (p := ⟨ga, k, none⟩) hfw (.int .i64 (k : Nat)))
            have HWs := Lib.hid (HW.out.setCell (p := ⟨ga, k, none⟩) f2 (.int .i64 (k : Nat)))
            clear hW
            go_wp2
            go_roundw
            case rel => exact ⟨k + 1, by omega, by go_num, HSs, HOs, HWs.out⟩
            case measure => simp [intOf]; omega
          · have hke : k = m := by omega
            subst hke
            have hws := hW.size
            clear hW
            go_wp2
            go_loopw [74] (fun i wr => ∃ j : Nat, j ≤ l.length ∧ i = .int .i64 j ∧ Hid (((l.map Mv.to).take j).Nodup) ∧ Hid (SwS wr w.heap.size P ga gb k (mkG k fun r => (mfK (l.take j) (r : Int)).toNat) (fun _ => 0)) ∧ Hid (OwnBo wr w1.heap.size 4 (.slice (some ⟨w1.heap.size, 0, none⟩) k k) ((List.range k).map (gvB l j))) ∧ Below w.heap.size w wr) (fun i _ => l.length - (intOf i).toNat)
            case atStart => exact ⟨0, Nat.zero_le _, rfl, Lib.hid (by simp), Lib.hid (HS.out.congr (fun i hi => by rw [gN_mk hi, gN_mk hi, if_pos hi]; simp [mfK]) (fun _ _ => rfl)), Lib.hid (by
              have e : (List.range k).map (gvB l 0) = List.replicate k false := by
                rw [show gvB l 0 = fun _ => false from by funext r; simp [gvB], List.map_const', List.length_range]
              rw [e]; exact HO.out), HW.out⟩
            case round =>
              clear HS HO HW d0
              obtain ⟨j, hj, rfl, HN, HS, HO, hW⟩ := hrel
              have HW := Lib.hid hW
              have hws := hW.size
              by_cases hlt : j < l.length
              · obtain ⟨b, off, rfl, hb, c0, c1⟩ := RdMv.at2 (Rd.below HA.out hW) hlt
                have q1 : ((j : Nat) : Int) < ((l.length : Nat) : Int) := by omega
                have hin := mvBad_ok (Hall.out _ (List.getElem_mem hlt))
                have hgs : ∀ r, gvB l (j + 1) r = (gvB l j r || decide (l[j].to = (r : Int))) := fun r => by
                  unfold gvB
                  rw [List.take_succ_eq_append_getElem hlt, List.any_append]; simp
                have Hgs := Lib.hid hgs
                have Hdup : Hid (∀ x : Nat, l[j].to = (x : Int) → gvB l j x = true → mvErr (k : Int) l = 3) := Lib.hid (fun x hx hg => by
                  unfold gvB at hg
                  obtain ⟨y, hy, he⟩ := List.any_eq_true.1 hg
                  rw [decide_eq_true_eq] at he
                  obtain ⟨q, hq, rfl⟩ := List.getElem_of_mem hy
                  simp at hq
                  refine mvErr_3 (i := j) (j := q) H1.out Hall.out hlt (by omega) ?_
                  rw [hx, ← he]; simp)
                have Hnew : Hid (∀ x : Nat, l[j].to = (x : Int) → gvB l j x = false → (∀ y ∈ l.take j, y.to ≠ l[j].to)) := Lib.hid (fun x hx hg y hy e => by
                  have : gvB l j x = true := List.any_eq_true.2 ⟨y, hy, by rw [decide_eq_true_eq, e, hx]⟩
                  rw [this] at hg; cases hg)
                have Hnd : Hid ((∀ y ∈ l.take j, y.to ≠ l[j].to) → ((l.map Mv.to).take (j + 1)).Nodup) := Lib.hid (fun h => nodup_take_succ (by simpa using hlt) HN.out (fun q hq => by
                  have := h (l[q]'(by omega)) (by rw [List.mem_take_iff_getElem]; exact ⟨q, by omega, rfl⟩)
                  simpa using this))
                have Hmf : Hid ((∀ y ∈ l.take j, y.to ≠ l[j].to) → ∀ r : Nat, mfK (l.take (j + 1)) (r : Int) = if (r : Int) = l[j].to then l[j].from_ else mfK (l.take j) (r : Int)) := Lib.hid (fun h r => by rw [List.take_succ_eq_append_getElem hlt, mfK_snoc h])
                clear hgs hW
                generalize l[j] = mm at *
                obtain ⟨mt, mf⟩ := mm
                dsimp only at c0 c1 hin Hgs Hdup Hnew Hnd Hmf
                obtain ⟨⟨t0, t1⟩, f0, f1⟩ := hin
                obtain ⟨x, rfl⟩ := Int.eq_ofNat_of_zero_le t0
                obtain ⟨y, rfl⟩ := Int.eq_ofNat_of_zero_le f0
                have hx : x < k := by omega
                have hy : y < k := by omega
                obtain ⟨g, eg, hg1, hg2, _, gfz, gc⟩ := OwnBo.at2 HO.out (by simp; omega)
                injection eg with eg; injection eg with eg
                subst eg
                have gx := gc x (by simp; exact hx)
                rw [show ((List.range k).map (gvB l j))[x]'(by simp; exact hx) = gvB l j x by simp] at gx
                have gz := gfz x
                have HWa := Lib.hid (HW.out.alloc hws (.cells #[.int .i64 (x : Nat), .int .i64 (y : Nat)] 51))
                clear gc gfz
                cases hgv : gvB l j x
                · have hnw := Hnew.out x rfl hgv
                  have Hnd2 := Lib.hid (Hnd.out hnw)
                  have Hmf2 := Lib.hid (Hmf.out hnw)
                  rw [hgv] at gx
                  have HOs := Lib.hid ((OwnBo.set_ HO.out (k := x) (by simp; exact hx) true).alloc (.cells #[.int .i64 (x : Nat), .int .i64 (y : Nat)] 51))
                  have HSs := Lib.hid ((show SwS (wr.setCell ⟨w1.heap.size, x, none⟩ (.bool true)) w.heap.size P ga gb k (mkG k fun r => (mfK (l.take j) (r : Int)).toNat) (fun _ => 0) from
                    ⟨(Below.heap_setCell _ _ _ P (by show P ≠ w1.heap.size; omega)).trans HS.out.hP, HS.out.f.far (fun e => by have e : some ga = some w1.heap.size := e; injection e with e; omega) _, HS.out.k.far (fun e => by have e : some gb = some w1.heap.size := e; injection e with e; omega) _, HS.out.pb, HS.out.ne1, HS.out.ne2, HS.out.ne⟩).alloc (.cells #[.int .i64 (x : Nat), .int .i64 (y : Nat)] 51))
                  have hw1s : w.heap.size ≤ w1.heap.size := by omega
                  have hsw : (wr.setCell ⟨w1.heap.size, x, none⟩ (.bool true)).heap.size = wr.heap.size := by simp [World.setCell]
                  have HWs := Lib.hid ((HW.out.setCell (p := ⟨w1.heap.size, x, none⟩) hw1s (.bool true)).alloc (by rw [hsw]; exact hws) (.cells #[.int .i64 (x : Nat), .int .i64 (y : Nat)] 51))
                  have m0 : ((wr.setCell ⟨w1.heap.size, x, none⟩ (.bool true)).alloc (.cells #[.int .i64 (x : Nat), .int .i64 (y : Nat)] 51)).cell? ⟨wr.heap.size, 0, none⟩ = some (.int .i64 (x : Nat)) := cell_new _ _ _ _ hsw 0
                  have m1 : ((wr.setCell ⟨w1.heap.size, x, none⟩ (.bool true)).alloc (.cells #[.int .i64 (x : Nat), .int .i64 (y : Nat)] 51)).cell? ⟨wr.heap.size, 1, none⟩ = some (.int .i64 (y : Nat)) := cell_new _ _ _ _ hsw 1
                  have qx : ((x : Nat) : Int) < ((k : Nat) : Int) := t1
                  clear hgv hnw Hnew Hdup Hnd Hmf
                  go_upto_region 22 with fail
                  obtain ⟨w2, hw2⟩ : ∃ w2, w2 = (wr.setCell ⟨w1.heap.size, x, none⟩ (.bool true)).alloc (.cells #[.int .i64 (x : Nat), .int .i64 (y : Nat)] 51) := ⟨_, rfl⟩
                  rw [← hw2] at HOs HSs HWs m0 m1 ⊢
                  obtain ⟨r9, hr9⟩ : ∃ r9, r9 = wr.heap.size := ⟨_, rfl⟩
                  clear hw2 c0 c1 gx gz HS HW HWa HO hsw
                  have e0 := HSs.out.c0
                  obtain ⟨u1, u2, u3, u4⟩ := HSs.out.fAt hx
                  have hgl := mkG_len k (fun r => (mfK (l.take j) (r : Int)).toNat)
                  have HSt : Hid (∀ nq, SwS ((w2.drewN nq).setCell ⟨ga, x, none⟩ (.int .i64 (y : Nat))) w.heap.size P ga gb k (mkG k fun r => (mfK (l.take (j + 1)) (r : Int)).toNat) (fun _ => 0)) := Lib.hid (fun nq => ((HSs.out.drewN nq).setF hgl hx y).congr (fun i hi => by
                    rw [gN_set (by rw [hgl]; exact hx), gN_mk hi, gN_mk hi, Hmf2.out i]
                    by_cases e : i = x
                    · subst e; rw [if_pos rfl, if_pos rfl]; simp
                    · rw [if_neg e, if_neg (by omega)]) (fun _ _ => rfl))
                  have HOt : Hid (∀ nq, OwnBo ((w2.drewN nq).setCell ⟨ga, x, none⟩ (.int .i64 (y : Nat))) w1.heap.size 4 (.slice (some ⟨w1.heap.size, 0, none⟩) k k) ((List.range k).map (gvB l (j + 1)))) := Lib.hid (fun nq => by
                    have := own_farC (HOs.out.drewN nq) (p := ⟨ga, x, none⟩) hfw (.int .i64 (y : Nat))
                    rw [map_range_set] at this
                    rw [show (List.range k).map (gvB l (j + 1)) = (List.range k).map fun i => if i = x then true else gvB l j i from List.map_congr_left fun i _ => by
                      rw [Hgs.out i]
                      by_cases e : i = x
                      · subst e; rw [if_pos rfl]; simp
                      · rw [if_neg e, decide_eq_false (by omega), Bool.or_false]]
                    exact this)
                  have HWt := Lib.hid (fun nq => (below_dN HWs.out nq).setCell (p := ⟨ga, x, none⟩) u2 (.int .i64 (y : Nat)))
                  generalize gN (mkG k fun r => (mfK (l.take j) (r : Int)).toNat) x = z0 at *
                  go_wp2
                  go_still_tail 9, (by kernel_rfl)
                  go_wp2
                  go_roundw
                  case rel => exact ⟨j + 1, by omega, by go_num, Hnd2, Lib.hid (HSt.out _), Lib.hid (HOt.out _), HWt.out _⟩
                  case measure => simp [intOf]; omega
                · have He := Lib.hid (Hdup.out x rfl hgv)
                  rw [hgv] at gx
                  have qx : ((x : Nat) : Int) < ((k : Nat) : Int) := t1
                  clear hgv Hnew Hdup Hnd Hmf
                  go_wp2
                  go_ret2
                  exact .inl ⟨by rw [He.out]; decide, by rw [He.out]; rfl, HWa.out⟩
              · have hje : j = l.length := by omega
                subst hje
                have He0 : Hid (mvErr (k : Int) l = 0) := Lib.hid (mvErr_0 H1.out Hall.out (by have := HN.out; rwa [← List.length_map (f := Mv.to), List.take_length] at this))
                have HSf : Hid (SwS wr w.heap.size P ga gb k (fL k l) (fun r => ((cntG (fL k l) r 0 : Nat) : Int))) := Lib.hid (HS.out.congr (fun i hi => by unfold fL; rw [List.take_length]) (fun i _ => rfl))
                have d0 := HSf.out.c0
                clear HN HS HO hW
                go_wp2
                go_loopw [102] (fun i wr => ∃ q : Nat, q ≤ k ∧ i = .int .i64 q ∧ Hid (SwS wr w.heap.size P ga gb k (fL k l) (fun r => ((cntG (fL k l) r q : Nat) : Int))) ∧ Below w.heap.size w wr) (fun i _ => k - (intOf i).toNat)
                case atStart => exact ⟨0, Nat.zero_le _, rfl, HSf, HW.out⟩
                case round =>
                  clear HSf HW d0
                  obtain ⟨q, hq, rfl, HS, hW⟩ := hrel
                  have HW := Lib.hid hW
                  have d0 := HS.out.c0
                  have d1 := HS.out.c1
                  by_cases hlt : q < k
                  · obtain ⟨f1, f2, f3, f4⟩ := HS.out.fAt hlt
                    have q1 : ((q : Nat) : Int) < ((k : Nat) : Int) := by omega
                    have hf : gN (fL k l) q < k := by
                      obtain ⟨k', ek, hok⟩ := mvErr_ok He0.out
                      have : k' = k := by omega
                      subst this
                      exact (fL_ran hok).2 q hlt
                    have Hno := Lib.hid (fun h => cntG_succ_no (G := fL k l) (k := q) h)
                    have Hyes := Lib.hid (fun f h hne => cntG_succ_yes (G := fL k l) (k := q) (f := f) h hne)
                    obtain ⟨f, hfe⟩ : ∃ f, gN (fL k l) q = f := ⟨_, rfl⟩
                    rw [hfe] at f3 hf
                    have Hfe := Lib.hid hfe
                    clear hW hfe
                    by_cases e : f = q
                    · have HSs : Hid (SwS wr w.heap.size P ga gb k (fL k l) (fun r => ((cntG (fL k l) r (q + 1) : Nat) : Int))) := Lib.hid (HS.out.congr (fun _ _ => rfl) (fun i _ => by rw [Hno.out (Hfe.out.trans e) i]))
                      have qe : (((f : Nat) : Int) != ((q : Nat) : Int)) = false := by rw [bne_eq_false_iff_eq]; omega
                      clear e Hno Hyes
                      go_wp2
                      go_roundw
                      case rel => exact ⟨q + 1, by omega, by go_num, HSs, HW.out⟩
                      case measure => simp [intOf]; omega
                    · obtain ⟨k1, k2, k3, k4⟩ := HS.out.kAt hf
                      have hcl : cntG (fL k l) f q ≤ 8 := Nat.le_trans (cntP_le _ _) (by omega)
                      have HSs : Hid (SwS (wr.setCell ⟨gb, f, none⟩ (.int .i64 (((cntG (fL k l) f q : Nat) : Int) + 1))) w.heap.size P ga gb k (fL k l) (fun r => ((cntG (fL k l) r (q + 1) : Nat) : Int))) := Lib.hid ((HS.out.setN hf _).congr (fun _ _ => rfl) (fun i _ => by
                        rw [Hyes.out f Hfe.out e i]))
                      have HWs := Lib.hid (HW.out.setCell (p := ⟨gb, f, none⟩) k2 (.int .i64 (((cntG (fL k l) f q : Nat) : Int) + 1)))
                      have qe : (((f : Nat) : Int) != ((q : Nat) : Int)) = true := by rw [bne_iff_ne]; omega
                      have qf : ((f : Nat) : Int) < ((k : Nat) : Int) := by omega
                      clear e Hno Hyes
                      generalize cntG (fL k l) f q = cc at *
                      go_wp2
                      go_roundw
                      case rel => exact ⟨q + 1, by omega, by go_num, HSs, HWs.out⟩
                      case measure => simp [intOf]; omega
                  · have hqe : q = k := by omega
                    subst hqe
                    clear hW
                    go_wp2
                    go_ret2
                    exact .inr ⟨He0.out, P, ga, gb, rfl, HS.out, HW.out⟩
end Go.Proofs.Ytiphhadhbokgmaa
