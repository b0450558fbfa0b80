/- codemasonref.Behinds walked (written by bhtree.py). -/
import Derived.Test.YtdkkmmljaijomaaPlnB
import Derived.Test.YtdkkmmljaijomaaOwnLG
import Derived.Test.YtdkkmmljaijomaaAppN
import Derived.Deep.RegionHeld3
namespace Go.Proofs.Ytdkkmmljaijomaa
open Go.RowKit

def bhI (ps : List (Int × Int)) (i : Nat) : List Int := (ps.filter fun p : Int × Int => decide (p.1 = (i : Int))).map (·.2)
def bhR (n : Nat) (ps : List (Int × Int)) : List (List Int) := (List.range n).map (bhI ps)
theorem bhR_len (n : Nat) (ps : List (Int × Int)) : (bhR n ps).length = n := by simp [bhR]
theorem bhR_get {n : Nat} {ps : List (Int × Int)} {i : Nat} (h : i < n) : (bhR n ps)[i]? = some (bhI ps i) := by
  rw [List.getElem?_eq_getElem (by rw [bhR_len]; exact h)]; simp [bhR]
theorem bhR_nil (n : Nat) : bhR n [] = List.replicate n [] := by
  refine List.ext_getElem (by simp [bhR]) fun j h1 h2 => ?_
  simp [bhR, bhI]
theorem bhI_mem {ps : List (Int × Int)} {i : Nat} {x : Int} : x ∈ bhI ps i ↔ ∃ p ∈ ps, p.1 = (i : Int) ∧ p.2 = x := by
  unfold bhI
  rw [List.mem_map]
  constructor
  · rintro ⟨p, hp, e⟩
    rw [List.mem_filter, decide_eq_true_eq] at hp
    exact ⟨p, hp.1, hp.2, e⟩
  · rintro ⟨p, hp, e1, e2⟩
    exact ⟨p, List.mem_filter.2 ⟨hp, decide_eq_true e1⟩, e2⟩
theorem bhI_len (ps : List (Int × Int)) (i : Nat) : (bhI ps i).length ≤ ps.length := by
  unfold bhI; rw [List.length_map]; exact List.length_filter_le _ _
theorem bhR_push {n : Nat} {ps : List (Int × Int)} {a b : Nat} (_ha : a < n) : (bhR n ps).set a (bhI ps a ++ [(b : Int)]) = bhR n (ps ++ [((a : Int), (b : Int))]) := by
  refine List.ext_getElem (by simp [bhR]) fun j h1 h2 => ?_
  rw [List.getElem_set]
  by_cases e : a = j
  · subst e
    rw [if_pos rfl]
    simp [bhR, bhI, List.filter_append]
  · rw [if_neg e]
    have : ¬ ((a : Int) = (j : Int)) := by omega
    simp [bhR, bhI, List.filter_append, this]
set_option maxRecDepth 100000 in
set_option maxHeartbeats 8000000 in
theorem behinds_calls (n : Nat) (A : Option Addr) (ps : List (Int × Int)) (cap : Nat) (w : World) (hA : RdP w A ps) (h28 : ps.length ≤ 28) (hI : Inn n ps) (h1 : 1 ≤ n) (h8 : n ≤ 8) :
    Calls Try.prog 52 #[.int .i64 n, .slice A ps.length cap] w fun e w' => ∃ b : Nat, e = .returned (.slice (some ⟨b, 0, none⟩) n n) ∧ RdN w' (some ⟨b, 0, none⟩) (bhR n ps) ∧ Below w.heap.size w w' := by
  have HA := Lib.hid hA
  have HI := Lib.hid hI
  clear hA hI
  go_enter Try.func52, Try.ntmps52
  go_wp2_with (at_make; refine wpList_makeN rfl _ _ rfl w.heap.size n rfl rfl (by omega) (Nat.le_refl _) ?_; intro wm hown hgrow)
  have hbm : w.heap.size < wm.heap.size := by
    obtain ⟨g, eg, _, hlt, _⟩ := OwnV.at2 hown (by simp; omega)
    injection eg with eg; injection eg with eg
    omega
  have HMk := Lib.hid (OwnLL.made (B := wm.heap.size) hown hbm hbm)
  rw [← bhR_nil] at HMk
  have HWm := Lib.hid ((Below.refl w.heap.size w).grown hgrow (Nat.le_refl _) (fun k hk => by cases hk))
  clear hown hgrow
  go_loopw [12] (fun i wr => ∃ (k : Nat) (vals : List Value), k ≤ ps.length ∧ i = .int .i64 k ∧ OwnLL wr w.heap.size wm.heap.size vals (bhR n (ps.take k)) ∧ Below w.heap.size w wr ∧ wm.heap.size ≤ wr.heap.size) (fun i _ => ps.length - (intOf i).toNat)
  case atStart => exact ⟨0, _, Nat.zero_le _, rfl, HMk.out, HWm.out, Nat.le_refl _⟩
  case round =>
    clear HMk HWm
    obtain ⟨k, vals, hk, rfl, hLL, hW, hz⟩ := hrel
    have HW := Lib.hid hW
    have hws := hW.size
    have HBT := Lib.hid hz
    by_cases hlt : k < ps.length
    case neg =>
      have hke : k = ps.length := by omega
      subst hke
      rw [List.take_length] at hLL
      have HLL := Lib.hid hLL
      have Hl := Lib.hid (bhR_len n ps)
      clear hLL hW
      go_wp2
      go_ret
      exact ⟨_, rfl, HLL.out.rd, HW.out⟩
    obtain ⟨pb, off, rfl, hpb, c0', c1'⟩ := RdP.at2 (Rd.below HA.out hW) hlt
    have hin := HI.out _ (List.getElem_mem hlt)
    have Htk := Lib.hid (List.take_succ_eq_append_getElem hlt)
    have Hlt := Lib.hid hlt
    have q1 : (k : Int) < (ps.length : Int) := by omega
    clear hW
    generalize ps[k] = p at *
    obtain ⟨x, y⟩ := p
    unfold inP at hin
    dsimp only at c0' c1' hin
    obtain ⟨a, rfl⟩ := Int.eq_ofNat_of_zero_le hin.1
    obtain ⟨b, rfl⟩ := Int.eq_ofNat_of_zero_le hin.2.2.1
    have han : a < n := by omega
    have q2 : (a : Int) < (n : Int) := by omega
    have Hl := Lib.hid (bhR_get (ps := ps.take k) han)
    have Hset := Lib.hid (bhR_push (ps := ps.take k) (b := b) han)
    have Hl28 := Lib.hid (show (bhI (ps.take k) a).length ≤ 28 by have := bhI_len (ps.take k) a; rw [List.length_take] at this; omega)
    have hvl : a < vals.length := by rw [hLL.len, bhR_len]; exact han
    obtain ⟨v, hv⟩ : ∃ v, vals[a]? = some v := ⟨_, List.getElem?_eq_getElem hvl⟩
    generalize bhI (ps.take k) a = l at *
    have hrow := hLL.row a v l hv Hl.out
    have HvT := Lib.hid (fun g e => Nat.ne_of_lt (own_lt hrow g e).2)
    obtain ⟨Av, cv, e, -⟩ := OwnI.rd hrow
    subst e
    have Hv := Lib.hid hv
    have hbT := hLL.lt
    have Hrn : Hid (0 < vals.length) := Lib.hid (by omega)
    have Hkv := Lib.hid hvl
    have HLL := Lib.hid hLL
    clear hLL hrow hv hlt hin
    have Hrl := Lib.hid (bhR_len n (ps.take k))
    have hrl : (bhR n (ps.take k)).length = n := bhR_len _ _
    generalize hgr : bhR n (ps.take k) = rows at *
    clear hgr
    have HSs : Hid (∀ (w' : World) (u : Value), (w'.cell? ⟨wr.heap.size, 0, none⟩ = some (.int .i64 (a : Nat)) ∧ w'.cell? ⟨wr.heap.size, 1, none⟩ = some (.int .i64 (b : Nat))) → ((w'.setCell ⟨w.heap.size, a, none⟩ u).cell? ⟨wr.heap.size, 0, none⟩ = some (.int .i64 (a : Nat)) ∧ (w'.setCell ⟨w.heap.size, a, none⟩ u).cell? ⟨wr.heap.size, 1, none⟩ = some (.int .i64 (b : Nat)))) := Lib.hid (fun w' u h => by
      rw [World.cell?_setCell_far _ _ _ _ (by show w.heap.size ≠ wr.heap.size; omega), World.cell?_setCell_far _ _ _ _ (by show w.heap.size ≠ wr.heap.size; omega)]
      exact h)
    have HLL0 := Lib.hid ((HLL.out.alloc (.cells #[.int .i64 (a : Nat), .int .i64 (b : Nat)] 39)).drew)
    have HW0 := Lib.hid ((HW.out.alloc hws (.cells #[.int .i64 (a : Nat), .int .i64 (b : Nat)] 39)).drew)
    have HT0 : Hid (wr.heap.size < (wr.alloc (.cells #[.int .i64 (a : Nat), .int .i64 (b : Nat)] 39)).drew.heap.size) := Lib.hid (by show wr.heap.size < (wr.alloc (.cells #[.int .i64 (a : Nat), .int .i64 (b : Nat)] 39)).heap.size; simp)
    have hS0 : (wr.alloc (.cells #[.int .i64 (a : Nat), .int .i64 (b : Nat)] 39)).drew.cell? ⟨wr.heap.size, 0, none⟩ = some (.int .i64 (a : Nat)) ∧ (wr.alloc (.cells #[.int .i64 (a : Nat), .int .i64 (b : Nat)] 39)).drew.cell? ⟨wr.heap.size, 1, none⟩ = some (.int .i64 (b : Nat)) := ⟨cell_new wr _ _ wr.heap.size rfl 0, cell_new wr _ _ wr.heap.size rfl 1⟩
    have HSb : Hid (∀ o : Obj, ((wr.alloc (.cells #[.int .i64 (a : Nat), .int .i64 (b : Nat)] 39)).drew.cell? ⟨wr.heap.size, 0, none⟩ = some (.int .i64 (a : Nat)) ∧ (wr.alloc (.cells #[.int .i64 (a : Nat), .int .i64 (b : Nat)] 39)).drew.cell? ⟨wr.heap.size, 1, none⟩ = some (.int .i64 (b : Nat))) → (((wr.alloc (.cells #[.int .i64 (a : Nat), .int .i64 (b : Nat)] 39)).drew.alloc o).cell? ⟨wr.heap.size, 0, none⟩ = some (.int .i64 (a : Nat)) ∧ ((wr.alloc (.cells #[.int .i64 (a : Nat), .int .i64 (b : Nat)] 39)).drew.alloc o).cell? ⟨wr.heap.size, 1, none⟩ = some (.int .i64 (b : Nat)))) := Lib.hid (fun o h => ⟨(cell_grown (World.grownBy_alloc (wr.alloc (.cells #[.int .i64 (a : Nat), .int .i64 (b : Nat)] 39)).drew o none) _ 0 HT0.out (by simp)).trans h.1, (cell_grown (World.grownBy_alloc (wr.alloc (.cells #[.int .i64 (a : Nat), .int .i64 (b : Nat)] 39)).drew o none) _ 1 HT0.out (by simp)).trans h.2⟩)
    obtain ⟨g0, eg0, _, _, _, hcell0⟩ := OwnV.at2 HLL0.out.own Hrn.out
    injection eg0 with eg0; injection eg0 with eg0
    subst eg0
    have c0 := hcell0 a (List.getElem?_eq_some_iff.1 Hv.out).1
    rw [(List.getElem?_eq_some_iff.1 Hv.out).2] at c0
    have Hc0 := Lib.hid c0
    clear hcell0 c0 hrl
    go_wp2
    have c0 := Hc0.out
    refine wp_region_held_drew (S := fun w' => w'.cell? ⟨wr.heap.size, 0, none⟩ = some (.int .i64 (a : Nat)) ∧ w'.cell? ⟨wr.heap.size, 1, none⟩ = some (.int .i64 (b : Nat))) (by kernel_rfl) hS0 (fun hH0 => ?_)
    clear hS0
    generalize (wr.alloc (.cells #[.int .i64 (a : Nat), .int .i64 (b : Nat)] 39)).drew = w0 at *
    refine wpAnyH_take (i := 0) (oi := { dst := some 16, op := Go.Op.move (Go.Operand.tmp 5), type := 76, pos := "high.go:717", after := #[], guard := none }) rfl (by kernel_rfl) (by kernel_rfl) (by kernel_rfl) (fun _ _ _ h => h) (Or.inl ⟨by rfl, fun w hw => by (go_simp; try with_reducible rfl)⟩) (by assumption) ?_
    try simp only [Act.put, List.setIfInBounds_toArray, List.set_cons_zero, List.set_cons_succ]
    refine wpAnyH_take (i := 1) (oi := { dst := some 17, op := Go.Op.indexAddr 39 (Go.Operand.tmp 7) (Go.Operand.const (Go.Value.int Go.IntKind.i64 0)), type := 0, pos := "high.go:717", after := #[], guard := none }) rfl (by kernel_rfl) (by kernel_rfl) (by kernel_rfl) (fun _ _ _ h => h) (Or.inl ⟨by rfl, fun w hw => by (go_simp; try with_reducible rfl)⟩) (by assumption) ?_
    try simp only [Act.put, List.setIfInBounds_toArray, List.set_cons_zero, List.set_cons_succ]
    refine wpAnyH_take (i := 2) (oi := { dst := some 18, op := Go.Op.load 3 (Go.Operand.tmp 17), type := 3, pos := "high.go:717", after := #[{ on := 1, ground := Go.Ground.data }], guard := none }) rfl (by kernel_rfl) (by kernel_rfl) (by kernel_rfl) (fun _ _ _ h => h) (Or.inl ⟨by rfl, fun w hw => by (obtain ⟨p0, p1⟩ := hw; go_simp; try with_reducible rfl)⟩) (by assumption) ?_
    try simp only [Act.put, List.setIfInBounds_toArray, List.set_cons_zero, List.set_cons_succ]
    refine wpAnyH_take (i := 3) (oi := { dst := some 19, op := Go.Op.move (Go.Operand.tmp 5), type := 76, pos := "high.go:717", after := #[], guard := none }) rfl (by kernel_rfl) (by kernel_rfl) (by kernel_rfl) (fun _ _ _ h => h) (Or.inl ⟨by rfl, fun w hw => by (go_simp; try with_reducible rfl)⟩) (by assumption) ?_
    try simp only [Act.put, List.setIfInBounds_toArray, List.set_cons_zero, List.set_cons_succ]
    refine wpAnyH_take (i := 4) (oi := { dst := some 20, op := Go.Op.indexAddr 39 (Go.Operand.tmp 7) (Go.Operand.const (Go.Value.int Go.IntKind.i64 0)), type := 0, pos := "high.go:717", after := #[], guard := none }) rfl (by kernel_rfl) (by kernel_rfl) (by kernel_rfl) (fun _ _ _ h => h) (Or.inl ⟨by rfl, fun w hw => by (go_simp; try with_reducible rfl)⟩) (by assumption) ?_
    try simp only [Act.put, List.setIfInBounds_toArray, List.set_cons_zero, List.set_cons_succ]
    refine wpAnyH_take (i := 5) (oi := { dst := some 21, op := Go.Op.load 3 (Go.Operand.tmp 20), type := 3, pos := "high.go:717", after := #[{ on := 4, ground := Go.Ground.data }], guard := none }) rfl (by kernel_rfl) (by kernel_rfl) (by kernel_rfl) (fun _ _ _ h => h) (Or.inl ⟨by rfl, fun w hw => by (obtain ⟨p0, p1⟩ := hw; go_simp; try with_reducible rfl)⟩) (by assumption) ?_
    try simp only [Act.put, List.setIfInBounds_toArray, List.set_cons_zero, List.set_cons_succ]
    refine wpAnyH_take (i := 6) (oi := { dst := some 22, op := Go.Op.indexAddr 76 (Go.Operand.tmp 19) (Go.Operand.tmp 21), type := 0, pos := "high.go:717", after := #[{ on := 3, ground := Go.Ground.data }, { on := 5, ground := Go.Ground.data }], guard := none }) rfl (by kernel_rfl) (by kernel_rfl) (by kernel_rfl) (fun _ _ _ h => h) (Or.inl ⟨by rfl, fun w hw => by (go_simp; try with_reducible rfl)⟩) (by assumption) ?_
    try simp only [Act.put, List.setIfInBounds_toArray, List.set_cons_zero, List.set_cons_succ]
    refine wpAnyH_take (i := 8) (oi := { dst := some 24, op := Go.Op.indexAddr 39 (Go.Operand.tmp 7) (Go.Operand.const (Go.Value.int Go.IntKind.i64 1)), type := 0, pos := "high.go:717", after := #[], guard := none }) rfl (by kernel_rfl) (by kernel_rfl) (by kernel_rfl) (fun _ _ _ h => h) (Or.inl ⟨by rfl, fun w hw => by (go_simp; try with_reducible rfl)⟩) (by assumption) ?_
    try simp only [Act.put, List.setIfInBounds_toArray, List.set_cons_zero, List.set_cons_succ]
    refine wpAnyH_take (i := 9) (oi := { dst := some 25, op := Go.Op.load 3 (Go.Operand.tmp 24), type := 3, pos := "high.go:717", after := #[{ on := 8, ground := Go.Ground.data }], guard := none }) rfl (by kernel_rfl) (by kernel_rfl) (by kernel_rfl) (fun _ _ _ h => h) (Or.inl ⟨by rfl, fun w hw => by (obtain ⟨p0, p1⟩ := hw; go_simp; try with_reducible rfl)⟩) (by assumption) ?_
    try simp only [Act.put, List.setIfInBounds_toArray, List.set_cons_zero, List.set_cons_succ]
    refine wpAnyH_ready (rs := [7, 10]) (by kernel_rfl) (by simp) ?_
    refine AllReadyH.cons (o := { dst := some 23, op := Go.Op.load 22 (Go.Operand.tmp 22), type := 22, pos := "high.go:717", after := #[{ on := 6, ground := Go.Ground.data }], guard := none }) rfl (fun K hK => ?_) ?_
    · have c9 := c0
      go_simp
      clear c9
      refine hK.out _ _ hH0 (fun hH1 => ?_)
      clear hK hH0
      have hH0 := hH1
      clear hH1
      try simp only [Act.put, List.setIfInBounds_toArray, List.set_cons_zero, List.set_cons_succ]
      refine wpAnyH_ready (rs := [10]) (by kernel_rfl) (by simp) ?_
      refine AllReadyH.cons (o := { dst := some 26, op := Go.Op.buildSlice 22 1 #[(0, Go.Operand.tmp 25)], type := 22, pos := "high.go:717", after := #[{ on := 9, ground := Go.Ground.data }], guard := none }) rfl (fun K hK => ?_) AllReadyH.nil
      go_simp
      refine hK.out _ _ (HSb.out _ hH0) (fun hH1 => ?_)
      clear hK hH0
      have hH0 := hH1
      clear hH1
      have HLL1 := Lib.hid (HLL0.out.alloc (.cells #[.int .i64 (b : Nat)] 3))
      have HW1 := Lib.hid (HW0.out.alloc HW0.out.size (.cells #[.int .i64 (b : Nat)] 3))
      have HC1 := Lib.hid (cell_grown (World.grownBy_alloc w0 (.cells #[.int .i64 (b : Nat)] 3) none) w.heap.size a HLL0.out.lt (by simp))
      have HN1 : Hid (∀ j, j < 1 → (w0.alloc (.cells #[.int .i64 (b : Nat)] 3)).cell? ⟨w0.heap.size, j, none⟩ = (intCells (b : Nat))[j]?) := Lib.hid (fun j hj => by (obtain rfl : j = 0 := by omega); exact cell_new w0 #[.int .i64 (b : Nat)] 3 w0.heap.size rfl 0)
      have HT1 : Hid (wr.heap.size < (w0.alloc (.cells #[.int .i64 (b : Nat)] 3)).heap.size) := Lib.hid (by have := HT0.out; simp; omega)
      generalize w0.alloc (.cells #[.int .i64 (b : Nat)] 3) = w1 at *
      generalize w0.heap.size = s1 at *
      try simp only [Act.put, List.setIfInBounds_toArray, List.set_cons_zero, List.set_cons_succ]
      refine wpAnyH_ready (rs := [11]) (by kernel_rfl) (by simp) ?_
      refine AllReadyH.cons (o := { dst := some 27, op := Go.Op.call { callee := Go.Callee.builtin Go.Builtin.append, args := #[Go.Operand.tmp 23, Go.Operand.tmp 26], argTypes := #[22, 22] }, type := 22, pos := "high.go:717", after := #[{ on := 7, ground := Go.Ground.data }, { on := 10, ground := Go.Ground.data }], guard := none }) rfl (fun K hK => ?_) AllReadyH.nil
      obtain ⟨v3, w3, hrun, hown, hgrow, hat⟩ := run_app1 (P := Try.prog) (w := w1) 22 22 intCells 1 8 3 (.int .i64 0) Try.underlying22 infoInt rfl (by decide) intCells_len intCells_one wm.heap.size (.slice Av l.length cv) l (b : Nat) (HLL1.out.row a _ _ Hv.out Hl.out) s1 1 HN1.out (by unfold maxLen; have := Hl28.out; omega) (by have := Hl28.out; omega) (Nat.le_of_lt (by have := HBT.out; have := HT1.out; omega))
      rw [if_pos (by rfl)]
      refine wp_app_run 22 _ _ rfl rfl rfl hrun ?_
      have hP := HLL1.out.grown Hv.out Hl.out hown hgrow hat
      obtain ⟨g3, eg3, _, hg3, hfz3, hcell3⟩ := OwnV.at2 hP.1 Hrn.out
      injection eg3 with eg3; injection eg3 with eg3
      subst eg3
      have c3 := hcell3 a (List.getElem?_eq_some_iff.1 Hv.out).1
      have f3 := hfz3 a
      have HLL3 := Lib.hid hP.2
      have HvT3 : Hid (∀ g, v3.ownBlock = some g → g ≠ wr.heap.size) := Lib.hid (fun g e => by rcases hat with h | h; exact HvT.out g (h.symm.trans e); (rw [h] at e; injection e with e; have := HT1.out; omega))
      have HW3 := Lib.hid (below_own HW1.out hgrow (HLL1.out.row a _ _ Hv.out Hl.out) (by omega) HW1.out.size)
      have HT3 : Hid (wr.heap.size < w3.heap.size) := Lib.hid (Nat.lt_of_lt_of_le HT1.out hgrow.size)
      have hS3 : w3.cell? ⟨wr.heap.size, 0, none⟩ = some (.int .i64 (a : Nat)) ∧ w3.cell? ⟨wr.heap.size, 1, none⟩ = some (.int .i64 (b : Nat)) := ⟨(cell_grown hgrow _ 0 HT1.out (fun e => HvT.out _ e.symm rfl)).trans hH0.1, (cell_grown hgrow _ 1 HT1.out (fun e => HvT.out _ e.symm rfl)).trans hH0.2⟩
      obtain ⟨B3, d3, e3, _⟩ := OwnI.rd hown
      rw [List.length_append, List.length_singleton] at e3
      subst e3
      obtain ⟨z1, z2⟩ := hS3
      refine hK.out _ _ ⟨z1, z2⟩ (fun hH1 => ?_)
      clear hK hrun hown hgrow hat hP hcell3 hfz3 hH0
      have hH0 := hH1
      clear hH1
      try simp only [Act.put, List.setIfInBounds_toArray, List.set_cons_zero, List.set_cons_succ]
      refine wpAnyH_take (i := 12) (oi := { dst := some 28, op := Go.Op.indexAddr 76 (Go.Operand.tmp 16) (Go.Operand.tmp 18), type := 0, pos := "high.go:717", after := #[{ on := 0, ground := Go.Ground.data }, { on := 2, ground := Go.Ground.data }, { on := 0, ground := Go.Ground.phase }, { on := 1, ground := Go.Ground.phase }, { on := 2, ground := Go.Ground.phase }, { on := 3, ground := Go.Ground.phase }, { on := 4, ground := Go.Ground.phase }, { on := 5, ground := Go.Ground.phase }, { on := 6, ground := Go.Ground.phase }, { on := 7, ground := Go.Ground.phase }, { on := 8, ground := Go.Ground.phase }, { on := 9, ground := Go.Ground.phase }, { on := 10, ground := Go.Ground.phase }, { on := 11, ground := Go.Ground.phase }], guard := none }) rfl (by kernel_rfl) (by kernel_rfl) (by kernel_rfl) (fun _ _ _ h => h) (Or.inl ⟨by rfl, fun w hw => by (go_simp; try with_reducible rfl)⟩) (by assumption) ?_
      try simp only [Act.put, List.setIfInBounds_toArray, List.set_cons_zero, List.set_cons_succ]
      refine wpAnyH_ready (rs := [13]) (by kernel_rfl) (by simp) ?_
      refine AllReadyH.cons (o := { dst := none, op := Go.Op.store 22 (Go.Operand.tmp 28) (Go.Operand.tmp 27), type := 0, pos := "high.go:717", after := #[{ on := 12, ground := Go.Ground.data }, { on := 11, ground := Go.Ground.data }, { on := 11, ground := Go.Ground.chain }, { on := 0, ground := Go.Ground.phase }, { on := 1, ground := Go.Ground.phase }, { on := 2, ground := Go.Ground.phase }, { on := 3, ground := Go.Ground.phase }, { on := 4, ground := Go.Ground.phase }, { on := 5, ground := Go.Ground.phase }, { on := 6, ground := Go.Ground.phase }, { on := 7, ground := Go.Ground.phase }, { on := 8, ground := Go.Ground.phase }, { on := 9, ground := Go.Ground.phase }, { on := 10, ground := Go.Ground.phase }, { on := 11, ground := Go.Ground.phase }], guard := none }) rfl (fun K hK => ?_) AllReadyH.nil
      go_simp
      refine hK.out _ _ (HSs.out _ _ hH0) (fun hH1 => ?_)
      clear hK hH0
      have hH0 := hH1
      clear hH1
      try simp only [Act.put, List.setIfInBounds_toArray, List.set_cons_zero, List.set_cons_succ]
      refine wpAnyH_done (by kernel_rfl) ?_ _
      have HW4 := Lib.hid (HW3.out.setCell (p := ⟨w.heap.size, a, none⟩) (Nat.le_refl _) (.slice B3 (l.length + 1) d3))
      have HT4 : Hid (wr.heap.size < (w3.setCell ⟨w.heap.size, a, none⟩ (.slice B3 (l.length + 1) d3)).heap.size) := Lib.hid (by have := HT3.out; simpa [World.setCell] using this)
      clear hH0
      go_wp2
      go_roundw
      case rel => exact ⟨k + 1, _, by have := Hlt.out; omega, by go_num, by rw [Htk.out, ← Hset.out]; exact HLL3.out, HW4.out, by have := HBT.out; have := HT4.out; omega⟩
      case measure => have := Hlt.out; simp [intOf]; omega
    refine AllReadyH.cons (o := { dst := some 26, op := Go.Op.buildSlice 22 1 #[(0, Go.Operand.tmp 25)], type := 22, pos := "high.go:717", after := #[{ on := 9, ground := Go.Ground.data }], guard := none }) rfl (fun K hK => ?_) AllReadyH.nil
    go_simp
    refine hK.out _ _ (HSb.out _ hH0) (fun hH1 => ?_)
    clear hK hH0
    have hH0 := hH1
    clear hH1
    have HLL1 := Lib.hid (HLL0.out.alloc (.cells #[.int .i64 (b : Nat)] 3))
    have HW1 := Lib.hid (HW0.out.alloc HW0.out.size (.cells #[.int .i64 (b : Nat)] 3))
    have HC1 := Lib.hid (cell_grown (World.grownBy_alloc w0 (.cells #[.int .i64 (b : Nat)] 3) none) w.heap.size a HLL0.out.lt (by simp))
    have HN1 : Hid (∀ j, j < 1 → (w0.alloc (.cells #[.int .i64 (b : Nat)] 3)).cell? ⟨w0.heap.size, j, none⟩ = (intCells (b : Nat))[j]?) := Lib.hid (fun j hj => by (obtain rfl : j = 0 := by omega); exact cell_new w0 #[.int .i64 (b : Nat)] 3 w0.heap.size rfl 0)
    have HT1 : Hid (wr.heap.size < (w0.alloc (.cells #[.int .i64 (b : Nat)] 3)).heap.size) := Lib.hid (by have := HT0.out; simp; omega)
    generalize w0.alloc (.cells #[.int .i64 (b : Nat)] 3) = w1 at *
    generalize w0.heap.size = s1 at *
    try simp only [Act.put, List.setIfInBounds_toArray, List.set_cons_zero, List.set_cons_succ]
    refine wpAnyH_ready (rs := [7]) (by kernel_rfl) (by simp) ?_
    refine AllReadyH.cons (o := { dst := some 23, op := Go.Op.load 22 (Go.Operand.tmp 22), type := 22, pos := "high.go:717", after := #[{ on := 6, ground := Go.Ground.data }], guard := none }) rfl (fun K hK => ?_) AllReadyH.nil
    have c9 := HC1.out.trans c0
    go_simp
    clear c9
    refine hK.out _ _ hH0 (fun hH1 => ?_)
    clear hK hH0
    have hH0 := hH1
    clear hH1
    try simp only [Act.put, List.setIfInBounds_toArray, List.set_cons_zero, List.set_cons_succ]
    refine wpAnyH_ready (rs := [11]) (by kernel_rfl) (by simp) ?_
    refine AllReadyH.cons (o := { dst := some 27, op := Go.Op.call { callee := Go.Callee.builtin Go.Builtin.append, args := #[Go.Operand.tmp 23, Go.Operand.tmp 26], argTypes := #[22, 22] }, type := 22, pos := "high.go:717", after := #[{ on := 7, ground := Go.Ground.data }, { on := 10, ground := Go.Ground.data }], guard := none }) rfl (fun K hK => ?_) AllReadyH.nil
    obtain ⟨v3, w3, hrun, hown, hgrow, hat⟩ := run_app1 (P := Try.prog) (w := w1) 22 22 intCells 1 8 3 (.int .i64 0) Try.underlying22 infoInt rfl (by decide) intCells_len intCells_one wm.heap.size (.slice Av l.length cv) l (b : Nat) (HLL1.out.row a _ _ Hv.out Hl.out) s1 1 HN1.out (by unfold maxLen; have := Hl28.out; omega) (by have := Hl28.out; omega) (Nat.le_of_lt (by have := HBT.out; have := HT1.out; omega))
    rw [if_pos (by rfl)]
    refine wp_app_run 22 _ _ rfl rfl rfl hrun ?_
    have hP := HLL1.out.grown Hv.out Hl.out hown hgrow hat
    obtain ⟨g3, eg3, _, hg3, hfz3, hcell3⟩ := OwnV.at2 hP.1 Hrn.out
    injection eg3 with eg3; injection eg3 with eg3
    subst eg3
    have c3 := hcell3 a (List.getElem?_eq_some_iff.1 Hv.out).1
    have f3 := hfz3 a
    have HLL3 := Lib.hid hP.2
    have HvT3 : Hid (∀ g, v3.ownBlock = some g → g ≠ wr.heap.size) := Lib.hid (fun g e => by rcases hat with h | h; exact HvT.out g (h.symm.trans e); (rw [h] at e; injection e with e; have := HT1.out; omega))
    have HW3 := Lib.hid (below_own HW1.out hgrow (HLL1.out.row a _ _ Hv.out Hl.out) (by omega) HW1.out.size)
    have HT3 : Hid (wr.heap.size < w3.heap.size) := Lib.hid (Nat.lt_of_lt_of_le HT1.out hgrow.size)
    have hS3 : w3.cell? ⟨wr.heap.size, 0, none⟩ = some (.int .i64 (a : Nat)) ∧ w3.cell? ⟨wr.heap.size, 1, none⟩ = some (.int .i64 (b : Nat)) := ⟨(cell_grown hgrow _ 0 HT1.out (fun e => HvT.out _ e.symm rfl)).trans hH0.1, (cell_grown hgrow _ 1 HT1.out (fun e => HvT.out _ e.symm rfl)).trans hH0.2⟩
    obtain ⟨B3, d3, e3, _⟩ := OwnI.rd hown
    rw [List.length_append, List.length_singleton] at e3
    subst e3
    obtain ⟨z1, z2⟩ := hS3
    refine hK.out _ _ ⟨z1, z2⟩ (fun hH1 => ?_)
    clear hK hrun hown hgrow hat hP hcell3 hfz3 hH0
    have hH0 := hH1
    clear hH1
    try simp only [Act.put, List.setIfInBounds_toArray, List.set_cons_zero, List.set_cons_succ]
    refine wpAnyH_take (i := 12) (oi := { dst := some 28, op := Go.Op.indexAddr 76 (Go.Operand.tmp 16) (Go.Operand.tmp 18), type := 0, pos := "high.go:717", after := #[{ on := 0, ground := Go.Ground.data }, { on := 2, ground := Go.Ground.data }, { on := 0, ground := Go.Ground.phase }, { on := 1, ground := Go.Ground.phase }, { on := 2, ground := Go.Ground.phase }, { on := 3, ground := Go.Ground.phase }, { on := 4, ground := Go.Ground.phase }, { on := 5, ground := Go.Ground.phase }, { on := 6, ground := Go.Ground.phase }, { on := 7, ground := Go.Ground.phase }, { on := 8, ground := Go.Ground.phase }, { on := 9, ground := Go.Ground.phase }, { on := 10, ground := Go.Ground.phase }, { on := 11, ground := Go.Ground.phase }], guard := none }) rfl (by kernel_rfl) (by kernel_rfl) (by kernel_rfl) (fun _ _ _ h => h) (Or.inl ⟨by rfl, fun w hw => by (go_simp; try with_reducible rfl)⟩) (by assumption) ?_
    try simp only [Act.put, List.setIfInBounds_toArray, List.set_cons_zero, List.set_cons_succ]
    refine wpAnyH_ready (rs := [13]) (by kernel_rfl) (by simp) ?_
    refine AllReadyH.cons (o := { dst := none, op := Go.Op.store 22 (Go.Operand.tmp 28) (Go.Operand.tmp 27), type := 0, pos := "high.go:717", after := #[{ on := 12, ground := Go.Ground.data }, { on := 11, ground := Go.Ground.data }, { on := 11, ground := Go.Ground.chain }, { on := 0, ground := Go.Ground.phase }, { on := 1, ground := Go.Ground.phase }, { on := 2, ground := Go.Ground.phase }, { on := 3, ground := Go.Ground.phase }, { on := 4, ground := Go.Ground.phase }, { on := 5, ground := Go.Ground.phase }, { on := 6, ground := Go.Ground.phase }, { on := 7, ground := Go.Ground.phase }, { on := 8, ground := Go.Ground.phase }, { on := 9, ground := Go.Ground.phase }, { on := 10, ground := Go.Ground.phase }, { on := 11, ground := Go.Ground.phase }], guard := none }) rfl (fun K hK => ?_) AllReadyH.nil
    go_simp
    refine hK.out _ _ (HSs.out _ _ hH0) (fun hH1 => ?_)
    clear hK hH0
    have hH0 := hH1
    clear hH1
    try simp only [Act.put, List.setIfInBounds_toArray, List.set_cons_zero, List.set_cons_succ]
    refine wpAnyH_done (by kernel_rfl) ?_ _
    have HW4 := Lib.hid (HW3.out.setCell (p := ⟨w.heap.size, a, none⟩) (Nat.le_refl _) (.slice B3 (l.length + 1) d3))
    have HT4 : Hid (wr.heap.size < (w3.setCell ⟨w.heap.size, a, none⟩ (.slice B3 (l.length + 1) d3)).heap.size) := Lib.hid (by have := HT3.out; simpa [World.setCell] using this)
    clear hH0
    go_wp2
    go_roundw
    case rel => exact ⟨k + 1, _, by have := Hlt.out; omega, by go_num, by rw [Htk.out, ← Hset.out]; exact HLL3.out, HW4.out, by have := HBT.out; have := HT4.out; omega⟩
    case measure => have := Hlt.out; simp [intOf]; omega
end Go.Proofs.Ytdkkmmljaijomaa
