/- block.Next and block.Way walked (written by nexttree.py). -/
import Derived.Test.YtmgejacndhnikaaBlkC
import Derived.Test.YtmgejacndhnikaaBlkH
import Derived.Test.YtmgejacndhnikaaLLn
import Derived.Test.YtmgejacndhnikaaAppN
import Derived.Deep.RegionHeld3
namespace Go.Proofs.Ytmgejacndhnikaa
open Go.RowKit

def nxB (b : Blk) : List Int := (if 0 ≤ b.thn then [b.thn] else []) ++ (if 0 ≤ b.test ∧ b.els ≠ b.thn then [b.els] else [])
def nexts (p : List Blk) : List (List Int) := p.map nxB
def nxTo (p : List Blk) (k : Nat) : List (List Int) := (p.take k).map nxB ++ List.replicate (p.length - k) []
theorem nxTo_len {p : List Blk} {k : Nat} (hk : k ≤ p.length) : (nxTo p k).length = p.length := by simp [nxTo]; omega
theorem nxTo_at {p : List Blk} {k : Nat} (hk : k < p.length) : (nxTo p k)[k]? = some [] := by
  unfold nxTo
  rw [List.getElem?_append_right (by simp; omega), List.getElem?_replicate, if_pos (by simp; omega)]
theorem nxTo_set {p : List Blk} {k : Nat} (hk : k < p.length) : (nxTo p k).set k (nxB p[k]) = nxTo p (k + 1) := by
  apply List.ext_getElem?
  intro j
  rw [List.getElem?_set]
  have hl := nxTo_len (Nat.le_of_lt hk)
  by_cases e : k = j
  · subst e
    rw [if_pos rfl, if_pos (by omega)]
    unfold nxTo
    rw [List.getElem?_append_left (by simp; omega), List.getElem?_map, List.getElem?_take, if_pos (by omega), List.getElem?_eq_getElem hk]; rfl
  · rw [if_neg e]
    unfold nxTo
    by_cases hj : j < k
    · rw [List.getElem?_append_left (by simp; omega), List.getElem?_append_left (by simp; omega), List.getElem?_map, List.getElem?_map, List.getElem?_take, List.getElem?_take, if_pos hj, if_pos (by omega)]
    · rw [List.getElem?_append_right (by simp; omega), List.getElem?_append_right (by simp; omega), List.getElem?_replicate, List.getElem?_replicate]
      simp only [List.length_map, List.length_take]
      by_cases hj2 : j < p.length
      · rw [if_pos (by omega), if_pos (by omega)]
      · rw [if_neg (by omega), if_neg (by omega)]
theorem nxTo_all (p : List Blk) : nxTo p p.length = nexts p := by unfold nxTo nexts; simp
theorem set_same {rows : List (List Int)} {k : Nat} (h : rows[k]? = some []) : rows.set k [] = rows := by
  obtain ⟨hk, e⟩ := List.getElem?_eq_some_iff.1 h
  rw [← e]; exact List.set_getElem_self hk

set_option maxRecDepth 100000 in
set_option maxHeartbeats 8000000 in
theorem next_calls (A : Option Addr) (p : List Blk) (cap : Nat) (w : World) (hA : RdBk w A p) (hn1 : 1 ≤ p.length) (hn8 : p.length ≤ 8) :
    Calls Try.prog 65 #[.slice A p.length cap] w fun e w' => ∃ b : Nat, e = .returned (.slice (some ⟨b, 0, none⟩) p.length p.length) ∧ RdN w' (some ⟨b, 0, none⟩) (nexts p) ∧ Below w.heap.size w w' := by
  have HA := Lib.hid hA
  clear hA
  go_enter Try.func65, Try.ntmps65
  go_wp2_with (at_make; refine wpList_makeN rfl _ _ rfl w.heap.size p.length rfl rfl (by omega) (Nat.le_refl _) ?_; intro wm hown hgrow)
  have hbm : w.heap.size < wm.heap.size := by
    obtain ⟨g, eg, _, hlt, _⟩ := OwnV.at2 hown (by simp; omega)
    injection eg with eg; injection eg with eg
    omega
  have HMk := Lib.hid (OwnLL.made (B := wm.heap.size) hown hbm hbm)
  have HWm := Lib.hid ((Below.refl w.heap.size w).grown hgrow (Nat.le_refl _) (fun k hk => by cases hk))
  clear hown hgrow
  go_loopw [11] (fun i wr => ∃ (k : Nat) (vals : List Value), k ≤ p.length ∧ i = .int .i64 k ∧ OwnLL wr w.heap.size wm.heap.size vals (nxTo p k) ∧ Below w.heap.size w wr ∧ wm.heap.size ≤ wr.heap.size) (fun i _ => p.length - (intOf i).toNat)
  case atStart => exact ⟨0, _, Nat.zero_le _, rfl, by have := HMk.out; simpa [nxTo] using this, HWm.out, Nat.le_refl _⟩
  case round =>
    clear HMk HWm
    obtain ⟨k, vals, hk, rfl, hLL, hW, hz⟩ := hrel
    have HW := Lib.hid hW
    have hws := hW.size
    have HBT := Lib.hid hz
    by_cases hlt : k < p.length
    · obtain ⟨pb, off, A', cap', rfl, hpb, c0', c1, c2, c3, hS⟩ := RdBk.at_ (HA.out.below hW) hlt
      have Hl := Lib.hid (nxTo_at hlt)
      have Hset := Lib.hid (nxTo_set hlt)
      have hrl := nxTo_len hk
      have hvl : k < vals.length := by rw [hLL.len, hrl]; exact hlt
      obtain ⟨v, hv⟩ : ∃ v, vals[k]? = some v := ⟨_, List.getElem?_eq_getElem hvl⟩
      have hrow := hLL.row k v [] hv Hl.out
      have HvT := Lib.hid (fun g e => Nat.ne_of_lt (own_lt hrow g e).2)
      obtain ⟨Av, cv, e, -⟩ := OwnI.rd hrow
      have e : v = .slice Av 0 cv := e
      subst e
      have Hv := Lib.hid hv
      have hbT := hLL.lt
      have Hrn : Hid (0 < vals.length) := Lib.hid (by omega)
      have Hkv := Lib.hid hvl
      have HLL := Lib.hid hLL
      have q1 : (k : Int) < (p.length : Int) := by omega
      clear hS hLL hW hrow hv
      generalize hgr : nxTo p k = rows at *
      clear hgr
      generalize p[k] = bk at *
      obtain ⟨code, test, thn, els⟩ := bk
      dsimp only at c0' c1 c2 c3 Hset
      have HSs : Hid (∀ (w' : World) (u : Value), (w'.cell? ⟨wr.heap.size, 1, none⟩ = some (.int .i64 test) ∧ w'.cell? ⟨wr.heap.size, 2, none⟩ = some (.int .i64 thn) ∧ w'.cell? ⟨wr.heap.size, 3, none⟩ = some (.int .i64 els)) → ((w'.setCell ⟨w.heap.size, k, none⟩ u).cell? ⟨wr.heap.size, 1, none⟩ = some (.int .i64 test) ∧ (w'.setCell ⟨w.heap.size, k, none⟩ u).cell? ⟨wr.heap.size, 2, none⟩ = some (.int .i64 thn) ∧ (w'.setCell ⟨w.heap.size, k, none⟩ u).cell? ⟨wr.heap.size, 3, none⟩ = some (.int .i64 els))) := Lib.hid (fun w' u h => by
        rw [World.cell?_setCell_far _ _ _ _ (by show w.heap.size ≠ wr.heap.size; omega), World.cell?_setCell_far _ _ _ _ (by show w.heap.size ≠ wr.heap.size; omega), World.cell?_setCell_far _ _ _ _ (by show w.heap.size ≠ wr.heap.size; omega)]
        exact h)
      by_cases t0 : 0 ≤ thn
      · by_cases e0 : 0 ≤ test
        · by_cases n0 : els = thn
          · have Hfs : Hid (rows.set k [thn] = nxTo p (k + 1)) := Lib.hid (by have h := Hset.out; unfold nxB at h; dsimp only at h; rw [if_pos t0, if_neg (fun h => h.2 n0)] at h; exact h)
            obtain rfl : thn = els := n0.symm
            have HLL0 := Lib.hid ((HLL.out.alloc (.cells #[.slice A' code.length cap', .int .i64 test, .int .i64 thn, .int .i64 thn] 85)).drew)
            have HW0 := Lib.hid ((HW.out.alloc hws (.cells #[.slice A' code.length cap', .int .i64 test, .int .i64 thn, .int .i64 thn] 85)).drew)
            have HT0 : Hid (wr.heap.size < (wr.alloc (.cells #[.slice A' code.length cap', .int .i64 test, .int .i64 thn, .int .i64 thn] 85)).drew.heap.size) := Lib.hid (by show wr.heap.size < (wr.alloc (.cells #[.slice A' code.length cap', .int .i64 test, .int .i64 thn, .int .i64 thn] 85)).heap.size; simp)
            have hS0 : (wr.alloc (.cells #[.slice A' code.length cap', .int .i64 test, .int .i64 thn, .int .i64 thn] 85)).drew.cell? ⟨wr.heap.size, 1, none⟩ = some (.int .i64 test) ∧ (wr.alloc (.cells #[.slice A' code.length cap', .int .i64 test, .int .i64 thn, .int .i64 thn] 85)).drew.cell? ⟨wr.heap.size, 2, none⟩ = some (.int .i64 thn) ∧ (wr.alloc (.cells #[.slice A' code.length cap', .int .i64 test, .int .i64 thn, .int .i64 thn] 85)).drew.cell? ⟨wr.heap.size, 3, none⟩ = some (.int .i64 thn) := ⟨cell_new wr _ _ wr.heap.size rfl 1, cell_new wr _ _ wr.heap.size rfl 2, cell_new wr _ _ wr.heap.size rfl 3⟩
            have HSb : Hid (∀ o : Obj, ((wr.alloc (.cells #[.slice A' code.length cap', .int .i64 test, .int .i64 thn, .int .i64 thn] 85)).drew.cell? ⟨wr.heap.size, 1, none⟩ = some (.int .i64 test) ∧ (wr.alloc (.cells #[.slice A' code.length cap', .int .i64 test, .int .i64 thn, .int .i64 thn] 85)).drew.cell? ⟨wr.heap.size, 2, none⟩ = some (.int .i64 thn) ∧ (wr.alloc (.cells #[.slice A' code.length cap', .int .i64 test, .int .i64 thn, .int .i64 thn] 85)).drew.cell? ⟨wr.heap.size, 3, none⟩ = some (.int .i64 thn)) → (((wr.alloc (.cells #[.slice A' code.length cap', .int .i64 test, .int .i64 thn, .int .i64 thn] 85)).drew.alloc o).cell? ⟨wr.heap.size, 1, none⟩ = some (.int .i64 test) ∧ ((wr.alloc (.cells #[.slice A' code.length cap', .int .i64 test, .int .i64 thn, .int .i64 thn] 85)).drew.alloc o).cell? ⟨wr.heap.size, 2, none⟩ = some (.int .i64 thn) ∧ ((wr.alloc (.cells #[.slice A' code.length cap', .int .i64 test, .int .i64 thn, .int .i64 thn] 85)).drew.alloc o).cell? ⟨wr.heap.size, 3, none⟩ = some (.int .i64 thn))) := Lib.hid (fun o h => ⟨(cell_grown (World.grownBy_alloc (wr.alloc (.cells #[.slice A' code.length cap', .int .i64 test, .int .i64 thn, .int .i64 thn] 85)).drew o none) _ 1 HT0.out (by simp)).trans h.1, (cell_grown (World.grownBy_alloc (wr.alloc (.cells #[.slice A' code.length cap', .int .i64 test, .int .i64 thn, .int .i64 thn] 85)).drew o none) _ 2 HT0.out (by simp)).trans h.2.1, (cell_grown (World.grownBy_alloc (wr.alloc (.cells #[.slice A' code.length cap', .int .i64 test, .int .i64 thn, .int .i64 thn] 85)).drew o none) _ 3 HT0.out (by simp)).trans h.2.2⟩)
            obtain ⟨g0, eg0, _, _, _, hcell0⟩ := OwnV.at2 HLL0.out.own Hrn.out
            injection eg0 with eg0; injection eg0 with eg0
            subst eg0
            have c0 := hcell0 k (List.getElem?_eq_some_iff.1 Hv.out).1
            rw [(List.getElem?_eq_some_iff.1 Hv.out).2] at c0
            clear hcell0
            go_wp2
            refine wp_region_held_drew (S := fun w' => w'.cell? ⟨wr.heap.size, 1, none⟩ = some (.int .i64 test) ∧ w'.cell? ⟨wr.heap.size, 2, none⟩ = some (.int .i64 thn) ∧ w'.cell? ⟨wr.heap.size, 3, none⟩ = some (.int .i64 thn)) (by kernel_rfl) hS0 (fun hH0 => ?_)
            clear hS0
            generalize (wr.alloc (.cells #[.slice A' code.length cap', .int .i64 test, .int .i64 thn, .int .i64 thn] 85)).drew = w0 at *
            refine wpAnyH_take (i := 0) (oi := { dst := some 19, op := Go.Op.move (Go.Operand.tmp 3), type := 97, pos := "block.go:54", after := #[], guard := none }) rfl (by kernel_rfl) (by kernel_rfl) (by kernel_rfl) (fun _ _ _ h => h) (Or.inl ⟨by rfl, fun w hw => by (go_simp; try with_reducible rfl)⟩) (by assumption) ?_
            try simp only [Act.put, List.setIfInBounds_toArray, List.set_cons_zero, List.set_cons_succ]
            refine wpAnyH_take (i := 1) (oi := { dst := some 20, op := Go.Op.move (Go.Operand.tmp 4), type := 3, pos := "block.go:54", after := #[], guard := none }) rfl (by kernel_rfl) (by kernel_rfl) (by kernel_rfl) (fun _ _ _ h => h) (Or.inl ⟨by rfl, fun w hw => by (go_simp; try with_reducible rfl)⟩) (by assumption) ?_
            try simp only [Act.put, List.setIfInBounds_toArray, List.set_cons_zero, List.set_cons_succ]
            refine wpAnyH_take (i := 2) (oi := { dst := some 21, op := Go.Op.move (Go.Operand.tmp 3), type := 97, pos := "block.go:54", after := #[], guard := none }) rfl (by kernel_rfl) (by kernel_rfl) (by kernel_rfl) (fun _ _ _ h => h) (Or.inl ⟨by rfl, fun w hw => by (go_simp; try with_reducible rfl)⟩) (by assumption) ?_
            try simp only [Act.put, List.setIfInBounds_toArray, List.set_cons_zero, List.set_cons_succ]
            refine wpAnyH_take (i := 3) (oi := { dst := some 22, op := Go.Op.move (Go.Operand.tmp 4), type := 3, pos := "block.go:54", after := #[], guard := none }) rfl (by kernel_rfl) (by kernel_rfl) (by kernel_rfl) (fun _ _ _ h => h) (Or.inl ⟨by rfl, fun w hw => by (go_simp; try with_reducible rfl)⟩) (by assumption) ?_
            try simp only [Act.put, List.setIfInBounds_toArray, List.set_cons_zero, List.set_cons_succ]
            refine wpAnyH_take (i := 4) (oi := { dst := some 23, op := Go.Op.indexAddr 97 (Go.Operand.tmp 21) (Go.Operand.tmp 22), type := 0, pos := "block.go:54", after := #[{ on := 2, ground := Go.Ground.data }, { on := 3, ground := Go.Ground.data }], guard := none }) rfl (by kernel_rfl) (by kernel_rfl) (by kernel_rfl) (fun _ _ _ h => h) (Or.inl ⟨by rfl, fun w hw => by (go_simp; try with_reducible rfl)⟩) (by assumption) ?_
            try simp only [Act.put, List.setIfInBounds_toArray, List.set_cons_zero, List.set_cons_succ]
            refine wpAnyH_take (i := 6) (oi := { dst := some 25, op := Go.Op.fieldAddr 85 (Go.Operand.tmp 5) 2, type := 0, pos := "block.go:54", after := #[], guard := none }) rfl (by kernel_rfl) (by kernel_rfl) (by kernel_rfl) (fun _ _ _ h => h) (Or.inl ⟨by rfl, fun w hw => by (go_simp; try with_reducible rfl)⟩) (by assumption) ?_
            try simp only [Act.put, List.setIfInBounds_toArray, List.set_cons_zero, List.set_cons_succ]
            refine wpAnyH_take (i := 7) (oi := { dst := some 26, op := Go.Op.load 3 (Go.Operand.tmp 25), type := 3, pos := "block.go:54", after := #[{ on := 6, ground := Go.Ground.data }], guard := none }) rfl (by kernel_rfl) (by kernel_rfl) (by kernel_rfl) (fun _ _ _ h => h) (Or.inl ⟨by rfl, fun w hw => by (obtain ⟨p0, p1, p2⟩ := hw; go_simp; try with_reducible rfl)⟩) (by assumption) ?_
            try simp only [Act.put, List.setIfInBounds_toArray, List.set_cons_zero, List.set_cons_succ]
            refine wpAnyH_ready (rs := [5, 8]) (by kernel_rfl) (by simp) ?_
            refine AllReadyH.cons (o := { dst := some 24, op := Go.Op.load 23 (Go.Operand.tmp 23), type := 23, pos := "block.go:54", after := #[{ on := 4, ground := Go.Ground.data }], guard := none }) rfl (fun K hK => ?_) ?_
            · have c9 := c0
              go_simp
              clear c9
              refine hK.out _ _ hH0 (fun hH1 => ?_)
              clear hK hH0
              have hH0 := hH1
              clear hH1
              try simp only [Act.put, List.setIfInBounds_toArray, List.set_cons_zero, List.set_cons_succ]
              refine wpAnyH_ready (rs := [8]) (by kernel_rfl) (by simp) ?_
              refine AllReadyH.cons (o := { dst := some 27, op := Go.Op.buildSlice 23 1 #[(0, Go.Operand.tmp 26)], type := 23, pos := "block.go:54", after := #[{ on := 7, ground := Go.Ground.data }], guard := none }) rfl (fun K hK => ?_) AllReadyH.nil
              go_simp
              refine hK.out _ _ (HSb.out _ hH0) (fun hH1 => ?_)
              clear hK hH0
              have hH0 := hH1
              clear hH1
              have HLL1 := Lib.hid (HLL0.out.alloc (.cells #[.int .i64 thn] 3))
              have HW1 := Lib.hid (HW0.out.alloc HW0.out.size (.cells #[.int .i64 thn] 3))
              have HC1 := Lib.hid (cell_grown (World.grownBy_alloc w0 (.cells #[.int .i64 thn] 3) none) w.heap.size k HLL0.out.lt (by simp))
              have HN1 : Hid (∀ j, j < 1 → (w0.alloc (.cells #[.int .i64 thn] 3)).cell? ⟨w0.heap.size, j, none⟩ = (intCells thn)[j]?) := Lib.hid (fun j hj => by (obtain rfl : j = 0 := by omega); exact cell_new w0 #[.int .i64 thn] 3 w0.heap.size rfl 0)
              have HT1 : Hid (wr.heap.size < (w0.alloc (.cells #[.int .i64 thn] 3)).heap.size) := Lib.hid (by have := HT0.out; simp; omega)
              generalize w0.alloc (.cells #[.int .i64 thn] 3) = w1 at *
              generalize w0.heap.size = s1 at *
              try simp only [Act.put, List.setIfInBounds_toArray, List.set_cons_zero, List.set_cons_succ]
              refine wpAnyH_ready (rs := [9]) (by kernel_rfl) (by simp) ?_
              refine AllReadyH.cons (o := { dst := some 28, op := Go.Op.call { callee := Go.Callee.builtin Go.Builtin.append, args := #[Go.Operand.tmp 24, Go.Operand.tmp 27], argTypes := #[23, 23] }, type := 23, pos := "block.go:54", after := #[{ on := 5, ground := Go.Ground.data }, { on := 8, ground := Go.Ground.data }], guard := none }) rfl (fun K hK => ?_) AllReadyH.nil
              obtain ⟨v3, w3, hrun, hown, hgrow, hat⟩ := run_app1 (P := Try.prog) (w := w1) 23 23 intCells 1 8 3 (.int .i64 0) Try.underlying23 infoInt rfl (by decide) intCells_len intCells_one wm.heap.size (.slice Av 0 cv) ([]) thn (HLL1.out.row k _ _ Hv.out Hl.out) s1 1 HN1.out (by unfold maxLen; simp) (by simp) (Nat.le_of_lt (by have := HBT.out; have := HT1.out; omega))
              rw [if_pos (by rfl)]
              refine wp_app_run 23 _ _ rfl rfl rfl hrun ?_
              have hP := HLL1.out.grown Hv.out Hl.out hown hgrow hat
              obtain ⟨g3, eg3, _, hg3, hfz3, hcell3⟩ := OwnV.at2 hP.1 Hrn.out
              injection eg3 with eg3; injection eg3 with eg3
              subst eg3
              have c3 := hcell3 k (List.getElem?_eq_some_iff.1 Hv.out).1
              have f3 := hfz3 k
              have HLL3 := Lib.hid hP.2
              have HvT3 : Hid (∀ g, v3.ownBlock = some g → g ≠ wr.heap.size) := Lib.hid (fun g e => by rcases hat with h | h; exact HvT.out g (h.symm.trans e); (rw [h] at e; injection e with e; have := HT1.out; omega))
              have HW3 := Lib.hid (below_own HW1.out hgrow (HLL1.out.row k _ _ Hv.out Hl.out) (by omega) HW1.out.size)
              have HT3 : Hid (wr.heap.size < w3.heap.size) := Lib.hid (Nat.lt_of_lt_of_le HT1.out hgrow.size)
              have hS3 : w3.cell? ⟨wr.heap.size, 1, none⟩ = some (.int .i64 test) ∧ w3.cell? ⟨wr.heap.size, 2, none⟩ = some (.int .i64 thn) ∧ w3.cell? ⟨wr.heap.size, 3, none⟩ = some (.int .i64 thn) := ⟨(cell_grown hgrow _ 1 HT1.out (fun e => HvT.out _ e.symm rfl)).trans hH0.1, (cell_grown hgrow _ 2 HT1.out (fun e => HvT.out _ e.symm rfl)).trans hH0.2.1, (cell_grown hgrow _ 3 HT1.out (fun e => HvT.out _ e.symm rfl)).trans hH0.2.2⟩
              obtain ⟨B3, d3, e3, _⟩ := OwnI.rd hown
              have e3 : v3 = .slice B3 1 d3 := e3
              subst e3
              obtain ⟨z1, z2, z3⟩ := hS3
              refine hK.out _ _ ⟨z1, z2, z3⟩ (fun hH1 => ?_)
              clear hK hrun hown hgrow hat hP hcell3 hfz3 hH0
              have hH0 := hH1
              clear hH1
              try simp only [Act.put, List.setIfInBounds_toArray, List.set_cons_zero, List.set_cons_succ]
              refine wpAnyH_take (i := 10) (oi := { dst := some 29, op := Go.Op.indexAddr 97 (Go.Operand.tmp 19) (Go.Operand.tmp 20), type := 0, pos := "block.go:54", after := #[{ on := 0, ground := Go.Ground.data }, { on := 1, ground := Go.Ground.data }, { on := 0, ground := Go.Ground.phase }, { on := 1, ground := Go.Ground.phase }, { on := 2, ground := Go.Ground.phase }, { on := 3, ground := Go.Ground.phase }, { on := 4, ground := Go.Ground.phase }, { on := 5, ground := Go.Ground.phase }, { on := 6, ground := Go.Ground.phase }, { on := 7, ground := Go.Ground.phase }, { on := 8, ground := Go.Ground.phase }, { on := 9, ground := Go.Ground.phase }], guard := none }) rfl (by kernel_rfl) (by kernel_rfl) (by kernel_rfl) (fun _ _ _ h => h) (Or.inl ⟨by rfl, fun w hw => by (go_simp; try with_reducible rfl)⟩) (by assumption) ?_
              try simp only [Act.put, List.setIfInBounds_toArray, List.set_cons_zero, List.set_cons_succ]
              refine wpAnyH_ready (rs := [11]) (by kernel_rfl) (by simp) ?_
              refine AllReadyH.cons (o := { dst := none, op := Go.Op.store 23 (Go.Operand.tmp 29) (Go.Operand.tmp 28), type := 0, pos := "block.go:54", after := #[{ on := 10, ground := Go.Ground.data }, { on := 9, ground := Go.Ground.data }, { on := 9, ground := Go.Ground.chain }, { on := 0, ground := Go.Ground.phase }, { on := 1, ground := Go.Ground.phase }, { on := 2, ground := Go.Ground.phase }, { on := 3, ground := Go.Ground.phase }, { on := 4, ground := Go.Ground.phase }, { on := 5, ground := Go.Ground.phase }, { on := 6, ground := Go.Ground.phase }, { on := 7, ground := Go.Ground.phase }, { on := 8, ground := Go.Ground.phase }, { on := 9, ground := Go.Ground.phase }], guard := none }) rfl (fun K hK => ?_) AllReadyH.nil
              go_simp
              refine hK.out _ _ (HSs.out _ _ hH0) (fun hH1 => ?_)
              clear hK hH0
              have hH0 := hH1
              clear hH1
              try simp only [Act.put, List.setIfInBounds_toArray, List.set_cons_zero, List.set_cons_succ]
              refine wpAnyH_done (by kernel_rfl) ?_ _
              have HW4 := Lib.hid (HW3.out.setCell (p := ⟨w.heap.size, k, none⟩) (Nat.le_refl _) (.slice B3 1 d3))
              have HT4 : Hid (wr.heap.size < (w3.setCell ⟨w.heap.size, k, none⟩ (.slice B3 1 d3)).heap.size) := Lib.hid (by have := HT3.out; simpa [World.setCell] using this)
              clear hH0
              go_wp2
              go_roundw
              case rel => exact ⟨k + 1, _, by omega, by go_num, by rw [← Hfs.out]; have h := HLL3.out; exact h, HW4.out, by have := HBT.out; have := HT4.out; omega⟩
              case measure => simp [intOf]; omega
            refine AllReadyH.cons (o := { dst := some 27, op := Go.Op.buildSlice 23 1 #[(0, Go.Operand.tmp 26)], type := 23, pos := "block.go:54", after := #[{ on := 7, ground := Go.Ground.data }], guard := none }) rfl (fun K hK => ?_) AllReadyH.nil
            go_simp
            refine hK.out _ _ (HSb.out _ hH0) (fun hH1 => ?_)
            clear hK hH0
            have hH0 := hH1
            clear hH1
            have HLL1 := Lib.hid (HLL0.out.alloc (.cells #[.int .i64 thn] 3))
            have HW1 := Lib.hid (HW0.out.alloc HW0.out.size (.cells #[.int .i64 thn] 3))
            have HC1 := Lib.hid (cell_grown (World.grownBy_alloc w0 (.cells #[.int .i64 thn] 3) none) w.heap.size k HLL0.out.lt (by simp))
            have HN1 : Hid (∀ j, j < 1 → (w0.alloc (.cells #[.int .i64 thn] 3)).cell? ⟨w0.heap.size, j, none⟩ = (intCells thn)[j]?) := Lib.hid (fun j hj => by (obtain rfl : j = 0 := by omega); exact cell_new w0 #[.int .i64 thn] 3 w0.heap.size rfl 0)
            have HT1 : Hid (wr.heap.size < (w0.alloc (.cells #[.int .i64 thn] 3)).heap.size) := Lib.hid (by have := HT0.out; simp; omega)
            generalize w0.alloc (.cells #[.int .i64 thn] 3) = w1 at *
            generalize w0.heap.size = s1 at *
            try simp only [Act.put, List.setIfInBounds_toArray, List.set_cons_zero, List.set_cons_succ]
            refine wpAnyH_ready (rs := [5]) (by kernel_rfl) (by simp) ?_
            refine AllReadyH.cons (o := { dst := some 24, op := Go.Op.load 23 (Go.Operand.tmp 23), type := 23, pos := "block.go:54", after := #[{ on := 4, ground := Go.Ground.data }], guard := none }) rfl (fun K hK => ?_) AllReadyH.nil
            have c9 := HC1.out.trans c0
            go_simp
            clear c9
            refine hK.out _ _ hH0 (fun hH1 => ?_)
            clear hK hH0
            have hH0 := hH1
            clear hH1
            try simp only [Act.put, List.setIfInBounds_toArray, List.set_cons_zero, List.set_cons_succ]
            refine wpAnyH_ready (rs := [9]) (by kernel_rfl) (by simp) ?_
            refine AllReadyH.cons (o := { dst := some 28, op := Go.Op.call { callee := Go.Callee.builtin Go.Builtin.append, args := #[Go.Operand.tmp 24, Go.Operand.tmp 27], argTypes := #[23, 23] }, type := 23, pos := "block.go:54", after := #[{ on := 5, ground := Go.Ground.data }, { on := 8, ground := Go.Ground.data }], guard := none }) rfl (fun K hK => ?_) AllReadyH.nil
            obtain ⟨v3, w3, hrun, hown, hgrow, hat⟩ := run_app1 (P := Try.prog) (w := w1) 23 23 intCells 1 8 3 (.int .i64 0) Try.underlying23 infoInt rfl (by decide) intCells_len intCells_one wm.heap.size (.slice Av 0 cv) ([]) thn (HLL1.out.row k _ _ Hv.out Hl.out) s1 1 HN1.out (by unfold maxLen; simp) (by simp) (Nat.le_of_lt (by have := HBT.out; have := HT1.out; omega))
            rw [if_pos (by rfl)]
            refine wp_app_run 23 _ _ rfl rfl rfl hrun ?_
            have hP := HLL1.out.grown Hv.out Hl.out hown hgrow hat
            obtain ⟨g3, eg3, _, hg3, hfz3, hcell3⟩ := OwnV.at2 hP.1 Hrn.out
            injection eg3 with eg3; injection eg3 with eg3
            subst eg3
            have c3 := hcell3 k (List.getElem?_eq_some_iff.1 Hv.out).1
            have f3 := hfz3 k
            have HLL3 := Lib.hid hP.2
            have HvT3 : Hid (∀ g, v3.ownBlock = some g → g ≠ wr.heap.size) := Lib.hid (fun g e => by rcases hat with h | h; exact HvT.out g (h.symm.trans e); (rw [h] at e; injection e with e; have := HT1.out; omega))
            have HW3 := Lib.hid (below_own HW1.out hgrow (HLL1.out.row k _ _ Hv.out Hl.out) (by omega) HW1.out.size)
            have HT3 : Hid (wr.heap.size < w3.heap.size) := Lib.hid (Nat.lt_of_lt_of_le HT1.out hgrow.size)
            have hS3 : w3.cell? ⟨wr.heap.size, 1, none⟩ = some (.int .i64 test) ∧ w3.cell? ⟨wr.heap.size, 2, none⟩ = some (.int .i64 thn) ∧ w3.cell? ⟨wr.heap.size, 3, none⟩ = some (.int .i64 thn) := ⟨(cell_grown hgrow _ 1 HT1.out (fun e => HvT.out _ e.symm rfl)).trans hH0.1, (cell_grown hgrow _ 2 HT1.out (fun e => HvT.out _ e.symm rfl)).trans hH0.2.1, (cell_grown hgrow _ 3 HT1.out (fun e => HvT.out _ e.symm rfl)).trans hH0.2.2⟩
            obtain ⟨B3, d3, e3, _⟩ := OwnI.rd hown
            have e3 : v3 = .slice B3 1 d3 := e3
            subst e3
            obtain ⟨z1, z2, z3⟩ := hS3
            refine hK.out _ _ ⟨z1, z2, z3⟩ (fun hH1 => ?_)
            clear hK hrun hown hgrow hat hP hcell3 hfz3 hH0
            have hH0 := hH1
            clear hH1
            try simp only [Act.put, List.setIfInBounds_toArray, List.set_cons_zero, List.set_cons_succ]
            refine wpAnyH_take (i := 10) (oi := { dst := some 29, op := Go.Op.indexAddr 97 (Go.Operand.tmp 19) (Go.Operand.tmp 20), type := 0, pos := "block.go:54", after := #[{ on := 0, ground := Go.Ground.data }, { on := 1, ground := Go.Ground.data }, { on := 0, ground := Go.Ground.phase }, { on := 1, ground := Go.Ground.phase }, { on := 2, ground := Go.Ground.phase }, { on := 3, ground := Go.Ground.phase }, { on := 4, ground := Go.Ground.phase }, { on := 5, ground := Go.Ground.phase }, { on := 6, ground := Go.Ground.phase }, { on := 7, ground := Go.Ground.phase }, { on := 8, ground := Go.Ground.phase }, { on := 9, ground := Go.Ground.phase }], guard := none }) rfl (by kernel_rfl) (by kernel_rfl) (by kernel_rfl) (fun _ _ _ h => h) (Or.inl ⟨by rfl, fun w hw => by (go_simp; try with_reducible rfl)⟩) (by assumption) ?_
            try simp only [Act.put, List.setIfInBounds_toArray, List.set_cons_zero, List.set_cons_succ]
            refine wpAnyH_ready (rs := [11]) (by kernel_rfl) (by simp) ?_
            refine AllReadyH.cons (o := { dst := none, op := Go.Op.store 23 (Go.Operand.tmp 29) (Go.Operand.tmp 28), type := 0, pos := "block.go:54", after := #[{ on := 10, ground := Go.Ground.data }, { on := 9, ground := Go.Ground.data }, { on := 9, ground := Go.Ground.chain }, { on := 0, ground := Go.Ground.phase }, { on := 1, ground := Go.Ground.phase }, { on := 2, ground := Go.Ground.phase }, { on := 3, ground := Go.Ground.phase }, { on := 4, ground := Go.Ground.phase }, { on := 5, ground := Go.Ground.phase }, { on := 6, ground := Go.Ground.phase }, { on := 7, ground := Go.Ground.phase }, { on := 8, ground := Go.Ground.phase }, { on := 9, ground := Go.Ground.phase }], guard := none }) rfl (fun K hK => ?_) AllReadyH.nil
            go_simp
            refine hK.out _ _ (HSs.out _ _ hH0) (fun hH1 => ?_)
            clear hK hH0
            have hH0 := hH1
            clear hH1
            try simp only [Act.put, List.setIfInBounds_toArray, List.set_cons_zero, List.set_cons_succ]
            refine wpAnyH_done (by kernel_rfl) ?_ _
            have HW4 := Lib.hid (HW3.out.setCell (p := ⟨w.heap.size, k, none⟩) (Nat.le_refl _) (.slice B3 1 d3))
            have HT4 : Hid (wr.heap.size < (w3.setCell ⟨w.heap.size, k, none⟩ (.slice B3 1 d3)).heap.size) := Lib.hid (by have := HT3.out; simpa [World.setCell] using this)
            clear hH0
            go_wp2
            go_roundw
            case rel => exact ⟨k + 1, _, by omega, by go_num, by rw [← Hfs.out]; have h := HLL3.out; exact h, HW4.out, by have := HBT.out; have := HT4.out; omega⟩
            case measure => simp [intOf]; omega
          · have Hfs : Hid (rows.set k [thn, els] = nxTo p (k + 1)) := Lib.hid (by have h := Hset.out; unfold nxB at h; dsimp only at h; rw [if_pos t0, if_pos ⟨e0, n0⟩] at h; exact h)
            have q7 : (els != thn) = true := by rw [bne_iff_ne]; exact n0
            have HLL0 := Lib.hid ((HLL.out.alloc (.cells #[.slice A' code.length cap', .int .i64 test, .int .i64 thn, .int .i64 els] 85)).drew)
            have HW0 := Lib.hid ((HW.out.alloc hws (.cells #[.slice A' code.length cap', .int .i64 test, .int .i64 thn, .int .i64 els] 85)).drew)
            have HT0 : Hid (wr.heap.size < (wr.alloc (.cells #[.slice A' code.length cap', .int .i64 test, .int .i64 thn, .int .i64 els] 85)).drew.heap.size) := Lib.hid (by show wr.heap.size < (wr.alloc (.cells #[.slice A' code.length cap', .int .i64 test, .int .i64 thn, .int .i64 els] 85)).heap.size; simp)
            have hS0 : (wr.alloc (.cells #[.slice A' code.length cap', .int .i64 test, .int .i64 thn, .int .i64 els] 85)).drew.cell? ⟨wr.heap.size, 1, none⟩ = some (.int .i64 test) ∧ (wr.alloc (.cells #[.slice A' code.length cap', .int .i64 test, .int .i64 thn, .int .i64 els] 85)).drew.cell? ⟨wr.heap.size, 2, none⟩ = some (.int .i64 thn) ∧ (wr.alloc (.cells #[.slice A' code.length cap', .int .i64 test, .int .i64 thn, .int .i64 els] 85)).drew.cell? ⟨wr.heap.size, 3, none⟩ = some (.int .i64 els) := ⟨cell_new wr _ _ wr.heap.size rfl 1, cell_new wr _ _ wr.heap.size rfl 2, cell_new wr _ _ wr.heap.size rfl 3⟩
            have HSb : Hid (∀ o : Obj, ((wr.alloc (.cells #[.slice A' code.length cap', .int .i64 test, .int .i64 thn, .int .i64 els] 85)).drew.cell? ⟨wr.heap.size, 1, none⟩ = some (.int .i64 test) ∧ (wr.alloc (.cells #[.slice A' code.length cap', .int .i64 test, .int .i64 thn, .int .i64 els] 85)).drew.cell? ⟨wr.heap.size, 2, none⟩ = some (.int .i64 thn) ∧ (wr.alloc (.cells #[.slice A' code.length cap', .int .i64 test, .int .i64 thn, .int .i64 els] 85)).drew.cell? ⟨wr.heap.size, 3, none⟩ = some (.int .i64 els)) → (((wr.alloc (.cells #[.slice A' code.length cap', .int .i64 test, .int .i64 thn, .int .i64 els] 85)).drew.alloc o).cell? ⟨wr.heap.size, 1, none⟩ = some (.int .i64 test) ∧ ((wr.alloc (.cells #[.slice A' code.length cap', .int .i64 test, .int .i64 thn, .int .i64 els] 85)).drew.alloc o).cell? ⟨wr.heap.size, 2, none⟩ = some (.int .i64 thn) ∧ ((wr.alloc (.cells #[.slice A' code.length cap', .int .i64 test, .int .i64 thn, .int .i64 els] 85)).drew.alloc o).cell? ⟨wr.heap.size, 3, none⟩ = some (.int .i64 els))) := Lib.hid (fun o h => ⟨(cell_grown (World.grownBy_alloc (wr.alloc (.cells #[.slice A' code.length cap', .int .i64 test, .int .i64 thn, .int .i64 els] 85)).drew o none) _ 1 HT0.out (by simp)).trans h.1, (cell_grown (World.grownBy_alloc (wr.alloc (.cells #[.slice A' code.length cap', .int .i64 test, .int .i64 thn, .int .i64 els] 85)).drew o none) _ 2 HT0.out (by simp)).trans h.2.1, (cell_grown (World.grownBy_alloc (wr.alloc (.cells #[.slice A' code.length cap', .int .i64 test, .int .i64 thn, .int .i64 els] 85)).drew o none) _ 3 HT0.out (by simp)).trans h.2.2⟩)
            obtain ⟨g0, eg0, _, _, _, hcell0⟩ := OwnV.at2 HLL0.out.own Hrn.out
            injection eg0 with eg0; injection eg0 with eg0
            subst eg0
            have c0 := hcell0 k (List.getElem?_eq_some_iff.1 Hv.out).1
            rw [(List.getElem?_eq_some_iff.1 Hv.out).2] at c0
            clear hcell0
            go_wp2
            refine wp_region_held_drew (S := fun w' => w'.cell? ⟨wr.heap.size, 1, none⟩ = some (.int .i64 test) ∧ w'.cell? ⟨wr.heap.size, 2, none⟩ = some (.int .i64 thn) ∧ w'.cell? ⟨wr.heap.size, 3, none⟩ = some (.int .i64 els)) (by kernel_rfl) hS0 (fun hH0 => ?_)
            clear hS0
            generalize (wr.alloc (.cells #[.slice A' code.length cap', .int .i64 test, .int .i64 thn, .int .i64 els] 85)).drew = w0 at *
            refine wpAnyH_take (i := 0) (oi := { dst := some 19, op := Go.Op.move (Go.Operand.tmp 3), type := 97, pos := "block.go:54", after := #[], guard := none }) rfl (by kernel_rfl) (by kernel_rfl) (by kernel_rfl) (fun _ _ _ h => h) (Or.inl ⟨by rfl, fun w hw => by (go_simp; try with_reducible rfl)⟩) (by assumption) ?_
            try simp only [Act.put, List.setIfInBounds_toArray, List.set_cons_zero, List.set_cons_succ]
            refine wpAnyH_take (i := 1) (oi := { dst := some 20, op := Go.Op.move (Go.Operand.tmp 4), type := 3, pos := "block.go:54", after := #[], guard := none }) rfl (by kernel_rfl) (by kernel_rfl) (by kernel_rfl) (fun _ _ _ h => h) (Or.inl ⟨by rfl, fun w hw => by (go_simp; try with_reducible rfl)⟩) (by assumption) ?_
            try simp only [Act.put, List.setIfInBounds_toArray, List.set_cons_zero, List.set_cons_succ]
            refine wpAnyH_take (i := 2) (oi := { dst := some 21, op := Go.Op.move (Go.Operand.tmp 3), type := 97, pos := "block.go:54", after := #[], guard := none }) rfl (by kernel_rfl) (by kernel_rfl) (by kernel_rfl) (fun _ _ _ h => h) (Or.inl ⟨by rfl, fun w hw => by (go_simp; try with_reducible rfl)⟩) (by assumption) ?_
            try simp only [Act.put, List.setIfInBounds_toArray, List.set_cons_zero, List.set_cons_succ]
            refine wpAnyH_take (i := 3) (oi := { dst := some 22, op := Go.Op.move (Go.Operand.tmp 4), type := 3, pos := "block.go:54", after := #[], guard := none }) rfl (by kernel_rfl) (by kernel_rfl) (by kernel_rfl) (fun _ _ _ h => h) (Or.inl ⟨by rfl, fun w hw => by (go_simp; try with_reducible rfl)⟩) (by assumption) ?_
            try simp only [Act.put, List.setIfInBounds_toArray, List.set_cons_zero, List.set_cons_succ]
            refine wpAnyH_take (i := 4) (oi := { dst := some 23, op := Go.Op.indexAddr 97 (Go.Operand.tmp 21) (Go.Operand.tmp 22), type := 0, pos := "block.go:54", after := #[{ on := 2, ground := Go.Ground.data }, { on := 3, ground := Go.Ground.data }], guard := none }) rfl (by kernel_rfl) (by kernel_rfl) (by kernel_rfl) (fun _ _ _ h => h) (Or.inl ⟨by rfl, fun w hw => by (go_simp; try with_reducible rfl)⟩) (by assumption) ?_
            try simp only [Act.put, List.setIfInBounds_toArray, List.set_cons_zero, List.set_cons_succ]
            refine wpAnyH_take (i := 6) (oi := { dst := some 25, op := Go.Op.fieldAddr 85 (Go.Operand.tmp 5) 2, type := 0, pos := "block.go:54", after := #[], guard := none }) rfl (by kernel_rfl) (by kernel_rfl) (by kernel_rfl) (fun _ _ _ h => h) (Or.inl ⟨by rfl, fun w hw => by (go_simp; try with_reducible rfl)⟩) (by assumption) ?_
            try simp only [Act.put, List.setIfInBounds_toArray, List.set_cons_zero, List.set_cons_succ]
            refine wpAnyH_take (i := 7) (oi := { dst := some 26, op := Go.Op.load 3 (Go.Operand.tmp 25), type := 3, pos := "block.go:54", after := #[{ on := 6, ground := Go.Ground.data }], guard := none }) rfl (by kernel_rfl) (by kernel_rfl) (by kernel_rfl) (fun _ _ _ h => h) (Or.inl ⟨by rfl, fun w hw => by (obtain ⟨p0, p1, p2⟩ := hw; go_simp; try with_reducible rfl)⟩) (by assumption) ?_
            try simp only [Act.put, List.setIfInBounds_toArray, List.set_cons_zero, List.set_cons_succ]
            refine wpAnyH_ready (rs := [5, 8]) (by kernel_rfl) (by simp) ?_
            refine AllReadyH.cons (o := { dst := some 24, op := Go.Op.load 23 (Go.Operand.tmp 23), type := 23, pos := "block.go:54", after := #[{ on := 4, ground := Go.Ground.data }], guard := none }) rfl (fun K hK => ?_) ?_
            · have c9 := c0
              go_simp
              clear c9
              refine hK.out _ _ hH0 (fun hH1 => ?_)
              clear hK hH0
              have hH0 := hH1
              clear hH1
              try simp only [Act.put, List.setIfInBounds_toArray, List.set_cons_zero, List.set_cons_succ]
              refine wpAnyH_ready (rs := [8]) (by kernel_rfl) (by simp) ?_
              refine AllReadyH.cons (o := { dst := some 27, op := Go.Op.buildSlice 23 1 #[(0, Go.Operand.tmp 26)], type := 23, pos := "block.go:54", after := #[{ on := 7, ground := Go.Ground.data }], guard := none }) rfl (fun K hK => ?_) AllReadyH.nil
              go_simp
              refine hK.out _ _ (HSb.out _ hH0) (fun hH1 => ?_)
              clear hK hH0
              have hH0 := hH1
              clear hH1
              have HLL1 := Lib.hid (HLL0.out.alloc (.cells #[.int .i64 thn] 3))
              have HW1 := Lib.hid (HW0.out.alloc HW0.out.size (.cells #[.int .i64 thn] 3))
              have HC1 := Lib.hid (cell_grown (World.grownBy_alloc w0 (.cells #[.int .i64 thn] 3) none) w.heap.size k HLL0.out.lt (by simp))
              have HN1 : Hid (∀ j, j < 1 → (w0.alloc (.cells #[.int .i64 thn] 3)).cell? ⟨w0.heap.size, j, none⟩ = (intCells thn)[j]?) := Lib.hid (fun j hj => by (obtain rfl : j = 0 := by omega); exact cell_new w0 #[.int .i64 thn] 3 w0.heap.size rfl 0)
              have HT1 : Hid (wr.heap.size < (w0.alloc (.cells #[.int .i64 thn] 3)).heap.size) := Lib.hid (by have := HT0.out; simp; omega)
              generalize w0.alloc (.cells #[.int .i64 thn] 3) = w1 at *
              generalize w0.heap.size = s1 at *
              try simp only [Act.put, List.setIfInBounds_toArray, List.set_cons_zero, List.set_cons_succ]
              refine wpAnyH_ready (rs := [9]) (by kernel_rfl) (by simp) ?_
              refine AllReadyH.cons (o := { dst := some 28, op := Go.Op.call { callee := Go.Callee.builtin Go.Builtin.append, args := #[Go.Operand.tmp 24, Go.Operand.tmp 27], argTypes := #[23, 23] }, type := 23, pos := "block.go:54", after := #[{ on := 5, ground := Go.Ground.data }, { on := 8, ground := Go.Ground.data }], guard := none }) rfl (fun K hK => ?_) AllReadyH.nil
              obtain ⟨v3, w3, hrun, hown, hgrow, hat⟩ := run_app1 (P := Try.prog) (w := w1) 23 23 intCells 1 8 3 (.int .i64 0) Try.underlying23 infoInt rfl (by decide) intCells_len intCells_one wm.heap.size (.slice Av 0 cv) ([]) thn (HLL1.out.row k _ _ Hv.out Hl.out) s1 1 HN1.out (by unfold maxLen; simp) (by simp) (Nat.le_of_lt (by have := HBT.out; have := HT1.out; omega))
              rw [if_pos (by rfl)]
              refine wp_app_run 23 _ _ rfl rfl rfl hrun ?_
              have hP := HLL1.out.grown Hv.out Hl.out hown hgrow hat
              obtain ⟨g3, eg3, _, hg3, hfz3, hcell3⟩ := OwnV.at2 hP.1 Hrn.out
              injection eg3 with eg3; injection eg3 with eg3
              subst eg3
              have c3 := hcell3 k (List.getElem?_eq_some_iff.1 Hv.out).1
              have f3 := hfz3 k
              have HLL3 := Lib.hid hP.2
              have HvT3 : Hid (∀ g, v3.ownBlock = some g → g ≠ wr.heap.size) := Lib.hid (fun g e => by rcases hat with h | h; exact HvT.out g (h.symm.trans e); (rw [h] at e; injection e with e; have := HT1.out; omega))
              have HW3 := Lib.hid (below_own HW1.out hgrow (HLL1.out.row k _ _ Hv.out Hl.out) (by omega) HW1.out.size)
              have HT3 : Hid (wr.heap.size < w3.heap.size) := Lib.hid (Nat.lt_of_lt_of_le HT1.out hgrow.size)
              have hS3 : w3.cell? ⟨wr.heap.size, 1, none⟩ = some (.int .i64 test) ∧ w3.cell? ⟨wr.heap.size, 2, none⟩ = some (.int .i64 thn) ∧ w3.cell? ⟨wr.heap.size, 3, none⟩ = some (.int .i64 els) := ⟨(cell_grown hgrow _ 1 HT1.out (fun e => HvT.out _ e.symm rfl)).trans hH0.1, (cell_grown hgrow _ 2 HT1.out (fun e => HvT.out _ e.symm rfl)).trans hH0.2.1, (cell_grown hgrow _ 3 HT1.out (fun e => HvT.out _ e.symm rfl)).trans hH0.2.2⟩
              obtain ⟨B3, d3, e3, _⟩ := OwnI.rd hown
              have e3 : v3 = .slice B3 1 d3 := e3
              subst e3
              obtain ⟨z1, z2, z3⟩ := hS3
              refine hK.out _ _ ⟨z1, z2, z3⟩ (fun hH1 => ?_)
              clear hK hrun hown hgrow hat hP hcell3 hfz3 hH0
              have hH0 := hH1
              clear hH1
              try simp only [Act.put, List.setIfInBounds_toArray, List.set_cons_zero, List.set_cons_succ]
              refine wpAnyH_take (i := 10) (oi := { dst := some 29, op := Go.Op.indexAddr 97 (Go.Operand.tmp 19) (Go.Operand.tmp 20), type := 0, pos := "block.go:54", after := #[{ on := 0, ground := Go.Ground.data }, { on := 1, ground := Go.Ground.data }, { on := 0, ground := Go.Ground.phase }, { on := 1, ground := Go.Ground.phase }, { on := 2, ground := Go.Ground.phase }, { on := 3, ground := Go.Ground.phase }, { on := 4, ground := Go.Ground.phase }, { on := 5, ground := Go.Ground.phase }, { on := 6, ground := Go.Ground.phase }, { on := 7, ground := Go.Ground.phase }, { on := 8, ground := Go.Ground.phase }, { on := 9, ground := Go.Ground.phase }], guard := none }) rfl (by kernel_rfl) (by kernel_rfl) (by kernel_rfl) (fun _ _ _ h => h) (Or.inl ⟨by rfl, fun w hw => by (go_simp; try with_reducible rfl)⟩) (by assumption) ?_
              try simp only [Act.put, List.setIfInBounds_toArray, List.set_cons_zero, List.set_cons_succ]
              refine wpAnyH_ready (rs := [11]) (by kernel_rfl) (by simp) ?_
              refine AllReadyH.cons (o := { dst := none, op := Go.Op.store 23 (Go.Operand.tmp 29) (Go.Operand.tmp 28), type := 0, pos := "block.go:54", after := #[{ on := 10, ground := Go.Ground.data }, { on := 9, ground := Go.Ground.data }, { on := 9, ground := Go.Ground.chain }, { on := 0, ground := Go.Ground.phase }, { on := 1, ground := Go.Ground.phase }, { on := 2, ground := Go.Ground.phase }, { on := 3, ground := Go.Ground.phase }, { on := 4, ground := Go.Ground.phase }, { on := 5, ground := Go.Ground.phase }, { on := 6, ground := Go.Ground.phase }, { on := 7, ground := Go.Ground.phase }, { on := 8, ground := Go.Ground.phase }, { on := 9, ground := Go.Ground.phase }], guard := none }) rfl (fun K hK => ?_) AllReadyH.nil
              go_simp
              refine hK.out _ _ (HSs.out _ _ hH0) (fun hH1 => ?_)
              clear hK hH0
              have hH0 := hH1
              clear hH1
              try simp only [Act.put, List.setIfInBounds_toArray, List.set_cons_zero, List.set_cons_succ]
              refine wpAnyH_done (by kernel_rfl) ?_ _
              have HW4 := Lib.hid (HW3.out.setCell (p := ⟨w.heap.size, k, none⟩) (Nat.le_refl _) (.slice B3 1 d3))
              have HT4 : Hid (wr.heap.size < (w3.setCell ⟨w.heap.size, k, none⟩ (.slice B3 1 d3)).heap.size) := Lib.hid (by have := HT3.out; simpa [World.setCell] using this)
              have Hvx : Hid ((vals.set k (.slice B3 1 d3))[k]? = some (.slice B3 1 d3)) := Lib.hid (by rw [List.getElem?_set, if_pos rfl, if_pos Hkv.out])
              have Hlx : Hid ((rows.set k ([] ++ [thn]))[k]? = some [thn]) := Lib.hid (by rw [List.getElem?_set, if_pos rfl, if_pos (List.getElem?_eq_some_iff.1 Hl.out).1]; rfl)
              have HvTx := HvT3
              have Hrnx : Hid (0 < (vals.set k (.slice B3 1 d3)).length) := Lib.hid (by rw [List.length_set]; exact Hrn.out)
              have HLLx0 := Lib.hid HLL3.out.drew
              have HWx0 := Lib.hid HW4.out.drew
              have HTx0 : Hid (wr.heap.size < ((w3.setCell ⟨w.heap.size, k, none⟩ (.slice B3 1 d3))).drew.heap.size) := HT4
              have hS0 : ((w3.setCell ⟨w.heap.size, k, none⟩ (.slice B3 1 d3))).drew.cell? ⟨wr.heap.size, 1, none⟩ = some (.int .i64 test) ∧ ((w3.setCell ⟨w.heap.size, k, none⟩ (.slice B3 1 d3))).drew.cell? ⟨wr.heap.size, 2, none⟩ = some (.int .i64 thn) ∧ ((w3.setCell ⟨w.heap.size, k, none⟩ (.slice B3 1 d3))).drew.cell? ⟨wr.heap.size, 3, none⟩ = some (.int .i64 els) := hH0
              clear hH0
              have HSbx : Hid (∀ o : Obj, (((w3.setCell ⟨w.heap.size, k, none⟩ (.slice B3 1 d3))).drew.cell? ⟨wr.heap.size, 1, none⟩ = some (.int .i64 test) ∧ ((w3.setCell ⟨w.heap.size, k, none⟩ (.slice B3 1 d3))).drew.cell? ⟨wr.heap.size, 2, none⟩ = some (.int .i64 thn) ∧ ((w3.setCell ⟨w.heap.size, k, none⟩ (.slice B3 1 d3))).drew.cell? ⟨wr.heap.size, 3, none⟩ = some (.int .i64 els)) → ((((w3.setCell ⟨w.heap.size, k, none⟩ (.slice B3 1 d3))).drew.alloc o).cell? ⟨wr.heap.size, 1, none⟩ = some (.int .i64 test) ∧ (((w3.setCell ⟨w.heap.size, k, none⟩ (.slice B3 1 d3))).drew.alloc o).cell? ⟨wr.heap.size, 2, none⟩ = some (.int .i64 thn) ∧ (((w3.setCell ⟨w.heap.size, k, none⟩ (.slice B3 1 d3))).drew.alloc o).cell? ⟨wr.heap.size, 3, none⟩ = some (.int .i64 els))) := Lib.hid (fun o h => ⟨(cell_grown (World.grownBy_alloc ((w3.setCell ⟨w.heap.size, k, none⟩ (.slice B3 1 d3))).drew o none) _ 1 HTx0.out (by simp)).trans h.1, (cell_grown (World.grownBy_alloc ((w3.setCell ⟨w.heap.size, k, none⟩ (.slice B3 1 d3))).drew o none) _ 2 HTx0.out (by simp)).trans h.2.1, (cell_grown (World.grownBy_alloc ((w3.setCell ⟨w.heap.size, k, none⟩ (.slice B3 1 d3))).drew o none) _ 3 HTx0.out (by simp)).trans h.2.2⟩)
              obtain ⟨g0, eg0, _, _, _, hcell0⟩ := OwnV.at2 HLLx0.out.own Hrnx.out
              injection eg0 with eg0; injection eg0 with eg0
              subst eg0
              have c0x := hcell0 k (List.getElem?_eq_some_iff.1 Hvx.out).1
              rw [(List.getElem?_eq_some_iff.1 Hvx.out).2] at c0x
              clear hcell0
              go_wp2
              refine wp_region_held_drew (S := fun w' => w'.cell? ⟨wr.heap.size, 1, none⟩ = some (.int .i64 test) ∧ w'.cell? ⟨wr.heap.size, 2, none⟩ = some (.int .i64 thn) ∧ w'.cell? ⟨wr.heap.size, 3, none⟩ = some (.int .i64 els)) (by kernel_rfl) hS0 (fun hH0 => ?_)
              clear hS0
              generalize ((w3.setCell ⟨w.heap.size, k, none⟩ (.slice B3 1 d3))).drew = w0x at *
              refine wpAnyH_take (i := 0) (oi := { dst := some 40, op := Go.Op.move (Go.Operand.tmp 3), type := 97, pos := "block.go:57", after := #[], guard := none }) rfl (by kernel_rfl) (by kernel_rfl) (by kernel_rfl) (fun _ _ _ h => h) (Or.inl ⟨by rfl, fun w hw => by (go_simp; try with_reducible rfl)⟩) (by assumption) ?_
              try simp only [Act.put, List.setIfInBounds_toArray, List.set_cons_zero, List.set_cons_succ]
              refine wpAnyH_take (i := 1) (oi := { dst := some 41, op := Go.Op.move (Go.Operand.tmp 4), type := 3, pos := "block.go:57", after := #[], guard := none }) rfl (by kernel_rfl) (by kernel_rfl) (by kernel_rfl) (fun _ _ _ h => h) (Or.inl ⟨by rfl, fun w hw => by (go_simp; try with_reducible rfl)⟩) (by assumption) ?_
              try simp only [Act.put, List.setIfInBounds_toArray, List.set_cons_zero, List.set_cons_succ]
              refine wpAnyH_take (i := 2) (oi := { dst := some 42, op := Go.Op.move (Go.Operand.tmp 3), type := 97, pos := "block.go:57", after := #[], guard := none }) rfl (by kernel_rfl) (by kernel_rfl) (by kernel_rfl) (fun _ _ _ h => h) (Or.inl ⟨by rfl, fun w hw => by (go_simp; try with_reducible rfl)⟩) (by assumption) ?_
              try simp only [Act.put, List.setIfInBounds_toArray, List.set_cons_zero, List.set_cons_succ]
              refine wpAnyH_take (i := 3) (oi := { dst := some 43, op := Go.Op.move (Go.Operand.tmp 4), type := 3, pos := "block.go:57", after := #[], guard := none }) rfl (by kernel_rfl) (by kernel_rfl) (by kernel_rfl) (fun _ _ _ h => h) (Or.inl ⟨by rfl, fun w hw => by (go_simp; try with_reducible rfl)⟩) (by assumption) ?_
              try simp only [Act.put, List.setIfInBounds_toArray, List.set_cons_zero, List.set_cons_succ]
              refine wpAnyH_take (i := 4) (oi := { dst := some 44, op := Go.Op.indexAddr 97 (Go.Operand.tmp 42) (Go.Operand.tmp 43), type := 0, pos := "block.go:57", after := #[{ on := 2, ground := Go.Ground.data }, { on := 3, ground := Go.Ground.data }], guard := none }) rfl (by kernel_rfl) (by kernel_rfl) (by kernel_rfl) (fun _ _ _ h => h) (Or.inl ⟨by rfl, fun w hw => by (go_simp; try with_reducible rfl)⟩) (by assumption) ?_
              try simp only [Act.put, List.setIfInBounds_toArray, List.set_cons_zero, List.set_cons_succ]
              refine wpAnyH_take (i := 6) (oi := { dst := some 46, op := Go.Op.fieldAddr 85 (Go.Operand.tmp 5) 3, type := 0, pos := "block.go:57", after := #[], guard := none }) rfl (by kernel_rfl) (by kernel_rfl) (by kernel_rfl) (fun _ _ _ h => h) (Or.inl ⟨by rfl, fun w hw => by (go_simp; try with_reducible rfl)⟩) (by assumption) ?_
              try simp only [Act.put, List.setIfInBounds_toArray, List.set_cons_zero, List.set_cons_succ]
              refine wpAnyH_take (i := 7) (oi := { dst := some 47, op := Go.Op.load 3 (Go.Operand.tmp 46), type := 3, pos := "block.go:57", after := #[{ on := 6, ground := Go.Ground.data }], guard := none }) rfl (by kernel_rfl) (by kernel_rfl) (by kernel_rfl) (fun _ _ _ h => h) (Or.inl ⟨by rfl, fun w hw => by (obtain ⟨p0, p1, p2⟩ := hw; go_simp; try with_reducible rfl)⟩) (by assumption) ?_
              try simp only [Act.put, List.setIfInBounds_toArray, List.set_cons_zero, List.set_cons_succ]
              refine wpAnyH_ready (rs := [5, 8]) (by kernel_rfl) (by simp) ?_
              refine AllReadyH.cons (o := { dst := some 45, op := Go.Op.load 23 (Go.Operand.tmp 44), type := 23, pos := "block.go:57", after := #[{ on := 4, ground := Go.Ground.data }], guard := none }) rfl (fun K hK => ?_) ?_
              · have c9 := c0x
                go_simp
                clear c9
                refine hK.out _ _ hH0 (fun hH1 => ?_)
                clear hK hH0
                have hH0 := hH1
                clear hH1
                try simp only [Act.put, List.setIfInBounds_toArray, List.set_cons_zero, List.set_cons_succ]
                refine wpAnyH_ready (rs := [8]) (by kernel_rfl) (by simp) ?_
                refine AllReadyH.cons (o := { dst := some 48, op := Go.Op.buildSlice 23 1 #[(0, Go.Operand.tmp 47)], type := 23, pos := "block.go:57", after := #[{ on := 7, ground := Go.Ground.data }], guard := none }) rfl (fun K hK => ?_) AllReadyH.nil
                go_simp
                refine hK.out _ _ (HSbx.out _ hH0) (fun hH1 => ?_)
                clear hK hH0
                have hH0 := hH1
                clear hH1
                have HLLx1 := Lib.hid (HLLx0.out.alloc (.cells #[.int .i64 els] 3))
                have HWx1 := Lib.hid (HWx0.out.alloc HWx0.out.size (.cells #[.int .i64 els] 3))
                have HCx1 := Lib.hid (cell_grown (World.grownBy_alloc w0x (.cells #[.int .i64 els] 3) none) w.heap.size k HLLx0.out.lt (by simp))
                have HNx1 : Hid (∀ j, j < 1 → (w0x.alloc (.cells #[.int .i64 els] 3)).cell? ⟨w0x.heap.size, j, none⟩ = (intCells els)[j]?) := Lib.hid (fun j hj => by (obtain rfl : j = 0 := by omega); exact cell_new w0x #[.int .i64 els] 3 w0x.heap.size rfl 0)
                have HTx1 : Hid (wr.heap.size < (w0x.alloc (.cells #[.int .i64 els] 3)).heap.size) := Lib.hid (by have := HTx0.out; simp; omega)
                generalize w0x.alloc (.cells #[.int .i64 els] 3) = w1x at *
                generalize w0x.heap.size = s1x at *
                try simp only [Act.put, List.setIfInBounds_toArray, List.set_cons_zero, List.set_cons_succ]
                refine wpAnyH_ready (rs := [9]) (by kernel_rfl) (by simp) ?_
                refine AllReadyH.cons (o := { dst := some 49, op := Go.Op.call { callee := Go.Callee.builtin Go.Builtin.append, args := #[Go.Operand.tmp 45, Go.Operand.tmp 48], argTypes := #[23, 23] }, type := 23, pos := "block.go:57", after := #[{ on := 5, ground := Go.Ground.data }, { on := 8, ground := Go.Ground.data }], guard := none }) rfl (fun K hK => ?_) AllReadyH.nil
                obtain ⟨v3x, w3x, hrun, hown, hgrow, hat⟩ := run_app1 (P := Try.prog) (w := w1x) 23 23 intCells 1 8 3 (.int .i64 0) Try.underlying23 infoInt rfl (by decide) intCells_len intCells_one wm.heap.size (.slice B3 1 d3) ([thn]) els (HLLx1.out.row k _ _ Hvx.out Hlx.out) s1x 1 HNx1.out (by unfold maxLen; simp) (by simp) (Nat.le_of_lt (by have := HBT.out; have := HTx1.out; omega))
                rw [if_pos (by rfl)]
                refine wp_app_run 23 _ _ rfl rfl rfl hrun ?_
                have hP := HLLx1.out.grown Hvx.out Hlx.out hown hgrow hat
                obtain ⟨g3, eg3, _, hg3, hfz3, hcell3⟩ := OwnV.at2 hP.1 Hrnx.out
                injection eg3 with eg3; injection eg3 with eg3
                subst eg3
                have c3x := hcell3 k (List.getElem?_eq_some_iff.1 Hvx.out).1
                have f3x := hfz3 k
                have HLLx3 := Lib.hid hP.2
                have HvT3x : Hid (∀ g, v3x.ownBlock = some g → g ≠ wr.heap.size) := Lib.hid (fun g e => by rcases hat with h | h; exact HvTx.out g (h.symm.trans e); (rw [h] at e; injection e with e; have := HTx1.out; omega))
                have HWx3 := Lib.hid (below_own HWx1.out hgrow (HLLx1.out.row k _ _ Hvx.out Hlx.out) (by omega) HWx1.out.size)
                have HTx3 : Hid (wr.heap.size < w3x.heap.size) := Lib.hid (Nat.lt_of_lt_of_le HTx1.out hgrow.size)
                have hS3 : w3x.cell? ⟨wr.heap.size, 1, none⟩ = some (.int .i64 test) ∧ w3x.cell? ⟨wr.heap.size, 2, none⟩ = some (.int .i64 thn) ∧ w3x.cell? ⟨wr.heap.size, 3, none⟩ = some (.int .i64 els) := ⟨(cell_grown hgrow _ 1 HTx1.out (fun e => HvTx.out _ e.symm rfl)).trans hH0.1, (cell_grown hgrow _ 2 HTx1.out (fun e => HvTx.out _ e.symm rfl)).trans hH0.2.1, (cell_grown hgrow _ 3 HTx1.out (fun e => HvTx.out _ e.symm rfl)).trans hH0.2.2⟩
                obtain ⟨B3x, d3x, e3, _⟩ := OwnI.rd hown
                have e3 : v3x = .slice B3x 2 d3x := e3
                subst e3
                obtain ⟨z1x, z2x, z3x⟩ := hS3
                refine hK.out _ _ ⟨z1x, z2x, z3x⟩ (fun hH1 => ?_)
                clear hK hrun hown hgrow hat hP hcell3 hfz3 hH0
                have hH0 := hH1
                clear hH1
                try simp only [Act.put, List.setIfInBounds_toArray, List.set_cons_zero, List.set_cons_succ]
                refine wpAnyH_take (i := 10) (oi := { dst := some 50, op := Go.Op.indexAddr 97 (Go.Operand.tmp 40) (Go.Operand.tmp 41), type := 0, pos := "block.go:57", after := #[{ on := 0, ground := Go.Ground.data }, { on := 1, ground := Go.Ground.data }, { on := 0, ground := Go.Ground.phase }, { on := 1, ground := Go.Ground.phase }, { on := 2, ground := Go.Ground.phase }, { on := 3, ground := Go.Ground.phase }, { on := 4, ground := Go.Ground.phase }, { on := 5, ground := Go.Ground.phase }, { on := 6, ground := Go.Ground.phase }, { on := 7, ground := Go.Ground.phase }, { on := 8, ground := Go.Ground.phase }, { on := 9, ground := Go.Ground.phase }], guard := none }) rfl (by kernel_rfl) (by kernel_rfl) (by kernel_rfl) (fun _ _ _ h => h) (Or.inl ⟨by rfl, fun w hw => by (go_simp; try with_reducible rfl)⟩) (by assumption) ?_
                try simp only [Act.put, List.setIfInBounds_toArray, List.set_cons_zero, List.set_cons_succ]
                refine wpAnyH_ready (rs := [11]) (by kernel_rfl) (by simp) ?_
                refine AllReadyH.cons (o := { dst := none, op := Go.Op.store 23 (Go.Operand.tmp 50) (Go.Operand.tmp 49), type := 0, pos := "block.go:57", after := #[{ on := 10, ground := Go.Ground.data }, { on := 9, ground := Go.Ground.data }, { on := 9, ground := Go.Ground.chain }, { on := 0, ground := Go.Ground.phase }, { on := 1, ground := Go.Ground.phase }, { on := 2, ground := Go.Ground.phase }, { on := 3, ground := Go.Ground.phase }, { on := 4, ground := Go.Ground.phase }, { on := 5, ground := Go.Ground.phase }, { on := 6, ground := Go.Ground.phase }, { on := 7, ground := Go.Ground.phase }, { on := 8, ground := Go.Ground.phase }, { on := 9, ground := Go.Ground.phase }], guard := none }) rfl (fun K hK => ?_) AllReadyH.nil
                go_simp
                refine hK.out _ _ (HSs.out _ _ hH0) (fun hH1 => ?_)
                clear hK hH0
                have hH0 := hH1
                clear hH1
                try simp only [Act.put, List.setIfInBounds_toArray, List.set_cons_zero, List.set_cons_succ]
                refine wpAnyH_done (by kernel_rfl) ?_ _
                have HWx4 := Lib.hid (HWx3.out.setCell (p := ⟨w.heap.size, k, none⟩) (Nat.le_refl _) (.slice B3x 2 d3x))
                have HTx4 : Hid (wr.heap.size < (w3x.setCell ⟨w.heap.size, k, none⟩ (.slice B3x 2 d3x)).heap.size) := Lib.hid (by have := HTx3.out; simpa [World.setCell] using this)
                clear hH0
                go_wp2
                go_roundw
                case rel => exact ⟨k + 1, _, by omega, by go_num, by rw [← Hfs.out]; have h := HLLx3.out; rw [show (rows.set k ([] ++ [thn])).set k ([thn] ++ [els]) = rows.set k [thn, els] from by rw [List.set_set]; rfl] at h; exact h, HWx4.out, by have := HBT.out; have := HTx4.out; omega⟩
                case measure => simp [intOf]; omega
              refine AllReadyH.cons (o := { dst := some 48, op := Go.Op.buildSlice 23 1 #[(0, Go.Operand.tmp 47)], type := 23, pos := "block.go:57", after := #[{ on := 7, ground := Go.Ground.data }], guard := none }) rfl (fun K hK => ?_) AllReadyH.nil
              go_simp
              refine hK.out _ _ (HSbx.out _ hH0) (fun hH1 => ?_)
              clear hK hH0
              have hH0 := hH1
              clear hH1
              have HLLx1 := Lib.hid (HLLx0.out.alloc (.cells #[.int .i64 els] 3))
              have HWx1 := Lib.hid (HWx0.out.alloc HWx0.out.size (.cells #[.int .i64 els] 3))
              have HCx1 := Lib.hid (cell_grown (World.grownBy_alloc w0x (.cells #[.int .i64 els] 3) none) w.heap.size k HLLx0.out.lt (by simp))
              have HNx1 : Hid (∀ j, j < 1 → (w0x.alloc (.cells #[.int .i64 els] 3)).cell? ⟨w0x.heap.size, j, none⟩ = (intCells els)[j]?) := Lib.hid (fun j hj => by (obtain rfl : j = 0 := by omega); exact cell_new w0x #[.int .i64 els] 3 w0x.heap.size rfl 0)
              have HTx1 : Hid (wr.heap.size < (w0x.alloc (.cells #[.int .i64 els] 3)).heap.size) := Lib.hid (by have := HTx0.out; simp; omega)
              generalize w0x.alloc (.cells #[.int .i64 els] 3) = w1x at *
              generalize w0x.heap.size = s1x at *
              try simp only [Act.put, List.setIfInBounds_toArray, List.set_cons_zero, List.set_cons_succ]
              refine wpAnyH_ready (rs := [5]) (by kernel_rfl) (by simp) ?_
              refine AllReadyH.cons (o := { dst := some 45, op := Go.Op.load 23 (Go.Operand.tmp 44), type := 23, pos := "block.go:57", after := #[{ on := 4, ground := Go.Ground.data }], guard := none }) rfl (fun K hK => ?_) AllReadyH.nil
              have c9 := HCx1.out.trans c0x
              go_simp
              clear c9
              refine hK.out _ _ hH0 (fun hH1 => ?_)
              clear hK hH0
              have hH0 := hH1
              clear hH1
              try simp only [Act.put, List.setIfInBounds_toArray, List.set_cons_zero, List.set_cons_succ]
              refine wpAnyH_ready (rs := [9]) (by kernel_rfl) (by simp) ?_
              refine AllReadyH.cons (o := { dst := some 49, op := Go.Op.call { callee := Go.Callee.builtin Go.Builtin.append, args := #[Go.Operand.tmp 45, Go.Operand.tmp 48], argTypes := #[23, 23] }, type := 23, pos := "block.go:57", after := #[{ on := 5, ground := Go.Ground.data }, { on := 8, ground := Go.Ground.data }], guard := none }) rfl (fun K hK => ?_) AllReadyH.nil
              obtain ⟨v3x, w3x, hrun, hown, hgrow, hat⟩ := run_app1 (P := Try.prog) (w := w1x) 23 23 intCells 1 8 3 (.int .i64 0) Try.underlying23 infoInt rfl (by decide) intCells_len intCells_one wm.heap.size (.slice B3 1 d3) ([thn]) els (HLLx1.out.row k _ _ Hvx.out Hlx.out) s1x 1 HNx1.out (by unfold maxLen; simp) (by simp) (Nat.le_of_lt (by have := HBT.out; have := HTx1.out; omega))
              rw [if_pos (by rfl)]
              refine wp_app_run 23 _ _ rfl rfl rfl hrun ?_
              have hP := HLLx1.out.grown Hvx.out Hlx.out hown hgrow hat
              obtain ⟨g3, eg3, _, hg3, hfz3, hcell3⟩ := OwnV.at2 hP.1 Hrnx.out
              injection eg3 with eg3; injection eg3 with eg3
              subst eg3
              have c3x := hcell3 k (List.getElem?_eq_some_iff.1 Hvx.out).1
              have f3x := hfz3 k
              have HLLx3 := Lib.hid hP.2
              have HvT3x : Hid (∀ g, v3x.ownBlock = some g → g ≠ wr.heap.size) := Lib.hid (fun g e => by rcases hat with h | h; exact HvTx.out g (h.symm.trans e); (rw [h] at e; injection e with e; have := HTx1.out; omega))
              have HWx3 := Lib.hid (below_own HWx1.out hgrow (HLLx1.out.row k _ _ Hvx.out Hlx.out) (by omega) HWx1.out.size)
              have HTx3 : Hid (wr.heap.size < w3x.heap.size) := Lib.hid (Nat.lt_of_lt_of_le HTx1.out hgrow.size)
              have hS3 : w3x.cell? ⟨wr.heap.size, 1, none⟩ = some (.int .i64 test) ∧ w3x.cell? ⟨wr.heap.size, 2, none⟩ = some (.int .i64 thn) ∧ w3x.cell? ⟨wr.heap.size, 3, none⟩ = some (.int .i64 els) := ⟨(cell_grown hgrow _ 1 HTx1.out (fun e => HvTx.out _ e.symm rfl)).trans hH0.1, (cell_grown hgrow _ 2 HTx1.out (fun e => HvTx.out _ e.symm rfl)).trans hH0.2.1, (cell_grown hgrow _ 3 HTx1.out (fun e => HvTx.out _ e.symm rfl)).trans hH0.2.2⟩
              obtain ⟨B3x, d3x, e3, _⟩ := OwnI.rd hown
              have e3 : v3x = .slice B3x 2 d3x := e3
              subst e3
              obtain ⟨z1x, z2x, z3x⟩ := hS3
              refine hK.out _ _ ⟨z1x, z2x, z3x⟩ (fun hH1 => ?_)
              clear hK hrun hown hgrow hat hP hcell3 hfz3 hH0
              have hH0 := hH1
              clear hH1
              try simp only [Act.put, List.setIfInBounds_toArray, List.set_cons_zero, List.set_cons_succ]
              refine wpAnyH_take (i := 10) (oi := { dst := some 50, op := Go.Op.indexAddr 97 (Go.Operand.tmp 40) (Go.Operand.tmp 41), type := 0, pos := "block.go:57", after := #[{ on := 0, ground := Go.Ground.data }, { on := 1, ground := Go.Ground.data }, { on := 0, ground := Go.Ground.phase }, { on := 1, ground := Go.Ground.phase }, { on := 2, ground := Go.Ground.phase }, { on := 3, ground := Go.Ground.phase }, { on := 4, ground := Go.Ground.phase }, { on := 5, ground := Go.Ground.phase }, { on := 6, ground := Go.Ground.phase }, { on := 7, ground := Go.Ground.phase }, { on := 8, ground := Go.Ground.phase }, { on := 9, ground := Go.Ground.phase }], guard := none }) rfl (by kernel_rfl) (by kernel_rfl) (by kernel_rfl) (fun _ _ _ h => h) (Or.inl ⟨by rfl, fun w hw => by (go_simp; try with_reducible rfl)⟩) (by assumption) ?_
              try simp only [Act.put, List.setIfInBounds_toArray, List.set_cons_zero, List.set_cons_succ]
              refine wpAnyH_ready (rs := [11]) (by kernel_rfl) (by simp) ?_
              refine AllReadyH.cons (o := { dst := none, op := Go.Op.store 23 (Go.Operand.tmp 50) (Go.Operand.tmp 49), type := 0, pos := "block.go:57", after := #[{ on := 10, ground := Go.Ground.data }, { on := 9, ground := Go.Ground.data }, { on := 9, ground := Go.Ground.chain }, { on := 0, ground := Go.Ground.phase }, { on := 1, ground := Go.Ground.phase }, { on := 2, ground := Go.Ground.phase }, { on := 3, ground := Go.Ground.phase }, { on := 4, ground := Go.Ground.phase }, { on := 5, ground := Go.Ground.phase }, { on := 6, ground := Go.Ground.phase }, { on := 7, ground := Go.Ground.phase }, { on := 8, ground := Go.Ground.phase }, { on := 9, ground := Go.Ground.phase }], guard := none }) rfl (fun K hK => ?_) AllReadyH.nil
              go_simp
              refine hK.out _ _ (HSs.out _ _ hH0) (fun hH1 => ?_)
              clear hK hH0
              have hH0 := hH1
              clear hH1
              try simp only [Act.put, List.setIfInBounds_toArray, List.set_cons_zero, List.set_cons_succ]
              refine wpAnyH_done (by kernel_rfl) ?_ _
              have HWx4 := Lib.hid (HWx3.out.setCell (p := ⟨w.heap.size, k, none⟩) (Nat.le_refl _) (.slice B3x 2 d3x))
              have HTx4 : Hid (wr.heap.size < (w3x.setCell ⟨w.heap.size, k, none⟩ (.slice B3x 2 d3x)).heap.size) := Lib.hid (by have := HTx3.out; simpa [World.setCell] using this)
              clear hH0
              go_wp2
              go_roundw
              case rel => exact ⟨k + 1, _, by omega, by go_num, by rw [← Hfs.out]; have h := HLLx3.out; rw [show (rows.set k ([] ++ [thn])).set k ([thn] ++ [els]) = rows.set k [thn, els] from by rw [List.set_set]; rfl] at h; exact h, HWx4.out, by have := HBT.out; have := HTx4.out; omega⟩
              case measure => simp [intOf]; omega
            refine AllReadyH.cons (o := { dst := some 27, op := Go.Op.buildSlice 23 1 #[(0, Go.Operand.tmp 26)], type := 23, pos := "block.go:54", after := #[{ on := 7, ground := Go.Ground.data }], guard := none }) rfl (fun K hK => ?_) AllReadyH.nil
            go_simp
            refine hK.out _ _ (HSb.out _ hH0) (fun hH1 => ?_)
            clear hK hH0
            have hH0 := hH1
            clear hH1
            have HLL1 := Lib.hid (HLL0.out.alloc (.cells #[.int .i64 thn] 3))
            have HW1 := Lib.hid (HW0.out.alloc HW0.out.size (.cells #[.int .i64 thn] 3))
            have HC1 := Lib.hid (cell_grown (World.grownBy_alloc w0 (.cells #[.int .i64 thn] 3) none) w.heap.size k HLL0.out.lt (by simp))
            have HN1 : Hid (∀ j, j < 1 → (w0.alloc (.cells #[.int .i64 thn] 3)).cell? ⟨w0.heap.size, j, none⟩ = (intCells thn)[j]?) := Lib.hid (fun j hj => by (obtain rfl : j = 0 := by omega); exact cell_new w0 #[.int .i64 thn] 3 w0.heap.size rfl 0)
            have HT1 : Hid (wr.heap.size < (w0.alloc (.cells #[.int .i64 thn] 3)).heap.size) := Lib.hid (by have := HT0.out; simp; omega)
            generalize w0.alloc (.cells #[.int .i64 thn] 3) = w1 at *
            generalize w0.heap.size = s1 at *
            try simp only [Act.put, List.setIfInBounds_toArray, List.set_cons_zero, List.set_cons_succ]
            refine wpAnyH_ready (rs := [5]) (by kernel_rfl) (by simp) ?_
            refine AllReadyH.cons (o := { dst := some 24, op := Go.Op.load 23 (Go.Operand.tmp 23), type := 23, pos := "block.go:54", after := #[{ on := 4, ground := Go.Ground.data }], guard := none }) rfl (fun K hK => ?_) AllReadyH.nil
            have c9 := HC1.out.trans c0
            go_simp
            clear c9
            refine hK.out _ _ hH0 (fun hH1 => ?_)
            clear hK hH0
            have hH0 := hH1
            clear hH1
            try simp only [Act.put, List.setIfInBounds_toArray, List.set_cons_zero, List.set_cons_succ]
            refine wpAnyH_ready (rs := [9]) (by kernel_rfl) (by simp) ?_
            refine AllReadyH.cons (o := { dst := some 28, op := Go.Op.call { callee := Go.Callee.builtin Go.Builtin.append, args := #[Go.Operand.tmp 24, Go.Operand.tmp 27], argTypes := #[23, 23] }, type := 23, pos := "block.go:54", after := #[{ on := 5, ground := Go.Ground.data }, { on := 8, ground := Go.Ground.data }], guard := none }) rfl (fun K hK => ?_) AllReadyH.nil
            obtain ⟨v3, w3, hrun, hown, hgrow, hat⟩ := run_app1 (P := Try.prog) (w := w1) 23 23 intCells 1 8 3 (.int .i64 0) Try.underlying23 infoInt rfl (by decide) intCells_len intCells_one wm.heap.size (.slice Av 0 cv) ([]) thn (HLL1.out.row k _ _ Hv.out Hl.out) s1 1 HN1.out (by unfold maxLen; simp) (by simp) (Nat.le_of_lt (by have := HBT.out; have := HT1.out; omega))
            rw [if_pos (by rfl)]
            refine wp_app_run 23 _ _ rfl rfl rfl hrun ?_
            have hP := HLL1.out.grown Hv.out Hl.out hown hgrow hat
            obtain ⟨g3, eg3, _, hg3, hfz3, hcell3⟩ := OwnV.at2 hP.1 Hrn.out
            injection eg3 with eg3; injection eg3 with eg3
            subst eg3
            have c3 := hcell3 k (List.getElem?_eq_some_iff.1 Hv.out).1
            have f3 := hfz3 k
            have HLL3 := Lib.hid hP.2
            have HvT3 : Hid (∀ g, v3.ownBlock = some g → g ≠ wr.heap.size) := Lib.hid (fun g e => by rcases hat with h | h; exact HvT.out g (h.symm.trans e); (rw [h] at e; injection e with e; have := HT1.out; omega))
            have HW3 := Lib.hid (below_own HW1.out hgrow (HLL1.out.row k _ _ Hv.out Hl.out) (by omega) HW1.out.size)
            have HT3 : Hid (wr.heap.size < w3.heap.size) := Lib.hid (Nat.lt_of_lt_of_le HT1.out hgrow.size)
            have hS3 : w3.cell? ⟨wr.heap.size, 1, none⟩ = some (.int .i64 test) ∧ w3.cell? ⟨wr.heap.size, 2, none⟩ = some (.int .i64 thn) ∧ w3.cell? ⟨wr.heap.size, 3, none⟩ = some (.int .i64 els) := ⟨(cell_grown hgrow _ 1 HT1.out (fun e => HvT.out _ e.symm rfl)).trans hH0.1, (cell_grown hgrow _ 2 HT1.out (fun e => HvT.out _ e.symm rfl)).trans hH0.2.1, (cell_grown hgrow _ 3 HT1.out (fun e => HvT.out _ e.symm rfl)).trans hH0.2.2⟩
            obtain ⟨B3, d3, e3, _⟩ := OwnI.rd hown
            have e3 : v3 = .slice B3 1 d3 := e3
            subst e3
            obtain ⟨z1, z2, z3⟩ := hS3
            refine hK.out _ _ ⟨z1, z2, z3⟩ (fun hH1 => ?_)
            clear hK hrun hown hgrow hat hP hcell3 hfz3 hH0
            have hH0 := hH1
            clear hH1
            try simp only [Act.put, List.setIfInBounds_toArray, List.set_cons_zero, List.set_cons_succ]
            refine wpAnyH_take (i := 10) (oi := { dst := some 29, op := Go.Op.indexAddr 97 (Go.Operand.tmp 19) (Go.Operand.tmp 20), type := 0, pos := "block.go:54", after := #[{ on := 0, ground := Go.Ground.data }, { on := 1, ground := Go.Ground.data }, { on := 0, ground := Go.Ground.phase }, { on := 1, ground := Go.Ground.phase }, { on := 2, ground := Go.Ground.phase }, { on := 3, ground := Go.Ground.phase }, { on := 4, ground := Go.Ground.phase }, { on := 5, ground := Go.Ground.phase }, { on := 6, ground := Go.Ground.phase }, { on := 7, ground := Go.Ground.phase }, { on := 8, ground := Go.Ground.phase }, { on := 9, ground := Go.Ground.phase }], guard := none }) rfl (by kernel_rfl) (by kernel_rfl) (by kernel_rfl) (fun _ _ _ h => h) (Or.inl ⟨by rfl, fun w hw => by (go_simp; try with_reducible rfl)⟩) (by assumption) ?_
            try simp only [Act.put, List.setIfInBounds_toArray, List.set_cons_zero, List.set_cons_succ]
            refine wpAnyH_ready (rs := [11]) (by kernel_rfl) (by simp) ?_
            refine AllReadyH.cons (o := { dst := none, op := Go.Op.store 23 (Go.Operand.tmp 29) (Go.Operand.tmp 28), type := 0, pos := "block.go:54", after := #[{ on := 10, ground := Go.Ground.data }, { on := 9, ground := Go.Ground.data }, { on := 9, ground := Go.Ground.chain }, { on := 0, ground := Go.Ground.phase }, { on := 1, ground := Go.Ground.phase }, { on := 2, ground := Go.Ground.phase }, { on := 3, ground := Go.Ground.phase }, { on := 4, ground := Go.Ground.phase }, { on := 5, ground := Go.Ground.phase }, { on := 6, ground := Go.Ground.phase }, { on := 7, ground := Go.Ground.phase }, { on := 8, ground := Go.Ground.phase }, { on := 9, ground := Go.Ground.phase }], guard := none }) rfl (fun K hK => ?_) AllReadyH.nil
            go_simp
            refine hK.out _ _ (HSs.out _ _ hH0) (fun hH1 => ?_)
            clear hK hH0
            have hH0 := hH1
            clear hH1
            try simp only [Act.put, List.setIfInBounds_toArray, List.set_cons_zero, List.set_cons_succ]
            refine wpAnyH_done (by kernel_rfl) ?_ _
            have HW4 := Lib.hid (HW3.out.setCell (p := ⟨w.heap.size, k, none⟩) (Nat.le_refl _) (.slice B3 1 d3))
            have HT4 : Hid (wr.heap.size < (w3.setCell ⟨w.heap.size, k, none⟩ (.slice B3 1 d3)).heap.size) := Lib.hid (by have := HT3.out; simpa [World.setCell] using this)
            have Hvx : Hid ((vals.set k (.slice B3 1 d3))[k]? = some (.slice B3 1 d3)) := Lib.hid (by rw [List.getElem?_set, if_pos rfl, if_pos Hkv.out])
            have Hlx : Hid ((rows.set k ([] ++ [thn]))[k]? = some [thn]) := Lib.hid (by rw [List.getElem?_set, if_pos rfl, if_pos (List.getElem?_eq_some_iff.1 Hl.out).1]; rfl)
            have HvTx := HvT3
            have Hrnx : Hid (0 < (vals.set k (.slice B3 1 d3)).length) := Lib.hid (by rw [List.length_set]; exact Hrn.out)
            have HLLx0 := Lib.hid HLL3.out.drew
            have HWx0 := Lib.hid HW4.out.drew
            have HTx0 : Hid (wr.heap.size < ((w3.setCell ⟨w.heap.size, k, none⟩ (.slice B3 1 d3))).drew.heap.size) := HT4
            have hS0 : ((w3.setCell ⟨w.heap.size, k, none⟩ (.slice B3 1 d3))).drew.cell? ⟨wr.heap.size, 1, none⟩ = some (.int .i64 test) ∧ ((w3.setCell ⟨w.heap.size, k, none⟩ (.slice B3 1 d3))).drew.cell? ⟨wr.heap.size, 2, none⟩ = some (.int .i64 thn) ∧ ((w3.setCell ⟨w.heap.size, k, none⟩ (.slice B3 1 d3))).drew.cell? ⟨wr.heap.size, 3, none⟩ = some (.int .i64 els) := hH0
            clear hH0
            have HSbx : Hid (∀ o : Obj, (((w3.setCell ⟨w.heap.size, k, none⟩ (.slice B3 1 d3))).drew.cell? ⟨wr.heap.size, 1, none⟩ = some (.int .i64 test) ∧ ((w3.setCell ⟨w.heap.size, k, none⟩ (.slice B3 1 d3))).drew.cell? ⟨wr.heap.size, 2, none⟩ = some (.int .i64 thn) ∧ ((w3.setCell ⟨w.heap.size, k, none⟩ (.slice B3 1 d3))).drew.cell? ⟨wr.heap.size, 3, none⟩ = some (.int .i64 els)) → ((((w3.setCell ⟨w.heap.size, k, none⟩ (.slice B3 1 d3))).drew.alloc o).cell? ⟨wr.heap.size, 1, none⟩ = some (.int .i64 test) ∧ (((w3.setCell ⟨w.heap.size, k, none⟩ (.slice B3 1 d3))).drew.alloc o).cell? ⟨wr.heap.size, 2, none⟩ = some (.int .i64 thn) ∧ (((w3.setCell ⟨w.heap.size, k, none⟩ (.slice B3 1 d3))).drew.alloc o).cell? ⟨wr.heap.size, 3, none⟩ = some (.int .i64 els))) := Lib.hid (fun o h => ⟨(cell_grown (World.grownBy_alloc ((w3.setCell ⟨w.heap.size, k, none⟩ (.slice B3 1 d3))).drew o none) _ 1 HTx0.out (by simp)).trans h.1, (cell_grown (World.grownBy_alloc ((w3.setCell ⟨w.heap.size, k, none⟩ (.slice B3 1 d3))).drew o none) _ 2 HTx0.out (by simp)).trans h.2.1, (cell_grown (World.grownBy_alloc ((w3.setCell ⟨w.heap.size, k, none⟩ (.slice B3 1 d3))).drew o none) _ 3 HTx0.out (by simp)).trans h.2.2⟩)
            obtain ⟨g0, eg0, _, _, _, hcell0⟩ := OwnV.at2 HLLx0.out.own Hrnx.out
            injection eg0 with eg0; injection eg0 with eg0
            subst eg0
            have c0x := hcell0 k (List.getElem?_eq_some_iff.1 Hvx.out).1
            rw [(List.getElem?_eq_some_iff.1 Hvx.out).2] at c0x
            clear hcell0
            go_wp2
            refine wp_region_held_drew (S := fun w' => w'.cell? ⟨wr.heap.size, 1, none⟩ = some (.int .i64 test) ∧ w'.cell? ⟨wr.heap.size, 2, none⟩ = some (.int .i64 thn) ∧ w'.cell? ⟨wr.heap.size, 3, none⟩ = some (.int .i64 els)) (by kernel_rfl) hS0 (fun hH0 => ?_)
            clear hS0
            generalize ((w3.setCell ⟨w.heap.size, k, none⟩ (.slice B3 1 d3))).drew = w0x at *
            refine wpAnyH_take (i := 0) (oi := { dst := some 40, op := Go.Op.move (Go.Operand.tmp 3), type := 97, pos := "block.go:57", after := #[], guard := none }) rfl (by kernel_rfl) (by kernel_rfl) (by kernel_rfl) (fun _ _ _ h => h) (Or.inl ⟨by rfl, fun w hw => by (go_simp; try with_reducible rfl)⟩) (by assumption) ?_
            try simp only [Act.put, List.setIfInBounds_toArray, List.set_cons_zero, List.set_cons_succ]
            refine wpAnyH_take (i := 1) (oi := { dst := some 41, op := Go.Op.move (Go.Operand.tmp 4), type := 3, pos := "block.go:57", after := #[], guard := none }) rfl (by kernel_rfl) (by kernel_rfl) (by kernel_rfl) (fun _ _ _ h => h) (Or.inl ⟨by rfl, fun w hw => by (go_simp; try with_reducible rfl)⟩) (by assumption) ?_
            try simp only [Act.put, List.setIfInBounds_toArray, List.set_cons_zero, List.set_cons_succ]
            refine wpAnyH_take (i := 2) (oi := { dst := some 42, op := Go.Op.move (Go.Operand.tmp 3), type := 97, pos := "block.go:57", after := #[], guard := none }) rfl (by kernel_rfl) (by kernel_rfl) (by kernel_rfl) (fun _ _ _ h => h) (Or.inl ⟨by rfl, fun w hw => by (go_simp; try with_reducible rfl)⟩) (by assumption) ?_
            try simp only [Act.put, List.setIfInBounds_toArray, List.set_cons_zero, List.set_cons_succ]
            refine wpAnyH_take (i := 3) (oi := { dst := some 43, op := Go.Op.move (Go.Operand.tmp 4), type := 3, pos := "block.go:57", after := #[], guard := none }) rfl (by kernel_rfl) (by kernel_rfl) (by kernel_rfl) (fun _ _ _ h => h) (Or.inl ⟨by rfl, fun w hw => by (go_simp; try with_reducible rfl)⟩) (by assumption) ?_
            try simp only [Act.put, List.setIfInBounds_toArray, List.set_cons_zero, List.set_cons_succ]
            refine wpAnyH_take (i := 4) (oi := { dst := some 44, op := Go.Op.indexAddr 97 (Go.Operand.tmp 42) (Go.Operand.tmp 43), type := 0, pos := "block.go:57", after := #[{ on := 2, ground := Go.Ground.data }, { on := 3, ground := Go.Ground.data }], guard := none }) rfl (by kernel_rfl) (by kernel_rfl) (by kernel_rfl) (fun _ _ _ h => h) (Or.inl ⟨by rfl, fun w hw => by (go_simp; try with_reducible rfl)⟩) (by assumption) ?_
            try simp only [Act.put, List.setIfInBounds_toArray, List.set_cons_zero, List.set_cons_succ]
            refine wpAnyH_take (i := 6) (oi := { dst := some 46, op := Go.Op.fieldAddr 85 (Go.Operand.tmp 5) 3, type := 0, pos := "block.go:57", after := #[], guard := none }) rfl (by kernel_rfl) (by kernel_rfl) (by kernel_rfl) (fun _ _ _ h => h) (Or.inl ⟨by rfl, fun w hw => by (go_simp; try with_reducible rfl)⟩) (by assumption) ?_
            try simp only [Act.put, List.setIfInBounds_toArray, List.set_cons_zero, List.set_cons_succ]
            refine wpAnyH_take (i := 7) (oi := { dst := some 47, op := Go.Op.load 3 (Go.Operand.tmp 46), type := 3, pos := "block.go:57", after := #[{ on := 6, ground := Go.Ground.data }], guard := none }) rfl (by kernel_rfl) (by kernel_rfl) (by kernel_rfl) (fun _ _ _ h => h) (Or.inl ⟨by rfl, fun w hw => by (obtain ⟨p0, p1, p2⟩ := hw; go_simp; try with_reducible rfl)⟩) (by assumption) ?_
            try simp only [Act.put, List.setIfInBounds_toArray, List.set_cons_zero, List.set_cons_succ]
            refine wpAnyH_ready (rs := [5, 8]) (by kernel_rfl) (by simp) ?_
            refine AllReadyH.cons (o := { dst := some 45, op := Go.Op.load 23 (Go.Operand.tmp 44), type := 23, pos := "block.go:57", after := #[{ on := 4, ground := Go.Ground.data }], guard := none }) rfl (fun K hK => ?_) ?_
            · have c9 := c0x
              go_simp
              clear c9
              refine hK.out _ _ hH0 (fun hH1 => ?_)
              clear hK hH0
              have hH0 := hH1
              clear hH1
              try simp only [Act.put, List.setIfInBounds_toArray, List.set_cons_zero, List.set_cons_succ]
              refine wpAnyH_ready (rs := [8]) (by kernel_rfl) (by simp) ?_
              refine AllReadyH.cons (o := { dst := some 48, op := Go.Op.buildSlice 23 1 #[(0, Go.Operand.tmp 47)], type := 23, pos := "block.go:57", after := #[{ on := 7, ground := Go.Ground.data }], guard := none }) rfl (fun K hK => ?_) AllReadyH.nil
              go_simp
              refine hK.out _ _ (HSbx.out _ hH0) (fun hH1 => ?_)
              clear hK hH0
              have hH0 := hH1
              clear hH1
              have HLLx1 := Lib.hid (HLLx0.out.alloc (.cells #[.int .i64 els] 3))
              have HWx1 := Lib.hid (HWx0.out.alloc HWx0.out.size (.cells #[.int .i64 els] 3))
              have HCx1 := Lib.hid (cell_grown (World.grownBy_alloc w0x (.cells #[.int .i64 els] 3) none) w.heap.size k HLLx0.out.lt (by simp))
              have HNx1 : Hid (∀ j, j < 1 → (w0x.alloc (.cells #[.int .i64 els] 3)).cell? ⟨w0x.heap.size, j, none⟩ = (intCells els)[j]?) := Lib.hid (fun j hj => by (obtain rfl : j = 0 := by omega); exact cell_new w0x #[.int .i64 els] 3 w0x.heap.size rfl 0)
              have HTx1 : Hid (wr.heap.size < (w0x.alloc (.cells #[.int .i64 els] 3)).heap.size) := Lib.hid (by have := HTx0.out; simp; omega)
              generalize w0x.alloc (.cells #[.int .i64 els] 3) = w1x at *
              generalize w0x.heap.size = s1x at *
              try simp only [Act.put, List.setIfInBounds_toArray, List.set_cons_zero, List.set_cons_succ]
              refine wpAnyH_ready (rs := [9]) (by kernel_rfl) (by simp) ?_
              refine AllReadyH.cons (o := { dst := some 49, op := Go.Op.call { callee := Go.Callee.builtin Go.Builtin.append, args := #[Go.Operand.tmp 45, Go.Operand.tmp 48], argTypes := #[23, 23] }, type := 23, pos := "block.go:57", after := #[{ on := 5, ground := Go.Ground.data }, { on := 8, ground := Go.Ground.data }], guard := none }) rfl (fun K hK => ?_) AllReadyH.nil
              obtain ⟨v3x, w3x, hrun, hown, hgrow, hat⟩ := run_app1 (P := Try.prog) (w := w1x) 23 23 intCells 1 8 3 (.int .i64 0) Try.underlying23 infoInt rfl (by decide) intCells_len intCells_one wm.heap.size (.slice B3 1 d3) ([thn]) els (HLLx1.out.row k _ _ Hvx.out Hlx.out) s1x 1 HNx1.out (by unfold maxLen; simp) (by simp) (Nat.le_of_lt (by have := HBT.out; have := HTx1.out; omega))
              rw [if_pos (by rfl)]
              refine wp_app_run 23 _ _ rfl rfl rfl hrun ?_
              have hP := HLLx1.out.grown Hvx.out Hlx.out hown hgrow hat
              obtain ⟨g3, eg3, _, hg3, hfz3, hcell3⟩ := OwnV.at2 hP.1 Hrnx.out
              injection eg3 with eg3; injection eg3 with eg3
              subst eg3
              have c3x := hcell3 k (List.getElem?_eq_some_iff.1 Hvx.out).1
              have f3x := hfz3 k
              have HLLx3 := Lib.hid hP.2
              have HvT3x : Hid (∀ g, v3x.ownBlock = some g → g ≠ wr.heap.size) := Lib.hid (fun g e => by rcases hat with h | h; exact HvTx.out g (h.symm.trans e); (rw [h] at e; injection e with e; have := HTx1.out; omega))
              have HWx3 := Lib.hid (below_own HWx1.out hgrow (HLLx1.out.row k _ _ Hvx.out Hlx.out) (by omega) HWx1.out.size)
              have HTx3 : Hid (wr.heap.size < w3x.heap.size) := Lib.hid (Nat.lt_of_lt_of_le HTx1.out hgrow.size)
              have hS3 : w3x.cell? ⟨wr.heap.size, 1, none⟩ = some (.int .i64 test) ∧ w3x.cell? ⟨wr.heap.size, 2, none⟩ = some (.int .i64 thn) ∧ w3x.cell? ⟨wr.heap.size, 3, none⟩ = some (.int .i64 els) := ⟨(cell_grown hgrow _ 1 HTx1.out (fun e => HvTx.out _ e.symm rfl)).trans hH0.1, (cell_grown hgrow _ 2 HTx1.out (fun e => HvTx.out _ e.symm rfl)).trans hH0.2.1, (cell_grown hgrow _ 3 HTx1.out (fun e => HvTx.out _ e.symm rfl)).trans hH0.2.2⟩
              obtain ⟨B3x, d3x, e3, _⟩ := OwnI.rd hown
              have e3 : v3x = .slice B3x 2 d3x := e3
              subst e3
              obtain ⟨z1x, z2x, z3x⟩ := hS3
              refine hK.out _ _ ⟨z1x, z2x, z3x⟩ (fun hH1 => ?_)
              clear hK hrun hown hgrow hat hP hcell3 hfz3 hH0
              have hH0 := hH1
              clear hH1
              try simp only [Act.put, List.setIfInBounds_toArray, List.set_cons_zero, List.set_cons_succ]
              refine wpAnyH_take (i := 10) (oi := { dst := some 50, op := Go.Op.indexAddr 97 (Go.Operand.tmp 40) (Go.Operand.tmp 41), type := 0, pos := "block.go:57", after := #[{ on := 0, ground := Go.Ground.data }, { on := 1, ground := Go.Ground.data }, { on := 0, ground := Go.Ground.phase }, { on := 1, ground := Go.Ground.phase }, { on := 2, ground := Go.Ground.phase }, { on := 3, ground := Go.Ground.phase }, { on := 4, ground := Go.Ground.phase }, { on := 5, ground := Go.Ground.phase }, { on := 6, ground := Go.Ground.phase }, { on := 7, ground := Go.Ground.phase }, { on := 8, ground := Go.Ground.phase }, { on := 9, ground := Go.Ground.phase }], guard := none }) rfl (by kernel_rfl) (by kernel_rfl) (by kernel_rfl) (fun _ _ _ h => h) (Or.inl ⟨by rfl, fun w hw => by (go_simp; try with_reducible rfl)⟩) (by assumption) ?_
              try simp only [Act.put, List.setIfInBounds_toArray, List.set_cons_zero, List.set_cons_succ]
              refine wpAnyH_ready (rs := [11]) (by kernel_rfl) (by simp) ?_
              refine AllReadyH.cons (o := { dst := none, op := Go.Op.store 23 (Go.Operand.tmp 50) (Go.Operand.tmp 49), type := 0, pos := "block.go:57", after := #[{ on := 10, ground := Go.Ground.data }, { on := 9, ground := Go.Ground.data }, { on := 9, ground := Go.Ground.chain }, { on := 0, ground := Go.Ground.phase }, { on := 1, ground := Go.Ground.phase }, { on := 2, ground := Go.Ground.phase }, { on := 3, ground := Go.Ground.phase }, { on := 4, ground := Go.Ground.phase }, { on := 5, ground := Go.Ground.phase }, { on := 6, ground := Go.Ground.phase }, { on := 7, ground := Go.Ground.phase }, { on := 8, ground := Go.Ground.phase }, { on := 9, ground := Go.Ground.phase }], guard := none }) rfl (fun K hK => ?_) AllReadyH.nil
              go_simp
              refine hK.out _ _ (HSs.out _ _ hH0) (fun hH1 => ?_)
              clear hK hH0
              have hH0 := hH1
              clear hH1
              try simp only [Act.put, List.setIfInBounds_toArray, List.set_cons_zero, List.set_cons_succ]
              refine wpAnyH_done (by kernel_rfl) ?_ _
              have HWx4 := Lib.hid (HWx3.out.setCell (p := ⟨w.heap.size, k, none⟩) (Nat.le_refl _) (.slice B3x 2 d3x))
              have HTx4 : Hid (wr.heap.size < (w3x.setCell ⟨w.heap.size, k, none⟩ (.slice B3x 2 d3x)).heap.size) := Lib.hid (by have := HTx3.out; simpa [World.setCell] using this)
              clear hH0
              go_wp2
              go_roundw
              case rel => exact ⟨k + 1, _, by omega, by go_num, by rw [← Hfs.out]; have h := HLLx3.out; rw [show (rows.set k ([] ++ [thn])).set k ([thn] ++ [els]) = rows.set k [thn, els] from by rw [List.set_set]; rfl] at h; exact h, HWx4.out, by have := HBT.out; have := HTx4.out; omega⟩
              case measure => simp [intOf]; omega
            refine AllReadyH.cons (o := { dst := some 48, op := Go.Op.buildSlice 23 1 #[(0, Go.Operand.tmp 47)], type := 23, pos := "block.go:57", after := #[{ on := 7, ground := Go.Ground.data }], guard := none }) rfl (fun K hK => ?_) AllReadyH.nil
            go_simp
            refine hK.out _ _ (HSbx.out _ hH0) (fun hH1 => ?_)
            clear hK hH0
            have hH0 := hH1
            clear hH1
            have HLLx1 := Lib.hid (HLLx0.out.alloc (.cells #[.int .i64 els] 3))
            have HWx1 := Lib.hid (HWx0.out.alloc HWx0.out.size (.cells #[.int .i64 els] 3))
            have HCx1 := Lib.hid (cell_grown (World.grownBy_alloc w0x (.cells #[.int .i64 els] 3) none) w.heap.size k HLLx0.out.lt (by simp))
            have HNx1 : Hid (∀ j, j < 1 → (w0x.alloc (.cells #[.int .i64 els] 3)).cell? ⟨w0x.heap.size, j, none⟩ = (intCells els)[j]?) := Lib.hid (fun j hj => by (obtain rfl : j = 0 := by omega); exact cell_new w0x #[.int .i64 els] 3 w0x.heap.size rfl 0)
            have HTx1 : Hid (wr.heap.size < (w0x.alloc (.cells #[.int .i64 els] 3)).heap.size) := Lib.hid (by have := HTx0.out; simp; omega)
            generalize w0x.alloc (.cells #[.int .i64 els] 3) = w1x at *
            generalize w0x.heap.size = s1x at *
            try simp only [Act.put, List.setIfInBounds_toArray, List.set_cons_zero, List.set_cons_succ]
            refine wpAnyH_ready (rs := [5]) (by kernel_rfl) (by simp) ?_
            refine AllReadyH.cons (o := { dst := some 45, op := Go.Op.load 23 (Go.Operand.tmp 44), type := 23, pos := "block.go:57", after := #[{ on := 4, ground := Go.Ground.data }], guard := none }) rfl (fun K hK => ?_) AllReadyH.nil
            have c9 := HCx1.out.trans c0x
            go_simp
            clear c9
            refine hK.out _ _ hH0 (fun hH1 => ?_)
            clear hK hH0
            have hH0 := hH1
            clear hH1
            try simp only [Act.put, List.setIfInBounds_toArray, List.set_cons_zero, List.set_cons_succ]
            refine wpAnyH_ready (rs := [9]) (by kernel_rfl) (by simp) ?_
            refine AllReadyH.cons (o := { dst := some 49, op := Go.Op.call { callee := Go.Callee.builtin Go.Builtin.append, args := #[Go.Operand.tmp 45, Go.Operand.tmp 48], argTypes := #[23, 23] }, type := 23, pos := "block.go:57", after := #[{ on := 5, ground := Go.Ground.data }, { on := 8, ground := Go.Ground.data }], guard := none }) rfl (fun K hK => ?_) AllReadyH.nil
            obtain ⟨v3x, w3x, hrun, hown, hgrow, hat⟩ := run_app1 (P := Try.prog) (w := w1x) 23 23 intCells 1 8 3 (.int .i64 0) Try.underlying23 infoInt rfl (by decide) intCells_len intCells_one wm.heap.size (.slice B3 1 d3) ([thn]) els (HLLx1.out.row k _ _ Hvx.out Hlx.out) s1x 1 HNx1.out (by unfold maxLen; simp) (by simp) (Nat.le_of_lt (by have := HBT.out; have := HTx1.out; omega))
            rw [if_pos (by rfl)]
            refine wp_app_run 23 _ _ rfl rfl rfl hrun ?_
            have hP := HLLx1.out.grown Hvx.out Hlx.out hown hgrow hat
            obtain ⟨g3, eg3, _, hg3, hfz3, hcell3⟩ := OwnV.at2 hP.1 Hrnx.out
            injection eg3 with eg3; injection eg3 with eg3
            subst eg3
            have c3x := hcell3 k (List.getElem?_eq_some_iff.1 Hvx.out).1
            have f3x := hfz3 k
            have HLLx3 := Lib.hid hP.2
            have HvT3x : Hid (∀ g, v3x.ownBlock = some g → g ≠ wr.heap.size) := Lib.hid (fun g e => by rcases hat with h | h; exact HvTx.out g (h.symm.trans e); (rw [h] at e; injection e with e; have := HTx1.out; omega))
            have HWx3 := Lib.hid (below_own HWx1.out hgrow (HLLx1.out.row k _ _ Hvx.out Hlx.out) (by omega) HWx1.out.size)
            have HTx3 : Hid (wr.heap.size < w3x.heap.size) := Lib.hid (Nat.lt_of_lt_of_le HTx1.out hgrow.size)
            have hS3 : w3x.cell? ⟨wr.heap.size, 1, none⟩ = some (.int .i64 test) ∧ w3x.cell? ⟨wr.heap.size, 2, none⟩ = some (.int .i64 thn) ∧ w3x.cell? ⟨wr.heap.size, 3, none⟩ = some (.int .i64 els) := ⟨(cell_grown hgrow _ 1 HTx1.out (fun e => HvTx.out _ e.symm rfl)).trans hH0.1, (cell_grown hgrow _ 2 HTx1.out (fun e => HvTx.out _ e.symm rfl)).trans hH0.2.1, (cell_grown hgrow _ 3 HTx1.out (fun e => HvTx.out _ e.symm rfl)).trans hH0.2.2⟩
            obtain ⟨B3x, d3x, e3, _⟩ := OwnI.rd hown
            have e3 : v3x = .slice B3x 2 d3x := e3
            subst e3
            obtain ⟨z1x, z2x, z3x⟩ := hS3
            refine hK.out _ _ ⟨z1x, z2x, z3x⟩ (fun hH1 => ?_)
            clear hK hrun hown hgrow hat hP hcell3 hfz3 hH0
            have hH0 := hH1
            clear hH1
            try simp only [Act.put, List.setIfInBounds_toArray, List.set_cons_zero, List.set_cons_succ]
            refine wpAnyH_take (i := 10) (oi := { dst := some 50, op := Go.Op.indexAddr 97 (Go.Operand.tmp 40) (Go.Operand.tmp 41), type := 0, pos := "block.go:57", after := #[{ on := 0, ground := Go.Ground.data }, { on := 1, ground := Go.Ground.data }, { on := 0, ground := Go.Ground.phase }, { on := 1, ground := Go.Ground.phase }, { on := 2, ground := Go.Ground.phase }, { on := 3, ground := Go.Ground.phase }, { on := 4, ground := Go.Ground.phase }, { on := 5, ground := Go.Ground.phase }, { on := 6, ground := Go.Ground.phase }, { on := 7, ground := Go.Ground.phase }, { on := 8, ground := Go.Ground.phase }, { on := 9, ground := Go.Ground.phase }], guard := none }) rfl (by kernel_rfl) (by kernel_rfl) (by kernel_rfl) (fun _ _ _ h => h) (Or.inl ⟨by rfl, fun w hw => by (go_simp; try with_reducible rfl)⟩) (by assumption) ?_
            try simp only [Act.put, List.setIfInBounds_toArray, List.set_cons_zero, List.set_cons_succ]
            refine wpAnyH_ready (rs := [11]) (by kernel_rfl) (by simp) ?_
            refine AllReadyH.cons (o := { dst := none, op := Go.Op.store 23 (Go.Operand.tmp 50) (Go.Operand.tmp 49), type := 0, pos := "block.go:57", after := #[{ on := 10, ground := Go.Ground.data }, { on := 9, ground := Go.Ground.data }, { on := 9, ground := Go.Ground.chain }, { on := 0, ground := Go.Ground.phase }, { on := 1, ground := Go.Ground.phase }, { on := 2, ground := Go.Ground.phase }, { on := 3, ground := Go.Ground.phase }, { on := 4, ground := Go.Ground.phase }, { on := 5, ground := Go.Ground.phase }, { on := 6, ground := Go.Ground.phase }, { on := 7, ground := Go.Ground.phase }, { on := 8, ground := Go.Ground.phase }, { on := 9, ground := Go.Ground.phase }], guard := none }) rfl (fun K hK => ?_) AllReadyH.nil
            go_simp
            refine hK.out _ _ (HSs.out _ _ hH0) (fun hH1 => ?_)
            clear hK hH0
            have hH0 := hH1
            clear hH1
            try simp only [Act.put, List.setIfInBounds_toArray, List.set_cons_zero, List.set_cons_succ]
            refine wpAnyH_done (by kernel_rfl) ?_ _
            have HWx4 := Lib.hid (HWx3.out.setCell (p := ⟨w.heap.size, k, none⟩) (Nat.le_refl _) (.slice B3x 2 d3x))
            have HTx4 : Hid (wr.heap.size < (w3x.setCell ⟨w.heap.size, k, none⟩ (.slice B3x 2 d3x)).heap.size) := Lib.hid (by have := HTx3.out; simpa [World.setCell] using this)
            clear hH0
            go_wp2
            go_roundw
            case rel => exact ⟨k + 1, _, by omega, by go_num, by rw [← Hfs.out]; have h := HLLx3.out; rw [show (rows.set k ([] ++ [thn])).set k ([thn] ++ [els]) = rows.set k [thn, els] from by rw [List.set_set]; rfl] at h; exact h, HWx4.out, by have := HBT.out; have := HTx4.out; omega⟩
            case measure => simp [intOf]; omega
        · have Hfs : Hid (rows.set k [thn] = nxTo p (k + 1)) := Lib.hid (by have h := Hset.out; unfold nxB at h; dsimp only at h; rw [if_pos t0, if_neg (fun h => e0 h.1)] at h; exact h)
          have q8 : decide (0 ≤ test) = false := decide_eq_false e0
          have HLL0 := Lib.hid ((HLL.out.alloc (.cells #[.slice A' code.length cap', .int .i64 test, .int .i64 thn, .int .i64 els] 85)).drew)
          have HW0 := Lib.hid ((HW.out.alloc hws (.cells #[.slice A' code.length cap', .int .i64 test, .int .i64 thn, .int .i64 els] 85)).drew)
          have HT0 : Hid (wr.heap.size < (wr.alloc (.cells #[.slice A' code.length cap', .int .i64 test, .int .i64 thn, .int .i64 els] 85)).drew.heap.size) := Lib.hid (by show wr.heap.size < (wr.alloc (.cells #[.slice A' code.length cap', .int .i64 test, .int .i64 thn, .int .i64 els] 85)).heap.size; simp)
          have hS0 : (wr.alloc (.cells #[.slice A' code.length cap', .int .i64 test, .int .i64 thn, .int .i64 els] 85)).drew.cell? ⟨wr.heap.size, 1, none⟩ = some (.int .i64 test) ∧ (wr.alloc (.cells #[.slice A' code.length cap', .int .i64 test, .int .i64 thn, .int .i64 els] 85)).drew.cell? ⟨wr.heap.size, 2, none⟩ = some (.int .i64 thn) ∧ (wr.alloc (.cells #[.slice A' code.length cap', .int .i64 test, .int .i64 thn, .int .i64 els] 85)).drew.cell? ⟨wr.heap.size, 3, none⟩ = some (.int .i64 els) := ⟨cell_new wr _ _ wr.heap.size rfl 1, cell_new wr _ _ wr.heap.size rfl 2, cell_new wr _ _ wr.heap.size rfl 3⟩
          have HSb : Hid (∀ o : Obj, ((wr.alloc (.cells #[.slice A' code.length cap', .int .i64 test, .int .i64 thn, .int .i64 els] 85)).drew.cell? ⟨wr.heap.size, 1, none⟩ = some (.int .i64 test) ∧ (wr.alloc (.cells #[.slice A' code.length cap', .int .i64 test, .int .i64 thn, .int .i64 els] 85)).drew.cell? ⟨wr.heap.size, 2, none⟩ = some (.int .i64 thn) ∧ (wr.alloc (.cells #[.slice A' code.length cap', .int .i64 test, .int .i64 thn, .int .i64 els] 85)).drew.cell? ⟨wr.heap.size, 3, none⟩ = some (.int .i64 els)) → (((wr.alloc (.cells #[.slice A' code.length cap', .int .i64 test, .int .i64 thn, .int .i64 els] 85)).drew.alloc o).cell? ⟨wr.heap.size, 1, none⟩ = some (.int .i64 test) ∧ ((wr.alloc (.cells #[.slice A' code.length cap', .int .i64 test, .int .i64 thn, .int .i64 els] 85)).drew.alloc o).cell? ⟨wr.heap.size, 2, none⟩ = some (.int .i64 thn) ∧ ((wr.alloc (.cells #[.slice A' code.length cap', .int .i64 test, .int .i64 thn, .int .i64 els] 85)).drew.alloc o).cell? ⟨wr.heap.size, 3, none⟩ = some (.int .i64 els))) := Lib.hid (fun o h => ⟨(cell_grown (World.grownBy_alloc (wr.alloc (.cells #[.slice A' code.length cap', .int .i64 test, .int .i64 thn, .int .i64 els] 85)).drew o none) _ 1 HT0.out (by simp)).trans h.1, (cell_grown (World.grownBy_alloc (wr.alloc (.cells #[.slice A' code.length cap', .int .i64 test, .int .i64 thn, .int .i64 els] 85)).drew o none) _ 2 HT0.out (by simp)).trans h.2.1, (cell_grown (World.grownBy_alloc (wr.alloc (.cells #[.slice A' code.length cap', .int .i64 test, .int .i64 thn, .int .i64 els] 85)).drew o none) _ 3 HT0.out (by simp)).trans h.2.2⟩)
          obtain ⟨g0, eg0, _, _, _, hcell0⟩ := OwnV.at2 HLL0.out.own Hrn.out
          injection eg0 with eg0; injection eg0 with eg0
          subst eg0
          have c0 := hcell0 k (List.getElem?_eq_some_iff.1 Hv.out).1
          rw [(List.getElem?_eq_some_iff.1 Hv.out).2] at c0
          clear hcell0
          go_wp2
          refine wp_region_held_drew (S := fun w' => w'.cell? ⟨wr.heap.size, 1, none⟩ = some (.int .i64 test) ∧ w'.cell? ⟨wr.heap.size, 2, none⟩ = some (.int .i64 thn) ∧ w'.cell? ⟨wr.heap.size, 3, none⟩ = some (.int .i64 els)) (by kernel_rfl) hS0 (fun hH0 => ?_)
          clear hS0
          generalize (wr.alloc (.cells #[.slice A' code.length cap', .int .i64 test, .int .i64 thn, .int .i64 els] 85)).drew = w0 at *
          refine wpAnyH_take (i := 0) (oi := { dst := some 19, op := Go.Op.move (Go.Operand.tmp 3), type := 97, pos := "block.go:54", after := #[], guard := none }) rfl (by kernel_rfl) (by kernel_rfl) (by kernel_rfl) (fun _ _ _ h => h) (Or.inl ⟨by rfl, fun w hw => by (go_simp; try with_reducible rfl)⟩) (by assumption) ?_
          try simp only [Act.put, List.setIfInBounds_toArray, List.set_cons_zero, List.set_cons_succ]
          refine wpAnyH_take (i := 1) (oi := { dst := some 20, op := Go.Op.move (Go.Operand.tmp 4), type := 3, pos := "block.go:54", after := #[], guard := none }) rfl (by kernel_rfl) (by kernel_rfl) (by kernel_rfl) (fun _ _ _ h => h) (Or.inl ⟨by rfl, fun w hw => by (go_simp; try with_reducible rfl)⟩) (by assumption) ?_
          try simp only [Act.put, List.setIfInBounds_toArray, List.set_cons_zero, List.set_cons_succ]
          refine wpAnyH_take (i := 2) (oi := { dst := some 21, op := Go.Op.move (Go.Operand.tmp 3), type := 97, pos := "block.go:54", after := #[], guard := none }) rfl (by kernel_rfl) (by kernel_rfl) (by kernel_rfl) (fun _ _ _ h => h) (Or.inl ⟨by rfl, fun w hw => by (go_simp; try with_reducible rfl)⟩) (by assumption) ?_
          try simp only [Act.put, List.setIfInBounds_toArray, List.set_cons_zero, List.set_cons_succ]
          refine wpAnyH_take (i := 3) (oi := { dst := some 22, op := Go.Op.move (Go.Operand.tmp 4), type := 3, pos := "block.go:54", after := #[], guard := none }) rfl (by kernel_rfl) (by kernel_rfl) (by kernel_rfl) (fun _ _ _ h => h) (Or.inl ⟨by rfl, fun w hw => by (go_simp; try with_reducible rfl)⟩) (by assumption) ?_
          try simp only [Act.put, List.setIfInBounds_toArray, List.set_cons_zero, List.set_cons_succ]
          refine wpAnyH_take (i := 4) (oi := { dst := some 23, op := Go.Op.indexAddr 97 (Go.Operand.tmp 21) (Go.Operand.tmp 22), type := 0, pos := "block.go:54", after := #[{ on := 2, ground := Go.Ground.data }, { on := 3, ground := Go.Ground.data }], guard := none }) rfl (by kernel_rfl) (by kernel_rfl) (by kernel_rfl) (fun _ _ _ h => h) (Or.inl ⟨by rfl, fun w hw => by (go_simp; try with_reducible rfl)⟩) (by assumption) ?_
          try simp only [Act.put, List.setIfInBounds_toArray, List.set_cons_zero, List.set_cons_succ]
          refine wpAnyH_take (i := 6) (oi := { dst := some 25, op := Go.Op.fieldAddr 85 (Go.Operand.tmp 5) 2, type := 0, pos := "block.go:54", after := #[], guard := none }) rfl (by kernel_rfl) (by kernel_rfl) (by kernel_rfl) (fun _ _ _ h => h) (Or.inl ⟨by rfl, fun w hw => by (go_simp; try with_reducible rfl)⟩) (by assumption) ?_
          try simp only [Act.put, List.setIfInBounds_toArray, List.set_cons_zero, List.set_cons_succ]
          refine wpAnyH_take (i := 7) (oi := { dst := some 26, op := Go.Op.load 3 (Go.Operand.tmp 25), type := 3, pos := "block.go:54", after := #[{ on := 6, ground := Go.Ground.data }], guard := none }) rfl (by kernel_rfl) (by kernel_rfl) (by kernel_rfl) (fun _ _ _ h => h) (Or.inl ⟨by rfl, fun w hw => by (obtain ⟨p0, p1, p2⟩ := hw; go_simp; try with_reducible rfl)⟩) (by assumption) ?_
          try simp only [Act.put, List.setIfInBounds_toArray, List.set_cons_zero, List.set_cons_succ]
          refine wpAnyH_ready (rs := [5, 8]) (by kernel_rfl) (by simp) ?_
          refine AllReadyH.cons (o := { dst := some 24, op := Go.Op.load 23 (Go.Operand.tmp 23), type := 23, pos := "block.go:54", after := #[{ on := 4, ground := Go.Ground.data }], guard := none }) rfl (fun K hK => ?_) ?_
          · have c9 := c0
            go_simp
            clear c9
            refine hK.out _ _ hH0 (fun hH1 => ?_)
            clear hK hH0
            have hH0 := hH1
            clear hH1
            try simp only [Act.put, List.setIfInBounds_toArray, List.set_cons_zero, List.set_cons_succ]
            refine wpAnyH_ready (rs := [8]) (by kernel_rfl) (by simp) ?_
            refine AllReadyH.cons (o := { dst := some 27, op := Go.Op.buildSlice 23 1 #[(0, Go.Operand.tmp 26)], type := 23, pos := "block.go:54", after := #[{ on := 7, ground := Go.Ground.data }], guard := none }) rfl (fun K hK => ?_) AllReadyH.nil
            go_simp
            refine hK.out _ _ (HSb.out _ hH0) (fun hH1 => ?_)
            clear hK hH0
            have hH0 := hH1
            clear hH1
            have HLL1 := Lib.hid (HLL0.out.alloc (.cells #[.int .i64 thn] 3))
            have HW1 := Lib.hid (HW0.out.alloc HW0.out.size (.cells #[.int .i64 thn] 3))
            have HC1 := Lib.hid (cell_grown (World.grownBy_alloc w0 (.cells #[.int .i64 thn] 3) none) w.heap.size k HLL0.out.lt (by simp))
            have HN1 : Hid (∀ j, j < 1 → (w0.alloc (.cells #[.int .i64 thn] 3)).cell? ⟨w0.heap.size, j, none⟩ = (intCells thn)[j]?) := Lib.hid (fun j hj => by (obtain rfl : j = 0 := by omega); exact cell_new w0 #[.int .i64 thn] 3 w0.heap.size rfl 0)
            have HT1 : Hid (wr.heap.size < (w0.alloc (.cells #[.int .i64 thn] 3)).heap.size) := Lib.hid (by have := HT0.out; simp; omega)
            generalize w0.alloc (.cells #[.int .i64 thn] 3) = w1 at *
            generalize w0.heap.size = s1 at *
            try simp only [Act.put, List.setIfInBounds_toArray, List.set_cons_zero, List.set_cons_succ]
            refine wpAnyH_ready (rs := [9]) (by kernel_rfl) (by simp) ?_
            refine AllReadyH.cons (o := { dst := some 28, op := Go.Op.call { callee := Go.Callee.builtin Go.Builtin.append, args := #[Go.Operand.tmp 24, Go.Operand.tmp 27], argTypes := #[23, 23] }, type := 23, pos := "block.go:54", after := #[{ on := 5, ground := Go.Ground.data }, { on := 8, ground := Go.Ground.data }], guard := none }) rfl (fun K hK => ?_) AllReadyH.nil
            obtain ⟨v3, w3, hrun, hown, hgrow, hat⟩ := run_app1 (P := Try.prog) (w := w1) 23 23 intCells 1 8 3 (.int .i64 0) Try.underlying23 infoInt rfl (by decide) intCells_len intCells_one wm.heap.size (.slice Av 0 cv) ([]) thn (HLL1.out.row k _ _ Hv.out Hl.out) s1 1 HN1.out (by unfold maxLen; simp) (by simp) (Nat.le_of_lt (by have := HBT.out; have := HT1.out; omega))
            rw [if_pos (by rfl)]
            refine wp_app_run 23 _ _ rfl rfl rfl hrun ?_
            have hP := HLL1.out.grown Hv.out Hl.out hown hgrow hat
            obtain ⟨g3, eg3, _, hg3, hfz3, hcell3⟩ := OwnV.at2 hP.1 Hrn.out
            injection eg3 with eg3; injection eg3 with eg3
            subst eg3
            have c3 := hcell3 k (List.getElem?_eq_some_iff.1 Hv.out).1
            have f3 := hfz3 k
            have HLL3 := Lib.hid hP.2
            have HvT3 : Hid (∀ g, v3.ownBlock = some g → g ≠ wr.heap.size) := Lib.hid (fun g e => by rcases hat with h | h; exact HvT.out g (h.symm.trans e); (rw [h] at e; injection e with e; have := HT1.out; omega))
            have HW3 := Lib.hid (below_own HW1.out hgrow (HLL1.out.row k _ _ Hv.out Hl.out) (by omega) HW1.out.size)
            have HT3 : Hid (wr.heap.size < w3.heap.size) := Lib.hid (Nat.lt_of_lt_of_le HT1.out hgrow.size)
            have hS3 : w3.cell? ⟨wr.heap.size, 1, none⟩ = some (.int .i64 test) ∧ w3.cell? ⟨wr.heap.size, 2, none⟩ = some (.int .i64 thn) ∧ w3.cell? ⟨wr.heap.size, 3, none⟩ = some (.int .i64 els) := ⟨(cell_grown hgrow _ 1 HT1.out (fun e => HvT.out _ e.symm rfl)).trans hH0.1, (cell_grown hgrow _ 2 HT1.out (fun e => HvT.out _ e.symm rfl)).trans hH0.2.1, (cell_grown hgrow _ 3 HT1.out (fun e => HvT.out _ e.symm rfl)).trans hH0.2.2⟩
            obtain ⟨B3, d3, e3, _⟩ := OwnI.rd hown
            have e3 : v3 = .slice B3 1 d3 := e3
            subst e3
            obtain ⟨z1, z2, z3⟩ := hS3
            refine hK.out _ _ ⟨z1, z2, z3⟩ (fun hH1 => ?_)
            clear hK hrun hown hgrow hat hP hcell3 hfz3 hH0
            have hH0 := hH1
            clear hH1
            try simp only [Act.put, List.setIfInBounds_toArray, List.set_cons_zero, List.set_cons_succ]
            refine wpAnyH_take (i := 10) (oi := { dst := some 29, op := Go.Op.indexAddr 97 (Go.Operand.tmp 19) (Go.Operand.tmp 20), type := 0, pos := "block.go:54", after := #[{ on := 0, ground := Go.Ground.data }, { on := 1, ground := Go.Ground.data }, { on := 0, ground := Go.Ground.phase }, { on := 1, ground := Go.Ground.phase }, { on := 2, ground := Go.Ground.phase }, { on := 3, ground := Go.Ground.phase }, { on := 4, ground := Go.Ground.phase }, { on := 5, ground := Go.Ground.phase }, { on := 6, ground := Go.Ground.phase }, { on := 7, ground := Go.Ground.phase }, { on := 8, ground := Go.Ground.phase }, { on := 9, ground := Go.Ground.phase }], guard := none }) rfl (by kernel_rfl) (by kernel_rfl) (by kernel_rfl) (fun _ _ _ h => h) (Or.inl ⟨by rfl, fun w hw => by (go_simp; try with_reducible rfl)⟩) (by assumption) ?_
            try simp only [Act.put, List.setIfInBounds_toArray, List.set_cons_zero, List.set_cons_succ]
            refine wpAnyH_ready (rs := [11]) (by kernel_rfl) (by simp) ?_
            refine AllReadyH.cons (o := { dst := none, op := Go.Op.store 23 (Go.Operand.tmp 29) (Go.Operand.tmp 28), type := 0, pos := "block.go:54", after := #[{ on := 10, ground := Go.Ground.data }, { on := 9, ground := Go.Ground.data }, { on := 9, ground := Go.Ground.chain }, { on := 0, ground := Go.Ground.phase }, { on := 1, ground := Go.Ground.phase }, { on := 2, ground := Go.Ground.phase }, { on := 3, ground := Go.Ground.phase }, { on := 4, ground := Go.Ground.phase }, { on := 5, ground := Go.Ground.phase }, { on := 6, ground := Go.Ground.phase }, { on := 7, ground := Go.Ground.phase }, { on := 8, ground := Go.Ground.phase }, { on := 9, ground := Go.Ground.phase }], guard := none }) rfl (fun K hK => ?_) AllReadyH.nil
            go_simp
            refine hK.out _ _ (HSs.out _ _ hH0) (fun hH1 => ?_)
            clear hK hH0
            have hH0 := hH1
            clear hH1
            try simp only [Act.put, List.setIfInBounds_toArray, List.set_cons_zero, List.set_cons_succ]
            refine wpAnyH_done (by kernel_rfl) ?_ _
            have HW4 := Lib.hid (HW3.out.setCell (p := ⟨w.heap.size, k, none⟩) (Nat.le_refl _) (.slice B3 1 d3))
            have HT4 : Hid (wr.heap.size < (w3.setCell ⟨w.heap.size, k, none⟩ (.slice B3 1 d3)).heap.size) := Lib.hid (by have := HT3.out; simpa [World.setCell] using this)
            clear hH0
            go_wp2
            go_roundw
            case rel => exact ⟨k + 1, _, by omega, by go_num, by rw [← Hfs.out]; have h := HLL3.out; exact h, HW4.out, by have := HBT.out; have := HT4.out; omega⟩
            case measure => simp [intOf]; omega
          refine AllReadyH.cons (o := { dst := some 27, op := Go.Op.buildSlice 23 1 #[(0, Go.Operand.tmp 26)], type := 23, pos := "block.go:54", after := #[{ on := 7, ground := Go.Ground.data }], guard := none }) rfl (fun K hK => ?_) AllReadyH.nil
          go_simp
          refine hK.out _ _ (HSb.out _ hH0) (fun hH1 => ?_)
          clear hK hH0
          have hH0 := hH1
          clear hH1
          have HLL1 := Lib.hid (HLL0.out.alloc (.cells #[.int .i64 thn] 3))
          have HW1 := Lib.hid (HW0.out.alloc HW0.out.size (.cells #[.int .i64 thn] 3))
          have HC1 := Lib.hid (cell_grown (World.grownBy_alloc w0 (.cells #[.int .i64 thn] 3) none) w.heap.size k HLL0.out.lt (by simp))
          have HN1 : Hid (∀ j, j < 1 → (w0.alloc (.cells #[.int .i64 thn] 3)).cell? ⟨w0.heap.size, j, none⟩ = (intCells thn)[j]?) := Lib.hid (fun j hj => by (obtain rfl : j = 0 := by omega); exact cell_new w0 #[.int .i64 thn] 3 w0.heap.size rfl 0)
          have HT1 : Hid (wr.heap.size < (w0.alloc (.cells #[.int .i64 thn] 3)).heap.size) := Lib.hid (by have := HT0.out; simp; omega)
          generalize w0.alloc (.cells #[.int .i64 thn] 3) = w1 at *
          generalize w0.heap.size = s1 at *
          try simp only [Act.put, List.setIfInBounds_toArray, List.set_cons_zero, List.set_cons_succ]
          refine wpAnyH_ready (rs := [5]) (by kernel_rfl) (by simp) ?_
          refine AllReadyH.cons (o := { dst := some 24, op := Go.Op.load 23 (Go.Operand.tmp 23), type := 23, pos := "block.go:54", after := #[{ on := 4, ground := Go.Ground.data }], guard := none }) rfl (fun K hK => ?_) AllReadyH.nil
          have c9 := HC1.out.trans c0
          go_simp
          clear c9
          refine hK.out _ _ hH0 (fun hH1 => ?_)
          clear hK hH0
          have hH0 := hH1
          clear hH1
          try simp only [Act.put, List.setIfInBounds_toArray, List.set_cons_zero, List.set_cons_succ]
          refine wpAnyH_ready (rs := [9]) (by kernel_rfl) (by simp) ?_
          refine AllReadyH.cons (o := { dst := some 28, op := Go.Op.call { callee := Go.Callee.builtin Go.Builtin.append, args := #[Go.Operand.tmp 24, Go.Operand.tmp 27], argTypes := #[23, 23] }, type := 23, pos := "block.go:54", after := #[{ on := 5, ground := Go.Ground.data }, { on := 8, ground := Go.Ground.data }], guard := none }) rfl (fun K hK => ?_) AllReadyH.nil
          obtain ⟨v3, w3, hrun, hown, hgrow, hat⟩ := run_app1 (P := Try.prog) (w := w1) 23 23 intCells 1 8 3 (.int .i64 0) Try.underlying23 infoInt rfl (by decide) intCells_len intCells_one wm.heap.size (.slice Av 0 cv) ([]) thn (HLL1.out.row k _ _ Hv.out Hl.out) s1 1 HN1.out (by unfold maxLen; simp) (by simp) (Nat.le_of_lt (by have := HBT.out; have := HT1.out; omega))
          rw [if_pos (by rfl)]
          refine wp_app_run 23 _ _ rfl rfl rfl hrun ?_
          have hP := HLL1.out.grown Hv.out Hl.out hown hgrow hat
          obtain ⟨g3, eg3, _, hg3, hfz3, hcell3⟩ := OwnV.at2 hP.1 Hrn.out
          injection eg3 with eg3; injection eg3 with eg3
          subst eg3
          have c3 := hcell3 k (List.getElem?_eq_some_iff.1 Hv.out).1
          have f3 := hfz3 k
          have HLL3 := Lib.hid hP.2
          have HvT3 : Hid (∀ g, v3.ownBlock = some g → g ≠ wr.heap.size) := Lib.hid (fun g e => by rcases hat with h | h; exact HvT.out g (h.symm.trans e); (rw [h] at e; injection e with e; have := HT1.out; omega))
          have HW3 := Lib.hid (below_own HW1.out hgrow (HLL1.out.row k _ _ Hv.out Hl.out) (by omega) HW1.out.size)
          have HT3 : Hid (wr.heap.size < w3.heap.size) := Lib.hid (Nat.lt_of_lt_of_le HT1.out hgrow.size)
          have hS3 : w3.cell? ⟨wr.heap.size, 1, none⟩ = some (.int .i64 test) ∧ w3.cell? ⟨wr.heap.size, 2, none⟩ = some (.int .i64 thn) ∧ w3.cell? ⟨wr.heap.size, 3, none⟩ = some (.int .i64 els) := ⟨(cell_grown hgrow _ 1 HT1.out (fun e => HvT.out _ e.symm rfl)).trans hH0.1, (cell_grown hgrow _ 2 HT1.out (fun e => HvT.out _ e.symm rfl)).trans hH0.2.1, (cell_grown hgrow _ 3 HT1.out (fun e => HvT.out _ e.symm rfl)).trans hH0.2.2⟩
          obtain ⟨B3, d3, e3, _⟩ := OwnI.rd hown
          have e3 : v3 = .slice B3 1 d3 := e3
          subst e3
          obtain ⟨z1, z2, z3⟩ := hS3
          refine hK.out _ _ ⟨z1, z2, z3⟩ (fun hH1 => ?_)
          clear hK hrun hown hgrow hat hP hcell3 hfz3 hH0
          have hH0 := hH1
          clear hH1
          try simp only [Act.put, List.setIfInBounds_toArray, List.set_cons_zero, List.set_cons_succ]
          refine wpAnyH_take (i := 10) (oi := { dst := some 29, op := Go.Op.indexAddr 97 (Go.Operand.tmp 19) (Go.Operand.tmp 20), type := 0, pos := "block.go:54", after := #[{ on := 0, ground := Go.Ground.data }, { on := 1, ground := Go.Ground.data }, { on := 0, ground := Go.Ground.phase }, { on := 1, ground := Go.Ground.phase }, { on := 2, ground := Go.Ground.phase }, { on := 3, ground := Go.Ground.phase }, { on := 4, ground := Go.Ground.phase }, { on := 5, ground := Go.Ground.phase }, { on := 6, ground := Go.Ground.phase }, { on := 7, ground := Go.Ground.phase }, { on := 8, ground := Go.Ground.phase }, { on := 9, ground := Go.Ground.phase }], guard := none }) rfl (by kernel_rfl) (by kernel_rfl) (by kernel_rfl) (fun _ _ _ h => h) (Or.inl ⟨by rfl, fun w hw => by (go_simp; try with_reducible rfl)⟩) (by assumption) ?_
          try simp only [Act.put, List.setIfInBounds_toArray, List.set_cons_zero, List.set_cons_succ]
          refine wpAnyH_ready (rs := [11]) (by kernel_rfl) (by simp) ?_
          refine AllReadyH.cons (o := { dst := none, op := Go.Op.store 23 (Go.Operand.tmp 29) (Go.Operand.tmp 28), type := 0, pos := "block.go:54", after := #[{ on := 10, ground := Go.Ground.data }, { on := 9, ground := Go.Ground.data }, { on := 9, ground := Go.Ground.chain }, { on := 0, ground := Go.Ground.phase }, { on := 1, ground := Go.Ground.phase }, { on := 2, ground := Go.Ground.phase }, { on := 3, ground := Go.Ground.phase }, { on := 4, ground := Go.Ground.phase }, { on := 5, ground := Go.Ground.phase }, { on := 6, ground := Go.Ground.phase }, { on := 7, ground := Go.Ground.phase }, { on := 8, ground := Go.Ground.phase }, { on := 9, ground := Go.Ground.phase }], guard := none }) rfl (fun K hK => ?_) AllReadyH.nil
          go_simp
          refine hK.out _ _ (HSs.out _ _ hH0) (fun hH1 => ?_)
          clear hK hH0
          have hH0 := hH1
          clear hH1
          try simp only [Act.put, List.setIfInBounds_toArray, List.set_cons_zero, List.set_cons_succ]
          refine wpAnyH_done (by kernel_rfl) ?_ _
          have HW4 := Lib.hid (HW3.out.setCell (p := ⟨w.heap.size, k, none⟩) (Nat.le_refl _) (.slice B3 1 d3))
          have HT4 : Hid (wr.heap.size < (w3.setCell ⟨w.heap.size, k, none⟩ (.slice B3 1 d3)).heap.size) := Lib.hid (by have := HT3.out; simpa [World.setCell] using this)
          clear hH0
          go_wp2
          go_roundw
          case rel => exact ⟨k + 1, _, by omega, by go_num, by rw [← Hfs.out]; have h := HLL3.out; exact h, HW4.out, by have := HBT.out; have := HT4.out; omega⟩
          case measure => simp [intOf]; omega
      · by_cases e0 : 0 ≤ test
        · by_cases n0 : els = thn
          · have Hfs : Hid (rows.set k [] = nxTo p (k + 1)) := Lib.hid (by have h := Hset.out; unfold nxB at h; dsimp only at h; rw [if_neg t0, if_neg (fun h => h.2 n0)] at h; exact h)
            obtain rfl : thn = els := n0.symm
            have HLLa := Lib.hid (HLL.out.alloc (.cells #[.slice A' code.length cap', .int .i64 test, .int .i64 thn, .int .i64 thn] 85))
            have HWa := Lib.hid (HW.out.alloc hws (.cells #[.slice A' code.length cap', .int .i64 test, .int .i64 thn, .int .i64 thn] 85))
            go_wp2
            go_roundw
            case rel => exact ⟨k + 1, _, by omega, by go_num, by rw [← Hfs.out]; have h := HLLa.out; rw [set_same Hl.out]; exact h, HWa.out, by have := HBT.out; simp; omega⟩
            case measure => simp [intOf]; omega
          · have Hfs : Hid (rows.set k [els] = nxTo p (k + 1)) := Lib.hid (by have h := Hset.out; unfold nxB at h; dsimp only at h; rw [if_neg t0, if_pos ⟨e0, n0⟩] at h; exact h)
            have q7 : (els != thn) = true := by rw [bne_iff_ne]; exact n0
            have HLLx0 := Lib.hid ((HLL.out.alloc (.cells #[.slice A' code.length cap', .int .i64 test, .int .i64 thn, .int .i64 els] 85)).drew)
            have HWx0 := Lib.hid ((HW.out.alloc hws (.cells #[.slice A' code.length cap', .int .i64 test, .int .i64 thn, .int .i64 els] 85)).drew)
            have HTx0 : Hid (wr.heap.size < (wr.alloc (.cells #[.slice A' code.length cap', .int .i64 test, .int .i64 thn, .int .i64 els] 85)).drew.heap.size) := Lib.hid (by show wr.heap.size < (wr.alloc (.cells #[.slice A' code.length cap', .int .i64 test, .int .i64 thn, .int .i64 els] 85)).heap.size; simp)
            have hS0 : (wr.alloc (.cells #[.slice A' code.length cap', .int .i64 test, .int .i64 thn, .int .i64 els] 85)).drew.cell? ⟨wr.heap.size, 1, none⟩ = some (.int .i64 test) ∧ (wr.alloc (.cells #[.slice A' code.length cap', .int .i64 test, .int .i64 thn, .int .i64 els] 85)).drew.cell? ⟨wr.heap.size, 2, none⟩ = some (.int .i64 thn) ∧ (wr.alloc (.cells #[.slice A' code.length cap', .int .i64 test, .int .i64 thn, .int .i64 els] 85)).drew.cell? ⟨wr.heap.size, 3, none⟩ = some (.int .i64 els) := ⟨cell_new wr _ _ wr.heap.size rfl 1, cell_new wr _ _ wr.heap.size rfl 2, cell_new wr _ _ wr.heap.size rfl 3⟩
            have Hvx := Hv
            have Hlx := Hl
            have HvTx := HvT
            have Hrnx := Hrn
            have HSbx : Hid (∀ o : Obj, ((wr.alloc (.cells #[.slice A' code.length cap', .int .i64 test, .int .i64 thn, .int .i64 els] 85)).drew.cell? ⟨wr.heap.size, 1, none⟩ = some (.int .i64 test) ∧ (wr.alloc (.cells #[.slice A' code.length cap', .int .i64 test, .int .i64 thn, .int .i64 els] 85)).drew.cell? ⟨wr.heap.size, 2, none⟩ = some (.int .i64 thn) ∧ (wr.alloc (.cells #[.slice A' code.length cap', .int .i64 test, .int .i64 thn, .int .i64 els] 85)).drew.cell? ⟨wr.heap.size, 3, none⟩ = some (.int .i64 els)) → (((wr.alloc (.cells #[.slice A' code.length cap', .int .i64 test, .int .i64 thn, .int .i64 els] 85)).drew.alloc o).cell? ⟨wr.heap.size, 1, none⟩ = some (.int .i64 test) ∧ ((wr.alloc (.cells #[.slice A' code.length cap', .int .i64 test, .int .i64 thn, .int .i64 els] 85)).drew.alloc o).cell? ⟨wr.heap.size, 2, none⟩ = some (.int .i64 thn) ∧ ((wr.alloc (.cells #[.slice A' code.length cap', .int .i64 test, .int .i64 thn, .int .i64 els] 85)).drew.alloc o).cell? ⟨wr.heap.size, 3, none⟩ = some (.int .i64 els))) := Lib.hid (fun o h => ⟨(cell_grown (World.grownBy_alloc (wr.alloc (.cells #[.slice A' code.length cap', .int .i64 test, .int .i64 thn, .int .i64 els] 85)).drew o none) _ 1 HTx0.out (by simp)).trans h.1, (cell_grown (World.grownBy_alloc (wr.alloc (.cells #[.slice A' code.length cap', .int .i64 test, .int .i64 thn, .int .i64 els] 85)).drew o none) _ 2 HTx0.out (by simp)).trans h.2.1, (cell_grown (World.grownBy_alloc (wr.alloc (.cells #[.slice A' code.length cap', .int .i64 test, .int .i64 thn, .int .i64 els] 85)).drew o none) _ 3 HTx0.out (by simp)).trans h.2.2⟩)
            obtain ⟨g0, eg0, _, _, _, hcell0⟩ := OwnV.at2 HLLx0.out.own Hrnx.out
            injection eg0 with eg0; injection eg0 with eg0
            subst eg0
            have c0x := hcell0 k (List.getElem?_eq_some_iff.1 Hvx.out).1
            rw [(List.getElem?_eq_some_iff.1 Hvx.out).2] at c0x
            clear hcell0
            go_wp2
            refine wp_region_held_drew (S := fun w' => w'.cell? ⟨wr.heap.size, 1, none⟩ = some (.int .i64 test) ∧ w'.cell? ⟨wr.heap.size, 2, none⟩ = some (.int .i64 thn) ∧ w'.cell? ⟨wr.heap.size, 3, none⟩ = some (.int .i64 els)) (by kernel_rfl) hS0 (fun hH0 => ?_)
            clear hS0
            generalize (wr.alloc (.cells #[.slice A' code.length cap', .int .i64 test, .int .i64 thn, .int .i64 els] 85)).drew = w0x at *
            refine wpAnyH_take (i := 0) (oi := { dst := some 40, op := Go.Op.move (Go.Operand.tmp 3), type := 97, pos := "block.go:57", after := #[], guard := none }) rfl (by kernel_rfl) (by kernel_rfl) (by kernel_rfl) (fun _ _ _ h => h) (Or.inl ⟨by rfl, fun w hw => by (go_simp; try with_reducible rfl)⟩) (by assumption) ?_
            try simp only [Act.put, List.setIfInBounds_toArray, List.set_cons_zero, List.set_cons_succ]
            refine wpAnyH_take (i := 1) (oi := { dst := some 41, op := Go.Op.move (Go.Operand.tmp 4), type := 3, pos := "block.go:57", after := #[], guard := none }) rfl (by kernel_rfl) (by kernel_rfl) (by kernel_rfl) (fun _ _ _ h => h) (Or.inl ⟨by rfl, fun w hw => by (go_simp; try with_reducible rfl)⟩) (by assumption) ?_
            try simp only [Act.put, List.setIfInBounds_toArray, List.set_cons_zero, List.set_cons_succ]
            refine wpAnyH_take (i := 2) (oi := { dst := some 42, op := Go.Op.move (Go.Operand.tmp 3), type := 97, pos := "block.go:57", after := #[], guard := none }) rfl (by kernel_rfl) (by kernel_rfl) (by kernel_rfl) (fun _ _ _ h => h) (Or.inl ⟨by rfl, fun w hw => by (go_simp; try with_reducible rfl)⟩) (by assumption) ?_
            try simp only [Act.put, List.setIfInBounds_toArray, List.set_cons_zero, List.set_cons_succ]
            refine wpAnyH_take (i := 3) (oi := { dst := some 43, op := Go.Op.move (Go.Operand.tmp 4), type := 3, pos := "block.go:57", after := #[], guard := none }) rfl (by kernel_rfl) (by kernel_rfl) (by kernel_rfl) (fun _ _ _ h => h) (Or.inl ⟨by rfl, fun w hw => by (go_simp; try with_reducible rfl)⟩) (by assumption) ?_
            try simp only [Act.put, List.setIfInBounds_toArray, List.set_cons_zero, List.set_cons_succ]
            refine wpAnyH_take (i := 4) (oi := { dst := some 44, op := Go.Op.indexAddr 97 (Go.Operand.tmp 42) (Go.Operand.tmp 43), type := 0, pos := "block.go:57", after := #[{ on := 2, ground := Go.Ground.data }, { on := 3, ground := Go.Ground.data }], guard := none }) rfl (by kernel_rfl) (by kernel_rfl) (by kernel_rfl) (fun _ _ _ h => h) (Or.inl ⟨by rfl, fun w hw => by (go_simp; try with_reducible rfl)⟩) (by assumption) ?_
            try simp only [Act.put, List.setIfInBounds_toArray, List.set_cons_zero, List.set_cons_succ]
            refine wpAnyH_take (i := 6) (oi := { dst := some 46, op := Go.Op.fieldAddr 85 (Go.Operand.tmp 5) 3, type := 0, pos := "block.go:57", after := #[], guard := none }) rfl (by kernel_rfl) (by kernel_rfl) (by kernel_rfl) (fun _ _ _ h => h) (Or.inl ⟨by rfl, fun w hw => by (go_simp; try with_reducible rfl)⟩) (by assumption) ?_
            try simp only [Act.put, List.setIfInBounds_toArray, List.set_cons_zero, List.set_cons_succ]
            refine wpAnyH_take (i := 7) (oi := { dst := some 47, op := Go.Op.load 3 (Go.Operand.tmp 46), type := 3, pos := "block.go:57", after := #[{ on := 6, ground := Go.Ground.data }], guard := none }) rfl (by kernel_rfl) (by kernel_rfl) (by kernel_rfl) (fun _ _ _ h => h) (Or.inl ⟨by rfl, fun w hw => by (obtain ⟨p0, p1, p2⟩ := hw; go_simp; try with_reducible rfl)⟩) (by assumption) ?_
            try simp only [Act.put, List.setIfInBounds_toArray, List.set_cons_zero, List.set_cons_succ]
            refine wpAnyH_ready (rs := [5, 8]) (by kernel_rfl) (by simp) ?_
            refine AllReadyH.cons (o := { dst := some 45, op := Go.Op.load 23 (Go.Operand.tmp 44), type := 23, pos := "block.go:57", after := #[{ on := 4, ground := Go.Ground.data }], guard := none }) rfl (fun K hK => ?_) ?_
            · have c9 := c0x
              go_simp
              clear c9
              refine hK.out _ _ hH0 (fun hH1 => ?_)
              clear hK hH0
              have hH0 := hH1
              clear hH1
              try simp only [Act.put, List.setIfInBounds_toArray, List.set_cons_zero, List.set_cons_succ]
              refine wpAnyH_ready (rs := [8]) (by kernel_rfl) (by simp) ?_
              refine AllReadyH.cons (o := { dst := some 48, op := Go.Op.buildSlice 23 1 #[(0, Go.Operand.tmp 47)], type := 23, pos := "block.go:57", after := #[{ on := 7, ground := Go.Ground.data }], guard := none }) rfl (fun K hK => ?_) AllReadyH.nil
              go_simp
              refine hK.out _ _ (HSbx.out _ hH0) (fun hH1 => ?_)
              clear hK hH0
              have hH0 := hH1
              clear hH1
              have HLLx1 := Lib.hid (HLLx0.out.alloc (.cells #[.int .i64 els] 3))
              have HWx1 := Lib.hid (HWx0.out.alloc HWx0.out.size (.cells #[.int .i64 els] 3))
              have HCx1 := Lib.hid (cell_grown (World.grownBy_alloc w0x (.cells #[.int .i64 els] 3) none) w.heap.size k HLLx0.out.lt (by simp))
              have HNx1 : Hid (∀ j, j < 1 → (w0x.alloc (.cells #[.int .i64 els] 3)).cell? ⟨w0x.heap.size, j, none⟩ = (intCells els)[j]?) := Lib.hid (fun j hj => by (obtain rfl : j = 0 := by omega); exact cell_new w0x #[.int .i64 els] 3 w0x.heap.size rfl 0)
              have HTx1 : Hid (wr.heap.size < (w0x.alloc (.cells #[.int .i64 els] 3)).heap.size) := Lib.hid (by have := HTx0.out; simp; omega)
              generalize w0x.alloc (.cells #[.int .i64 els] 3) = w1x at *
              generalize w0x.heap.size = s1x at *
              try simp only [Act.put, List.setIfInBounds_toArray, List.set_cons_zero, List.set_cons_succ]
              refine wpAnyH_ready (rs := [9]) (by kernel_rfl) (by simp) ?_
              refine AllReadyH.cons (o := { dst := some 49, op := Go.Op.call { callee := Go.Callee.builtin Go.Builtin.append, args := #[Go.Operand.tmp 45, Go.Operand.tmp 48], argTypes := #[23, 23] }, type := 23, pos := "block.go:57", after := #[{ on := 5, ground := Go.Ground.data }, { on := 8, ground := Go.Ground.data }], guard := none }) rfl (fun K hK => ?_) AllReadyH.nil
              obtain ⟨v3x, w3x, hrun, hown, hgrow, hat⟩ := run_app1 (P := Try.prog) (w := w1x) 23 23 intCells 1 8 3 (.int .i64 0) Try.underlying23 infoInt rfl (by decide) intCells_len intCells_one wm.heap.size (.slice Av 0 cv) ([]) els (HLLx1.out.row k _ _ Hvx.out Hlx.out) s1x 1 HNx1.out (by unfold maxLen; simp) (by simp) (Nat.le_of_lt (by have := HBT.out; have := HTx1.out; omega))
              rw [if_pos (by rfl)]
              refine wp_app_run 23 _ _ rfl rfl rfl hrun ?_
              have hP := HLLx1.out.grown Hvx.out Hlx.out hown hgrow hat
              obtain ⟨g3, eg3, _, hg3, hfz3, hcell3⟩ := OwnV.at2 hP.1 Hrnx.out
              injection eg3 with eg3; injection eg3 with eg3
              subst eg3
              have c3x := hcell3 k (List.getElem?_eq_some_iff.1 Hvx.out).1
              have f3x := hfz3 k
              have HLLx3 := Lib.hid hP.2
              have HvT3x : Hid (∀ g, v3x.ownBlock = some g → g ≠ wr.heap.size) := Lib.hid (fun g e => by rcases hat with h | h; exact HvTx.out g (h.symm.trans e); (rw [h] at e; injection e with e; have := HTx1.out; omega))
              have HWx3 := Lib.hid (below_own HWx1.out hgrow (HLLx1.out.row k _ _ Hvx.out Hlx.out) (by omega) HWx1.out.size)
              have HTx3 : Hid (wr.heap.size < w3x.heap.size) := Lib.hid (Nat.lt_of_lt_of_le HTx1.out hgrow.size)
              have hS3 : w3x.cell? ⟨wr.heap.size, 1, none⟩ = some (.int .i64 test) ∧ w3x.cell? ⟨wr.heap.size, 2, none⟩ = some (.int .i64 thn) ∧ w3x.cell? ⟨wr.heap.size, 3, none⟩ = some (.int .i64 els) := ⟨(cell_grown hgrow _ 1 HTx1.out (fun e => HvTx.out _ e.symm rfl)).trans hH0.1, (cell_grown hgrow _ 2 HTx1.out (fun e => HvTx.out _ e.symm rfl)).trans hH0.2.1, (cell_grown hgrow _ 3 HTx1.out (fun e => HvTx.out _ e.symm rfl)).trans hH0.2.2⟩
              obtain ⟨B3x, d3x, e3, _⟩ := OwnI.rd hown
              have e3 : v3x = .slice B3x 1 d3x := e3
              subst e3
              obtain ⟨z1x, z2x, z3x⟩ := hS3
              refine hK.out _ _ ⟨z1x, z2x, z3x⟩ (fun hH1 => ?_)
              clear hK hrun hown hgrow hat hP hcell3 hfz3 hH0
              have hH0 := hH1
              clear hH1
              try simp only [Act.put, List.setIfInBounds_toArray, List.set_cons_zero, List.set_cons_succ]
              refine wpAnyH_take (i := 10) (oi := { dst := some 50, op := Go.Op.indexAddr 97 (Go.Operand.tmp 40) (Go.Operand.tmp 41), type := 0, pos := "block.go:57", after := #[{ on := 0, ground := Go.Ground.data }, { on := 1, ground := Go.Ground.data }, { on := 0, ground := Go.Ground.phase }, { on := 1, ground := Go.Ground.phase }, { on := 2, ground := Go.Ground.phase }, { on := 3, ground := Go.Ground.phase }, { on := 4, ground := Go.Ground.phase }, { on := 5, ground := Go.Ground.phase }, { on := 6, ground := Go.Ground.phase }, { on := 7, ground := Go.Ground.phase }, { on := 8, ground := Go.Ground.phase }, { on := 9, ground := Go.Ground.phase }], guard := none }) rfl (by kernel_rfl) (by kernel_rfl) (by kernel_rfl) (fun _ _ _ h => h) (Or.inl ⟨by rfl, fun w hw => by (go_simp; try with_reducible rfl)⟩) (by assumption) ?_
              try simp only [Act.put, List.setIfInBounds_toArray, List.set_cons_zero, List.set_cons_succ]
              refine wpAnyH_ready (rs := [11]) (by kernel_rfl) (by simp) ?_
              refine AllReadyH.cons (o := { dst := none, op := Go.Op.store 23 (Go.Operand.tmp 50) (Go.Operand.tmp 49), type := 0, pos := "block.go:57", after := #[{ on := 10, ground := Go.Ground.data }, { on := 9, ground := Go.Ground.data }, { on := 9, ground := Go.Ground.chain }, { on := 0, ground := Go.Ground.phase }, { on := 1, ground := Go.Ground.phase }, { on := 2, ground := Go.Ground.phase }, { on := 3, ground := Go.Ground.phase }, { on := 4, ground := Go.Ground.phase }, { on := 5, ground := Go.Ground.phase }, { on := 6, ground := Go.Ground.phase }, { on := 7, ground := Go.Ground.phase }, { on := 8, ground := Go.Ground.phase }, { on := 9, ground := Go.Ground.phase }], guard := none }) rfl (fun K hK => ?_) AllReadyH.nil
              go_simp
              refine hK.out _ _ (HSs.out _ _ hH0) (fun hH1 => ?_)
              clear hK hH0
              have hH0 := hH1
              clear hH1
              try simp only [Act.put, List.setIfInBounds_toArray, List.set_cons_zero, List.set_cons_succ]
              refine wpAnyH_done (by kernel_rfl) ?_ _
              have HWx4 := Lib.hid (HWx3.out.setCell (p := ⟨w.heap.size, k, none⟩) (Nat.le_refl _) (.slice B3x 1 d3x))
              have HTx4 : Hid (wr.heap.size < (w3x.setCell ⟨w.heap.size, k, none⟩ (.slice B3x 1 d3x)).heap.size) := Lib.hid (by have := HTx3.out; simpa [World.setCell] using this)
              clear hH0
              go_wp2
              go_roundw
              case rel => exact ⟨k + 1, _, by omega, by go_num, by rw [← Hfs.out]; have h := HLLx3.out; exact h, HWx4.out, by have := HBT.out; have := HTx4.out; omega⟩
              case measure => simp [intOf]; omega
            refine AllReadyH.cons (o := { dst := some 48, op := Go.Op.buildSlice 23 1 #[(0, Go.Operand.tmp 47)], type := 23, pos := "block.go:57", after := #[{ on := 7, ground := Go.Ground.data }], guard := none }) rfl (fun K hK => ?_) AllReadyH.nil
            go_simp
            refine hK.out _ _ (HSbx.out _ hH0) (fun hH1 => ?_)
            clear hK hH0
            have hH0 := hH1
            clear hH1
            have HLLx1 := Lib.hid (HLLx0.out.alloc (.cells #[.int .i64 els] 3))
            have HWx1 := Lib.hid (HWx0.out.alloc HWx0.out.size (.cells #[.int .i64 els] 3))
            have HCx1 := Lib.hid (cell_grown (World.grownBy_alloc w0x (.cells #[.int .i64 els] 3) none) w.heap.size k HLLx0.out.lt (by simp))
            have HNx1 : Hid (∀ j, j < 1 → (w0x.alloc (.cells #[.int .i64 els] 3)).cell? ⟨w0x.heap.size, j, none⟩ = (intCells els)[j]?) := Lib.hid (fun j hj => by (obtain rfl : j = 0 := by omega); exact cell_new w0x #[.int .i64 els] 3 w0x.heap.size rfl 0)
            have HTx1 : Hid (wr.heap.size < (w0x.alloc (.cells #[.int .i64 els] 3)).heap.size) := Lib.hid (by have := HTx0.out; simp; omega)
            generalize w0x.alloc (.cells #[.int .i64 els] 3) = w1x at *
            generalize w0x.heap.size = s1x at *
            try simp only [Act.put, List.setIfInBounds_toArray, List.set_cons_zero, List.set_cons_succ]
            refine wpAnyH_ready (rs := [5]) (by kernel_rfl) (by simp) ?_
            refine AllReadyH.cons (o := { dst := some 45, op := Go.Op.load 23 (Go.Operand.tmp 44), type := 23, pos := "block.go:57", after := #[{ on := 4, ground := Go.Ground.data }], guard := none }) rfl (fun K hK => ?_) AllReadyH.nil
            have c9 := HCx1.out.trans c0x
            go_simp
            clear c9
            refine hK.out _ _ hH0 (fun hH1 => ?_)
            clear hK hH0
            have hH0 := hH1
            clear hH1
            try simp only [Act.put, List.setIfInBounds_toArray, List.set_cons_zero, List.set_cons_succ]
            refine wpAnyH_ready (rs := [9]) (by kernel_rfl) (by simp) ?_
            refine AllReadyH.cons (o := { dst := some 49, op := Go.Op.call { callee := Go.Callee.builtin Go.Builtin.append, args := #[Go.Operand.tmp 45, Go.Operand.tmp 48], argTypes := #[23, 23] }, type := 23, pos := "block.go:57", after := #[{ on := 5, ground := Go.Ground.data }, { on := 8, ground := Go.Ground.data }], guard := none }) rfl (fun K hK => ?_) AllReadyH.nil
            obtain ⟨v3x, w3x, hrun, hown, hgrow, hat⟩ := run_app1 (P := Try.prog) (w := w1x) 23 23 intCells 1 8 3 (.int .i64 0) Try.underlying23 infoInt rfl (by decide) intCells_len intCells_one wm.heap.size (.slice Av 0 cv) ([]) els (HLLx1.out.row k _ _ Hvx.out Hlx.out) s1x 1 HNx1.out (by unfold maxLen; simp) (by simp) (Nat.le_of_lt (by have := HBT.out; have := HTx1.out; omega))
            rw [if_pos (by rfl)]
            refine wp_app_run 23 _ _ rfl rfl rfl hrun ?_
            have hP := HLLx1.out.grown Hvx.out Hlx.out hown hgrow hat
            obtain ⟨g3, eg3, _, hg3, hfz3, hcell3⟩ := OwnV.at2 hP.1 Hrnx.out
            injection eg3 with eg3; injection eg3 with eg3
            subst eg3
            have c3x := hcell3 k (List.getElem?_eq_some_iff.1 Hvx.out).1
            have f3x := hfz3 k
            have HLLx3 := Lib.hid hP.2
            have HvT3x : Hid (∀ g, v3x.ownBlock = some g → g ≠ wr.heap.size) := Lib.hid (fun g e => by rcases hat with h | h; exact HvTx.out g (h.symm.trans e); (rw [h] at e; injection e with e; have := HTx1.out; omega))
            have HWx3 := Lib.hid (below_own HWx1.out hgrow (HLLx1.out.row k _ _ Hvx.out Hlx.out) (by omega) HWx1.out.size)
            have HTx3 : Hid (wr.heap.size < w3x.heap.size) := Lib.hid (Nat.lt_of_lt_of_le HTx1.out hgrow.size)
            have hS3 : w3x.cell? ⟨wr.heap.size, 1, none⟩ = some (.int .i64 test) ∧ w3x.cell? ⟨wr.heap.size, 2, none⟩ = some (.int .i64 thn) ∧ w3x.cell? ⟨wr.heap.size, 3, none⟩ = some (.int .i64 els) := ⟨(cell_grown hgrow _ 1 HTx1.out (fun e => HvTx.out _ e.symm rfl)).trans hH0.1, (cell_grown hgrow _ 2 HTx1.out (fun e => HvTx.out _ e.symm rfl)).trans hH0.2.1, (cell_grown hgrow _ 3 HTx1.out (fun e => HvTx.out _ e.symm rfl)).trans hH0.2.2⟩
            obtain ⟨B3x, d3x, e3, _⟩ := OwnI.rd hown
            have e3 : v3x = .slice B3x 1 d3x := e3
            subst e3
            obtain ⟨z1x, z2x, z3x⟩ := hS3
            refine hK.out _ _ ⟨z1x, z2x, z3x⟩ (fun hH1 => ?_)
            clear hK hrun hown hgrow hat hP hcell3 hfz3 hH0
            have hH0 := hH1
            clear hH1
            try simp only [Act.put, List.setIfInBounds_toArray, List.set_cons_zero, List.set_cons_succ]
            refine wpAnyH_take (i := 10) (oi := { dst := some 50, op := Go.Op.indexAddr 97 (Go.Operand.tmp 40) (Go.Operand.tmp 41), type := 0, pos := "block.go:57", after := #[{ on := 0, ground := Go.Ground.data }, { on := 1, ground := Go.Ground.data }, { on := 0, ground := Go.Ground.phase }, { on := 1, ground := Go.Ground.phase }, { on := 2, ground := Go.Ground.phase }, { on := 3, ground := Go.Ground.phase }, { on := 4, ground := Go.Ground.phase }, { on := 5, ground := Go.Ground.phase }, { on := 6, ground := Go.Ground.phase }, { on := 7, ground := Go.Ground.phase }, { on := 8, ground := Go.Ground.phase }, { on := 9, ground := Go.Ground.phase }], guard := none }) rfl (by kernel_rfl) (by kernel_rfl) (by kernel_rfl) (fun _ _ _ h => h) (Or.inl ⟨by rfl, fun w hw => by (go_simp; try with_reducible rfl)⟩) (by assumption) ?_
            try simp only [Act.put, List.setIfInBounds_toArray, List.set_cons_zero, List.set_cons_succ]
            refine wpAnyH_ready (rs := [11]) (by kernel_rfl) (by simp) ?_
            refine AllReadyH.cons (o := { dst := none, op := Go.Op.store 23 (Go.Operand.tmp 50) (Go.Operand.tmp 49), type := 0, pos := "block.go:57", after := #[{ on := 10, ground := Go.Ground.data }, { on := 9, ground := Go.Ground.data }, { on := 9, ground := Go.Ground.chain }, { on := 0, ground := Go.Ground.phase }, { on := 1, ground := Go.Ground.phase }, { on := 2, ground := Go.Ground.phase }, { on := 3, ground := Go.Ground.phase }, { on := 4, ground := Go.Ground.phase }, { on := 5, ground := Go.Ground.phase }, { on := 6, ground := Go.Ground.phase }, { on := 7, ground := Go.Ground.phase }, { on := 8, ground := Go.Ground.phase }, { on := 9, ground := Go.Ground.phase }], guard := none }) rfl (fun K hK => ?_) AllReadyH.nil
            go_simp
            refine hK.out _ _ (HSs.out _ _ hH0) (fun hH1 => ?_)
            clear hK hH0
            have hH0 := hH1
            clear hH1
            try simp only [Act.put, List.setIfInBounds_toArray, List.set_cons_zero, List.set_cons_succ]
            refine wpAnyH_done (by kernel_rfl) ?_ _
            have HWx4 := Lib.hid (HWx3.out.setCell (p := ⟨w.heap.size, k, none⟩) (Nat.le_refl _) (.slice B3x 1 d3x))
            have HTx4 : Hid (wr.heap.size < (w3x.setCell ⟨w.heap.size, k, none⟩ (.slice B3x 1 d3x)).heap.size) := Lib.hid (by have := HTx3.out; simpa [World.setCell] using this)
            clear hH0
            go_wp2
            go_roundw
            case rel => exact ⟨k + 1, _, by omega, by go_num, by rw [← Hfs.out]; have h := HLLx3.out; exact h, HWx4.out, by have := HBT.out; have := HTx4.out; omega⟩
            case measure => simp [intOf]; omega
        · have Hfs : Hid (rows.set k [] = nxTo p (k + 1)) := Lib.hid (by have h := Hset.out; unfold nxB at h; dsimp only at h; rw [if_neg t0, if_neg (fun h => e0 h.1)] at h; exact h)
          have q8 : decide (0 ≤ test) = false := decide_eq_false e0
          have HLLa := Lib.hid (HLL.out.alloc (.cells #[.slice A' code.length cap', .int .i64 test, .int .i64 thn, .int .i64 els] 85))
          have HWa := Lib.hid (HW.out.alloc hws (.cells #[.slice A' code.length cap', .int .i64 test, .int .i64 thn, .int .i64 els] 85))
          go_wp2
          go_roundw
          case rel => exact ⟨k + 1, _, by omega, by go_num, by rw [← Hfs.out]; have h := HLLa.out; rw [set_same Hl.out]; exact h, HWa.out, by have := HBT.out; simp; omega⟩
          case measure => simp [intOf]; omega
    · have hke : k = p.length := by omega
      subst hke
      rw [nxTo_all] at hLL
      have HLL := Lib.hid hLL
      clear hLL hW
      go_wp2
      go_ret
      exact ⟨_, rfl, HLL.out.rd, HW.out⟩
end Go.Proofs.Ytmgejacndhnikaa
