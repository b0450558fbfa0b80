/- term.Fold walked. -/
import Derived.Test.YtmglhppfdhphbaaFoldR
import Derived.Test.YtmglhppfdhphbaaAppRun
import Derived.StillTailTactics
import Derived.Deep.CutRange
import Derived.Deep.DeepCutAuto
import Derived.Deep.RegionHeld3
namespace Go.Proofs.Ytmglhppfdhphbaa
open Go.RowKit

/-- In the midst: folded up to k. -/
def midF (l : List Term) (k : Nat) : List Term := foldTo l k ++ l.drop k
section
variable {l : List Term} {vars : Int}
theorem midF_len {k : Nat} (hk : k ≤ l.length) : (midF l k).length = l.length := by unfold midF; rw [List.length_append, foldTo_len hk, List.length_drop]; omega
theorem midF_here {k : Nat} (hk : k < l.length) : (midF l k).getD k nulF = l[k] := by
  unfold midF
  rw [List.getD_eq_getElem?_getD, List.getElem?_append_right (by rw [foldTo_len (by omega)]; omega), foldTo_len (by omega), Nat.sub_self, List.getElem?_drop, Nat.add_zero, List.getElem?_eq_getElem hk]; rfl
theorem midF_low {j k : Nat} (hj : j < k) (hk : k ≤ l.length) : (midF l k).getD j nulF = (foldTo l k).getD j nulF := by
  unfold midF
  rw [List.getD_eq_getElem?_getD, List.getElem?_append_left (by rw [foldTo_len hk]; omega), ← List.getD_eq_getElem?_getD]
theorem midF_succ {k : Nat} (hk : k < l.length) : midF l (k + 1) = (midF l k).set k (fold1 (foldTo l k) l[k]) := by
  unfold midF
  rw [foldTo_succ hk, List.drop_eq_getElem_cons hk, List.set_append_right _ _ (by rw [foldTo_len (by omega)]; omega), foldTo_len (by omega), Nat.sub_self, List.set_cons_zero, List.append_assoc]; rfl
theorem midF_keep {k : Nat} (hk : k < l.length) (h : fold1 (foldTo l k) l[k] = l[k]) : midF l (k + 1) = midF l k := by
  rw [midF_succ hk, h, ← midF_here hk]
  refine List.ext_getElem (by simp) fun i h1 h2 => ?_
  rw [List.getElem_set]
  split
  · rename_i e; subst e; rw [List.getD_eq_getElem?_getD, List.getElem?_eq_getElem h2]; rfl
  · rfl
theorem midF_zero : midF l 0 = l := rfl
theorem midF_all : midF l l.length = foldL l := by unfold midF foldL; rw [List.drop_length, List.append_nil]
theorem midF_num (hok : ∀ k (h : k < l.length), TOk vars k l[k]) {j k : Nat} (hj : j < k) (hk : k ≤ l.length) (h : ((midF l k).getD j nulF).op = 1) : 0 ≤ ((midF l k).getD j nulF).val ∧ ((midF l k).getD j nulF).val ≤ 255 := by
  rw [midF_low hj hk, fTo_pre hj hk] at h ⊢
  have hj' : j < (foldL l).length := by rw [fL_len]; omega
  obtain ⟨_, _, h1, _, _⟩ := fL_ok hok j hj'
  have e := getD_at hj'
  rw [← e] at h1
  exact h1 h
theorem getD_idx {l : List Term} {k : Nat} (h : k < l.length) : l[k] = l.getD k nulF := (getD_at h).symm
end
/-- In the midst of a round: the number row, the marks, the row of folded terms, the copy of the term at N. -/
structure MF (wb w : World) (n N B5 : Nat) (uv : Value) (ub : List Bool) (nb : List Int) (v : Value) (out : List Term) (t : Term) : Prop where
  nb : OwnI w wb.heap.size 3 (.slice (some ⟨wb.heap.size, 0, none⟩) n n) nb
  us : OwnBo w (wb.heap.size + 1) 4 uv ub
  usb : ∀ g, uv.ownBlock = some g → g < B5
  out : OwnT w B5 v out
  b5 : wb.heap.size < B5
  bel : Below wb.heap.size wb w
  gt : B5 ≤ N
  lt : N < w.heap.size
  ne : v.ownBlock ≠ some N
  hh : w.heap[N]? = some (.cells t.cells.toArray 37 (0, 0))
section
variable {wb w : World} {n N B5 : Nat} {uv : Value} {ub : List Bool} {nb : List Int} {v : Value} {out : List Term} {t : Term}
theorem MF.cs (h : MF wb w n N B5 uv ub nb v out t) (j : Nat) : w.cell? ⟨N, j, none⟩ = t.cells[j]? := by
  rw [cell_of_row w N j _ _ _ h.hh, List.getElem?_toArray]
theorem MF.at4 (h : MF wb w n N B5 uv ub nb v out t) : w.cell? ⟨N, 0, none⟩ = some (.int .i64 t.op) ∧ w.cell? ⟨N, 1, none⟩ = some (.int .i64 t.a) ∧ w.cell? ⟨N, 2, none⟩ = some (.int .i64 t.b) ∧ w.cell? ⟨N, 3, none⟩ = some (.int .i64 t.val) := ⟨h.cs 0, h.cs 1, h.cs 2, h.cs 3⟩
theorem MF.fz (h : MF wb w n N B5 uv ub nb v out t) (j : Nat) : w.frozen? ⟨N, j, none⟩ = false := by simp [World.frozen?, h.hh]
theorem MF.drew (h : MF wb w n N B5 uv ub nb v out t) : MF wb w.drew n N B5 uv ub nb v out t := ⟨h.nb, h.us, h.usb, h.out, h.b5, h.bel.drew, h.gt, h.lt, h.ne, h.hh⟩
theorem MF.set12 (h : MF wb w n N B5 uv ub nb v out t) (a b : Int) : MF wb ((w.setCell ⟨N, 1, none⟩ (.int .i64 a)).setCell ⟨N, 2, none⟩ (.int .i64 b)) n N B5 uv ub nb v out ⟨t.op, a, b, t.val⟩ := by
  have hbn : (Value.slice (some ⟨wb.heap.size, 0, none⟩) n n).ownBlock ≠ some N := fun e => by
    have e : some wb.heap.size = some N := e
    injection e with e; have := h.gt; have := h.b5; omega
  have hbu : uv.ownBlock ≠ some N := fun e => by have := h.usb _ e; have := h.gt; omega
  have hgt : wb.heap.size ≤ N := by have := h.gt; have := h.b5; omega
  exact ⟨(h.nb.far (p := ⟨N, 1, none⟩) hbn _).far (p := ⟨N, 2, none⟩) hbn _, (h.us.far (p := ⟨N, 1, none⟩) hbu _).far (p := ⟨N, 2, none⟩) hbu _, h.usb, (h.out.far (p := ⟨N, 1, none⟩) h.ne _).far (p := ⟨N, 2, none⟩) h.ne _, h.b5,
    (h.bel.setCell (p := ⟨N, 1, none⟩) hgt _).setCell (p := ⟨N, 2, none⟩) hgt _, h.gt, by simpa [World.setCell] using h.lt, h.ne,
    heap_setCell_ _ N 2 _ _ _ (heap_setCell_ w N 1 _ _ _ h.hh)⟩
end
set_option maxRecDepth 100000 in
set_option maxHeartbeats 8000000 in
theorem fold_ok (vars : Int) (A : Option Addr) (l : List Term) (cap : Nat) (w : World) (hA : RdT w A l) (h0 : tErr vars l = 0) :
    Calls Try.prog 25 #[.int .i64 vars, .slice A l.length cap] w fun e w' => ∃ v, e = .returned (.tuple #[v, .int .i64 0]) ∧ OwnT w' w.heap.size v (foldedL l) ∧ Below w.heap.size w w' := by
  obtain ⟨hv0, hv6, h1, h16, hok⟩ := tErr_ok h0
  have HA := Lib.hid hA; clear hA
  have Hok := Lib.hid hok; clear hok
  have H0 := Lib.hid h0; clear h0
  go_enter Try.func25, Try.ntmps25
  go_wp2_with (first
    | (go_at_call 37; refine (check_calls vars A l cap w HA.out (by unfold maxLen; omega)).mono ?_; rintro e w1 ⟨rfl, hW⟩; rw [H0.out]; have HW1 := Lib.hid hW; have HA1 := Lib.hid (Rd.below HA.out hW); clear hW)
    | (go_at_call 47; refine (cloneT_calls A l cap w1 HA1.out h1 (by omega)).mono ?_
       rintro e w2 ⟨v1, rfl, hO, hW2⟩
       have hw1 := HW1.out.size
       obtain ⟨A1, c1, rfl, -⟩ := OwnT.rd hO
       have HO1 := Lib.hid hO
       have HW2 := Lib.hid (HW1.out.trans (hW2.mono hw1))
       clear hO hW2))
  go_loopw [24] (fun i wr => ∃ k : Nat, k ≤ l.length ∧ i = .int .i64 k ∧ OwnT wr w1.heap.size (.slice A1 l.length c1) (midF l k) ∧ Below w.heap.size w wr) (fun i _ => l.length - (intOf i).toNat)
  case atStart => exact ⟨0, Nat.zero_le _, rfl, HO1.out, HW2.out⟩
  case round =>
    clear HO1 HW2
    obtain ⟨k, hk, rfl, hO, hW⟩ := hrel
    have HO := Lib.hid hO
    have HW := Lib.hid hW
    have hws := hW.size
    by_cases hlt : k < l.length
    · obtain ⟨g, rfl, hg1, hg2, hfz, hcell⟩ := OwnT.at4 hO (by rw [midF_len hk]; omega)
      have hkm : k < (midF l k).length := by rw [midF_len hk]; exact hlt
      obtain ⟨c0, c1', c2, c3⟩ := hcell k hkm
      have e0 : (midF l k)[k] = l[k] := by rw [getD_idx hkm, midF_here hlt]
      rw [e0] at c0 c1' c2 c3
      have Hsucc := Lib.hid (midF_succ hlt)
      have Hkeep := Lib.hid (@midF_keep l k hlt)
      have q1 : ((k : Nat) : Int) < ((l.length : Nat) : Int) := by omega
      obtain ⟨o1, o6, _, _, hob⟩ := Hok.out k hlt
      have Hcell : Hid (∀ j, j < k → wr.cell? ⟨g, j * 4, none⟩ = some (.int .i64 ((midF l k).getD j nulF).op) ∧ wr.cell? ⟨g, j * 4 + 3, none⟩ = some (.int .i64 ((midF l k).getD j nulF).val)) := Lib.hid fun j hj => by
        obtain ⟨d0, _, _, d3⟩ := hcell j (by omega)
        rw [getD_idx (by omega : j < (midF l k).length)] at d0 d3
        exact ⟨d0, d3⟩
      have Hfz := Lib.hid hfz
      have Hnum := Lib.hid (fun j hj => @midF_num l vars Hok.out j k hj hk)
      have Hlow := Lib.hid (fun j hj => @midF_low l j k hj hk)
      have HOa := Lib.hid (HO.out.alloc (.cells #[.int .i64 l[k].op, .int .i64 l[k].a, .int .i64 l[k].b, .int .i64 l[k].val] 37))
      have HWa := Lib.hid (HW.out.alloc hws (.cells #[.int .i64 l[k].op, .int .i64 l[k].a, .int .i64 l[k].b, .int .i64 l[k].val] 37))
      clear hO hW hcell hfz e0 hkm
      generalize hm : midF l k = m at *
      generalize l[k] = t at *
      obtain ⟨op, ta, tb, tv⟩ := t
      dsimp only at *
      by_cases h2 : 2 < op
      · obtain ⟨a0, la, b0, lb⟩ := hob (by omega)
        obtain ⟨a, rfl⟩ := Int.eq_ofNat_of_zero_le a0
        obtain ⟨b, rfl⟩ := Int.eq_ofNat_of_zero_le b0
        have hla : a < k := by omega
        have hlb : b < k := by omega
        obtain ⟨d0, d3⟩ := Hcell.out a hla
        obtain ⟨d4, d7⟩ := Hcell.out b hlb
        have ha1 := Hnum.out a hla
        have hb1 := Hnum.out b hlb
        have hla2 := Hlow.out a hla
        have hlb2 := Hlow.out b hlb
        have q2 : ((a : Nat) : Int) < ((l.length : Nat) : Int) := by omega
        have q3 : ((b : Nat) : Int) < ((l.length : Nat) : Int) := by omega
        have hd : decide (2 < op) = true := decide_eq_true h2
        have Hf : Hid (fold1 (foldTo l k) ⟨op, (a : Nat), (b : Nat), tv⟩ = if 2 < op ∧ (m.getD a nulF).op = 1 ∧ (m.getD b nulF).op = 1 then ⟨1, 0, 0, doF op (m.getD a nulF).val (m.getD b nulF).val⟩ else ⟨op, (a : Nat), (b : Nat), tv⟩) := Lib.hid (by
          unfold fold1
          dsimp only
          rw [Int.toNat_natCast, Int.toNat_natCast, hla2, hlb2])
        clear hla2 hlb2
        generalize m.getD a nulF = ua at *
        generalize m.getD b nulF = ub at *
        by_cases p1 : ua.op = 1
        · have p1' : (ua.op == 1) = true := by rw [beq_iff_eq]; exact p1
          by_cases p2 : ub.op = 1
          · have p2' : (ub.op == 1) = true := by rw [beq_iff_eq]; exact p2
            have Hcl := Lib.hid (fun w => do_calls op ua.val ub.val w (ha1 p1) (hb1 p2))
            have hdb := doF_bd op ua.val ub.val
            have Hf' := Lib.hid (Hf.out.trans (if_pos ⟨h2, p1, p2⟩))
            have Hmid : Hid (midF l (k + 1) = m.set k ⟨1, 0, 0, doF op ua.val ub.val⟩) := Lib.hid (by rw [Hsucc.out, Hf'.out])
            have hml : k < m.length := by rw [← hm, midF_len hk]; exact hlt
            have hgw : g < wr.heap.size := hg2
            have H0 : Hid (∀ j, (wr.alloc (.cells #[.int .i64 op, .int .i64 (a : Nat), .int .i64 (b : Nat), .int .i64 tv] 37)).drew.cell? ⟨g, j, none⟩ = wr.cell? ⟨g, j, none⟩) := Lib.hid fun j => cell_grown (World.grownBy_alloc wr _ none) _ j hg2 (by simp)
            have Hff : Hid (∀ j, (wr.alloc (.cells #[.int .i64 op, .int .i64 (a : Nat), .int .i64 (b : Nat), .int .i64 tv] 37)).drew.frozen? ⟨g, j, none⟩ = false) := Lib.hid fun j => by rw [World.frozen?_drew, frozen?_alloc_cells]; exact Hfz.out j
            have Hs0 : Hid ((wr.alloc (.cells #[.int .i64 op, .int .i64 (a : Nat), .int .i64 (b : Nat), .int .i64 tv] 37)).drew.cell? ⟨wr.heap.size, 0, none⟩ = some (.int .i64 op) ∧ (wr.alloc (.cells #[.int .i64 op, .int .i64 (a : Nat), .int .i64 (b : Nat), .int .i64 tv] 37)).drew.cell? ⟨wr.heap.size, 1, none⟩ = some (.int .i64 (a : Nat)) ∧ (wr.alloc (.cells #[.int .i64 op, .int .i64 (a : Nat), .int .i64 (b : Nat), .int .i64 tv] 37)).drew.cell? ⟨wr.heap.size, 2, none⟩ = some (.int .i64 (b : Nat)) ∧ (wr.alloc (.cells #[.int .i64 op, .int .i64 (a : Nat), .int .i64 (b : Nat), .int .i64 tv] 37)).drew.cell? ⟨g, a * 4 + 3, none⟩ = some (.int .i64 ua.val) ∧ (wr.alloc (.cells #[.int .i64 op, .int .i64 (a : Nat), .int .i64 (b : Nat), .int .i64 tv] 37)).drew.cell? ⟨g, b * 4 + 3, none⟩ = some (.int .i64 ub.val)) := Lib.hid ⟨cell_new wr _ _ wr.heap.size rfl 0, cell_new wr _ _ wr.heap.size rfl 1, cell_new wr _ _ wr.heap.size rfl 2, (H0.out _).trans d3, (H0.out _).trans d7⟩
            have Hk0 := Lib.hid ((H0.out (k * 4)).trans c0)
            have Hk1 := Lib.hid ((H0.out (k * 4 + 1)).trans c1')
            have Hk2 := Lib.hid ((H0.out (k * 4 + 2)).trans c2)
            have Hk3 := Lib.hid ((H0.out (k * 4 + 3)).trans c3)
            have Hf0 := Lib.hid (Hff.out (k * 4))
            have Hf1 := Lib.hid (Hff.out (k * 4 + 1))
            have Hf2 := Lib.hid (Hff.out (k * 4 + 2))
            have Hf3 := Lib.hid (Hff.out (k * 4 + 3))
            have HOf := Lib.hid (OwnT.set4 HOa.out.drew hml ⟨1, 0, 0, doF op ua.val ub.val⟩)
            rw [← Hmid.out] at HOf
            have HWf := Lib.hid ((((HWa.out.drew.setCell (p := ⟨g, k * 4, none⟩) (by simp; omega) (.int .i64 1)).setCell (p := ⟨g, k * 4 + 1, none⟩) (by simp; omega) (.int .i64 0)).setCell (p := ⟨g, k * 4 + 2, none⟩) (by simp; omega) (.int .i64 0)).setCell (p := ⟨g, k * 4 + 3, none⟩) (by simp; omega) (.int .i64 (doF op ua.val ub.val)))
            dsimp only at HOf
            have Hkp : Hid (∀ (w' : World) (o : Nat) (u : Value), k * 4 ≤ o → (w'.cell? ⟨wr.heap.size, 0, none⟩ = some (.int .i64 op) ∧ w'.cell? ⟨wr.heap.size, 1, none⟩ = some (.int .i64 (a : Nat)) ∧ w'.cell? ⟨wr.heap.size, 2, none⟩ = some (.int .i64 (b : Nat)) ∧ w'.cell? ⟨g, a * 4 + 3, none⟩ = some (.int .i64 ua.val) ∧ w'.cell? ⟨g, b * 4 + 3, none⟩ = some (.int .i64 ub.val)) → ((w'.setCell ⟨g, o, none⟩ u).cell? ⟨wr.heap.size, 0, none⟩ = some (.int .i64 op) ∧ (w'.setCell ⟨g, o, none⟩ u).cell? ⟨wr.heap.size, 1, none⟩ = some (.int .i64 (a : Nat)) ∧ (w'.setCell ⟨g, o, none⟩ u).cell? ⟨wr.heap.size, 2, none⟩ = some (.int .i64 (b : Nat)) ∧ (w'.setCell ⟨g, o, none⟩ u).cell? ⟨g, a * 4 + 3, none⟩ = some (.int .i64 ua.val) ∧ (w'.setCell ⟨g, o, none⟩ u).cell? ⟨g, b * 4 + 3, none⟩ = some (.int .i64 ub.val))) := Lib.hid fun w' o u ho hs => by
              rw [World.cell?_setCell_far _ _ _ _ (by show g ≠ wr.heap.size; omega), World.cell?_setCell_far _ _ _ _ (by show g ≠ wr.heap.size; omega), World.cell?_setCell_far _ _ _ _ (by show g ≠ wr.heap.size; omega), World.cell?_setCell_other _ _ _ _ (fun e => by injection e with _ e; omega), World.cell?_setCell_other _ _ _ _ (fun e => by injection e with _ e; omega)]
              exact hs
            clear HOa HWa H0 Hff Hf Hf' Hmid ha1 hb1 p1 p2 Hnum Hlow Hsucc Hkeep
            go_wp2
            refine wp_region_held_drew (S := fun w' => w'.cell? ⟨wr.heap.size, 0, none⟩ = some (.int .i64 op) ∧ w'.cell? ⟨wr.heap.size, 1, none⟩ = some (.int .i64 (a : Nat)) ∧ w'.cell? ⟨wr.heap.size, 2, none⟩ = some (.int .i64 (b : Nat)) ∧ w'.cell? ⟨g, a * 4 + 3, none⟩ = some (.int .i64 ua.val) ∧ w'.cell? ⟨g, b * 4 + 3, none⟩ = some (.int .i64 ub.val)) (by kernel_rfl) Hs0.out (fun hH0 => ?_)
            generalize (wr.alloc (.cells #[.int .i64 op, .int .i64 (a : Nat), .int .i64 (b : Nat), .int .i64 tv] 37)).drew = w0 at *
            generalize doF op ua.val ub.val = z at *
          -- the region
            refine wpAnyH_take (i := 0) (oi := { dst := some 50, op := Go.Op.move (Go.Operand.tmp 1), type := 22, pos := "term.go:111", after := #[], guard := none }) rfl (by kernel_rfl) (by kernel_rfl) (by kernel_rfl) (fun _ _ _ h => h) (Or.inl ⟨by rfl, fun w hw => by (go_simp; try with_reducible rfl)⟩) (by assumption) ?_
            try simp only [Act.put, List.setIfInBounds_toArray, List.set_cons_zero, List.set_cons_succ]
            refine wpAnyH_take (i := 1) (oi := { dst := some 51, op := Go.Op.move (Go.Operand.tmp 7), type := 3, pos := "term.go:111", after := #[], guard := none }) rfl (by kernel_rfl) (by kernel_rfl) (by kernel_rfl) (fun _ _ _ h => h) (Or.inl ⟨by rfl, fun w hw => by (go_simp; try with_reducible rfl)⟩) (by assumption) ?_
            try simp only [Act.put, List.setIfInBounds_toArray, List.set_cons_zero, List.set_cons_succ]
            refine wpAnyH_take (i := 2) (oi := { dst := some 52, op := Go.Op.fieldAddr 37 (Go.Operand.tmp 8) 0, type := 0, pos := "term.go:111", after := #[], guard := none }) rfl (by kernel_rfl) (by kernel_rfl) (by kernel_rfl) (fun _ _ _ h => h) (Or.inl ⟨by rfl, fun w hw => by (go_simp; try with_reducible rfl)⟩) (by assumption) ?_
            try simp only [Act.put, List.setIfInBounds_toArray, List.set_cons_zero, List.set_cons_succ]
            refine wpAnyH_take (i := 3) (oi := { dst := some 53, op := Go.Op.load 3 (Go.Operand.tmp 52), type := 3, pos := "term.go:111", after := #[{ on := 2, ground := Go.Ground.data }], guard := none }) rfl (by kernel_rfl) (by kernel_rfl) (by kernel_rfl) (fun _ _ _ h => h) (Or.inl ⟨by rfl, fun w hw => by (obtain ⟨p0, p1, p2, p3, p4⟩ := hw; go_simp; try with_reducible rfl)⟩) (by assumption) ?_
            try simp only [Act.put, List.setIfInBounds_toArray, List.set_cons_zero, List.set_cons_succ]
            refine wpAnyH_take (i := 4) (oi := { dst := some 54, op := Go.Op.move (Go.Operand.tmp 1), type := 22, pos := "term.go:111", after := #[], guard := none }) rfl (by kernel_rfl) (by kernel_rfl) (by kernel_rfl) (fun _ _ _ h => h) (Or.inl ⟨by rfl, fun w hw => by (go_simp; try with_reducible rfl)⟩) (by assumption) ?_
            try simp only [Act.put, List.setIfInBounds_toArray, List.set_cons_zero, List.set_cons_succ]
            refine wpAnyH_take (i := 5) (oi := { dst := some 55, op := Go.Op.fieldAddr 37 (Go.Operand.tmp 8) 1, type := 0, pos := "term.go:111", after := #[], guard := none }) rfl (by kernel_rfl) (by kernel_rfl) (by kernel_rfl) (fun _ _ _ h => h) (Or.inl ⟨by rfl, fun w hw => by (go_simp; try with_reducible rfl)⟩) (by assumption) ?_
            try simp only [Act.put, List.setIfInBounds_toArray, List.set_cons_zero, List.set_cons_succ]
            refine wpAnyH_take (i := 6) (oi := { dst := some 56, op := Go.Op.load 3 (Go.Operand.tmp 55), type := 3, pos := "term.go:111", after := #[{ on := 5, ground := Go.Ground.data }], guard := none }) rfl (by kernel_rfl) (by kernel_rfl) (by kernel_rfl) (fun _ _ _ h => h) (Or.inl ⟨by rfl, fun w hw => by (obtain ⟨p0, p1, p2, p3, p4⟩ := hw; go_simp; try with_reducible rfl)⟩) (by assumption) ?_
            try simp only [Act.put, List.setIfInBounds_toArray, List.set_cons_zero, List.set_cons_succ]
            refine wpAnyH_take (i := 7) (oi := { dst := some 57, op := Go.Op.indexAddr 22 (Go.Operand.tmp 54) (Go.Operand.tmp 56), type := 0, pos := "term.go:111", after := #[{ on := 4, ground := Go.Ground.data }, { on := 6, ground := Go.Ground.data }], guard := none }) rfl (by kernel_rfl) (by kernel_rfl) (by kernel_rfl) (fun _ _ _ h => h) (Or.inl ⟨by rfl, fun w hw => by (go_simp; try with_reducible rfl)⟩) (by assumption) ?_
            try simp only [Act.put, List.setIfInBounds_toArray, List.set_cons_zero, List.set_cons_succ]
            refine wpAnyH_take (i := 8) (oi := { dst := some 58, op := Go.Op.fieldAddr 37 (Go.Operand.tmp 57) 3, type := 0, pos := "term.go:111", after := #[{ on := 7, ground := Go.Ground.data }], guard := none }) rfl (by kernel_rfl) (by kernel_rfl) (by kernel_rfl) (fun _ _ _ h => h) (Or.inl ⟨by rfl, fun w hw => by (go_simp; try with_reducible rfl)⟩) (by assumption) ?_
            try simp only [Act.put, List.setIfInBounds_toArray, List.set_cons_zero, List.set_cons_succ]
            refine wpAnyH_take (i := 9) (oi := { dst := some 59, op := Go.Op.load 3 (Go.Operand.tmp 58), type := 3, pos := "term.go:111", after := #[{ on := 8, ground := Go.Ground.data }], guard := none }) rfl (by kernel_rfl) (by kernel_rfl) (by kernel_rfl) (fun _ _ _ h => h) (Or.inl ⟨by rfl, fun w hw => by (obtain ⟨p0, p1, p2, p3, p4⟩ := hw; go_simp; try with_reducible rfl)⟩) (by assumption) ?_
            try simp only [Act.put, List.setIfInBounds_toArray, List.set_cons_zero, List.set_cons_succ]
            refine wpAnyH_take (i := 10) (oi := { dst := some 60, op := Go.Op.move (Go.Operand.tmp 1), type := 22, pos := "term.go:111", after := #[], guard := none }) rfl (by kernel_rfl) (by kernel_rfl) (by kernel_rfl) (fun _ _ _ h => h) (Or.inl ⟨by rfl, fun w hw => by (go_simp; try with_reducible rfl)⟩) (by assumption) ?_
            try simp only [Act.put, List.setIfInBounds_toArray, List.set_cons_zero, List.set_cons_succ]
            refine wpAnyH_take (i := 11) (oi := { dst := some 61, op := Go.Op.fieldAddr 37 (Go.Operand.tmp 8) 2, type := 0, pos := "term.go:111", after := #[], guard := none }) rfl (by kernel_rfl) (by kernel_rfl) (by kernel_rfl) (fun _ _ _ h => h) (Or.inl ⟨by rfl, fun w hw => by (go_simp; try with_reducible rfl)⟩) (by assumption) ?_
            try simp only [Act.put, List.setIfInBounds_toArray, List.set_cons_zero, List.set_cons_succ]
            refine wpAnyH_take (i := 12) (oi := { dst := some 62, op := Go.Op.load 3 (Go.Operand.tmp 61), type := 3, pos := "term.go:111", after := #[{ on := 11, ground := Go.Ground.data }], guard := none }) rfl (by kernel_rfl) (by kernel_rfl) (by kernel_rfl) (fun _ _ _ h => h) (Or.inl ⟨by rfl, fun w hw => by (obtain ⟨p0, p1, p2, p3, p4⟩ := hw; go_simp; try with_reducible rfl)⟩) (by assumption) ?_
            try simp only [Act.put, List.setIfInBounds_toArray, List.set_cons_zero, List.set_cons_succ]
            refine wpAnyH_take (i := 13) (oi := { dst := some 63, op := Go.Op.indexAddr 22 (Go.Operand.tmp 60) (Go.Operand.tmp 62), type := 0, pos := "term.go:111", after := #[{ on := 10, ground := Go.Ground.data }, { on := 12, ground := Go.Ground.data }], guard := none }) rfl (by kernel_rfl) (by kernel_rfl) (by kernel_rfl) (fun _ _ _ h => h) (Or.inl ⟨by rfl, fun w hw => by (go_simp; try with_reducible rfl)⟩) (by assumption) ?_
            try simp only [Act.put, List.setIfInBounds_toArray, List.set_cons_zero, List.set_cons_succ]
            refine wpAnyH_take (i := 14) (oi := { dst := some 64, op := Go.Op.fieldAddr 37 (Go.Operand.tmp 63) 3, type := 0, pos := "term.go:111", after := #[{ on := 13, ground := Go.Ground.data }], guard := none }) rfl (by kernel_rfl) (by kernel_rfl) (by kernel_rfl) (fun _ _ _ h => h) (Or.inl ⟨by rfl, fun w hw => by (go_simp; try with_reducible rfl)⟩) (by assumption) ?_
            try simp only [Act.put, List.setIfInBounds_toArray, List.set_cons_zero, List.set_cons_succ]
            refine wpAnyH_take (i := 15) (oi := { dst := some 65, op := Go.Op.load 3 (Go.Operand.tmp 64), type := 3, pos := "term.go:111", after := #[{ on := 14, ground := Go.Ground.data }], guard := none }) rfl (by kernel_rfl) (by kernel_rfl) (by kernel_rfl) (fun _ _ _ h => h) (Or.inl ⟨by rfl, fun w hw => by (obtain ⟨p0, p1, p2, p3, p4⟩ := hw; go_simp; try with_reducible rfl)⟩) (by assumption) ?_
            try simp only [Act.put, List.setIfInBounds_toArray, List.set_cons_zero, List.set_cons_succ]
            refine wpAnyH_ready (rs := [16]) (by kernel_rfl) (by simp) ?_
            refine AllReadyH.cons (o := { dst := some 66, op := Go.Op.call { callee := Go.Callee.value (Go.Operand.func 45), args := #[Go.Operand.tmp 53, Go.Operand.tmp 59, Go.Operand.tmp 65], argTypes := #[3, 3, 3] }, type := 3, pos := "term.go:111", after := #[{ on := 3, ground := Go.Ground.data }, { on := 9, ground := Go.Ground.data }, { on := 15, ground := Go.Ground.data }], guard := none }) rfl (fun K hK => ?_) AllReadyH.nil
            go_simp
            go_at_call 45
            refine (Hcl.out _).mono ?_
            rintro e w9 ⟨rfl, rfl⟩
            refine hK.out _ _ hH0 (fun hH1 => ?_)
            clear hK hH0
            have hH0 := hH1
            clear hH1
            try simp only [Act.put, List.setIfInBounds_toArray, List.set_cons_zero, List.set_cons_succ]
            refine wpAnyH_take (i := 17) (oi := { dst := some 67, op := Go.Op.build 37 #[(0, Go.Operand.const (Go.Value.int Go.IntKind.i64 1)), (3, Go.Operand.tmp 66)], type := 37, pos := "term.go:111", after := #[{ on := 16, ground := Go.Ground.data }], guard := none }) rfl (by kernel_rfl) (by kernel_rfl) (by kernel_rfl) (fun _ _ _ h => h) (Or.inl ⟨by rfl, fun w hw => by (go_simp; try with_reducible rfl)⟩) (by assumption) ?_
            try simp only [Act.put, List.setIfInBounds_toArray, List.set_cons_zero, List.set_cons_succ]
            refine wpAnyH_take (i := 18) (oi := { dst := some 68, op := Go.Op.indexAddr 22 (Go.Operand.tmp 50) (Go.Operand.tmp 51), type := 0, pos := "term.go:111", after := #[{ on := 0, ground := Go.Ground.data }, { on := 1, ground := Go.Ground.data }, { on := 0, ground := Go.Ground.phase }, { on := 1, ground := Go.Ground.phase }, { on := 2, ground := Go.Ground.phase }, { on := 3, ground := Go.Ground.phase }, { on := 4, ground := Go.Ground.phase }, { on := 5, ground := Go.Ground.phase }, { on := 6, ground := Go.Ground.phase }, { on := 7, ground := Go.Ground.phase }, { on := 8, ground := Go.Ground.phase }, { on := 9, ground := Go.Ground.phase }, { on := 10, ground := Go.Ground.phase }, { on := 11, ground := Go.Ground.phase }, { on := 12, ground := Go.Ground.phase }, { on := 13, ground := Go.Ground.phase }, { on := 14, ground := Go.Ground.phase }, { on := 15, ground := Go.Ground.phase }, { on := 16, ground := Go.Ground.phase }, { on := 17, ground := Go.Ground.phase }], guard := none }) rfl (by kernel_rfl) (by kernel_rfl) (by kernel_rfl) (fun _ _ _ h => h) (Or.inl ⟨by rfl, fun w hw => by (go_simp; try with_reducible rfl)⟩) (by assumption) ?_
            try simp only [Act.put, List.setIfInBounds_toArray, List.set_cons_zero, List.set_cons_succ]
            refine wpAnyH_ready (rs := [19]) (by kernel_rfl) (by simp) ?_
            refine AllReadyH.cons (o := { dst := none, op := Go.Op.store 37 (Go.Operand.tmp 68) (Go.Operand.tmp 67), type := 0, pos := "term.go:111", after := #[{ on := 18, ground := Go.Ground.data }, { on := 17, ground := Go.Ground.data }, { on := 16, ground := Go.Ground.chain }, { on := 0, ground := Go.Ground.phase }, { on := 1, ground := Go.Ground.phase }, { on := 2, ground := Go.Ground.phase }, { on := 3, ground := Go.Ground.phase }, { on := 4, ground := Go.Ground.phase }, { on := 5, ground := Go.Ground.phase }, { on := 6, ground := Go.Ground.phase }, { on := 7, ground := Go.Ground.phase }, { on := 8, ground := Go.Ground.phase }, { on := 9, ground := Go.Ground.phase }, { on := 10, ground := Go.Ground.phase }, { on := 11, ground := Go.Ground.phase }, { on := 12, ground := Go.Ground.phase }, { on := 13, ground := Go.Ground.phase }, { on := 14, ground := Go.Ground.phase }, { on := 15, ground := Go.Ground.phase }, { on := 16, ground := Go.Ground.phase }, { on := 17, ground := Go.Ground.phase }], guard := none }) rfl (fun K hK => ?_) AllReadyH.nil
            have f0 := Hf0.out
            have f1 := Hf1.out
            have f2 := Hf2.out
            have f3 := Hf3.out
            have e0 := Hk0.out
            have e1 := Hk1.out
            have e2 := Hk2.out
            have e3 := Hk3.out
            go_simp
            refine hK.out _ _ (Hkp.out _ _ _ (by omega) (Hkp.out _ _ _ (by omega) (Hkp.out _ _ _ (by omega) (Hkp.out _ _ _ (by omega) hH0)))) (fun hH2 => ?_)
            clear hK hH0
            try simp only [Act.put, List.setIfInBounds_toArray, List.set_cons_zero, List.set_cons_succ]
            refine wpAnyH_done (by kernel_rfl) ?_ _
            clear hH2
            go_wp2
            go_roundw
            case rel => exact ⟨k + 1, by omega, by go_num, HOf.out, HWf.out⟩
            case measure => simp [intOf]; omega
          -- behind the region
          · have hk1 := Hkeep.out (Hf.out.trans (if_neg (fun h => p2 h.2.2)))
            have p2' : (ub.op == 1) = false := by rw [beq_eq_false_iff_ne]; exact p2
            clear Hf p1 p2
            go_wp2
            go_roundw
            case rel => exact ⟨k + 1, by omega, by go_num, by rw [hk1]; exact HOa.out, HWa.out⟩
            case measure => simp [intOf]; omega
        · have hk1 := Hkeep.out (Hf.out.trans (if_neg (fun h => p1 h.2.1)))
          have p1' : (ua.op == 1) = false := by rw [beq_eq_false_iff_ne]; exact p1
          clear Hf p1
          go_wp2
          go_roundw
          case rel => exact ⟨k + 1, by omega, by go_num, by rw [hk1]; exact HOa.out, HWa.out⟩
          case measure => simp [intOf]; omega
      · have hk1 := Hkeep.out (fold1_leaf h2)
        have hd : decide (2 < op) = false := decide_eq_false h2
        go_wp2
        go_roundw
        case rel => exact ⟨k + 1, by omega, by go_num, by rw [hk1]; exact HOa.out, HWa.out⟩
        case measure => simp [intOf]; omega
    · have : k = l.length := by omega
      subst this
      rw [midF_all] at hO
      have HO := Lib.hid hO
      clear hO
      obtain ⟨wb, rfl⟩ : ∃ wb : World, wb = wr := ⟨_, rfl⟩
      have HOk := Lib.hid (fL_ok Hok.out)
      have hLl : (foldL l).length = l.length := fL_len
      obtain ⟨L, hL⟩ : ∃ L, L = foldL l := ⟨_, rfl⟩
      have HfL := Lib.hid (show foldedL l = trimU L by rw [hL]; rfl)
      rw [← hL] at HO HOk hLl
      clear hL
      have HLl := Lib.hid hLl
      have hL1 : 1 ≤ L.length := by omega
      have hRL : Hid (RdT wb A1 L) := Lib.hid (by
        obtain ⟨A2, c2, e2, hR⟩ := OwnT.rd HO.out
        rw [hLl] at e2
        injection e2 with e2 e3 e4
        subst e2
        exact hR)
      have hwb1 : w.heap.size ≤ wb.heap.size := hws
      clear hLl
      go_wp2_with (first
        | (at_make; refine wpList_makeI rfl _ _ rfl wb.heap.size l.length rfl rfl (by omega) (Nat.le_refl _) ?_; intro w4 hown4 hgrow4
           have HW4 := Lib.hid ((Below.refl wb.heap.size wb).grown hgrow4 (Nat.le_refl _) (fun k hk => by cases hk))
           have HO4 := Lib.hid hown4
           have hw4 : wb.heap.size < w4.heap.size := by
             obtain ⟨g, eg, _, hlt, _⟩ := OwnI.at2 hown4 (by simp; omega)
             injection eg with eg; injection eg with eg
             omega
           have HR4 := Lib.hid (Rd.below hRL.out HW4.out)
           clear hown4 hgrow4)
        | (go_at_call 48
           have HusA := used_calls vars A1 L c1 w4 HR4.out hL1 (by rw [HLl.out]; exact h16) HOk.out
           rw [HLl.out] at HusA
           refine HusA.mono ?_
           clear HusA
           rintro e w5 ⟨v5, r, rfl, hU, hrl, hus, hW5⟩
           obtain ⟨g9, c9, rfl, hg9, hg9', _, _, _⟩ := OwnBo.at_ hU (by omega)
           rw [hrl]
           have HU := Lib.hid (Own.base_ hU hw4 : OwnBo w5 (wb.heap.size + 1) 4 _ r)
           rw [hrl] at HU
           have Hus := Lib.hid hus
           have HW5 := Lib.hid (HW4.out.trans (hW5.mono (Nat.le_of_lt hw4)))
           have HO5 := Lib.hid (Own.below HO4.out hW5)
           have hw5 : w4.heap.size ≤ w5.heap.size := hW5.size
           have Hrl := Lib.hid hrl
           clear hU hW5 hrl hus HO4 HW4))
      obtain ⟨B5, hB5⟩ : ∃ B5, w5.heap.size = B5 := ⟨_, rfl⟩
      have hB5' : wb.heap.size < B5 := by omega
      have hg9b : g9 < B5 := by omega
      go_loopw [10, 76] (fun v i wr => ∃ (k : Nat) (nb : List Int), k ≤ l.length ∧ i = .int .i64 k ∧ nb.length = l.length ∧ OwnI wr wb.heap.size 3 (.slice (some ⟨wb.heap.size, 0, none⟩) l.length l.length) nb ∧ OwnBo wr (wb.heap.size + 1) 4 (.slice (some ⟨g9, 0, none⟩) l.length c9) r ∧ Hid (∀ j, j < k → Us L j → nb.getD j 0 = ((nuP (Us L) j : Nat) : Int)) ∧ (OwnT wr B5 v ((ndP (Us L) k).map (renU L)) ∧ B5 ≤ wr.heap.size) ∧ Below wb.heap.size wb wr) (fun _ i _ => l.length - (intOf i).toNat)
      case atStart => exact ⟨0, _, Nat.zero_le _, rfl, by simp, HO5.out, HU.out, Lib.hid (fun j h => by omega), ⟨Own.nil_ _ _ _, Nat.le_of_eq hB5.symm⟩, HW5.out⟩
      case round =>
        clear HO5 HW5 HU hB5
        obtain ⟨k, nb, hk, rfl, hnl, hnb, huu, hP, ⟨hout, hB5w⟩, hW'⟩ := hrel
        have HNb := Lib.hid hnb
        have HUu := Lib.hid huu
        have HOut := Lib.hid hout
        have HWr := Lib.hid hW'
        have Hnl := Lib.hid hnl
        by_cases hlt : k < l.length
        · have hkl : k < L.length := by rw [HLl.out]; exact hlt
          obtain ⟨bK, offK, rfl, hbK, -⟩ := RdT.at4 hRL.out hkl
          obtain ⟨bK', offK', eA, _, k0, k1, k2, k3⟩ := RdT.at4 (Rd.below hRL.out hW') hkl
          injection eA with eA
          injection eA with e1 e2 e3
          subst e1 e2
          rw [getD_idx hkl] at k0 k1 k2 k3
          obtain ⟨g7, eg7, _, hg7, _, _, hcell7⟩ := OwnBo.at2 huu (by rw [Hrl.out]; omega)
          injection eg7 with eg7; injection eg7 with eg7
          subst eg7
          have c5 : wr.cell? ⟨g9, k, none⟩ = some (.bool (r.getD k false)) := by
            rw [hcell7 k (by rw [Hrl.out]; exact hlt), List.getD_eq_getElem?_getD, List.getElem?_eq_getElem (by rw [Hrl.out]; exact hlt)]; rfl
          have qk : ((k : Nat) : Int) < ((l.length : Nat) : Int) := by omega
          have hws := hW'.size
          have Hnode := Lib.hid (fun h2 => node_ab HOk.out hkl h2)
          have Hren : Hid (∀ a b : Nat, 2 < (L.getD k nulF).op → (L.getD k nulF).a = (a : Int) → (L.getD k nulF).b = (b : Int) → renU L k = ⟨(L.getD k nulF).op, nuP (Us L) a, nuP (Us L) b, (L.getD k nulF).val⟩) := Lib.hid fun a b h1 h2 h3 => renU_node h1 h2 h3
          have Hrenl : Hid (¬ 2 < (L.getD k nulF).op → renU L k = L.getD k nulF) := Lib.hid fun h => renU_leaf h
          have Hca : Hid (∀ a : Nat, Us L k → 2 < (L.getD k nulF).op → (L.getD k nulF).a = (a : Int) → Us L a) := Lib.hid fun a h h1 h2 => h.ca h1 h2
          have Hcb : Hid (∀ a : Nat, Us L k → 2 < (L.getD k nulF).op → (L.getD k nulF).b = (a : Int) → Us L a) := Lib.hid fun a h h1 h2 => h.cb h1 h2
          generalize L.getD k nulF = tk at *
          have HNb2 := Lib.hid (HNb.out.alloc (.cells #[.int .i64 tk.op, .int .i64 tk.a, .int .i64 tk.b, .int .i64 tk.val] 37))
          have HUu2 := Lib.hid (HUu.out.alloc (.cells #[.int .i64 tk.op, .int .i64 tk.a, .int .i64 tk.b, .int .i64 tk.val] 37))
          have HOut2 := Lib.hid (HOut.out.alloc (.cells #[.int .i64 tk.op, .int .i64 tk.a, .int .i64 tk.b, .int .i64 tk.val] 37))
          have HWr2 := Lib.hid (HWr.out.alloc hws (.cells #[.int .i64 tk.op, .int .i64 tk.a, .int .i64 tk.b, .int .i64 tk.val] 37))
          have hnd := Hus.out k
          obtain ⟨g8, eg8, _, hg8, _, hfz, hcell⟩ := OwnI.at2 HNb.out (by rw [hnl]; omega)
          injection eg8 with eg8; injection eg8 with eg8
          subst eg8
          have d5 := hcell k (by rw [hnl]; exact hlt)
          have f5 := hfz k
          clear hnb hout hW' huu hkl hcell hfz hcell7
          generalize nb[k]'(by rw [hnl]; exact hlt) = old at *
          cases hr : r.getD k false
          · have hno : ¬ Us L k := fun h => by rw [hnd.2 h] at hr; cases hr
            have HOe := Lib.hid (show (ndP (Us L) (k + 1)).map (renU L) = (ndP (Us L) k).map (renU L) by rw [ndP_succ, if_neg hno, List.append_nil])
            have HPn : Hid (∀ j, j < k + 1 → Us L j → nb.getD j 0 = ((nuP (Us L) j : Nat) : Int)) := Lib.hid fun j hj hn => by
              by_cases e : j = k
              · subst e; exact absurd hn hno
              · exact hP.out j (by omega) hn
            rw [hr] at c5
            clear hr hnd hno Hnode d5 f5 hnl
            go_wp2
            go_roundw
            case rel => exact ⟨k + 1, nb, by omega, by go_num, Hnl.out, HNb.out, HUu.out, HPn, ⟨by rw [HOe.out]; exact HOut.out, hB5w⟩, HWr.out⟩
            case measure => first | (simp [intOf]; done) | (simp [intOf]; omega)
          · have hyes : Us L k := hnd.1 hr
            have HOe := Lib.hid (show (ndP (Us L) (k + 1)).map (renU L) = (ndP (Us L) k).map (renU L) ++ [renU L k] by rw [ndP_succ, if_pos hyes, List.map_append]; rfl)
            obtain ⟨Av, cv, rfl, hRv⟩ := OwnT.rd HOut2.out
            have hol : ((ndP (Us L) k).map (renU L)).length = nuP (Us L) k := by rw [List.length_map]; rfl
            rw [hol]
            rw [hol] at HOut2 HOut
            have hbw : wb.heap.size < wr.heap.size := (own_lt HNb.out _ rfl).2
            have Hol := Lib.hid hol
            have hsz : (wr.setCell ⟨wb.heap.size, k, none⟩ (.int .i64 (nuP (Us L) k : Nat))).heap.size = wr.heap.size := by simp [World.setCell]
            have HNb3 := Lib.hid ((OwnI.set_ HNb.out (k := k) (by rw [hnl]; exact hlt) ((nuP (Us L) k : Nat) : Int)).alloc (.cells #[.int .i64 tk.op, .int .i64 tk.a, .int .i64 tk.b, .int .i64 tk.val] 37))
            have HUu3 := Lib.hid ((Own.far HUu.out (p := ⟨wb.heap.size, k, none⟩) (fun e => by have h : wb.heap.size + 1 ≤ wb.heap.size := (own_lt HUu.out _ e).1; omega) (.int .i64 (nuP (Us L) k : Nat))).alloc (.cells #[.int .i64 tk.op, .int .i64 tk.a, .int .i64 tk.b, .int .i64 tk.val] 37))
            have HOut3 := Lib.hid ((Own.far HOut.out (p := ⟨wb.heap.size, k, none⟩) (fun e => by have h : B5 ≤ wb.heap.size := (own_lt HOut.out _ e).1; omega) (.int .i64 (nuP (Us L) k : Nat))).alloc (.cells #[.int .i64 tk.op, .int .i64 tk.a, .int .i64 tk.b, .int .i64 tk.val] 37))
            have HWr3 := Lib.hid ((HWr.out.setCell (p := ⟨wb.heap.size, k, none⟩) (Nat.le_refl _) (.int .i64 (nuP (Us L) k : Nat))).alloc (by rw [hsz]; exact hws) (.cells #[.int .i64 tk.op, .int .i64 tk.a, .int .i64 tk.b, .int .i64 tk.val] 37))
            have hhN : ((wr.setCell ⟨wb.heap.size, k, none⟩ (.int .i64 (nuP (Us L) k : Nat))).alloc (.cells #[.int .i64 tk.op, .int .i64 tk.a, .int .i64 tk.b, .int .i64 tk.val] 37)).heap[wr.heap.size]? = some (.cells tk.cells.toArray 37 (0, 0)) := by
              have h := heap_alloc_new (wr.setCell ⟨wb.heap.size, k, none⟩ (.int .i64 (nuP (Us L) k : Nat))) (.cells #[.int .i64 tk.op, .int .i64 tk.a, .int .i64 tk.b, .int .i64 tk.val] 37)
              rw [hsz] at h; exact h
            have HPn : Hid (∀ j, j < k + 1 → Us L j → (nb.set k ((nuP (Us L) k : Nat) : Int)).getD j 0 = ((nuP (Us L) j : Nat) : Int)) := Lib.hid fun j hj hn => by
              rw [List.getD_eq_getElem?_getD, List.getElem?_set]
              by_cases e : k = j
              · subst e; rw [if_pos rfl, if_pos (by rw [Hnl.out]; exact hlt)]; rfl
              · rw [if_neg e, ← List.getD_eq_getElem?_getD]; exact hP.out j (by omega) hn
            have hnk := nuP_le (p := Us L) k
            rw [hr] at c5
            have HM0 : Hid (MF wb ((wr.setCell ⟨wb.heap.size, k, none⟩ (.int .i64 (nuP (Us L) k : Nat))).alloc (.cells #[.int .i64 tk.op, .int .i64 tk.a, .int .i64 tk.b, .int .i64 tk.val] 37)) l.length wr.heap.size B5 (.slice (some ⟨g9, 0, none⟩) l.length c9) r (nb.set k ((nuP (Us L) k : Nat) : Int)) (.slice Av (nuP (Us L) k) cv) ((ndP (Us L) k).map (renU L)) tk) :=
              Lib.hid ⟨HNb3.out, HUu3.out, (fun g e => by have e : some g9 = some g := e; injection e with e; omega), HOut3.out, hB5', HWr3.out, hB5w, by simp [World.setCell], fun e => by have := (own_lt HOut.out _ e).2; omega, hhN⟩
            obtain ⟨wt, hwt⟩ : ∃ wt, wt = (wr.setCell ⟨wb.heap.size, k, none⟩ (.int .i64 (nuP (Us L) k : Nat))).alloc (.cells #[.int .i64 tk.op, .int .i64 tk.a, .int .i64 tk.b, .int .i64 tk.val] 37) := ⟨_, rfl⟩
            rw [← hwt] at HM0
            go_upto_if 94 with fail
            rw [← hwt]
            clear hwt hhN hsz HNb2 HOut2 HWr2 HUu2 HNb3 HOut3 HWr3 HUu3 d5 f5 c5 k0 k1 k2 k3 hRv hol
            have hNN : wr.heap.size < wr.heap.size + 1 := by omega
            generalize wr.heap.size = N at *
            by_cases h2 : 2 < tk.op
            · obtain ⟨a, b', ea, eb, la, lb⟩ := Hnode.out h2
              have Htz0 := Lib.hid (Hren.out a b' h2 ea eb)
              have hd : decide (2 < tk.op) = true := decide_eq_true h2
              rw [hd]
              have HMd := Lib.hid HM0.out.drew
              have Ht1 := Lib.hid HMd.out.at4.2.1
              have Ht2 := Lib.hid HMd.out.at4.2.2.1
              rw [ea] at Ht1
              rw [eb] at Ht2
              have hna := HPn.out a (by omega) (Hca.out a hyes h2 ea)
              have hnb' := HPn.out b' (by omega) (Hcb.out b' hyes h2 eb)
              obtain ⟨g7, eg7, _, _, _, _, hcell7⟩ := OwnI.at2 HMd.out.nb (by rw [List.length_set, hnl]; omega)
              injection eg7 with eg7; injection eg7 with eg7
              subst eg7
              have Hna : Hid (wt.drew.cell? ⟨wb.heap.size, a, none⟩ = some (.int .i64 (nuP (Us L) a : Nat))) := Lib.hid (by
                rw [hcell7 a (by rw [List.length_set, hnl]; omega), ← hna, List.getD_eq_getElem?_getD, List.getElem?_eq_getElem (by rw [List.length_set, hnl]; omega)]; rfl)
              have Hnb : Hid (wt.drew.cell? ⟨wb.heap.size, b', none⟩ = some (.int .i64 (nuP (Us L) b' : Nat))) := Lib.hid (by
                rw [hcell7 b' (by rw [List.length_set, hnl]; omega), ← hnb', List.getD_eq_getElem?_getD, List.getElem?_eq_getElem (by rw [List.length_set, hnl]; omega)]; rfl)
              have Hft := Lib.hid (fun j => HMd.out.fz j)
              have Ht2b : Hid ((wt.drew.setCell ⟨N, 1, none⟩ (.int .i64 (nuP (Us L) a : Nat))).cell? ⟨N, 2, none⟩ = some (.int .i64 (b' : Nat))) := Lib.hid ((World.cell?_setCell_other wt.drew _ _ _ (fun e => by injection e with _ e; cases e)).trans Ht2.out)
              have Hft2 : Hid (∀ j, (wt.drew.setCell ⟨N, 1, none⟩ (.int .i64 (nuP (Us L) a : Nat))).frozen? ⟨N, j, none⟩ = false) := Lib.hid (fun j => by rw [World.frozen?_setCell]; exact Hft.out j)
              have qa : ((a : Nat) : Int) < ((l.length : Nat) : Int) := by omega
              have qb : ((b' : Nat) : Int) < ((l.length : Nat) : Int) := by omega
              clear HM0 hna hnb' hcell7 h2 hd ea eb Hnode Hren Hrenl Hca Hcb
              go_wp2
              refine wp_region_held_drew (S := fun _ => True) (by kernel_rfl) trivial (fun hH0 => ?_)
              generalize wt.drew = w0 at *
              refine wpAnyH_take (i := 0) (oi := { dst := some 95, op := Go.Op.move (Go.Operand.tmp 9), type := 23, pos := "term.go:123", after := #[], guard := none }) rfl (by kernel_rfl) (by kernel_rfl) (by kernel_rfl) (fun _ _ _ h => h) (Or.inl ⟨by rfl, fun w hw => by (go_simp; try with_reducible rfl)⟩) (by assumption) ?_
              try simp only [Act.put, List.setIfInBounds_toArray, List.set_cons_zero, List.set_cons_succ]
              refine wpAnyH_take (i := 1) (oi := { dst := some 96, op := Go.Op.fieldAddr 37 (Go.Operand.tmp 13) 1, type := 0, pos := "term.go:123", after := #[], guard := none }) rfl (by kernel_rfl) (by kernel_rfl) (by kernel_rfl) (fun _ _ _ h => h) (Or.inl ⟨by rfl, fun w hw => by (go_simp; try with_reducible rfl)⟩) (by assumption) ?_
              try simp only [Act.put, List.setIfInBounds_toArray, List.set_cons_zero, List.set_cons_succ]
              refine wpAnyH_take (i := 5) (oi := { dst := some 100, op := Go.Op.move (Go.Operand.tmp 9), type := 23, pos := "term.go:123", after := #[], guard := none }) rfl (by kernel_rfl) (by kernel_rfl) (by kernel_rfl) (fun _ _ _ h => h) (Or.inl ⟨by rfl, fun w hw => by (go_simp; try with_reducible rfl)⟩) (by assumption) ?_
              try simp only [Act.put, List.setIfInBounds_toArray, List.set_cons_zero, List.set_cons_succ]
              refine wpAnyH_take (i := 6) (oi := { dst := some 101, op := Go.Op.fieldAddr 37 (Go.Operand.tmp 13) 2, type := 0, pos := "term.go:123", after := #[], guard := none }) rfl (by kernel_rfl) (by kernel_rfl) (by kernel_rfl) (fun _ _ _ h => h) (Or.inl ⟨by rfl, fun w hw => by (go_simp; try with_reducible rfl)⟩) (by assumption) ?_
              try simp only [Act.put, List.setIfInBounds_toArray, List.set_cons_zero, List.set_cons_succ]
              refine wpAnyH_ready (rs := [2, 7]) (by kernel_rfl) (by simp) ?_
              refine AllReadyH.cons (o := { dst := some 97, op := Go.Op.load 3 (Go.Operand.tmp 96), type := 3, pos := "term.go:123", after := #[{ on := 1, ground := Go.Ground.data }], guard := none }) rfl (fun K hK => ?_) ?_
              · have cc := Ht1.out
                go_simp
                clear cc
                refine hK.out _ _ trivial (fun hH => ?_)
                clear hK
                try simp only [Act.put, List.setIfInBounds_toArray, List.set_cons_zero, List.set_cons_succ]
                refine wpAnyH_take (i := 3) (oi := { dst := some 98, op := Go.Op.indexAddr 23 (Go.Operand.tmp 95) (Go.Operand.tmp 97), type := 0, pos := "term.go:123", after := #[{ on := 0, ground := Go.Ground.data }, { on := 2, ground := Go.Ground.data }], guard := none }) rfl (by kernel_rfl) (by kernel_rfl) (by kernel_rfl) (fun _ _ _ h => h) (Or.inl ⟨by rfl, fun w hw => by (go_simp; try with_reducible rfl)⟩) (by assumption) ?_
                try simp only [Act.put, List.setIfInBounds_toArray, List.set_cons_zero, List.set_cons_succ]
                refine wpAnyH_ready (rs := [4, 7]) (by kernel_rfl) (by simp) ?_
                refine AllReadyH.cons (o := { dst := some 99, op := Go.Op.load 3 (Go.Operand.tmp 98), type := 3, pos := "term.go:123", after := #[{ on := 3, ground := Go.Ground.data }], guard := none }) rfl (fun K hK => ?_) ?_
                · have cc := Hna.out
                  go_simp
                  clear cc
                  refine hK.out _ _ trivial (fun hH => ?_)
                  clear hK
                  try simp only [Act.put, List.setIfInBounds_toArray, List.set_cons_zero, List.set_cons_succ]
                  refine wpAnyH_ready (rs := [7]) (by kernel_rfl) (by simp) ?_
                  refine AllReadyH.cons (o := { dst := some 102, op := Go.Op.load 3 (Go.Operand.tmp 101), type := 3, pos := "term.go:123", after := #[{ on := 6, ground := Go.Ground.data }], guard := none }) rfl (fun K hK => ?_) AllReadyH.nil
                  have cc := Ht2.out
                  go_simp
                  clear cc
                  refine hK.out _ _ trivial (fun hH => ?_)
                  clear hK
                  try simp only [Act.put, List.setIfInBounds_toArray, List.set_cons_zero, List.set_cons_succ]
                  refine wpAnyH_take (i := 8) (oi := { dst := some 103, op := Go.Op.indexAddr 23 (Go.Operand.tmp 100) (Go.Operand.tmp 102), type := 0, pos := "term.go:123", after := #[{ on := 5, ground := Go.Ground.data }, { on := 7, ground := Go.Ground.data }], guard := none }) rfl (by kernel_rfl) (by kernel_rfl) (by kernel_rfl) (fun _ _ _ h => h) (Or.inl ⟨by rfl, fun w hw => by (go_simp; try with_reducible rfl)⟩) (by assumption) ?_
                  try simp only [Act.put, List.setIfInBounds_toArray, List.set_cons_zero, List.set_cons_succ]
                  refine wpAnyH_take (i := 10) (oi := { dst := some 105, op := Go.Op.fieldAddr 37 (Go.Operand.tmp 13) 1, type := 0, pos := "term.go:123", after := #[{ on := 0, ground := Go.Ground.phase }, { on := 1, ground := Go.Ground.phase }, { on := 2, ground := Go.Ground.phase }, { on := 3, ground := Go.Ground.phase }, { on := 4, ground := Go.Ground.phase }, { on := 5, ground := Go.Ground.textOnly Go.Departure.lateStores }, { on := 6, ground := Go.Ground.phase }, { on := 7, ground := Go.Ground.phase }, { on := 8, ground := Go.Ground.textOnly Go.Departure.lateStoresUnsure }, { on := 9, ground := Go.Ground.textOnly Go.Departure.lateStoresUnsure }], guard := none }) rfl (by kernel_rfl) (by kernel_rfl) (by kernel_rfl) (fun _ _ _ h => h) (Or.inl ⟨by rfl, fun w hw => by (go_simp; try with_reducible rfl)⟩) (by assumption) ?_
                  try simp only [Act.put, List.setIfInBounds_toArray, List.set_cons_zero, List.set_cons_succ]
                  refine wpAnyH_ready (rs := [9, 11]) (by kernel_rfl) (by simp) ?_
                  refine AllReadyH.cons (o := { dst := some 104, op := Go.Op.load 3 (Go.Operand.tmp 103), type := 3, pos := "term.go:123", after := #[{ on := 8, ground := Go.Ground.data }], guard := none }) rfl (fun K hK => ?_) ?_
                  · have cc := Hnb.out
                    go_simp
                    clear cc
                    refine hK.out _ _ trivial (fun hH => ?_)
                    clear hK
                    try simp only [Act.put, List.setIfInBounds_toArray, List.set_cons_zero, List.set_cons_succ]
                    refine wpAnyH_ready (rs := [11]) (by kernel_rfl) (by simp) ?_
                    refine AllReadyH.cons (o := { dst := none, op := Go.Op.store 3 (Go.Operand.tmp 105) (Go.Operand.tmp 99), type := 0, pos := "term.go:123", after := #[{ on := 10, ground := Go.Ground.data }, { on := 4, ground := Go.Ground.data }, { on := 0, ground := Go.Ground.phase }, { on := 1, ground := Go.Ground.phase }, { on := 2, ground := Go.Ground.phase }, { on := 3, ground := Go.Ground.phase }, { on := 4, ground := Go.Ground.phase }, { on := 5, ground := Go.Ground.textOnly Go.Departure.lateStores }, { on := 6, ground := Go.Ground.phase }, { on := 7, ground := Go.Ground.phase }, { on := 8, ground := Go.Ground.textOnly Go.Departure.lateStoresUnsure }, { on := 9, ground := Go.Ground.textOnly Go.Departure.lateStoresUnsure }], guard := none }) rfl (fun K hK => ?_) AllReadyH.nil
                    have cc := Ht1.out
                    have ff := Hft.out 1
                    go_simp
                    clear cc ff
                    refine hK.out _ _ trivial (fun hH => ?_)
                    clear hK
                    try simp only [Act.put, List.setIfInBounds_toArray, List.set_cons_zero, List.set_cons_succ]
                    refine wpAnyH_take (i := 12) (oi := { dst := some 106, op := Go.Op.fieldAddr 37 (Go.Operand.tmp 13) 2, type := 0, pos := "term.go:123", after := #[{ on := 0, ground := Go.Ground.phase }, { on := 1, ground := Go.Ground.phase }, { on := 2, ground := Go.Ground.phase }, { on := 3, ground := Go.Ground.phase }, { on := 4, ground := Go.Ground.phase }, { on := 5, ground := Go.Ground.phase }, { on := 6, ground := Go.Ground.phase }, { on := 7, ground := Go.Ground.phase }, { on := 8, ground := Go.Ground.phase }, { on := 9, ground := Go.Ground.phase }, { on := 10, ground := Go.Ground.phase }, { on := 11, ground := Go.Ground.phase }], guard := none }) rfl (by kernel_rfl) (by kernel_rfl) (by kernel_rfl) (fun _ _ _ h => h) (Or.inl ⟨by rfl, fun w hw => by (go_simp; try with_reducible rfl)⟩) (by assumption) ?_
                    try simp only [Act.put, List.setIfInBounds_toArray, List.set_cons_zero, List.set_cons_succ]
                    refine wpAnyH_ready (rs := [13]) (by kernel_rfl) (by simp) ?_
                    refine AllReadyH.cons (o := { dst := none, op := Go.Op.store 3 (Go.Operand.tmp 106) (Go.Operand.tmp 104), type := 0, pos := "term.go:123", after := #[{ on := 12, ground := Go.Ground.data }, { on := 9, ground := Go.Ground.data }, { on := 11, ground := Go.Ground.chain }, { on := 0, ground := Go.Ground.phase }, { on := 1, ground := Go.Ground.phase }, { on := 2, ground := Go.Ground.phase }, { on := 3, ground := Go.Ground.phase }, { on := 4, ground := Go.Ground.phase }, { on := 5, ground := Go.Ground.phase }, { on := 6, ground := Go.Ground.phase }, { on := 7, ground := Go.Ground.phase }, { on := 8, ground := Go.Ground.phase }, { on := 9, ground := Go.Ground.phase }, { on := 10, ground := Go.Ground.phase }, { on := 11, ground := Go.Ground.phase }], guard := none }) rfl (fun K hK => ?_) AllReadyH.nil
                    have cc := Ht2b.out
                    have ff := Hft2.out 2
                    go_simp
                    clear cc ff
                    refine hK.out _ _ trivial (fun hH => ?_)
                    clear hK
                    try simp only [Act.put, List.setIfInBounds_toArray, List.set_cons_zero, List.set_cons_succ]
                    refine wpAnyH_done (by kernel_rfl) ?_ _
                    have HZ := Lib.hid (HMd.out.set12 (nuP (Us L) a : Nat) (nuP (Us L) b' : Nat))
                    have Htz := Lib.hid Htz0.out
                    generalize (w0.setCell ⟨N, 1, none⟩ (.int .i64 (nuP (Us L) a : Nat))).setCell ⟨N, 2, none⟩ (.int .i64 (nuP (Us L) b' : Nat)) = wz at *
                    generalize (Term.mk tk.op (nuP (Us L) a : Nat) (nuP (Us L) b' : Nat) tk.val) = tz at *
                    clear Ht1 Ht2 Hna Hnb Hft Ht2b Hft2 HMd Htz0 qa qb
                    obtain ⟨m0, m1, m2, m3⟩ := HZ.out.at4
                    obtain ⟨v9, w9, hrun, hown9, hgrow9, hat9⟩ := run_app1 (P := Try.prog) (w := wz.alloc (.cells #[.int .i64 tz.op, .int .i64 tz.a, .int .i64 tz.b, .int .i64 tz.val] 37)) 22 22 Term.cells 4 32 37 (Term.mk 0 0 0 0).agg Try.underlying22 infoTerm rfl (by decide) termCells_len termCells_one B5 _ ((ndP (Us L) k).map (renU L)) tz (HZ.out.out.alloc _) wz.heap.size 1 (fun j _ => cellT_new wz tz _ _ _ rfl rfl j) (by rw [Hol.out]; unfold maxLen; omega) (by rw [Hol.out]; omega) (by have := HZ.out.gt; have := HZ.out.lt; simp; omega)
                    have HO9 : Hid (OwnT w9 B5 v9 ((ndP (Us L) (k + 1)).map (renU L))) := Lib.hid (by rw [HOe.out, Htz.out]; exact hown9)
                    have HN9 := Lib.hid ((HZ.out.nb.alloc (.cells #[.int .i64 tz.op, .int .i64 tz.a, .int .i64 tz.b, .int .i64 tz.val] 37)).kept hgrow9 (Or.inr (fun e => by have h := (own_lt HZ.out.out _ e.symm).1; have h : B5 ≤ wb.heap.size := h; have := HZ.out.b5; omega)))
                    have HU9 := Lib.hid ((HZ.out.us.alloc (.cells #[.int .i64 tz.op, .int .i64 tz.a, .int .i64 tz.b, .int .i64 tz.val] 37)).kept hgrow9 (Or.inr (fun e => by have h := (own_lt HZ.out.out _ e.symm).1; have h2 := HZ.out.usb g9 rfl; have h : B5 ≤ g9 := h; omega)))
                    have HW9 := Lib.hid ((HZ.out.bel.alloc (by have := HZ.out.lt; have := HZ.out.gt; have := HZ.out.b5; omega) (.cells #[.int .i64 tz.op, .int .i64 tz.a, .int .i64 tz.b, .int .i64 tz.val] 37)).grown hgrow9 (by have := HZ.out.lt; have := HZ.out.gt; have := HZ.out.b5; simp; omega) (fun j hj => by have := (own_lt HZ.out.out j hj).1; have := HZ.out.b5; omega))
                    have HB9 : B5 ≤ w9.heap.size := by have h1 := hgrow9.size; have h2 := HZ.out.lt; have h3 := HZ.out.gt; simp at h1; omega
                    have Hrun := Lib.hid hrun
                    clear hrun hown9 hgrow9 hat9
                    go_wp2_with (at_builtin; refine wpList_app_run rfl 22 _ _ rfl rfl rfl Hrun.out ?_)
                    go_roundw
                    case rel => exact ⟨k + 1, _, by omega, by go_num, by rw [List.length_set]; exact Hnl.out, HN9.out, HU9.out, HPn, ⟨HO9.out, HB9⟩, HW9.out⟩
                    case measure => first | (simp [intOf]; done) | (simp [intOf]; omega)
                  refine AllReadyH.cons (o := { dst := none, op := Go.Op.store 3 (Go.Operand.tmp 105) (Go.Operand.tmp 99), type := 0, pos := "term.go:123", after := #[{ on := 10, ground := Go.Ground.data }, { on := 4, ground := Go.Ground.data }, { on := 0, ground := Go.Ground.phase }, { on := 1, ground := Go.Ground.phase }, { on := 2, ground := Go.Ground.phase }, { on := 3, ground := Go.Ground.phase }, { on := 4, ground := Go.Ground.phase }, { on := 5, ground := Go.Ground.textOnly Go.Departure.lateStores }, { on := 6, ground := Go.Ground.phase }, { on := 7, ground := Go.Ground.phase }, { on := 8, ground := Go.Ground.textOnly Go.Departure.lateStoresUnsure }, { on := 9, ground := Go.Ground.textOnly Go.Departure.lateStoresUnsure }], guard := none }) rfl (fun K hK => ?_) AllReadyH.nil
                  have cc := Ht1.out
                  have ff := Hft.out 1
                  go_simp
                  clear cc ff
                  refine hK.out _ _ trivial (fun hH => ?_)
                  clear hK
                  try simp only [Act.put, List.setIfInBounds_toArray, List.set_cons_zero, List.set_cons_succ]
                  refine wpAnyH_ready (rs := [9]) (by kernel_rfl) (by simp) ?_
                  refine AllReadyH.cons (o := { dst := some 104, op := Go.Op.load 3 (Go.Operand.tmp 103), type := 3, pos := "term.go:123", after := #[{ on := 8, ground := Go.Ground.data }], guard := none }) rfl (fun K hK => ?_) AllReadyH.nil
                  have cc := Hnb.out
                  go_simp
                  clear cc
                  refine hK.out _ _ trivial (fun hH => ?_)
                  clear hK
                  try simp only [Act.put, List.setIfInBounds_toArray, List.set_cons_zero, List.set_cons_succ]
                  refine wpAnyH_take (i := 12) (oi := { dst := some 106, op := Go.Op.fieldAddr 37 (Go.Operand.tmp 13) 2, type := 0, pos := "term.go:123", after := #[{ on := 0, ground := Go.Ground.phase }, { on := 1, ground := Go.Ground.phase }, { on := 2, ground := Go.Ground.phase }, { on := 3, ground := Go.Ground.phase }, { on := 4, ground := Go.Ground.phase }, { on := 5, ground := Go.Ground.phase }, { on := 6, ground := Go.Ground.phase }, { on := 7, ground := Go.Ground.phase }, { on := 8, ground := Go.Ground.phase }, { on := 9, ground := Go.Ground.phase }, { on := 10, ground := Go.Ground.phase }, { on := 11, ground := Go.Ground.phase }], guard := none }) rfl (by kernel_rfl) (by kernel_rfl) (by kernel_rfl) (fun _ _ _ h => h) (Or.inl ⟨by rfl, fun w hw => by (go_simp; try with_reducible rfl)⟩) (by assumption) ?_
                  try simp only [Act.put, List.setIfInBounds_toArray, List.set_cons_zero, List.set_cons_succ]
                  refine wpAnyH_ready (rs := [13]) (by kernel_rfl) (by simp) ?_
                  refine AllReadyH.cons (o := { dst := none, op := Go.Op.store 3 (Go.Operand.tmp 106) (Go.Operand.tmp 104), type := 0, pos := "term.go:123", after := #[{ on := 12, ground := Go.Ground.data }, { on := 9, ground := Go.Ground.data }, { on := 11, ground := Go.Ground.chain }, { on := 0, ground := Go.Ground.phase }, { on := 1, ground := Go.Ground.phase }, { on := 2, ground := Go.Ground.phase }, { on := 3, ground := Go.Ground.phase }, { on := 4, ground := Go.Ground.phase }, { on := 5, ground := Go.Ground.phase }, { on := 6, ground := Go.Ground.phase }, { on := 7, ground := Go.Ground.phase }, { on := 8, ground := Go.Ground.phase }, { on := 9, ground := Go.Ground.phase }, { on := 10, ground := Go.Ground.phase }, { on := 11, ground := Go.Ground.phase }], guard := none }) rfl (fun K hK => ?_) AllReadyH.nil
                  have cc := Ht2b.out
                  have ff := Hft2.out 2
                  go_simp
                  clear cc ff
                  refine hK.out _ _ trivial (fun hH => ?_)
                  clear hK
                  try simp only [Act.put, List.setIfInBounds_toArray, List.set_cons_zero, List.set_cons_succ]
                  refine wpAnyH_done (by kernel_rfl) ?_ _
                  have HZ := Lib.hid (HMd.out.set12 (nuP (Us L) a : Nat) (nuP (Us L) b' : Nat))
                  have Htz := Lib.hid Htz0.out
                  generalize (w0.setCell ⟨N, 1, none⟩ (.int .i64 (nuP (Us L) a : Nat))).setCell ⟨N, 2, none⟩ (.int .i64 (nuP (Us L) b' : Nat)) = wz at *
                  generalize (Term.mk tk.op (nuP (Us L) a : Nat) (nuP (Us L) b' : Nat) tk.val) = tz at *
                  clear Ht1 Ht2 Hna Hnb Hft Ht2b Hft2 HMd Htz0 qa qb
                  obtain ⟨m0, m1, m2, m3⟩ := HZ.out.at4
                  obtain ⟨v9, w9, hrun, hown9, hgrow9, hat9⟩ := run_app1 (P := Try.prog) (w := wz.alloc (.cells #[.int .i64 tz.op, .int .i64 tz.a, .int .i64 tz.b, .int .i64 tz.val] 37)) 22 22 Term.cells 4 32 37 (Term.mk 0 0 0 0).agg Try.underlying22 infoTerm rfl (by decide) termCells_len termCells_one B5 _ ((ndP (Us L) k).map (renU L)) tz (HZ.out.out.alloc _) wz.heap.size 1 (fun j _ => cellT_new wz tz _ _ _ rfl rfl j) (by rw [Hol.out]; unfold maxLen; omega) (by rw [Hol.out]; omega) (by have := HZ.out.gt; have := HZ.out.lt; simp; omega)
                  have HO9 : Hid (OwnT w9 B5 v9 ((ndP (Us L) (k + 1)).map (renU L))) := Lib.hid (by rw [HOe.out, Htz.out]; exact hown9)
                  have HN9 := Lib.hid ((HZ.out.nb.alloc (.cells #[.int .i64 tz.op, .int .i64 tz.a, .int .i64 tz.b, .int .i64 tz.val] 37)).kept hgrow9 (Or.inr (fun e => by have h := (own_lt HZ.out.out _ e.symm).1; have h : B5 ≤ wb.heap.size := h; have := HZ.out.b5; omega)))
                  have HU9 := Lib.hid ((HZ.out.us.alloc (.cells #[.int .i64 tz.op, .int .i64 tz.a, .int .i64 tz.b, .int .i64 tz.val] 37)).kept hgrow9 (Or.inr (fun e => by have h := (own_lt HZ.out.out _ e.symm).1; have h2 := HZ.out.usb g9 rfl; have h : B5 ≤ g9 := h; omega)))
                  have HW9 := Lib.hid ((HZ.out.bel.alloc (by have := HZ.out.lt; have := HZ.out.gt; have := HZ.out.b5; omega) (.cells #[.int .i64 tz.op, .int .i64 tz.a, .int .i64 tz.b, .int .i64 tz.val] 37)).grown hgrow9 (by have := HZ.out.lt; have := HZ.out.gt; have := HZ.out.b5; simp; omega) (fun j hj => by have := (own_lt HZ.out.out j hj).1; have := HZ.out.b5; omega))
                  have HB9 : B5 ≤ w9.heap.size := by have h1 := hgrow9.size; have h2 := HZ.out.lt; have h3 := HZ.out.gt; simp at h1; omega
                  have Hrun := Lib.hid hrun
                  clear hrun hown9 hgrow9 hat9
                  go_wp2_with (at_builtin; refine wpList_app_run rfl 22 _ _ rfl rfl rfl Hrun.out ?_)
                  go_roundw
                  case rel => exact ⟨k + 1, _, by omega, by go_num, by rw [List.length_set]; exact Hnl.out, HN9.out, HU9.out, HPn, ⟨HO9.out, HB9⟩, HW9.out⟩
                  case measure => first | (simp [intOf]; done) | (simp [intOf]; omega)
                refine AllReadyH.cons (o := { dst := some 102, op := Go.Op.load 3 (Go.Operand.tmp 101), type := 3, pos := "term.go:123", after := #[{ on := 6, ground := Go.Ground.data }], guard := none }) rfl (fun K hK => ?_) AllReadyH.nil
                have cc := Ht2.out
                go_simp
                clear cc
                refine hK.out _ _ trivial (fun hH => ?_)
                clear hK
                try simp only [Act.put, List.setIfInBounds_toArray, List.set_cons_zero, List.set_cons_succ]
                refine wpAnyH_take (i := 8) (oi := { dst := some 103, op := Go.Op.indexAddr 23 (Go.Operand.tmp 100) (Go.Operand.tmp 102), type := 0, pos := "term.go:123", after := #[{ on := 5, ground := Go.Ground.data }, { on := 7, ground := Go.Ground.data }], guard := none }) rfl (by kernel_rfl) (by kernel_rfl) (by kernel_rfl) (fun _ _ _ h => h) (Or.inl ⟨by rfl, fun w hw => by (go_simp; try with_reducible rfl)⟩) (by assumption) ?_
                try simp only [Act.put, List.setIfInBounds_toArray, List.set_cons_zero, List.set_cons_succ]
                refine wpAnyH_ready (rs := [4, 9]) (by kernel_rfl) (by simp) ?_
                refine AllReadyH.cons (o := { dst := some 99, op := Go.Op.load 3 (Go.Operand.tmp 98), type := 3, pos := "term.go:123", after := #[{ on := 3, ground := Go.Ground.data }], guard := none }) rfl (fun K hK => ?_) ?_
                · have cc := Hna.out
                  go_simp
                  clear cc
                  refine hK.out _ _ trivial (fun hH => ?_)
                  clear hK
                  try simp only [Act.put, List.setIfInBounds_toArray, List.set_cons_zero, List.set_cons_succ]
                  refine wpAnyH_take (i := 10) (oi := { dst := some 105, op := Go.Op.fieldAddr 37 (Go.Operand.tmp 13) 1, type := 0, pos := "term.go:123", after := #[{ on := 0, ground := Go.Ground.phase }, { on := 1, ground := Go.Ground.phase }, { on := 2, ground := Go.Ground.phase }, { on := 3, ground := Go.Ground.phase }, { on := 4, ground := Go.Ground.phase }, { on := 5, ground := Go.Ground.textOnly Go.Departure.lateStores }, { on := 6, ground := Go.Ground.phase }, { on := 7, ground := Go.Ground.phase }, { on := 8, ground := Go.Ground.textOnly Go.Departure.lateStoresUnsure }, { on := 9, ground := Go.Ground.textOnly Go.Departure.lateStoresUnsure }], guard := none }) rfl (by kernel_rfl) (by kernel_rfl) (by kernel_rfl) (fun _ _ _ h => h) (Or.inl ⟨by rfl, fun w hw => by (go_simp; try with_reducible rfl)⟩) (by assumption) ?_
                  try simp only [Act.put, List.setIfInBounds_toArray, List.set_cons_zero, List.set_cons_succ]
                  refine wpAnyH_ready (rs := [9, 11]) (by kernel_rfl) (by simp) ?_
                  refine AllReadyH.cons (o := { dst := some 104, op := Go.Op.load 3 (Go.Operand.tmp 103), type := 3, pos := "term.go:123", after := #[{ on := 8, ground := Go.Ground.data }], guard := none }) rfl (fun K hK => ?_) ?_
                  · have cc := Hnb.out
                    go_simp
                    clear cc
                    refine hK.out _ _ trivial (fun hH => ?_)
                    clear hK
                    try simp only [Act.put, List.setIfInBounds_toArray, List.set_cons_zero, List.set_cons_succ]
                    refine wpAnyH_ready (rs := [11]) (by kernel_rfl) (by simp) ?_
                    refine AllReadyH.cons (o := { dst := none, op := Go.Op.store 3 (Go.Operand.tmp 105) (Go.Operand.tmp 99), type := 0, pos := "term.go:123", after := #[{ on := 10, ground := Go.Ground.data }, { on := 4, ground := Go.Ground.data }, { on := 0, ground := Go.Ground.phase }, { on := 1, ground := Go.Ground.phase }, { on := 2, ground := Go.Ground.phase }, { on := 3, ground := Go.Ground.phase }, { on := 4, ground := Go.Ground.phase }, { on := 5, ground := Go.Ground.textOnly Go.Departure.lateStores }, { on := 6, ground := Go.Ground.phase }, { on := 7, ground := Go.Ground.phase }, { on := 8, ground := Go.Ground.textOnly Go.Departure.lateStoresUnsure }, { on := 9, ground := Go.Ground.textOnly Go.Departure.lateStoresUnsure }], guard := none }) rfl (fun K hK => ?_) AllReadyH.nil
                    have cc := Ht1.out
                    have ff := Hft.out 1
                    go_simp
                    clear cc ff
                    refine hK.out _ _ trivial (fun hH => ?_)
                    clear hK
                    try simp only [Act.put, List.setIfInBounds_toArray, List.set_cons_zero, List.set_cons_succ]
                    refine wpAnyH_take (i := 12) (oi := { dst := some 106, op := Go.Op.fieldAddr 37 (Go.Operand.tmp 13) 2, type := 0, pos := "term.go:123", after := #[{ on := 0, ground := Go.Ground.phase }, { on := 1, ground := Go.Ground.phase }, { on := 2, ground := Go.Ground.phase }, { on := 3, ground := Go.Ground.phase }, { on := 4, ground := Go.Ground.phase }, { on := 5, ground := Go.Ground.phase }, { on := 6, ground := Go.Ground.phase }, { on := 7, ground := Go.Ground.phase }, { on := 8, ground := Go.Ground.phase }, { on := 9, ground := Go.Ground.phase }, { on := 10, ground := Go.Ground.phase }, { on := 11, ground := Go.Ground.phase }], guard := none }) rfl (by kernel_rfl) (by kernel_rfl) (by kernel_rfl) (fun _ _ _ h => h) (Or.inl ⟨by rfl, fun w hw => by (go_simp; try with_reducible rfl)⟩) (by assumption) ?_
                    try simp only [Act.put, List.setIfInBounds_toArray, List.set_cons_zero, List.set_cons_succ]
                    refine wpAnyH_ready (rs := [13]) (by kernel_rfl) (by simp) ?_
                    refine AllReadyH.cons (o := { dst := none, op := Go.Op.store 3 (Go.Operand.tmp 106) (Go.Operand.tmp 104), type := 0, pos := "term.go:123", after := #[{ on := 12, ground := Go.Ground.data }, { on := 9, ground := Go.Ground.data }, { on := 11, ground := Go.Ground.chain }, { on := 0, ground := Go.Ground.phase }, { on := 1, ground := Go.Ground.phase }, { on := 2, ground := Go.Ground.phase }, { on := 3, ground := Go.Ground.phase }, { on := 4, ground := Go.Ground.phase }, { on := 5, ground := Go.Ground.phase }, { on := 6, ground := Go.Ground.phase }, { on := 7, ground := Go.Ground.phase }, { on := 8, ground := Go.Ground.phase }, { on := 9, ground := Go.Ground.phase }, { on := 10, ground := Go.Ground.phase }, { on := 11, ground := Go.Ground.phase }], guard := none }) rfl (fun K hK => ?_) AllReadyH.nil
                    have cc := Ht2b.out
                    have ff := Hft2.out 2
                    go_simp
                    clear cc ff
                    refine hK.out _ _ trivial (fun hH => ?_)
                    clear hK
                    try simp only [Act.put, List.setIfInBounds_toArray, List.set_cons_zero, List.set_cons_succ]
                    refine wpAnyH_done (by kernel_rfl) ?_ _
                    have HZ := Lib.hid (HMd.out.set12 (nuP (Us L) a : Nat) (nuP (Us L) b' : Nat))
                    have Htz := Lib.hid Htz0.out
                    generalize (w0.setCell ⟨N, 1, none⟩ (.int .i64 (nuP (Us L) a : Nat))).setCell ⟨N, 2, none⟩ (.int .i64 (nuP (Us L) b' : Nat)) = wz at *
                    generalize (Term.mk tk.op (nuP (Us L) a : Nat) (nuP (Us L) b' : Nat) tk.val) = tz at *
                    clear Ht1 Ht2 Hna Hnb Hft Ht2b Hft2 HMd Htz0 qa qb
                    obtain ⟨m0, m1, m2, m3⟩ := HZ.out.at4
                    obtain ⟨v9, w9, hrun, hown9, hgrow9, hat9⟩ := run_app1 (P := Try.prog) (w := wz.alloc (.cells #[.int .i64 tz.op, .int .i64 tz.a, .int .i64 tz.b, .int .i64 tz.val] 37)) 22 22 Term.cells 4 32 37 (Term.mk 0 0 0 0).agg Try.underlying22 infoTerm rfl (by decide) termCells_len termCells_one B5 _ ((ndP (Us L) k).map (renU L)) tz (HZ.out.out.alloc _) wz.heap.size 1 (fun j _ => cellT_new wz tz _ _ _ rfl rfl j) (by rw [Hol.out]; unfold maxLen; omega) (by rw [Hol.out]; omega) (by have := HZ.out.gt; have := HZ.out.lt; simp; omega)
                    have HO9 : Hid (OwnT w9 B5 v9 ((ndP (Us L) (k + 1)).map (renU L))) := Lib.hid (by rw [HOe.out, Htz.out]; exact hown9)
                    have HN9 := Lib.hid ((HZ.out.nb.alloc (.cells #[.int .i64 tz.op, .int .i64 tz.a, .int .i64 tz.b, .int .i64 tz.val] 37)).kept hgrow9 (Or.inr (fun e => by have h := (own_lt HZ.out.out _ e.symm).1; have h : B5 ≤ wb.heap.size := h; have := HZ.out.b5; omega)))
                    have HU9 := Lib.hid ((HZ.out.us.alloc (.cells #[.int .i64 tz.op, .int .i64 tz.a, .int .i64 tz.b, .int .i64 tz.val] 37)).kept hgrow9 (Or.inr (fun e => by have h := (own_lt HZ.out.out _ e.symm).1; have h2 := HZ.out.usb g9 rfl; have h : B5 ≤ g9 := h; omega)))
                    have HW9 := Lib.hid ((HZ.out.bel.alloc (by have := HZ.out.lt; have := HZ.out.gt; have := HZ.out.b5; omega) (.cells #[.int .i64 tz.op, .int .i64 tz.a, .int .i64 tz.b, .int .i64 tz.val] 37)).grown hgrow9 (by have := HZ.out.lt; have := HZ.out.gt; have := HZ.out.b5; simp; omega) (fun j hj => by have := (own_lt HZ.out.out j hj).1; have := HZ.out.b5; omega))
                    have HB9 : B5 ≤ w9.heap.size := by have h1 := hgrow9.size; have h2 := HZ.out.lt; have h3 := HZ.out.gt; simp at h1; omega
                    have Hrun := Lib.hid hrun
                    clear hrun hown9 hgrow9 hat9
                    go_wp2_with (at_builtin; refine wpList_app_run rfl 22 _ _ rfl rfl rfl Hrun.out ?_)
                    go_roundw
                    case rel => exact ⟨k + 1, _, by omega, by go_num, by rw [List.length_set]; exact Hnl.out, HN9.out, HU9.out, HPn, ⟨HO9.out, HB9⟩, HW9.out⟩
                    case measure => first | (simp [intOf]; done) | (simp [intOf]; omega)
                  refine AllReadyH.cons (o := { dst := none, op := Go.Op.store 3 (Go.Operand.tmp 105) (Go.Operand.tmp 99), type := 0, pos := "term.go:123", after := #[{ on := 10, ground := Go.Ground.data }, { on := 4, ground := Go.Ground.data }, { on := 0, ground := Go.Ground.phase }, { on := 1, ground := Go.Ground.phase }, { on := 2, ground := Go.Ground.phase }, { on := 3, ground := Go.Ground.phase }, { on := 4, ground := Go.Ground.phase }, { on := 5, ground := Go.Ground.textOnly Go.Departure.lateStores }, { on := 6, ground := Go.Ground.phase }, { on := 7, ground := Go.Ground.phase }, { on := 8, ground := Go.Ground.textOnly Go.Departure.lateStoresUnsure }, { on := 9, ground := Go.Ground.textOnly Go.Departure.lateStoresUnsure }], guard := none }) rfl (fun K hK => ?_) AllReadyH.nil
                  have cc := Ht1.out
                  have ff := Hft.out 1
                  go_simp
                  clear cc ff
                  refine hK.out _ _ trivial (fun hH => ?_)
                  clear hK
                  try simp only [Act.put, List.setIfInBounds_toArray, List.set_cons_zero, List.set_cons_succ]
                  refine wpAnyH_ready (rs := [9]) (by kernel_rfl) (by simp) ?_
                  refine AllReadyH.cons (o := { dst := some 104, op := Go.Op.load 3 (Go.Operand.tmp 103), type := 3, pos := "term.go:123", after := #[{ on := 8, ground := Go.Ground.data }], guard := none }) rfl (fun K hK => ?_) AllReadyH.nil
                  have cc := Hnb.out
                  go_simp
                  clear cc
                  refine hK.out _ _ trivial (fun hH => ?_)
                  clear hK
                  try simp only [Act.put, List.setIfInBounds_toArray, List.set_cons_zero, List.set_cons_succ]
                  refine wpAnyH_take (i := 12) (oi := { dst := some 106, op := Go.Op.fieldAddr 37 (Go.Operand.tmp 13) 2, type := 0, pos := "term.go:123", after := #[{ on := 0, ground := Go.Ground.phase }, { on := 1, ground := Go.Ground.phase }, { on := 2, ground := Go.Ground.phase }, { on := 3, ground := Go.Ground.phase }, { on := 4, ground := Go.Ground.phase }, { on := 5, ground := Go.Ground.phase }, { on := 6, ground := Go.Ground.phase }, { on := 7, ground := Go.Ground.phase }, { on := 8, ground := Go.Ground.phase }, { on := 9, ground := Go.Ground.phase }, { on := 10, ground := Go.Ground.phase }, { on := 11, ground := Go.Ground.phase }], guard := none }) rfl (by kernel_rfl) (by kernel_rfl) (by kernel_rfl) (fun _ _ _ h => h) (Or.inl ⟨by rfl, fun w hw => by (go_simp; try with_reducible rfl)⟩) (by assumption) ?_
                  try simp only [Act.put, List.setIfInBounds_toArray, List.set_cons_zero, List.set_cons_succ]
                  refine wpAnyH_ready (rs := [13]) (by kernel_rfl) (by simp) ?_
                  refine AllReadyH.cons (o := { dst := none, op := Go.Op.store 3 (Go.Operand.tmp 106) (Go.Operand.tmp 104), type := 0, pos := "term.go:123", after := #[{ on := 12, ground := Go.Ground.data }, { on := 9, ground := Go.Ground.data }, { on := 11, ground := Go.Ground.chain }, { on := 0, ground := Go.Ground.phase }, { on := 1, ground := Go.Ground.phase }, { on := 2, ground := Go.Ground.phase }, { on := 3, ground := Go.Ground.phase }, { on := 4, ground := Go.Ground.phase }, { on := 5, ground := Go.Ground.phase }, { on := 6, ground := Go.Ground.phase }, { on := 7, ground := Go.Ground.phase }, { on := 8, ground := Go.Ground.phase }, { on := 9, ground := Go.Ground.phase }, { on := 10, ground := Go.Ground.phase }, { on := 11, ground := Go.Ground.phase }], guard := none }) rfl (fun K hK => ?_) AllReadyH.nil
                  have cc := Ht2b.out
                  have ff := Hft2.out 2
                  go_simp
                  clear cc ff
                  refine hK.out _ _ trivial (fun hH => ?_)
                  clear hK
                  try simp only [Act.put, List.setIfInBounds_toArray, List.set_cons_zero, List.set_cons_succ]
                  refine wpAnyH_done (by kernel_rfl) ?_ _
                  have HZ := Lib.hid (HMd.out.set12 (nuP (Us L) a : Nat) (nuP (Us L) b' : Nat))
                  have Htz := Lib.hid Htz0.out
                  generalize (w0.setCell ⟨N, 1, none⟩ (.int .i64 (nuP (Us L) a : Nat))).setCell ⟨N, 2, none⟩ (.int .i64 (nuP (Us L) b' : Nat)) = wz at *
                  generalize (Term.mk tk.op (nuP (Us L) a : Nat) (nuP (Us L) b' : Nat) tk.val) = tz at *
                  clear Ht1 Ht2 Hna Hnb Hft Ht2b Hft2 HMd Htz0 qa qb
                  obtain ⟨m0, m1, m2, m3⟩ := HZ.out.at4
                  obtain ⟨v9, w9, hrun, hown9, hgrow9, hat9⟩ := run_app1 (P := Try.prog) (w := wz.alloc (.cells #[.int .i64 tz.op, .int .i64 tz.a, .int .i64 tz.b, .int .i64 tz.val] 37)) 22 22 Term.cells 4 32 37 (Term.mk 0 0 0 0).agg Try.underlying22 infoTerm rfl (by decide) termCells_len termCells_one B5 _ ((ndP (Us L) k).map (renU L)) tz (HZ.out.out.alloc _) wz.heap.size 1 (fun j _ => cellT_new wz tz _ _ _ rfl rfl j) (by rw [Hol.out]; unfold maxLen; omega) (by rw [Hol.out]; omega) (by have := HZ.out.gt; have := HZ.out.lt; simp; omega)
                  have HO9 : Hid (OwnT w9 B5 v9 ((ndP (Us L) (k + 1)).map (renU L))) := Lib.hid (by rw [HOe.out, Htz.out]; exact hown9)
                  have HN9 := Lib.hid ((HZ.out.nb.alloc (.cells #[.int .i64 tz.op, .int .i64 tz.a, .int .i64 tz.b, .int .i64 tz.val] 37)).kept hgrow9 (Or.inr (fun e => by have h := (own_lt HZ.out.out _ e.symm).1; have h : B5 ≤ wb.heap.size := h; have := HZ.out.b5; omega)))
                  have HU9 := Lib.hid ((HZ.out.us.alloc (.cells #[.int .i64 tz.op, .int .i64 tz.a, .int .i64 tz.b, .int .i64 tz.val] 37)).kept hgrow9 (Or.inr (fun e => by have h := (own_lt HZ.out.out _ e.symm).1; have h2 := HZ.out.usb g9 rfl; have h : B5 ≤ g9 := h; omega)))
                  have HW9 := Lib.hid ((HZ.out.bel.alloc (by have := HZ.out.lt; have := HZ.out.gt; have := HZ.out.b5; omega) (.cells #[.int .i64 tz.op, .int .i64 tz.a, .int .i64 tz.b, .int .i64 tz.val] 37)).grown hgrow9 (by have := HZ.out.lt; have := HZ.out.gt; have := HZ.out.b5; simp; omega) (fun j hj => by have := (own_lt HZ.out.out j hj).1; have := HZ.out.b5; omega))
                  have HB9 : B5 ≤ w9.heap.size := by have h1 := hgrow9.size; have h2 := HZ.out.lt; have h3 := HZ.out.gt; simp at h1; omega
                  have Hrun := Lib.hid hrun
                  clear hrun hown9 hgrow9 hat9
                  go_wp2_with (at_builtin; refine wpList_app_run rfl 22 _ _ rfl rfl rfl Hrun.out ?_)
                  go_roundw
                  case rel => exact ⟨k + 1, _, by omega, by go_num, by rw [List.length_set]; exact Hnl.out, HN9.out, HU9.out, HPn, ⟨HO9.out, HB9⟩, HW9.out⟩
                  case measure => first | (simp [intOf]; done) | (simp [intOf]; omega)
                refine AllReadyH.cons (o := { dst := some 104, op := Go.Op.load 3 (Go.Operand.tmp 103), type := 3, pos := "term.go:123", after := #[{ on := 8, ground := Go.Ground.data }], guard := none }) rfl (fun K hK => ?_) AllReadyH.nil
                have cc := Hnb.out
                go_simp
                clear cc
                refine hK.out _ _ trivial (fun hH => ?_)
                clear hK
                try simp only [Act.put, List.setIfInBounds_toArray, List.set_cons_zero, List.set_cons_succ]
                refine wpAnyH_ready (rs := [4]) (by kernel_rfl) (by simp) ?_
                refine AllReadyH.cons (o := { dst := some 99, op := Go.Op.load 3 (Go.Operand.tmp 98), type := 3, pos := "term.go:123", after := #[{ on := 3, ground := Go.Ground.data }], guard := none }) rfl (fun K hK => ?_) AllReadyH.nil
                have cc := Hna.out
                go_simp
                clear cc
                refine hK.out _ _ trivial (fun hH => ?_)
                clear hK
                try simp only [Act.put, List.setIfInBounds_toArray, List.set_cons_zero, List.set_cons_succ]
                refine wpAnyH_take (i := 10) (oi := { dst := some 105, op := Go.Op.fieldAddr 37 (Go.Operand.tmp 13) 1, type := 0, pos := "term.go:123", after := #[{ on := 0, ground := Go.Ground.phase }, { on := 1, ground := Go.Ground.phase }, { on := 2, ground := Go.Ground.phase }, { on := 3, ground := Go.Ground.phase }, { on := 4, ground := Go.Ground.phase }, { on := 5, ground := Go.Ground.textOnly Go.Departure.lateStores }, { on := 6, ground := Go.Ground.phase }, { on := 7, ground := Go.Ground.phase }, { on := 8, ground := Go.Ground.textOnly Go.Departure.lateStoresUnsure }, { on := 9, ground := Go.Ground.textOnly Go.Departure.lateStoresUnsure }], guard := none }) rfl (by kernel_rfl) (by kernel_rfl) (by kernel_rfl) (fun _ _ _ h => h) (Or.inl ⟨by rfl, fun w hw => by (go_simp; try with_reducible rfl)⟩) (by assumption) ?_
                try simp only [Act.put, List.setIfInBounds_toArray, List.set_cons_zero, List.set_cons_succ]
                refine wpAnyH_ready (rs := [11]) (by kernel_rfl) (by simp) ?_
                refine AllReadyH.cons (o := { dst := none, op := Go.Op.store 3 (Go.Operand.tmp 105) (Go.Operand.tmp 99), type := 0, pos := "term.go:123", after := #[{ on := 10, ground := Go.Ground.data }, { on := 4, ground := Go.Ground.data }, { on := 0, ground := Go.Ground.phase }, { on := 1, ground := Go.Ground.phase }, { on := 2, ground := Go.Ground.phase }, { on := 3, ground := Go.Ground.phase }, { on := 4, ground := Go.Ground.phase }, { on := 5, ground := Go.Ground.textOnly Go.Departure.lateStores }, { on := 6, ground := Go.Ground.phase }, { on := 7, ground := Go.Ground.phase }, { on := 8, ground := Go.Ground.textOnly Go.Departure.lateStoresUnsure }, { on := 9, ground := Go.Ground.textOnly Go.Departure.lateStoresUnsure }], guard := none }) rfl (fun K hK => ?_) AllReadyH.nil
                have cc := Ht1.out
                have ff := Hft.out 1
                go_simp
                clear cc ff
                refine hK.out _ _ trivial (fun hH => ?_)
                clear hK
                try simp only [Act.put, List.setIfInBounds_toArray, List.set_cons_zero, List.set_cons_succ]
                refine wpAnyH_take (i := 12) (oi := { dst := some 106, op := Go.Op.fieldAddr 37 (Go.Operand.tmp 13) 2, type := 0, pos := "term.go:123", after := #[{ on := 0, ground := Go.Ground.phase }, { on := 1, ground := Go.Ground.phase }, { on := 2, ground := Go.Ground.phase }, { on := 3, ground := Go.Ground.phase }, { on := 4, ground := Go.Ground.phase }, { on := 5, ground := Go.Ground.phase }, { on := 6, ground := Go.Ground.phase }, { on := 7, ground := Go.Ground.phase }, { on := 8, ground := Go.Ground.phase }, { on := 9, ground := Go.Ground.phase }, { on := 10, ground := Go.Ground.phase }, { on := 11, ground := Go.Ground.phase }], guard := none }) rfl (by kernel_rfl) (by kernel_rfl) (by kernel_rfl) (fun _ _ _ h => h) (Or.inl ⟨by rfl, fun w hw => by (go_simp; try with_reducible rfl)⟩) (by assumption) ?_
                try simp only [Act.put, List.setIfInBounds_toArray, List.set_cons_zero, List.set_cons_succ]
                refine wpAnyH_ready (rs := [13]) (by kernel_rfl) (by simp) ?_
                refine AllReadyH.cons (o := { dst := none, op := Go.Op.store 3 (Go.Operand.tmp 106) (Go.Operand.tmp 104), type := 0, pos := "term.go:123", after := #[{ on := 12, ground := Go.Ground.data }, { on := 9, ground := Go.Ground.data }, { on := 11, ground := Go.Ground.chain }, { on := 0, ground := Go.Ground.phase }, { on := 1, ground := Go.Ground.phase }, { on := 2, ground := Go.Ground.phase }, { on := 3, ground := Go.Ground.phase }, { on := 4, ground := Go.Ground.phase }, { on := 5, ground := Go.Ground.phase }, { on := 6, ground := Go.Ground.phase }, { on := 7, ground := Go.Ground.phase }, { on := 8, ground := Go.Ground.phase }, { on := 9, ground := Go.Ground.phase }, { on := 10, ground := Go.Ground.phase }, { on := 11, ground := Go.Ground.phase }], guard := none }) rfl (fun K hK => ?_) AllReadyH.nil
                have cc := Ht2b.out
                have ff := Hft2.out 2
                go_simp
                clear cc ff
                refine hK.out _ _ trivial (fun hH => ?_)
                clear hK
                try simp only [Act.put, List.setIfInBounds_toArray, List.set_cons_zero, List.set_cons_succ]
                refine wpAnyH_done (by kernel_rfl) ?_ _
                have HZ := Lib.hid (HMd.out.set12 (nuP (Us L) a : Nat) (nuP (Us L) b' : Nat))
                have Htz := Lib.hid Htz0.out
                generalize (w0.setCell ⟨N, 1, none⟩ (.int .i64 (nuP (Us L) a : Nat))).setCell ⟨N, 2, none⟩ (.int .i64 (nuP (Us L) b' : Nat)) = wz at *
                generalize (Term.mk tk.op (nuP (Us L) a : Nat) (nuP (Us L) b' : Nat) tk.val) = tz at *
                clear Ht1 Ht2 Hna Hnb Hft Ht2b Hft2 HMd Htz0 qa qb
                obtain ⟨m0, m1, m2, m3⟩ := HZ.out.at4
                obtain ⟨v9, w9, hrun, hown9, hgrow9, hat9⟩ := run_app1 (P := Try.prog) (w := wz.alloc (.cells #[.int .i64 tz.op, .int .i64 tz.a, .int .i64 tz.b, .int .i64 tz.val] 37)) 22 22 Term.cells 4 32 37 (Term.mk 0 0 0 0).agg Try.underlying22 infoTerm rfl (by decide) termCells_len termCells_one B5 _ ((ndP (Us L) k).map (renU L)) tz (HZ.out.out.alloc _) wz.heap.size 1 (fun j _ => cellT_new wz tz _ _ _ rfl rfl j) (by rw [Hol.out]; unfold maxLen; omega) (by rw [Hol.out]; omega) (by have := HZ.out.gt; have := HZ.out.lt; simp; omega)
                have HO9 : Hid (OwnT w9 B5 v9 ((ndP (Us L) (k + 1)).map (renU L))) := Lib.hid (by rw [HOe.out, Htz.out]; exact hown9)
                have HN9 := Lib.hid ((HZ.out.nb.alloc (.cells #[.int .i64 tz.op, .int .i64 tz.a, .int .i64 tz.b, .int .i64 tz.val] 37)).kept hgrow9 (Or.inr (fun e => by have h := (own_lt HZ.out.out _ e.symm).1; have h : B5 ≤ wb.heap.size := h; have := HZ.out.b5; omega)))
                have HU9 := Lib.hid ((HZ.out.us.alloc (.cells #[.int .i64 tz.op, .int .i64 tz.a, .int .i64 tz.b, .int .i64 tz.val] 37)).kept hgrow9 (Or.inr (fun e => by have h := (own_lt HZ.out.out _ e.symm).1; have h2 := HZ.out.usb g9 rfl; have h : B5 ≤ g9 := h; omega)))
                have HW9 := Lib.hid ((HZ.out.bel.alloc (by have := HZ.out.lt; have := HZ.out.gt; have := HZ.out.b5; omega) (.cells #[.int .i64 tz.op, .int .i64 tz.a, .int .i64 tz.b, .int .i64 tz.val] 37)).grown hgrow9 (by have := HZ.out.lt; have := HZ.out.gt; have := HZ.out.b5; simp; omega) (fun j hj => by have := (own_lt HZ.out.out j hj).1; have := HZ.out.b5; omega))
                have HB9 : B5 ≤ w9.heap.size := by have h1 := hgrow9.size; have h2 := HZ.out.lt; have h3 := HZ.out.gt; simp at h1; omega
                have Hrun := Lib.hid hrun
                clear hrun hown9 hgrow9 hat9
                go_wp2_with (at_builtin; refine wpList_app_run rfl 22 _ _ rfl rfl rfl Hrun.out ?_)
                go_roundw
                case rel => exact ⟨k + 1, _, by omega, by go_num, by rw [List.length_set]; exact Hnl.out, HN9.out, HU9.out, HPn, ⟨HO9.out, HB9⟩, HW9.out⟩
                case measure => first | (simp [intOf]; done) | (simp [intOf]; omega)
              refine AllReadyH.cons (o := { dst := some 102, op := Go.Op.load 3 (Go.Operand.tmp 101), type := 3, pos := "term.go:123", after := #[{ on := 6, ground := Go.Ground.data }], guard := none }) rfl (fun K hK => ?_) AllReadyH.nil
              have cc := Ht2.out
              go_simp
              clear cc
              refine hK.out _ _ trivial (fun hH => ?_)
              clear hK
              try simp only [Act.put, List.setIfInBounds_toArray, List.set_cons_zero, List.set_cons_succ]
              refine wpAnyH_take (i := 8) (oi := { dst := some 103, op := Go.Op.indexAddr 23 (Go.Operand.tmp 100) (Go.Operand.tmp 102), type := 0, pos := "term.go:123", after := #[{ on := 5, ground := Go.Ground.data }, { on := 7, ground := Go.Ground.data }], guard := none }) rfl (by kernel_rfl) (by kernel_rfl) (by kernel_rfl) (fun _ _ _ h => h) (Or.inl ⟨by rfl, fun w hw => by (go_simp; try with_reducible rfl)⟩) (by assumption) ?_
              try simp only [Act.put, List.setIfInBounds_toArray, List.set_cons_zero, List.set_cons_succ]
              refine wpAnyH_ready (rs := [2, 9]) (by kernel_rfl) (by simp) ?_
              refine AllReadyH.cons (o := { dst := some 97, op := Go.Op.load 3 (Go.Operand.tmp 96), type := 3, pos := "term.go:123", after := #[{ on := 1, ground := Go.Ground.data }], guard := none }) rfl (fun K hK => ?_) ?_
              · have cc := Ht1.out
                go_simp
                clear cc
                refine hK.out _ _ trivial (fun hH => ?_)
                clear hK
                try simp only [Act.put, List.setIfInBounds_toArray, List.set_cons_zero, List.set_cons_succ]
                refine wpAnyH_take (i := 3) (oi := { dst := some 98, op := Go.Op.indexAddr 23 (Go.Operand.tmp 95) (Go.Operand.tmp 97), type := 0, pos := "term.go:123", after := #[{ on := 0, ground := Go.Ground.data }, { on := 2, ground := Go.Ground.data }], guard := none }) rfl (by kernel_rfl) (by kernel_rfl) (by kernel_rfl) (fun _ _ _ h => h) (Or.inl ⟨by rfl, fun w hw => by (go_simp; try with_reducible rfl)⟩) (by assumption) ?_
                try simp only [Act.put, List.setIfInBounds_toArray, List.set_cons_zero, List.set_cons_succ]
                refine wpAnyH_ready (rs := [4, 9]) (by kernel_rfl) (by simp) ?_
                refine AllReadyH.cons (o := { dst := some 99, op := Go.Op.load 3 (Go.Operand.tmp 98), type := 3, pos := "term.go:123", after := #[{ on := 3, ground := Go.Ground.data }], guard := none }) rfl (fun K hK => ?_) ?_
                · have cc := Hna.out
                  go_simp
                  clear cc
                  refine hK.out _ _ trivial (fun hH => ?_)
                  clear hK
                  try simp only [Act.put, List.setIfInBounds_toArray, List.set_cons_zero, List.set_cons_succ]
                  refine wpAnyH_take (i := 10) (oi := { dst := some 105, op := Go.Op.fieldAddr 37 (Go.Operand.tmp 13) 1, type := 0, pos := "term.go:123", after := #[{ on := 0, ground := Go.Ground.phase }, { on := 1, ground := Go.Ground.phase }, { on := 2, ground := Go.Ground.phase }, { on := 3, ground := Go.Ground.phase }, { on := 4, ground := Go.Ground.phase }, { on := 5, ground := Go.Ground.textOnly Go.Departure.lateStores }, { on := 6, ground := Go.Ground.phase }, { on := 7, ground := Go.Ground.phase }, { on := 8, ground := Go.Ground.textOnly Go.Departure.lateStoresUnsure }, { on := 9, ground := Go.Ground.textOnly Go.Departure.lateStoresUnsure }], guard := none }) rfl (by kernel_rfl) (by kernel_rfl) (by kernel_rfl) (fun _ _ _ h => h) (Or.inl ⟨by rfl, fun w hw => by (go_simp; try with_reducible rfl)⟩) (by assumption) ?_
                  try simp only [Act.put, List.setIfInBounds_toArray, List.set_cons_zero, List.set_cons_succ]
                  refine wpAnyH_ready (rs := [9, 11]) (by kernel_rfl) (by simp) ?_
                  refine AllReadyH.cons (o := { dst := some 104, op := Go.Op.load 3 (Go.Operand.tmp 103), type := 3, pos := "term.go:123", after := #[{ on := 8, ground := Go.Ground.data }], guard := none }) rfl (fun K hK => ?_) ?_
                  · have cc := Hnb.out
                    go_simp
                    clear cc
                    refine hK.out _ _ trivial (fun hH => ?_)
                    clear hK
                    try simp only [Act.put, List.setIfInBounds_toArray, List.set_cons_zero, List.set_cons_succ]
                    refine wpAnyH_ready (rs := [11]) (by kernel_rfl) (by simp) ?_
                    refine AllReadyH.cons (o := { dst := none, op := Go.Op.store 3 (Go.Operand.tmp 105) (Go.Operand.tmp 99), type := 0, pos := "term.go:123", after := #[{ on := 10, ground := Go.Ground.data }, { on := 4, ground := Go.Ground.data }, { on := 0, ground := Go.Ground.phase }, { on := 1, ground := Go.Ground.phase }, { on := 2, ground := Go.Ground.phase }, { on := 3, ground := Go.Ground.phase }, { on := 4, ground := Go.Ground.phase }, { on := 5, ground := Go.Ground.textOnly Go.Departure.lateStores }, { on := 6, ground := Go.Ground.phase }, { on := 7, ground := Go.Ground.phase }, { on := 8, ground := Go.Ground.textOnly Go.Departure.lateStoresUnsure }, { on := 9, ground := Go.Ground.textOnly Go.Departure.lateStoresUnsure }], guard := none }) rfl (fun K hK => ?_) AllReadyH.nil
                    have cc := Ht1.out
                    have ff := Hft.out 1
                    go_simp
                    clear cc ff
                    refine hK.out _ _ trivial (fun hH => ?_)
                    clear hK
                    try simp only [Act.put, List.setIfInBounds_toArray, List.set_cons_zero, List.set_cons_succ]
                    refine wpAnyH_take (i := 12) (oi := { dst := some 106, op := Go.Op.fieldAddr 37 (Go.Operand.tmp 13) 2, type := 0, pos := "term.go:123", after := #[{ on := 0, ground := Go.Ground.phase }, { on := 1, ground := Go.Ground.phase }, { on := 2, ground := Go.Ground.phase }, { on := 3, ground := Go.Ground.phase }, { on := 4, ground := Go.Ground.phase }, { on := 5, ground := Go.Ground.phase }, { on := 6, ground := Go.Ground.phase }, { on := 7, ground := Go.Ground.phase }, { on := 8, ground := Go.Ground.phase }, { on := 9, ground := Go.Ground.phase }, { on := 10, ground := Go.Ground.phase }, { on := 11, ground := Go.Ground.phase }], guard := none }) rfl (by kernel_rfl) (by kernel_rfl) (by kernel_rfl) (fun _ _ _ h => h) (Or.inl ⟨by rfl, fun w hw => by (go_simp; try with_reducible rfl)⟩) (by assumption) ?_
                    try simp only [Act.put, List.setIfInBounds_toArray, List.set_cons_zero, List.set_cons_succ]
                    refine wpAnyH_ready (rs := [13]) (by kernel_rfl) (by simp) ?_
                    refine AllReadyH.cons (o := { dst := none, op := Go.Op.store 3 (Go.Operand.tmp 106) (Go.Operand.tmp 104), type := 0, pos := "term.go:123", after := #[{ on := 12, ground := Go.Ground.data }, { on := 9, ground := Go.Ground.data }, { on := 11, ground := Go.Ground.chain }, { on := 0, ground := Go.Ground.phase }, { on := 1, ground := Go.Ground.phase }, { on := 2, ground := Go.Ground.phase }, { on := 3, ground := Go.Ground.phase }, { on := 4, ground := Go.Ground.phase }, { on := 5, ground := Go.Ground.phase }, { on := 6, ground := Go.Ground.phase }, { on := 7, ground := Go.Ground.phase }, { on := 8, ground := Go.Ground.phase }, { on := 9, ground := Go.Ground.phase }, { on := 10, ground := Go.Ground.phase }, { on := 11, ground := Go.Ground.phase }], guard := none }) rfl (fun K hK => ?_) AllReadyH.nil
                    have cc := Ht2b.out
                    have ff := Hft2.out 2
                    go_simp
                    clear cc ff
                    refine hK.out _ _ trivial (fun hH => ?_)
                    clear hK
                    try simp only [Act.put, List.setIfInBounds_toArray, List.set_cons_zero, List.set_cons_succ]
                    refine wpAnyH_done (by kernel_rfl) ?_ _
                    have HZ := Lib.hid (HMd.out.set12 (nuP (Us L) a : Nat) (nuP (Us L) b' : Nat))
                    have Htz := Lib.hid Htz0.out
                    generalize (w0.setCell ⟨N, 1, none⟩ (.int .i64 (nuP (Us L) a : Nat))).setCell ⟨N, 2, none⟩ (.int .i64 (nuP (Us L) b' : Nat)) = wz at *
                    generalize (Term.mk tk.op (nuP (Us L) a : Nat) (nuP (Us L) b' : Nat) tk.val) = tz at *
                    clear Ht1 Ht2 Hna Hnb Hft Ht2b Hft2 HMd Htz0 qa qb
                    obtain ⟨m0, m1, m2, m3⟩ := HZ.out.at4
                    obtain ⟨v9, w9, hrun, hown9, hgrow9, hat9⟩ := run_app1 (P := Try.prog) (w := wz.alloc (.cells #[.int .i64 tz.op, .int .i64 tz.a, .int .i64 tz.b, .int .i64 tz.val] 37)) 22 22 Term.cells 4 32 37 (Term.mk 0 0 0 0).agg Try.underlying22 infoTerm rfl (by decide) termCells_len termCells_one B5 _ ((ndP (Us L) k).map (renU L)) tz (HZ.out.out.alloc _) wz.heap.size 1 (fun j _ => cellT_new wz tz _ _ _ rfl rfl j) (by rw [Hol.out]; unfold maxLen; omega) (by rw [Hol.out]; omega) (by have := HZ.out.gt; have := HZ.out.lt; simp; omega)
                    have HO9 : Hid (OwnT w9 B5 v9 ((ndP (Us L) (k + 1)).map (renU L))) := Lib.hid (by rw [HOe.out, Htz.out]; exact hown9)
                    have HN9 := Lib.hid ((HZ.out.nb.alloc (.cells #[.int .i64 tz.op, .int .i64 tz.a, .int .i64 tz.b, .int .i64 tz.val] 37)).kept hgrow9 (Or.inr (fun e => by have h := (own_lt HZ.out.out _ e.symm).1; have h : B5 ≤ wb.heap.size := h; have := HZ.out.b5; omega)))
                    have HU9 := Lib.hid ((HZ.out.us.alloc (.cells #[.int .i64 tz.op, .int .i64 tz.a, .int .i64 tz.b, .int .i64 tz.val] 37)).kept hgrow9 (Or.inr (fun e => by have h := (own_lt HZ.out.out _ e.symm).1; have h2 := HZ.out.usb g9 rfl; have h : B5 ≤ g9 := h; omega)))
                    have HW9 := Lib.hid ((HZ.out.bel.alloc (by have := HZ.out.lt; have := HZ.out.gt; have := HZ.out.b5; omega) (.cells #[.int .i64 tz.op, .int .i64 tz.a, .int .i64 tz.b, .int .i64 tz.val] 37)).grown hgrow9 (by have := HZ.out.lt; have := HZ.out.gt; have := HZ.out.b5; simp; omega) (fun j hj => by have := (own_lt HZ.out.out j hj).1; have := HZ.out.b5; omega))
                    have HB9 : B5 ≤ w9.heap.size := by have h1 := hgrow9.size; have h2 := HZ.out.lt; have h3 := HZ.out.gt; simp at h1; omega
                    have Hrun := Lib.hid hrun
                    clear hrun hown9 hgrow9 hat9
                    go_wp2_with (at_builtin; refine wpList_app_run rfl 22 _ _ rfl rfl rfl Hrun.out ?_)
                    go_roundw
                    case rel => exact ⟨k + 1, _, by omega, by go_num, by rw [List.length_set]; exact Hnl.out, HN9.out, HU9.out, HPn, ⟨HO9.out, HB9⟩, HW9.out⟩
                    case measure => first | (simp [intOf]; done) | (simp [intOf]; omega)
                  refine AllReadyH.cons (o := { dst := none, op := Go.Op.store 3 (Go.Operand.tmp 105) (Go.Operand.tmp 99), type := 0, pos := "term.go:123", after := #[{ on := 10, ground := Go.Ground.data }, { on := 4, ground := Go.Ground.data }, { on := 0, ground := Go.Ground.phase }, { on := 1, ground := Go.Ground.phase }, { on := 2, ground := Go.Ground.phase }, { on := 3, ground := Go.Ground.phase }, { on := 4, ground := Go.Ground.phase }, { on := 5, ground := Go.Ground.textOnly Go.Departure.lateStores }, { on := 6, ground := Go.Ground.phase }, { on := 7, ground := Go.Ground.phase }, { on := 8, ground := Go.Ground.textOnly Go.Departure.lateStoresUnsure }, { on := 9, ground := Go.Ground.textOnly Go.Departure.lateStoresUnsure }], guard := none }) rfl (fun K hK => ?_) AllReadyH.nil
                  have cc := Ht1.out
                  have ff := Hft.out 1
                  go_simp
                  clear cc ff
                  refine hK.out _ _ trivial (fun hH => ?_)
                  clear hK
                  try simp only [Act.put, List.setIfInBounds_toArray, List.set_cons_zero, List.set_cons_succ]
                  refine wpAnyH_ready (rs := [9]) (by kernel_rfl) (by simp) ?_
                  refine AllReadyH.cons (o := { dst := some 104, op := Go.Op.load 3 (Go.Operand.tmp 103), type := 3, pos := "term.go:123", after := #[{ on := 8, ground := Go.Ground.data }], guard := none }) rfl (fun K hK => ?_) AllReadyH.nil
                  have cc := Hnb.out
                  go_simp
                  clear cc
                  refine hK.out _ _ trivial (fun hH => ?_)
                  clear hK
                  try simp only [Act.put, List.setIfInBounds_toArray, List.set_cons_zero, List.set_cons_succ]
                  refine wpAnyH_take (i := 12) (oi := { dst := some 106, op := Go.Op.fieldAddr 37 (Go.Operand.tmp 13) 2, type := 0, pos := "term.go:123", after := #[{ on := 0, ground := Go.Ground.phase }, { on := 1, ground := Go.Ground.phase }, { on := 2, ground := Go.Ground.phase }, { on := 3, ground := Go.Ground.phase }, { on := 4, ground := Go.Ground.phase }, { on := 5, ground := Go.Ground.phase }, { on := 6, ground := Go.Ground.phase }, { on := 7, ground := Go.Ground.phase }, { on := 8, ground := Go.Ground.phase }, { on := 9, ground := Go.Ground.phase }, { on := 10, ground := Go.Ground.phase }, { on := 11, ground := Go.Ground.phase }], guard := none }) rfl (by kernel_rfl) (by kernel_rfl) (by kernel_rfl) (fun _ _ _ h => h) (Or.inl ⟨by rfl, fun w hw => by (go_simp; try with_reducible rfl)⟩) (by assumption) ?_
                  try simp only [Act.put, List.setIfInBounds_toArray, List.set_cons_zero, List.set_cons_succ]
                  refine wpAnyH_ready (rs := [13]) (by kernel_rfl) (by simp) ?_
                  refine AllReadyH.cons (o := { dst := none, op := Go.Op.store 3 (Go.Operand.tmp 106) (Go.Operand.tmp 104), type := 0, pos := "term.go:123", after := #[{ on := 12, ground := Go.Ground.data }, { on := 9, ground := Go.Ground.data }, { on := 11, ground := Go.Ground.chain }, { on := 0, ground := Go.Ground.phase }, { on := 1, ground := Go.Ground.phase }, { on := 2, ground := Go.Ground.phase }, { on := 3, ground := Go.Ground.phase }, { on := 4, ground := Go.Ground.phase }, { on := 5, ground := Go.Ground.phase }, { on := 6, ground := Go.Ground.phase }, { on := 7, ground := Go.Ground.phase }, { on := 8, ground := Go.Ground.phase }, { on := 9, ground := Go.Ground.phase }, { on := 10, ground := Go.Ground.phase }, { on := 11, ground := Go.Ground.phase }], guard := none }) rfl (fun K hK => ?_) AllReadyH.nil
                  have cc := Ht2b.out
                  have ff := Hft2.out 2
                  go_simp
                  clear cc ff
                  refine hK.out _ _ trivial (fun hH => ?_)
                  clear hK
                  try simp only [Act.put, List.setIfInBounds_toArray, List.set_cons_zero, List.set_cons_succ]
                  refine wpAnyH_done (by kernel_rfl) ?_ _
                  have HZ := Lib.hid (HMd.out.set12 (nuP (Us L) a : Nat) (nuP (Us L) b' : Nat))
                  have Htz := Lib.hid Htz0.out
                  generalize (w0.setCell ⟨N, 1, none⟩ (.int .i64 (nuP (Us L) a : Nat))).setCell ⟨N, 2, none⟩ (.int .i64 (nuP (Us L) b' : Nat)) = wz at *
                  generalize (Term.mk tk.op (nuP (Us L) a : Nat) (nuP (Us L) b' : Nat) tk.val) = tz at *
                  clear Ht1 Ht2 Hna Hnb Hft Ht2b Hft2 HMd Htz0 qa qb
                  obtain ⟨m0, m1, m2, m3⟩ := HZ.out.at4
                  obtain ⟨v9, w9, hrun, hown9, hgrow9, hat9⟩ := run_app1 (P := Try.prog) (w := wz.alloc (.cells #[.int .i64 tz.op, .int .i64 tz.a, .int .i64 tz.b, .int .i64 tz.val] 37)) 22 22 Term.cells 4 32 37 (Term.mk 0 0 0 0).agg Try.underlying22 infoTerm rfl (by decide) termCells_len termCells_one B5 _ ((ndP (Us L) k).map (renU L)) tz (HZ.out.out.alloc _) wz.heap.size 1 (fun j _ => cellT_new wz tz _ _ _ rfl rfl j) (by rw [Hol.out]; unfold maxLen; omega) (by rw [Hol.out]; omega) (by have := HZ.out.gt; have := HZ.out.lt; simp; omega)
                  have HO9 : Hid (OwnT w9 B5 v9 ((ndP (Us L) (k + 1)).map (renU L))) := Lib.hid (by rw [HOe.out, Htz.out]; exact hown9)
                  have HN9 := Lib.hid ((HZ.out.nb.alloc (.cells #[.int .i64 tz.op, .int .i64 tz.a, .int .i64 tz.b, .int .i64 tz.val] 37)).kept hgrow9 (Or.inr (fun e => by have h := (own_lt HZ.out.out _ e.symm).1; have h : B5 ≤ wb.heap.size := h; have := HZ.out.b5; omega)))
                  have HU9 := Lib.hid ((HZ.out.us.alloc (.cells #[.int .i64 tz.op, .int .i64 tz.a, .int .i64 tz.b, .int .i64 tz.val] 37)).kept hgrow9 (Or.inr (fun e => by have h := (own_lt HZ.out.out _ e.symm).1; have h2 := HZ.out.usb g9 rfl; have h : B5 ≤ g9 := h; omega)))
                  have HW9 := Lib.hid ((HZ.out.bel.alloc (by have := HZ.out.lt; have := HZ.out.gt; have := HZ.out.b5; omega) (.cells #[.int .i64 tz.op, .int .i64 tz.a, .int .i64 tz.b, .int .i64 tz.val] 37)).grown hgrow9 (by have := HZ.out.lt; have := HZ.out.gt; have := HZ.out.b5; simp; omega) (fun j hj => by have := (own_lt HZ.out.out j hj).1; have := HZ.out.b5; omega))
                  have HB9 : B5 ≤ w9.heap.size := by have h1 := hgrow9.size; have h2 := HZ.out.lt; have h3 := HZ.out.gt; simp at h1; omega
                  have Hrun := Lib.hid hrun
                  clear hrun hown9 hgrow9 hat9
                  go_wp2_with (at_builtin; refine wpList_app_run rfl 22 _ _ rfl rfl rfl Hrun.out ?_)
                  go_roundw
                  case rel => exact ⟨k + 1, _, by omega, by go_num, by rw [List.length_set]; exact Hnl.out, HN9.out, HU9.out, HPn, ⟨HO9.out, HB9⟩, HW9.out⟩
                  case measure => first | (simp [intOf]; done) | (simp [intOf]; omega)
                refine AllReadyH.cons (o := { dst := some 104, op := Go.Op.load 3 (Go.Operand.tmp 103), type := 3, pos := "term.go:123", after := #[{ on := 8, ground := Go.Ground.data }], guard := none }) rfl (fun K hK => ?_) AllReadyH.nil
                have cc := Hnb.out
                go_simp
                clear cc
                refine hK.out _ _ trivial (fun hH => ?_)
                clear hK
                try simp only [Act.put, List.setIfInBounds_toArray, List.set_cons_zero, List.set_cons_succ]
                refine wpAnyH_ready (rs := [4]) (by kernel_rfl) (by simp) ?_
                refine AllReadyH.cons (o := { dst := some 99, op := Go.Op.load 3 (Go.Operand.tmp 98), type := 3, pos := "term.go:123", after := #[{ on := 3, ground := Go.Ground.data }], guard := none }) rfl (fun K hK => ?_) AllReadyH.nil
                have cc := Hna.out
                go_simp
                clear cc
                refine hK.out _ _ trivial (fun hH => ?_)
                clear hK
                try simp only [Act.put, List.setIfInBounds_toArray, List.set_cons_zero, List.set_cons_succ]
                refine wpAnyH_take (i := 10) (oi := { dst := some 105, op := Go.Op.fieldAddr 37 (Go.Operand.tmp 13) 1, type := 0, pos := "term.go:123", after := #[{ on := 0, ground := Go.Ground.phase }, { on := 1, ground := Go.Ground.phase }, { on := 2, ground := Go.Ground.phase }, { on := 3, ground := Go.Ground.phase }, { on := 4, ground := Go.Ground.phase }, { on := 5, ground := Go.Ground.textOnly Go.Departure.lateStores }, { on := 6, ground := Go.Ground.phase }, { on := 7, ground := Go.Ground.phase }, { on := 8, ground := Go.Ground.textOnly Go.Departure.lateStoresUnsure }, { on := 9, ground := Go.Ground.textOnly Go.Departure.lateStoresUnsure }], guard := none }) rfl (by kernel_rfl) (by kernel_rfl) (by kernel_rfl) (fun _ _ _ h => h) (Or.inl ⟨by rfl, fun w hw => by (go_simp; try with_reducible rfl)⟩) (by assumption) ?_
                try simp only [Act.put, List.setIfInBounds_toArray, List.set_cons_zero, List.set_cons_succ]
                refine wpAnyH_ready (rs := [11]) (by kernel_rfl) (by simp) ?_
                refine AllReadyH.cons (o := { dst := none, op := Go.Op.store 3 (Go.Operand.tmp 105) (Go.Operand.tmp 99), type := 0, pos := "term.go:123", after := #[{ on := 10, ground := Go.Ground.data }, { on := 4, ground := Go.Ground.data }, { on := 0, ground := Go.Ground.phase }, { on := 1, ground := Go.Ground.phase }, { on := 2, ground := Go.Ground.phase }, { on := 3, ground := Go.Ground.phase }, { on := 4, ground := Go.Ground.phase }, { on := 5, ground := Go.Ground.textOnly Go.Departure.lateStores }, { on := 6, ground := Go.Ground.phase }, { on := 7, ground := Go.Ground.phase }, { on := 8, ground := Go.Ground.textOnly Go.Departure.lateStoresUnsure }, { on := 9, ground := Go.Ground.textOnly Go.Departure.lateStoresUnsure }], guard := none }) rfl (fun K hK => ?_) AllReadyH.nil
                have cc := Ht1.out
                have ff := Hft.out 1
                go_simp
                clear cc ff
                refine hK.out _ _ trivial (fun hH => ?_)
                clear hK
                try simp only [Act.put, List.setIfInBounds_toArray, List.set_cons_zero, List.set_cons_succ]
                refine wpAnyH_take (i := 12) (oi := { dst := some 106, op := Go.Op.fieldAddr 37 (Go.Operand.tmp 13) 2, type := 0, pos := "term.go:123", after := #[{ on := 0, ground := Go.Ground.phase }, { on := 1, ground := Go.Ground.phase }, { on := 2, ground := Go.Ground.phase }, { on := 3, ground := Go.Ground.phase }, { on := 4, ground := Go.Ground.phase }, { on := 5, ground := Go.Ground.phase }, { on := 6, ground := Go.Ground.phase }, { on := 7, ground := Go.Ground.phase }, { on := 8, ground := Go.Ground.phase }, { on := 9, ground := Go.Ground.phase }, { on := 10, ground := Go.Ground.phase }, { on := 11, ground := Go.Ground.phase }], guard := none }) rfl (by kernel_rfl) (by kernel_rfl) (by kernel_rfl) (fun _ _ _ h => h) (Or.inl ⟨by rfl, fun w hw => by (go_simp; try with_reducible rfl)⟩) (by assumption) ?_
                try simp only [Act.put, List.setIfInBounds_toArray, List.set_cons_zero, List.set_cons_succ]
                refine wpAnyH_ready (rs := [13]) (by kernel_rfl) (by simp) ?_
                refine AllReadyH.cons (o := { dst := none, op := Go.Op.store 3 (Go.Operand.tmp 106) (Go.Operand.tmp 104), type := 0, pos := "term.go:123", after := #[{ on := 12, ground := Go.Ground.data }, { on := 9, ground := Go.Ground.data }, { on := 11, ground := Go.Ground.chain }, { on := 0, ground := Go.Ground.phase }, { on := 1, ground := Go.Ground.phase }, { on := 2, ground := Go.Ground.phase }, { on := 3, ground := Go.Ground.phase }, { on := 4, ground := Go.Ground.phase }, { on := 5, ground := Go.Ground.phase }, { on := 6, ground := Go.Ground.phase }, { on := 7, ground := Go.Ground.phase }, { on := 8, ground := Go.Ground.phase }, { on := 9, ground := Go.Ground.phase }, { on := 10, ground := Go.Ground.phase }, { on := 11, ground := Go.Ground.phase }], guard := none }) rfl (fun K hK => ?_) AllReadyH.nil
                have cc := Ht2b.out
                have ff := Hft2.out 2
                go_simp
                clear cc ff
                refine hK.out _ _ trivial (fun hH => ?_)
                clear hK
                try simp only [Act.put, List.setIfInBounds_toArray, List.set_cons_zero, List.set_cons_succ]
                refine wpAnyH_done (by kernel_rfl) ?_ _
                have HZ := Lib.hid (HMd.out.set12 (nuP (Us L) a : Nat) (nuP (Us L) b' : Nat))
                have Htz := Lib.hid Htz0.out
                generalize (w0.setCell ⟨N, 1, none⟩ (.int .i64 (nuP (Us L) a : Nat))).setCell ⟨N, 2, none⟩ (.int .i64 (nuP (Us L) b' : Nat)) = wz at *
                generalize (Term.mk tk.op (nuP (Us L) a : Nat) (nuP (Us L) b' : Nat) tk.val) = tz at *
                clear Ht1 Ht2 Hna Hnb Hft Ht2b Hft2 HMd Htz0 qa qb
                obtain ⟨m0, m1, m2, m3⟩ := HZ.out.at4
                obtain ⟨v9, w9, hrun, hown9, hgrow9, hat9⟩ := run_app1 (P := Try.prog) (w := wz.alloc (.cells #[.int .i64 tz.op, .int .i64 tz.a, .int .i64 tz.b, .int .i64 tz.val] 37)) 22 22 Term.cells 4 32 37 (Term.mk 0 0 0 0).agg Try.underlying22 infoTerm rfl (by decide) termCells_len termCells_one B5 _ ((ndP (Us L) k).map (renU L)) tz (HZ.out.out.alloc _) wz.heap.size 1 (fun j _ => cellT_new wz tz _ _ _ rfl rfl j) (by rw [Hol.out]; unfold maxLen; omega) (by rw [Hol.out]; omega) (by have := HZ.out.gt; have := HZ.out.lt; simp; omega)
                have HO9 : Hid (OwnT w9 B5 v9 ((ndP (Us L) (k + 1)).map (renU L))) := Lib.hid (by rw [HOe.out, Htz.out]; exact hown9)
                have HN9 := Lib.hid ((HZ.out.nb.alloc (.cells #[.int .i64 tz.op, .int .i64 tz.a, .int .i64 tz.b, .int .i64 tz.val] 37)).kept hgrow9 (Or.inr (fun e => by have h := (own_lt HZ.out.out _ e.symm).1; have h : B5 ≤ wb.heap.size := h; have := HZ.out.b5; omega)))
                have HU9 := Lib.hid ((HZ.out.us.alloc (.cells #[.int .i64 tz.op, .int .i64 tz.a, .int .i64 tz.b, .int .i64 tz.val] 37)).kept hgrow9 (Or.inr (fun e => by have h := (own_lt HZ.out.out _ e.symm).1; have h2 := HZ.out.usb g9 rfl; have h : B5 ≤ g9 := h; omega)))
                have HW9 := Lib.hid ((HZ.out.bel.alloc (by have := HZ.out.lt; have := HZ.out.gt; have := HZ.out.b5; omega) (.cells #[.int .i64 tz.op, .int .i64 tz.a, .int .i64 tz.b, .int .i64 tz.val] 37)).grown hgrow9 (by have := HZ.out.lt; have := HZ.out.gt; have := HZ.out.b5; simp; omega) (fun j hj => by have := (own_lt HZ.out.out j hj).1; have := HZ.out.b5; omega))
                have HB9 : B5 ≤ w9.heap.size := by have h1 := hgrow9.size; have h2 := HZ.out.lt; have h3 := HZ.out.gt; simp at h1; omega
                have Hrun := Lib.hid hrun
                clear hrun hown9 hgrow9 hat9
                go_wp2_with (at_builtin; refine wpList_app_run rfl 22 _ _ rfl rfl rfl Hrun.out ?_)
                go_roundw
                case rel => exact ⟨k + 1, _, by omega, by go_num, by rw [List.length_set]; exact Hnl.out, HN9.out, HU9.out, HPn, ⟨HO9.out, HB9⟩, HW9.out⟩
                case measure => first | (simp [intOf]; done) | (simp [intOf]; omega)
              refine AllReadyH.cons (o := { dst := some 104, op := Go.Op.load 3 (Go.Operand.tmp 103), type := 3, pos := "term.go:123", after := #[{ on := 8, ground := Go.Ground.data }], guard := none }) rfl (fun K hK => ?_) AllReadyH.nil
              have cc := Hnb.out
              go_simp
              clear cc
              refine hK.out _ _ trivial (fun hH => ?_)
              clear hK
              try simp only [Act.put, List.setIfInBounds_toArray, List.set_cons_zero, List.set_cons_succ]
              refine wpAnyH_ready (rs := [2]) (by kernel_rfl) (by simp) ?_
              refine AllReadyH.cons (o := { dst := some 97, op := Go.Op.load 3 (Go.Operand.tmp 96), type := 3, pos := "term.go:123", after := #[{ on := 1, ground := Go.Ground.data }], guard := none }) rfl (fun K hK => ?_) AllReadyH.nil
              have cc := Ht1.out
              go_simp
              clear cc
              refine hK.out _ _ trivial (fun hH => ?_)
              clear hK
              try simp only [Act.put, List.setIfInBounds_toArray, List.set_cons_zero, List.set_cons_succ]
              refine wpAnyH_take (i := 3) (oi := { dst := some 98, op := Go.Op.indexAddr 23 (Go.Operand.tmp 95) (Go.Operand.tmp 97), type := 0, pos := "term.go:123", after := #[{ on := 0, ground := Go.Ground.data }, { on := 2, ground := Go.Ground.data }], guard := none }) rfl (by kernel_rfl) (by kernel_rfl) (by kernel_rfl) (fun _ _ _ h => h) (Or.inl ⟨by rfl, fun w hw => by (go_simp; try with_reducible rfl)⟩) (by assumption) ?_
              try simp only [Act.put, List.setIfInBounds_toArray, List.set_cons_zero, List.set_cons_succ]
              refine wpAnyH_ready (rs := [4]) (by kernel_rfl) (by simp) ?_
              refine AllReadyH.cons (o := { dst := some 99, op := Go.Op.load 3 (Go.Operand.tmp 98), type := 3, pos := "term.go:123", after := #[{ on := 3, ground := Go.Ground.data }], guard := none }) rfl (fun K hK => ?_) AllReadyH.nil
              have cc := Hna.out
              go_simp
              clear cc
              refine hK.out _ _ trivial (fun hH => ?_)
              clear hK
              try simp only [Act.put, List.setIfInBounds_toArray, List.set_cons_zero, List.set_cons_succ]
              refine wpAnyH_take (i := 10) (oi := { dst := some 105, op := Go.Op.fieldAddr 37 (Go.Operand.tmp 13) 1, type := 0, pos := "term.go:123", after := #[{ on := 0, ground := Go.Ground.phase }, { on := 1, ground := Go.Ground.phase }, { on := 2, ground := Go.Ground.phase }, { on := 3, ground := Go.Ground.phase }, { on := 4, ground := Go.Ground.phase }, { on := 5, ground := Go.Ground.textOnly Go.Departure.lateStores }, { on := 6, ground := Go.Ground.phase }, { on := 7, ground := Go.Ground.phase }, { on := 8, ground := Go.Ground.textOnly Go.Departure.lateStoresUnsure }, { on := 9, ground := Go.Ground.textOnly Go.Departure.lateStoresUnsure }], guard := none }) rfl (by kernel_rfl) (by kernel_rfl) (by kernel_rfl) (fun _ _ _ h => h) (Or.inl ⟨by rfl, fun w hw => by (go_simp; try with_reducible rfl)⟩) (by assumption) ?_
              try simp only [Act.put, List.setIfInBounds_toArray, List.set_cons_zero, List.set_cons_succ]
              refine wpAnyH_ready (rs := [11]) (by kernel_rfl) (by simp) ?_
              refine AllReadyH.cons (o := { dst := none, op := Go.Op.store 3 (Go.Operand.tmp 105) (Go.Operand.tmp 99), type := 0, pos := "term.go:123", after := #[{ on := 10, ground := Go.Ground.data }, { on := 4, ground := Go.Ground.data }, { on := 0, ground := Go.Ground.phase }, { on := 1, ground := Go.Ground.phase }, { on := 2, ground := Go.Ground.phase }, { on := 3, ground := Go.Ground.phase }, { on := 4, ground := Go.Ground.phase }, { on := 5, ground := Go.Ground.textOnly Go.Departure.lateStores }, { on := 6, ground := Go.Ground.phase }, { on := 7, ground := Go.Ground.phase }, { on := 8, ground := Go.Ground.textOnly Go.Departure.lateStoresUnsure }, { on := 9, ground := Go.Ground.textOnly Go.Departure.lateStoresUnsure }], guard := none }) rfl (fun K hK => ?_) AllReadyH.nil
              have cc := Ht1.out
              have ff := Hft.out 1
              go_simp
              clear cc ff
              refine hK.out _ _ trivial (fun hH => ?_)
              clear hK
              try simp only [Act.put, List.setIfInBounds_toArray, List.set_cons_zero, List.set_cons_succ]
              refine wpAnyH_take (i := 12) (oi := { dst := some 106, op := Go.Op.fieldAddr 37 (Go.Operand.tmp 13) 2, type := 0, pos := "term.go:123", after := #[{ on := 0, ground := Go.Ground.phase }, { on := 1, ground := Go.Ground.phase }, { on := 2, ground := Go.Ground.phase }, { on := 3, ground := Go.Ground.phase }, { on := 4, ground := Go.Ground.phase }, { on := 5, ground := Go.Ground.phase }, { on := 6, ground := Go.Ground.phase }, { on := 7, ground := Go.Ground.phase }, { on := 8, ground := Go.Ground.phase }, { on := 9, ground := Go.Ground.phase }, { on := 10, ground := Go.Ground.phase }, { on := 11, ground := Go.Ground.phase }], guard := none }) rfl (by kernel_rfl) (by kernel_rfl) (by kernel_rfl) (fun _ _ _ h => h) (Or.inl ⟨by rfl, fun w hw => by (go_simp; try with_reducible rfl)⟩) (by assumption) ?_
              try simp only [Act.put, List.setIfInBounds_toArray, List.set_cons_zero, List.set_cons_succ]
              refine wpAnyH_ready (rs := [13]) (by kernel_rfl) (by simp) ?_
              refine AllReadyH.cons (o := { dst := none, op := Go.Op.store 3 (Go.Operand.tmp 106) (Go.Operand.tmp 104), type := 0, pos := "term.go:123", after := #[{ on := 12, ground := Go.Ground.data }, { on := 9, ground := Go.Ground.data }, { on := 11, ground := Go.Ground.chain }, { on := 0, ground := Go.Ground.phase }, { on := 1, ground := Go.Ground.phase }, { on := 2, ground := Go.Ground.phase }, { on := 3, ground := Go.Ground.phase }, { on := 4, ground := Go.Ground.phase }, { on := 5, ground := Go.Ground.phase }, { on := 6, ground := Go.Ground.phase }, { on := 7, ground := Go.Ground.phase }, { on := 8, ground := Go.Ground.phase }, { on := 9, ground := Go.Ground.phase }, { on := 10, ground := Go.Ground.phase }, { on := 11, ground := Go.Ground.phase }], guard := none }) rfl (fun K hK => ?_) AllReadyH.nil
              have cc := Ht2b.out
              have ff := Hft2.out 2
              go_simp
              clear cc ff
              refine hK.out _ _ trivial (fun hH => ?_)
              clear hK
              try simp only [Act.put, List.setIfInBounds_toArray, List.set_cons_zero, List.set_cons_succ]
              refine wpAnyH_done (by kernel_rfl) ?_ _
              have HZ := Lib.hid (HMd.out.set12 (nuP (Us L) a : Nat) (nuP (Us L) b' : Nat))
              have Htz := Lib.hid Htz0.out
              generalize (w0.setCell ⟨N, 1, none⟩ (.int .i64 (nuP (Us L) a : Nat))).setCell ⟨N, 2, none⟩ (.int .i64 (nuP (Us L) b' : Nat)) = wz at *
              generalize (Term.mk tk.op (nuP (Us L) a : Nat) (nuP (Us L) b' : Nat) tk.val) = tz at *
              clear Ht1 Ht2 Hna Hnb Hft Ht2b Hft2 HMd Htz0 qa qb
              obtain ⟨m0, m1, m2, m3⟩ := HZ.out.at4
              obtain ⟨v9, w9, hrun, hown9, hgrow9, hat9⟩ := run_app1 (P := Try.prog) (w := wz.alloc (.cells #[.int .i64 tz.op, .int .i64 tz.a, .int .i64 tz.b, .int .i64 tz.val] 37)) 22 22 Term.cells 4 32 37 (Term.mk 0 0 0 0).agg Try.underlying22 infoTerm rfl (by decide) termCells_len termCells_one B5 _ ((ndP (Us L) k).map (renU L)) tz (HZ.out.out.alloc _) wz.heap.size 1 (fun j _ => cellT_new wz tz _ _ _ rfl rfl j) (by rw [Hol.out]; unfold maxLen; omega) (by rw [Hol.out]; omega) (by have := HZ.out.gt; have := HZ.out.lt; simp; omega)
              have HO9 : Hid (OwnT w9 B5 v9 ((ndP (Us L) (k + 1)).map (renU L))) := Lib.hid (by rw [HOe.out, Htz.out]; exact hown9)
              have HN9 := Lib.hid ((HZ.out.nb.alloc (.cells #[.int .i64 tz.op, .int .i64 tz.a, .int .i64 tz.b, .int .i64 tz.val] 37)).kept hgrow9 (Or.inr (fun e => by have h := (own_lt HZ.out.out _ e.symm).1; have h : B5 ≤ wb.heap.size := h; have := HZ.out.b5; omega)))
              have HU9 := Lib.hid ((HZ.out.us.alloc (.cells #[.int .i64 tz.op, .int .i64 tz.a, .int .i64 tz.b, .int .i64 tz.val] 37)).kept hgrow9 (Or.inr (fun e => by have h := (own_lt HZ.out.out _ e.symm).1; have h2 := HZ.out.usb g9 rfl; have h : B5 ≤ g9 := h; omega)))
              have HW9 := Lib.hid ((HZ.out.bel.alloc (by have := HZ.out.lt; have := HZ.out.gt; have := HZ.out.b5; omega) (.cells #[.int .i64 tz.op, .int .i64 tz.a, .int .i64 tz.b, .int .i64 tz.val] 37)).grown hgrow9 (by have := HZ.out.lt; have := HZ.out.gt; have := HZ.out.b5; simp; omega) (fun j hj => by have := (own_lt HZ.out.out j hj).1; have := HZ.out.b5; omega))
              have HB9 : B5 ≤ w9.heap.size := by have h1 := hgrow9.size; have h2 := HZ.out.lt; have h3 := HZ.out.gt; simp at h1; omega
              have Hrun := Lib.hid hrun
              clear hrun hown9 hgrow9 hat9
              go_wp2_with (at_builtin; refine wpList_app_run rfl 22 _ _ rfl rfl rfl Hrun.out ?_)
              go_roundw
              case rel => exact ⟨k + 1, _, by omega, by go_num, by rw [List.length_set]; exact Hnl.out, HN9.out, HU9.out, HPn, ⟨HO9.out, HB9⟩, HW9.out⟩
              case measure => first | (simp [intOf]; done) | (simp [intOf]; omega)
            · have Htz := Lib.hid (Hrenl.out h2)
              have hd : decide (2 < tk.op) = false := decide_eq_false h2
              rw [hd]
              obtain ⟨wz, rfl⟩ : ∃ wz : World, wz = wt := ⟨_, rfl⟩
              have HZ := HM0
              clear h2 hd Hnode HM0 Hren Hca Hcb Hrenl
              generalize tk = tz at *
              obtain ⟨m0, m1, m2, m3⟩ := HZ.out.at4
              obtain ⟨v9, w9, hrun, hown9, hgrow9, hat9⟩ := run_app1 (P := Try.prog) (w := wz.alloc (.cells #[.int .i64 tz.op, .int .i64 tz.a, .int .i64 tz.b, .int .i64 tz.val] 37)) 22 22 Term.cells 4 32 37 (Term.mk 0 0 0 0).agg Try.underlying22 infoTerm rfl (by decide) termCells_len termCells_one B5 _ ((ndP (Us L) k).map (renU L)) tz (HZ.out.out.alloc _) wz.heap.size 1 (fun j _ => cellT_new wz tz _ _ _ rfl rfl j) (by rw [Hol.out]; unfold maxLen; omega) (by rw [Hol.out]; omega) (by have := HZ.out.gt; have := HZ.out.lt; simp; omega)
              have HO9 : Hid (OwnT w9 B5 v9 ((ndP (Us L) (k + 1)).map (renU L))) := Lib.hid (by rw [HOe.out, Htz.out]; exact hown9)
              have HN9 := Lib.hid ((HZ.out.nb.alloc (.cells #[.int .i64 tz.op, .int .i64 tz.a, .int .i64 tz.b, .int .i64 tz.val] 37)).kept hgrow9 (Or.inr (fun e => by have h := (own_lt HZ.out.out _ e.symm).1; have h : B5 ≤ wb.heap.size := h; have := HZ.out.b5; omega)))
              have HU9 := Lib.hid ((HZ.out.us.alloc (.cells #[.int .i64 tz.op, .int .i64 tz.a, .int .i64 tz.b, .int .i64 tz.val] 37)).kept hgrow9 (Or.inr (fun e => by have h := (own_lt HZ.out.out _ e.symm).1; have h2 := HZ.out.usb g9 rfl; have h : B5 ≤ g9 := h; omega)))
              have HW9 := Lib.hid ((HZ.out.bel.alloc (by have := HZ.out.lt; have := HZ.out.gt; have := HZ.out.b5; omega) (.cells #[.int .i64 tz.op, .int .i64 tz.a, .int .i64 tz.b, .int .i64 tz.val] 37)).grown hgrow9 (by have := HZ.out.lt; have := HZ.out.gt; have := HZ.out.b5; simp; omega) (fun j hj => by have := (own_lt HZ.out.out j hj).1; have := HZ.out.b5; omega))
              have HB9 : B5 ≤ w9.heap.size := by have h1 := hgrow9.size; have h2 := HZ.out.lt; have h3 := HZ.out.gt; simp at h1; omega
              have Hrun := Lib.hid hrun
              clear hrun hown9 hgrow9 hat9
              go_wp2_with (at_builtin; refine wpList_app_run rfl 22 _ _ rfl rfl rfl Hrun.out ?_)
              go_roundw
              case rel => exact ⟨k + 1, _, by omega, by go_num, by rw [List.length_set]; exact Hnl.out, HN9.out, HU9.out, HPn, ⟨HO9.out, HB9⟩, HW9.out⟩
              case measure => first | (simp [intOf]; done) | (simp [intOf]; omega)
        · have : k = l.length := by omega
          subst this
          have HF : Hid (OwnT wr B5 u10 (foldedL l)) := Lib.hid (by rw [HfL.out]; unfold trimU; rw [HLl.out]; exact HOut.out)
          have HZ := Lib.hid (HW.out.trans (HWr.out.mono hwb1))
          clear hnb hout hW' huu
          go_wp2
          go_ret2
          exact ⟨_, rfl, HF.out.base_ (Nat.le_trans hwb1 (Nat.le_of_lt hB5')), HZ.out⟩
end Go.Proofs.Ytmglhppfdhphbaa
