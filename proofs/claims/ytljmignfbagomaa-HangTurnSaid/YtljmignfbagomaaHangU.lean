/- HangTurn walked. -/
import Derived.Test.YtljmignfbagomaaHangT
import Derived.Deep.RegionHeld3
import Derived.Deep.CutRange
import Derived.Deep.DeepCutAuto
namespace Go.Proofs.Ytljmignfbagomaa
open Go.RowKit

/-- A box that holds a number. -/
def Box (w : World) (N : Nat) (E : Int) : Prop := w.heap[N]? = some (.cells #[Value.int .i64 E] 3 (0, 0))
theorem Box.new (w : World) (E : Int) : Box (w.alloc (.cells #[Value.int .i64 E] 3)) w.heap.size E := heap_alloc_new w _
theorem Box.cell {w : World} {N : Nat} {E : Int} (h : Box w N E) : w.cell? ⟨N, 0, none⟩ = some (.int .i64 E) := by
  rw [cell_of_row w N 0 _ _ _ h]; rfl
theorem Box.fz {w : World} {N : Nat} {E : Int} (h : Box w N E) : w.frozen? ⟨N, 0, none⟩ = false := by
  unfold Box at h
  simp [World.frozen?, h]
theorem Box.lt {w : World} {N : Nat} {E : Int} (h : Box w N E) : N < w.heap.size := (Array.getElem?_eq_some_iff.1 h).1
theorem Box.set {w : World} {N : Nat} {E : Int} (h : Box w N E) (F : Int) : Box (w.setCell ⟨N, 0, none⟩ (.int .i64 F)) N F := by
  obtain ⟨hlt, hv⟩ := Array.getElem?_eq_some_iff.1 h
  unfold Box World.setCell
  rw [Array.getElem?_eq_getElem (by simpa using hlt), Array.getElem_modify]
  simp [hv]
theorem Box.below {w w' : World} {N : Nat} {E : Int} (h : Box w N E) (hb : Below w.heap.size w w') : Box w' N E := (hb.block N h.lt).trans h
set_option maxHeartbeats 4000000 in
theorem hangTurn_bad (A : Option Addr) (ls : List (List Int)) (cap : Nat) (w : World) (hA : RdN w A ls) (hm : ls.length ≤ maxLen) (h0 : wayErr ls ≠ 0) :
    Calls Try.prog 7 #[.slice A ls.length cap] w fun e w' => e = .returned (.bool true) ∧ Below w.heap.size w w' := by
  have HA := Lib.hid hA; clear hA
  have hd : (wayErr ls != 0) = true := by simpa using h0
  have hd2 : (wayErr ls == 0) = false := by simpa using h0
  have H0 := Lib.hid h0
  clear h0
  go_enter Try.func7, Try.ntmps7
  go_wp2_with (first
    | (go_at_call 23; refine (last_bad _ _ _ _ HA.out hm H0.out).mono ?_; rintro e w1 ⟨rfl, hW⟩; have HW := Lib.hid hW; clear hW)
    | (go_at_call 18; refine (may_calls _ _ _ _ (RdN.below HA.out HW.out) hm).mono ?_; rintro e w3 ⟨rfl, rfl⟩; rw [hd2]))
  go_ret
  exact ⟨rfl, HW.out⟩
set_option maxRecDepth 100000 in
set_option maxHeartbeats 8000000 in
theorem hangTurn_ok (A : Option Addr) (ls : List (List Int)) (cap : Nat) (w : World) (hA : RdN w A ls) (h0 : wayErr ls = 0) :
    Calls Try.prog 7 #[.slice A ls.length cap] w fun e w' => e = .returned (.bool true) ∧ Below w.heap.size w w' := by
  obtain ⟨h1, h8, hv⟩ := valid_of h0
  have HA := Lib.hid hA; clear hA
  have HV := Lib.hid hv; clear hv
  have H0 := Lib.hid h0
  have hd2 : (wayErr ls == 0) = true := by simpa using h0
  clear h0
  have Hlen := Lib.hid (lastL_len ls)
  go_enter Try.func7, Try.ntmps7
  go_wp2_with (first
    | (go_at_call 23; refine (last_ok _ _ _ _ HA.out H0.out).mono ?_
       rintro e w1 ⟨v, rfl, hown, hW⟩
       obtain ⟨gL, capL, rfl, hgL, hgL2, hcL, _, hcells⟩ := OwnU.at_ hown (by rw [Hlen.out]; omega)
       rw [Hlen.out]
       have HC := Lib.hid hcells
       have HW := Lib.hid hW
       clear hW hown hcells)
    | (go_at_call 18; refine (may_calls _ _ _ _ (RdN.below HA.out HW.out) (by unfold maxLen; omega)).mono ?_; rintro e w3 ⟨rfl, rfl⟩; rw [hd2]))
  obtain ⟨wp, rfl⟩ : ∃ wp : World, wp = w3 := ⟨_, rfl⟩
  have hwp := HW.out.size
  have HX0 := Lib.hid (Box.new wp (-1))
  have HB0 := Lib.hid ((Below.refl wp.heap.size wp).alloc (Nat.le_refl _) (.cells #[Value.int .i64 (-1)] 3))
  go_loopw [39] (fun i wr => ∃ (k : Nat) (E : Int), k ≤ ls.length ∧ i = .int .i64 k ∧ Hid (Box wr wp.heap.size E) ∧ Hid (OneEnd ls k E) ∧ Below wp.heap.size wp wr) (fun i _ => ls.length - (intOf i).toNat)
  case atStart => exact ⟨0, -1, Nat.zero_le _, rfl, HX0, OneEnd.first ls, HB0.out⟩
  case round =>
    clear HX0 HB0
    obtain ⟨k, E, hk, rfl, HX, hO, hWr⟩ := hrel
    have hcE := HX.out.cell
    have hfE := HX.out.fz
    have hbox := HX.out.lt
    have HWr := Lib.hid hWr
    have HWw := Lib.hid (HW.out.trans (hWr.mono hwp))
    by_cases hlt : k < ls.length
    · obtain ⟨b2, off2, A2, cap2, rfl, hb2, c2, hR⟩ := RdN.at_ (RdN.below HA.out HWw.out) hlt
      have hl := Lib.hid (List.getElem?_eq_getElem hlt)
      have hl3 := (HV.out _ (List.getElem_mem hlt)).1
      clear hR hWr
      generalize ls[k] = l at *
      by_cases hz : l.length = 0
      · have q1 : ((l.length : Int) == 0) = true := by rw [hz]; rfl
        have Hz := Lib.hid (show ls[k]? = some [] from by rw [hl.out, List.length_eq_zero_iff.1 hz])
        clear hz
        by_cases hE : 0 ≤ E
        · go_wp2
          go_ret
          exact ⟨rfl, HWw.out⟩
        · have Hp := Lib.hid (hO.out.push (by omega) Hz.out)
          go_wp2
          go_roundw
          case rel => exact ⟨k + 1, k, by omega, by go_num, HX.out.set k, Hp, HWr.out.setCell (Nat.le_refl _) _⟩
          case measure => simp [intOf]; omega
      · have q1 : ((l.length : Int) == 0) = false := by simpa using hz
        have Hp := Lib.hid (hO.out.skip (by rw [hl.out]; intro h; injection h with h; exact hz (by rw [h]; rfl)))
        clear hz
        go_wp2
        go_roundw
        case rel => exact ⟨k + 1, E, by omega, by go_num, HX, Hp, HWr.out⟩
        case measure => simp [intOf]; omega
    · have : k = ls.length := by omega
      subst this
      by_cases hE : E < 0
      · go_wp2
        go_ret
        exact ⟨rfl, HWw.out⟩
      · -- behind the first loop
        obtain ⟨e, rfl, he, hend, honly⟩ : ∃ e : Nat, E = e ∧ e < ls.length ∧ ls[e]? = some [] ∧ ∀ i, i < ls.length → ls[i]? = some [] → i = e := by
          rcases hO.out with ⟨h1, _⟩ | ⟨e, h1, h2, h3, h4⟩
          · omega
          · exact ⟨e, h1, h2, h3, h4⟩
        have Hend := Lib.hid hend
        have Honly : Hid (∀ i, ls[i]? = some [] → i = e) := fun i h => honly i (List.getElem?_eq_some_iff.1 h).1 h
        have HCw := Lib.hid (fun i (hi : i < ls.length) => HWr.out.cell (p := ⟨gL, i, none⟩) (by show gL < wp.heap.size; omega))
        clear hE honly hend hO hWr
        obtain ⟨wq, rfl⟩ : ∃ wq : World, wq = wr := ⟨_, rfl⟩
        go_wp2_with (first
          | (at_make; refine wpList_makeN rfl _ _ rfl wq.heap.size ls.length rfl rfl (by omega) (Nat.le_refl _) ?_; intro wm hown hgrow
             have hmq := hgrow.size
             have HMk := Lib.hid hown
             have HWm := Lib.hid (HWr.out.grown hgrow HWr.out.size (fun k hk => by cases hk))
             have HXm := Lib.hid (HX.out.below ((Below.refl _ _).grown hgrow (Nat.le_refl _) (fun k hk => by cases hk)))
             clear hown hgrow)
          | (go_at_call 20; refine (turned_far _ ls _ _ (RdN.below HA.out (HW.out.trans (HWm.out.mono hwp))) h1 h8 (fun l hl => by have := (HV.out l hl).1; omega)).mono ?_
             rintro x wt ⟨Bt, rfl, hT, hWt⟩
             have HT := Lib.hid hT
             have HWt := Lib.hid hWt
             clear hT hWt))
        have hbm : wq.heap.size < wm.heap.size := by
          obtain ⟨g, eg, _, hlt, _⟩ := OwnV.at2 HMk.out (by simp; omega)
          injection eg with eg; injection eg with eg
          omega
        have hmt := HWt.out.size
        have HLs := Lib.hid (OwnLL.made (B := wt.heap.size) (Own.below HMk.out HWt.out) (by omega) (by omega))
        have HXt := Lib.hid (Box.below HXm.out (HWt.out.mono (Nat.le_refl _)))
        have HWpt := Lib.hid (HWm.out.trans (HWt.out.mono HWm.out.size))
        have hqp := HWr.out.size
        have hNb : wp.heap.size < wq.heap.size := hbox
        generalize hb : wq.heap.size = b at *
        generalize hN : wp.heap.size = N at *
        clear HMk HWm HXm HX HWt
        go_loopw [60] (fun i wr => ∃ (k : Nat) (vals : List Value), k ≤ ls.length ∧ i = .int .i64 k ∧ OwnLL wr b wt.heap.size vals (bkTo ls e k 0) ∧ wt.grownBy wr (some b)) (fun i _ => ls.length - (intOf i).toNat)
        case atStart => exact ⟨0, _, Nat.zero_le _, rfl, by rw [bkTo_zero]; exact HLs.out, World.grownBy.refl _ _⟩
        case round =>
          clear HLs
          obtain ⟨i, vals, hi, rfl, hLL, hG⟩ := hrel
          have HLL := Lib.hid hLL
          have HG := Lib.hid hG
          have HTr := Lib.hid (HT.out.grown hG (by omega))
          clear hLL hG
          by_cases hlti : i < ls.length
          · obtain ⟨b5, off5, A5, cap5, rfl, H5⟩ := HT.out.at_ (show b < wm.heap.size by omega) (show i < (turned ls).length by simpa [turned] using hlti)
            rw [show (turned ls)[i]'(by simpa [turned] using hlti) = trow ls i by simp [turned]] at H5
            have H5 := Lib.hid H5
            obtain ⟨hb5, c5, hR5⟩ := H5.out wr HG.out
            have q5 : ((i : Nat) : Int) < ((ls.length : Nat) : Int) := by omega
            clear hR5
            obtain ⟨wo, rfl⟩ : ∃ wo : World, wo = wr := ⟨_, rfl⟩
            have htl : (trow ls i).length ≤ ls.length := tTo_len ls i ls.length
            go_wp2
            go_loopw [67] (fun j wr => ∃ (t : Nat) (vals : List Value), t ≤ (trow ls i).length ∧ j = .int .i64 t ∧ OwnLL wr b wt.heap.size vals (bkTo ls e i t) ∧ wt.grownBy wr (some b)) (fun j _ => (trow ls i).length - (intOf j).toNat)
            case atStart => exact ⟨0, _, Nat.zero_le _, rfl, HLL.out, HG.out⟩
            case round =>
              clear HLL HG hb5 c5
              obtain ⟨t, vals, ht, rfl, hLL, hG⟩ := hrel
              by_cases hltt : t < (trow ls i).length
              · obtain ⟨_, _, hR⟩ := H5.out wr hG
                obtain ⟨b6, off6, rfl, hb6, c6⟩ := RdI.at1 hR hltt
                obtain ⟨j, hj, hjl⟩ := trow_nat (List.getElem_mem hltt)
                have hpush := bkTo_push he hlti hltt
                have hsj : swI e (trow ls i)[t] = ((swN e j : Nat) : Int) := by unfold swI; rw [hj, Int.toNat_natCast]
                rw [hsj] at hpush
                rw [hj] at c6
                have Hpush := Lib.hid hpush
                have hl := bkTo_here (t := t) he hlti
                have Hll : Hid ((((trow ls i).take t).map (swI e)).length ≤ 1000) := Lib.hid (by have := tTo_len ls i ls.length; rw [List.length_map, List.length_take]; have : (trow ls i).length ≤ ls.length := this; omega)
                have Hl := Lib.hid hl
                have hsil : swN e i < ls.length := swN_lt he hlti
                obtain ⟨v, hv⟩ : ∃ v, vals[swN e i]? = some v := ⟨_, List.getElem?_eq_getElem (by rw [hLL.len, bkTo_len]; exact hsil)⟩
                have Hv := Lib.hid hv
                have c0 : wr.drew.cell? ⟨b, swN e i, none⟩ = some v := by
                  obtain ⟨g3, eg3, _, hg3, hfz3, hcell3⟩ := OwnV.at2 hLL.own (by rw [hLL.len, bkTo_len]; omega)
                  injection eg3 with eg3; injection eg3 with eg3
                  subst eg3
                  have := hcell3 _ (List.getElem?_eq_some_iff.1 hv).1
                  rw [(List.getElem?_eq_some_iff.1 hv).2] at this
                  exact this
                have HLL0 := Lib.hid hLL.drew
                have HG0 : Hid (wt.grownBy wr.drew (some b)) := Lib.hid (hG.andThen (show wr.grownBy wr.drew none from ⟨rfl, rfl, rfl, Nat.le_refl _, fun _ _ _ => rfl⟩) (fun j hj => by cases hj))
                have HBx0 : Hid (Box wr.drew N e) := Lib.hid ((hG.block N HXt.out.lt (by simp; omega)).trans HXt.out)
                have Hni := Lib.hid (fun w (h : Box w N e) => name_calls N e i w h.cell)
                have Hnj := Lib.hid (fun w (h : Box w N e) => name_calls N e j w h.cell)
                have Hrn := Lib.hid (show 0 < vals.length by rw [hLL.len, bkTo_len]; omega)
                have qs : ((swN e i : Nat) : Int) < ((ls.length : Nat) : Int) := by omega
                clear hpush hsj hj hl hv hLL hG hR hsil
                generalize ((trow ls i).take t).map (swI e) = l at *
                generalize bkTo ls e i t = rows at *
                generalize swN e i = si at *
                generalize swN e j = sj at *
                go_wp2
                refine wp_region_held_drew (S := fun _ => True) (by kernel_rfl) trivial (fun hH0 => ?_)
                generalize wr.drew = w0 at *
                refine wpAnyH_take (i := 0) (oi := { dst := some 71, op := Go.Op.move (Go.Operand.tmp 9), type := 22, pos := "low.go:468", after := #[], guard := none }) rfl (by kernel_rfl) (by kernel_rfl) (by kernel_rfl) (fun _ _ _ h => h) (Or.inl ⟨by rfl, fun w hw => by (go_simp; try with_reducible rfl)⟩) (by assumption) ?_
                try simp only [Act.put, List.setIfInBounds_toArray, List.set_cons_zero, List.set_cons_succ]
                refine wpAnyH_take (i := 1) (oi := { dst := some 72, op := Go.Op.move (Go.Operand.tmp 8), type := 40, pos := "low.go:468", after := #[], guard := none }) rfl (by kernel_rfl) (by kernel_rfl) (by kernel_rfl) (fun _ _ _ h => h) (Or.inl ⟨by rfl, fun w hw => by (go_simp; try with_reducible rfl)⟩) (by assumption) ?_
                try simp only [Act.put, List.setIfInBounds_toArray, List.set_cons_zero, List.set_cons_succ]
                refine wpAnyH_take (i := 2) (oi := { dst := some 73, op := Go.Op.move (Go.Operand.tmp 10), type := 3, pos := "low.go:468", after := #[], guard := none }) rfl (by kernel_rfl) (by kernel_rfl) (by kernel_rfl) (fun _ _ _ h => h) (Or.inl ⟨by rfl, fun w hw => by (go_simp; try with_reducible rfl)⟩) (by assumption) ?_
                try simp only [Act.put, List.setIfInBounds_toArray, List.set_cons_zero, List.set_cons_succ]
                refine wpAnyH_take (i := 4) (oi := { dst := some 75, op := Go.Op.move (Go.Operand.tmp 9), type := 22, pos := "low.go:468", after := #[], guard := none }) rfl (by kernel_rfl) (by kernel_rfl) (by kernel_rfl) (fun _ _ _ h => h) (Or.inl ⟨by rfl, fun w hw => by (go_simp; try with_reducible rfl)⟩) (by assumption) ?_
                try simp only [Act.put, List.setIfInBounds_toArray, List.set_cons_zero, List.set_cons_succ]
                refine wpAnyH_take (i := 5) (oi := { dst := some 76, op := Go.Op.move (Go.Operand.tmp 8), type := 40, pos := "low.go:468", after := #[], guard := none }) rfl (by kernel_rfl) (by kernel_rfl) (by kernel_rfl) (fun _ _ _ h => h) (Or.inl ⟨by rfl, fun w hw => by (go_simp; try with_reducible rfl)⟩) (by assumption) ?_
                try simp only [Act.put, List.setIfInBounds_toArray, List.set_cons_zero, List.set_cons_succ]
                refine wpAnyH_take (i := 6) (oi := { dst := some 77, op := Go.Op.move (Go.Operand.tmp 10), type := 3, pos := "low.go:468", after := #[], guard := none }) rfl (by kernel_rfl) (by kernel_rfl) (by kernel_rfl) (fun _ _ _ h => h) (Or.inl ⟨by rfl, fun w hw => by (go_simp; try with_reducible rfl)⟩) (by assumption) ?_
                try simp only [Act.put, List.setIfInBounds_toArray, List.set_cons_zero, List.set_cons_succ]
                refine wpAnyH_take (i := 10) (oi := { dst := some 81, op := Go.Op.move (Go.Operand.tmp 8), type := 40, pos := "low.go:468", after := #[], guard := none }) rfl (by kernel_rfl) (by kernel_rfl) (by kernel_rfl) (fun _ _ _ h => h) (Or.inl ⟨by rfl, fun w hw => by (go_simp; try with_reducible rfl)⟩) (by assumption) ?_
                try simp only [Act.put, List.setIfInBounds_toArray, List.set_cons_zero, List.set_cons_succ]
                refine wpAnyH_take (i := 11) (oi := { dst := some 82, op := Go.Op.move (Go.Operand.tmp 13), type := 3, pos := "low.go:468", after := #[], guard := none }) rfl (by kernel_rfl) (by kernel_rfl) (by kernel_rfl) (fun _ _ _ h => h) (Or.inl ⟨by rfl, fun w hw => by (go_simp; try with_reducible rfl)⟩) (by assumption) ?_
                try simp only [Act.put, List.setIfInBounds_toArray, List.set_cons_zero, List.set_cons_succ]
                refine wpAnyH_ready (rs := [3]) (by kernel_rfl) (by simp) ?_
                refine AllReadyH.cons (o := { dst := some 74, op := Go.Op.call { callee := Go.Callee.value (Go.Operand.tmp 72), args := #[Go.Operand.tmp 73], argTypes := #[3] }, type := 3, pos := "low.go:468", after := #[{ on := 1, ground := Go.Ground.data }, { on := 2, ground := Go.Ground.data }], guard := none }) rfl (fun K hK => ?_) AllReadyH.nil
                go_simp
                go_at_call 28
                with_reducible refine (Hni.out _ HBx0.out).mono ?_
                rintro x w0 ⟨rfl, rfl⟩
                refine hK.out _ _ trivial (fun hH1 => ?_)
                clear hK
                try simp only [Act.put, List.setIfInBounds_toArray, List.set_cons_zero, List.set_cons_succ]
                refine wpAnyH_ready (rs := [7]) (by kernel_rfl) (by simp) ?_
                refine AllReadyH.cons (o := { dst := some 78, op := Go.Op.call { callee := Go.Callee.value (Go.Operand.tmp 76), args := #[Go.Operand.tmp 77], argTypes := #[3] }, type := 3, pos := "low.go:468", after := #[{ on := 5, ground := Go.Ground.data }, { on := 6, ground := Go.Ground.data }, { on := 3, ground := Go.Ground.chain }], guard := none }) rfl (fun K hK => ?_) AllReadyH.nil
                go_simp
                go_at_call 28
                with_reducible refine (Hni.out _ HBx0.out).mono ?_
                rintro x w0 ⟨rfl, rfl⟩
                refine hK.out _ _ trivial (fun hH2 => ?_)
                clear hK
                try simp only [Act.put, List.setIfInBounds_toArray, List.set_cons_zero, List.set_cons_succ]
                refine wpAnyH_take (i := 8) (oi := { dst := some 79, op := Go.Op.indexAddr 22 (Go.Operand.tmp 75) (Go.Operand.tmp 78), type := 0, pos := "low.go:468", after := #[{ on := 4, ground := Go.Ground.data }, { on := 7, ground := Go.Ground.data }], guard := none }) rfl (by kernel_rfl) (by kernel_rfl) (by kernel_rfl) (fun _ _ _ h => h) (Or.inl ⟨by rfl, fun w hw => by (go_simp; try with_reducible rfl)⟩) (by assumption) ?_
                try simp only [Act.put, List.setIfInBounds_toArray, List.set_cons_zero, List.set_cons_succ]
                refine wpAnyH_ready (rs := [9, 12]) (by kernel_rfl) (by simp) ?_
                refine AllReadyH.cons (o := { dst := some 80, op := Go.Op.load 32 (Go.Operand.tmp 79), type := 32, pos := "low.go:468", after := #[{ on := 8, ground := Go.Ground.data }], guard := none }) rfl (fun K hK => ?_) ?_
                · have c9 := c0
                  go_simp
                  clear c9
                  refine hK.out _ _ trivial (fun hH3 => ?_)
                  clear hK
                  try simp only [Act.put, List.setIfInBounds_toArray, List.set_cons_zero, List.set_cons_succ]
                  refine wpAnyH_ready (rs := [12]) (by kernel_rfl) (by simp) ?_
                  refine AllReadyH.cons (o := { dst := some 83, op := Go.Op.call { callee := Go.Callee.value (Go.Operand.tmp 81), args := #[Go.Operand.tmp 82], argTypes := #[3] }, type := 3, pos := "low.go:468", after := #[{ on := 10, ground := Go.Ground.data }, { on := 11, ground := Go.Ground.data }, { on := 7, ground := Go.Ground.chain }], guard := none }) rfl (fun K hK => ?_) AllReadyH.nil
                  go_simp
                  go_at_call 28
                  with_reducible refine (Hnj.out _ HBx0.out).mono ?_
                  rintro x w0 ⟨rfl, rfl⟩
                  refine hK.out _ _ trivial (fun hH4 => ?_)
                  clear hK
                  try simp only [Act.put, List.setIfInBounds_toArray, List.set_cons_zero, List.set_cons_succ]
                  refine wpAnyH_ready (rs := [13]) (by kernel_rfl) (by simp) ?_
                  refine AllReadyH.cons (o := { dst := some 84, op := Go.Op.buildSlice 32 1 #[(0, Go.Operand.tmp 83)], type := 32, pos := "low.go:468", after := #[{ on := 12, ground := Go.Ground.data }], guard := none }) rfl (fun K hK => ?_) AllReadyH.nil
                  go_simp
                  refine hK.out _ _ trivial (fun hH5 => ?_)
                  clear hK
                  have HLL1 := Lib.hid (HLL0.out.alloc (.cells #[.int .i64 (sj : Nat)] 3))
                  have HG1 := Lib.hid (HG0.out.andThen (World.grownBy_alloc w0 (.cells #[.int .i64 (sj : Nat)] 3) none) (fun j hj => by cases hj))
                  have HC1 := Lib.hid (cell_grown (World.grownBy_alloc w0 (.cells #[.int .i64 (sj : Nat)] 3) none) b si HLL0.out.lt (by simp))
                  have HS1 : Hid (∀ j, j < 1 → (w0.alloc (.cells #[.int .i64 (sj : Nat)] 3)).cell? ⟨w0.heap.size, j, none⟩ = (intCells (sj : Nat))[j]?) := Lib.hid (fun j hj => by (obtain rfl : j = 0 := by omega); exact cell_new w0 #[.int .i64 (sj : Nat)] 3 w0.heap.size rfl 0)
                  generalize w0.alloc (.cells #[.int .i64 (sj : Nat)] 3) = w1 at *
                  generalize w0.heap.size = s1 at *
                  try simp only [Act.put, List.setIfInBounds_toArray, List.set_cons_zero, List.set_cons_succ]
                  refine wpAnyH_ready (rs := [14]) (by kernel_rfl) (by simp) ?_
                  refine AllReadyH.cons (o := { dst := some 85, op := Go.Op.call { callee := Go.Callee.builtin Go.Builtin.append, args := #[Go.Operand.tmp 80, Go.Operand.tmp 84], argTypes := #[32, 32] }, type := 32, pos := "low.go:468", after := #[{ on := 9, ground := Go.Ground.data }, { on := 13, ground := Go.Ground.data }, { on := 12, ground := Go.Ground.chain }], guard := none }) rfl (fun K hK => ?_) AllReadyH.nil
                  obtain ⟨v3, w3, hrun, hown, hgrow, hat⟩ := run_app1 (P := Try.prog) (w := w1) 32 32 intCells 1 8 3 (.int .i64 0) Try.underlying32 infoInt rfl (by decide) intCells_len intCells_one wt.heap.size v l (sj : Int) (HLL1.out.row si v l Hv.out Hl.out) s1 1 HS1.out (by have := Hll.out; unfold maxLen; omega) (by have := Hll.out; omega) HG1.out.size
                  rw [if_pos (by rfl)]
                  refine wp_app_run 32 _ _ rfl rfl rfl hrun ?_
                  have hP := HLL1.out.grown Hv.out Hl.out hown hgrow hat
                  obtain ⟨g3, eg3, _, hg3, hfz3, hcell3⟩ := OwnV.at2 hP.1 Hrn.out
                  injection eg3 with eg3; injection eg3 with eg3
                  subst eg3
                  have c3 := hcell3 si (List.getElem?_eq_some_iff.1 Hv.out).1
                  have f3 := hfz3 si
                  have HLL3 := Lib.hid hP.2
                  have HG3 := Lib.hid (HG1.out.andThen hgrow (fun j hj => Or.inl (own_lt (HLL1.out.row si v l Hv.out Hl.out) j hj).1))
                  obtain ⟨B3, d3, rfl, _⟩ := OwnI.rd hown
                  simp only [List.length_append, List.length_singleton] at HLL3
                  refine hK.out _ _ trivial (fun hH6 => ?_)
                  clear hK hrun hown hgrow hat hP hcell3 hfz3
                  try simp only [Act.put, List.setIfInBounds_toArray, List.set_cons_zero, List.set_cons_succ]
                  refine wpAnyH_take (i := 15) (oi := { dst := some 86, op := Go.Op.indexAddr 22 (Go.Operand.tmp 71) (Go.Operand.tmp 74), type := 0, pos := "low.go:468", after := #[{ on := 0, ground := Go.Ground.data }, { on := 3, ground := Go.Ground.data }, { on := 0, ground := Go.Ground.phase }, { on := 1, ground := Go.Ground.phase }, { on := 2, ground := Go.Ground.phase }, { on := 3, ground := Go.Ground.phase }, { on := 4, ground := Go.Ground.phase }, { on := 5, ground := Go.Ground.phase }, { on := 6, ground := Go.Ground.phase }, { on := 7, ground := Go.Ground.phase }, { on := 8, ground := Go.Ground.phase }, { on := 9, ground := Go.Ground.phase }, { on := 10, ground := Go.Ground.phase }, { on := 11, ground := Go.Ground.phase }, { on := 12, ground := Go.Ground.phase }, { on := 13, ground := Go.Ground.phase }, { on := 14, ground := Go.Ground.phase }], guard := none }) rfl (by kernel_rfl) (by kernel_rfl) (by kernel_rfl) (fun _ _ _ h => h) (Or.inl ⟨by rfl, fun w hw => by (go_simp; try with_reducible rfl)⟩) (by assumption) ?_
                  try simp only [Act.put, List.setIfInBounds_toArray, List.set_cons_zero, List.set_cons_succ]
                  refine wpAnyH_ready (rs := [16]) (by kernel_rfl) (by simp) ?_
                  refine AllReadyH.cons (o := { dst := none, op := Go.Op.store 32 (Go.Operand.tmp 86) (Go.Operand.tmp 85), type := 0, pos := "low.go:468", after := #[{ on := 15, ground := Go.Ground.data }, { on := 14, ground := Go.Ground.data }, { on := 14, ground := Go.Ground.chain }, { on := 0, ground := Go.Ground.phase }, { on := 1, ground := Go.Ground.phase }, { on := 2, ground := Go.Ground.phase }, { on := 3, ground := Go.Ground.phase }, { on := 4, ground := Go.Ground.phase }, { on := 5, ground := Go.Ground.phase }, { on := 6, ground := Go.Ground.phase }, { on := 7, ground := Go.Ground.phase }, { on := 8, ground := Go.Ground.phase }, { on := 9, ground := Go.Ground.phase }, { on := 10, ground := Go.Ground.phase }, { on := 11, ground := Go.Ground.phase }, { on := 12, ground := Go.Ground.phase }, { on := 13, ground := Go.Ground.phase }, { on := 14, ground := Go.Ground.phase }], guard := none }) rfl (fun K hK => ?_) AllReadyH.nil
                  go_simp
                  refine hK.out _ _ trivial (fun hH7 => ?_)
                  clear hK
                  try simp only [Act.put, List.setIfInBounds_toArray, List.set_cons_zero, List.set_cons_succ]
                  refine wpAnyH_done (by kernel_rfl) ?_ _
                  go_wp2
                  go_roundw
                  case rel => exact ⟨t + 1, _, by omega, by go_num, by rw [← Hpush.out]; exact HLL3.out, HG3.out.andThen (grown_set w3 _ si _) (fun j hj => Or.inr hj)⟩
                  case measure => simp [intOf]; omega
                refine AllReadyH.cons (o := { dst := some 83, op := Go.Op.call { callee := Go.Callee.value (Go.Operand.tmp 81), args := #[Go.Operand.tmp 82], argTypes := #[3] }, type := 3, pos := "low.go:468", after := #[{ on := 10, ground := Go.Ground.data }, { on := 11, ground := Go.Ground.data }, { on := 7, ground := Go.Ground.chain }], guard := none }) rfl (fun K hK => ?_) AllReadyH.nil
                go_simp
                go_at_call 28
                with_reducible refine (Hnj.out _ HBx0.out).mono ?_
                rintro x w0 ⟨rfl, rfl⟩
                refine hK.out _ _ trivial (fun hH3 => ?_)
                clear hK
                try simp only [Act.put, List.setIfInBounds_toArray, List.set_cons_zero, List.set_cons_succ]
                refine wpAnyH_ready (rs := [9, 13]) (by kernel_rfl) (by simp) ?_
                refine AllReadyH.cons (o := { dst := some 80, op := Go.Op.load 32 (Go.Operand.tmp 79), type := 32, pos := "low.go:468", after := #[{ on := 8, ground := Go.Ground.data }], guard := none }) rfl (fun K hK => ?_) ?_
                · have c9 := c0
                  go_simp
                  clear c9
                  refine hK.out _ _ trivial (fun hH4 => ?_)
                  clear hK
                  try simp only [Act.put, List.setIfInBounds_toArray, List.set_cons_zero, List.set_cons_succ]
                  refine wpAnyH_ready (rs := [13]) (by kernel_rfl) (by simp) ?_
                  refine AllReadyH.cons (o := { dst := some 84, op := Go.Op.buildSlice 32 1 #[(0, Go.Operand.tmp 83)], type := 32, pos := "low.go:468", after := #[{ on := 12, ground := Go.Ground.data }], guard := none }) rfl (fun K hK => ?_) AllReadyH.nil
                  go_simp
                  refine hK.out _ _ trivial (fun hH5 => ?_)
                  clear hK
                  have HLL1 := Lib.hid (HLL0.out.alloc (.cells #[.int .i64 (sj : Nat)] 3))
                  have HG1 := Lib.hid (HG0.out.andThen (World.grownBy_alloc w0 (.cells #[.int .i64 (sj : Nat)] 3) none) (fun j hj => by cases hj))
                  have HC1 := Lib.hid (cell_grown (World.grownBy_alloc w0 (.cells #[.int .i64 (sj : Nat)] 3) none) b si HLL0.out.lt (by simp))
                  have HS1 : Hid (∀ j, j < 1 → (w0.alloc (.cells #[.int .i64 (sj : Nat)] 3)).cell? ⟨w0.heap.size, j, none⟩ = (intCells (sj : Nat))[j]?) := Lib.hid (fun j hj => by (obtain rfl : j = 0 := by omega); exact cell_new w0 #[.int .i64 (sj : Nat)] 3 w0.heap.size rfl 0)
                  generalize w0.alloc (.cells #[.int .i64 (sj : Nat)] 3) = w1 at *
                  generalize w0.heap.size = s1 at *
                  try simp only [Act.put, List.setIfInBounds_toArray, List.set_cons_zero, List.set_cons_succ]
                  refine wpAnyH_ready (rs := [14]) (by kernel_rfl) (by simp) ?_
                  refine AllReadyH.cons (o := { dst := some 85, op := Go.Op.call { callee := Go.Callee.builtin Go.Builtin.append, args := #[Go.Operand.tmp 80, Go.Operand.tmp 84], argTypes := #[32, 32] }, type := 32, pos := "low.go:468", after := #[{ on := 9, ground := Go.Ground.data }, { on := 13, ground := Go.Ground.data }, { on := 12, ground := Go.Ground.chain }], guard := none }) rfl (fun K hK => ?_) AllReadyH.nil
                  obtain ⟨v3, w3, hrun, hown, hgrow, hat⟩ := run_app1 (P := Try.prog) (w := w1) 32 32 intCells 1 8 3 (.int .i64 0) Try.underlying32 infoInt rfl (by decide) intCells_len intCells_one wt.heap.size v l (sj : Int) (HLL1.out.row si v l Hv.out Hl.out) s1 1 HS1.out (by have := Hll.out; unfold maxLen; omega) (by have := Hll.out; omega) HG1.out.size
                  rw [if_pos (by rfl)]
                  refine wp_app_run 32 _ _ rfl rfl rfl hrun ?_
                  have hP := HLL1.out.grown Hv.out Hl.out hown hgrow hat
                  obtain ⟨g3, eg3, _, hg3, hfz3, hcell3⟩ := OwnV.at2 hP.1 Hrn.out
                  injection eg3 with eg3; injection eg3 with eg3
                  subst eg3
                  have c3 := hcell3 si (List.getElem?_eq_some_iff.1 Hv.out).1
                  have f3 := hfz3 si
                  have HLL3 := Lib.hid hP.2
                  have HG3 := Lib.hid (HG1.out.andThen hgrow (fun j hj => Or.inl (own_lt (HLL1.out.row si v l Hv.out Hl.out) j hj).1))
                  obtain ⟨B3, d3, rfl, _⟩ := OwnI.rd hown
                  simp only [List.length_append, List.length_singleton] at HLL3
                  refine hK.out _ _ trivial (fun hH6 => ?_)
                  clear hK hrun hown hgrow hat hP hcell3 hfz3
                  try simp only [Act.put, List.setIfInBounds_toArray, List.set_cons_zero, List.set_cons_succ]
                  refine wpAnyH_take (i := 15) (oi := { dst := some 86, op := Go.Op.indexAddr 22 (Go.Operand.tmp 71) (Go.Operand.tmp 74), type := 0, pos := "low.go:468", after := #[{ on := 0, ground := Go.Ground.data }, { on := 3, ground := Go.Ground.data }, { on := 0, ground := Go.Ground.phase }, { on := 1, ground := Go.Ground.phase }, { on := 2, ground := Go.Ground.phase }, { on := 3, ground := Go.Ground.phase }, { on := 4, ground := Go.Ground.phase }, { on := 5, ground := Go.Ground.phase }, { on := 6, ground := Go.Ground.phase }, { on := 7, ground := Go.Ground.phase }, { on := 8, ground := Go.Ground.phase }, { on := 9, ground := Go.Ground.phase }, { on := 10, ground := Go.Ground.phase }, { on := 11, ground := Go.Ground.phase }, { on := 12, ground := Go.Ground.phase }, { on := 13, ground := Go.Ground.phase }, { on := 14, ground := Go.Ground.phase }], guard := none }) rfl (by kernel_rfl) (by kernel_rfl) (by kernel_rfl) (fun _ _ _ h => h) (Or.inl ⟨by rfl, fun w hw => by (go_simp; try with_reducible rfl)⟩) (by assumption) ?_
                  try simp only [Act.put, List.setIfInBounds_toArray, List.set_cons_zero, List.set_cons_succ]
                  refine wpAnyH_ready (rs := [16]) (by kernel_rfl) (by simp) ?_
                  refine AllReadyH.cons (o := { dst := none, op := Go.Op.store 32 (Go.Operand.tmp 86) (Go.Operand.tmp 85), type := 0, pos := "low.go:468", after := #[{ on := 15, ground := Go.Ground.data }, { on := 14, ground := Go.Ground.data }, { on := 14, ground := Go.Ground.chain }, { on := 0, ground := Go.Ground.phase }, { on := 1, ground := Go.Ground.phase }, { on := 2, ground := Go.Ground.phase }, { on := 3, ground := Go.Ground.phase }, { on := 4, ground := Go.Ground.phase }, { on := 5, ground := Go.Ground.phase }, { on := 6, ground := Go.Ground.phase }, { on := 7, ground := Go.Ground.phase }, { on := 8, ground := Go.Ground.phase }, { on := 9, ground := Go.Ground.phase }, { on := 10, ground := Go.Ground.phase }, { on := 11, ground := Go.Ground.phase }, { on := 12, ground := Go.Ground.phase }, { on := 13, ground := Go.Ground.phase }, { on := 14, ground := Go.Ground.phase }], guard := none }) rfl (fun K hK => ?_) AllReadyH.nil
                  go_simp
                  refine hK.out _ _ trivial (fun hH7 => ?_)
                  clear hK
                  try simp only [Act.put, List.setIfInBounds_toArray, List.set_cons_zero, List.set_cons_succ]
                  refine wpAnyH_done (by kernel_rfl) ?_ _
                  go_wp2
                  go_roundw
                  case rel => exact ⟨t + 1, _, by omega, by go_num, by rw [← Hpush.out]; exact HLL3.out, HG3.out.andThen (grown_set w3 _ si _) (fun j hj => Or.inr hj)⟩
                  case measure => simp [intOf]; omega
                refine AllReadyH.cons (o := { dst := some 84, op := Go.Op.buildSlice 32 1 #[(0, Go.Operand.tmp 83)], type := 32, pos := "low.go:468", after := #[{ on := 12, ground := Go.Ground.data }], guard := none }) rfl (fun K hK => ?_) AllReadyH.nil
                go_simp
                refine hK.out _ _ trivial (fun hH4 => ?_)
                clear hK
                have HLL1 := Lib.hid (HLL0.out.alloc (.cells #[.int .i64 (sj : Nat)] 3))
                have HG1 := Lib.hid (HG0.out.andThen (World.grownBy_alloc w0 (.cells #[.int .i64 (sj : Nat)] 3) none) (fun j hj => by cases hj))
                have HC1 := Lib.hid (cell_grown (World.grownBy_alloc w0 (.cells #[.int .i64 (sj : Nat)] 3) none) b si HLL0.out.lt (by simp))
                have HS1 : Hid (∀ j, j < 1 → (w0.alloc (.cells #[.int .i64 (sj : Nat)] 3)).cell? ⟨w0.heap.size, j, none⟩ = (intCells (sj : Nat))[j]?) := Lib.hid (fun j hj => by (obtain rfl : j = 0 := by omega); exact cell_new w0 #[.int .i64 (sj : Nat)] 3 w0.heap.size rfl 0)
                generalize w0.alloc (.cells #[.int .i64 (sj : Nat)] 3) = w1 at *
                generalize w0.heap.size = s1 at *
                try simp only [Act.put, List.setIfInBounds_toArray, List.set_cons_zero, List.set_cons_succ]
                refine wpAnyH_ready (rs := [9]) (by kernel_rfl) (by simp) ?_
                refine AllReadyH.cons (o := { dst := some 80, op := Go.Op.load 32 (Go.Operand.tmp 79), type := 32, pos := "low.go:468", after := #[{ on := 8, ground := Go.Ground.data }], guard := none }) rfl (fun K hK => ?_) AllReadyH.nil
                have c9 := HC1.out.trans c0
                go_simp
                clear c9
                refine hK.out _ _ trivial (fun hH5 => ?_)
                clear hK
                try simp only [Act.put, List.setIfInBounds_toArray, List.set_cons_zero, List.set_cons_succ]
                refine wpAnyH_ready (rs := [14]) (by kernel_rfl) (by simp) ?_
                refine AllReadyH.cons (o := { dst := some 85, op := Go.Op.call { callee := Go.Callee.builtin Go.Builtin.append, args := #[Go.Operand.tmp 80, Go.Operand.tmp 84], argTypes := #[32, 32] }, type := 32, pos := "low.go:468", after := #[{ on := 9, ground := Go.Ground.data }, { on := 13, ground := Go.Ground.data }, { on := 12, ground := Go.Ground.chain }], guard := none }) rfl (fun K hK => ?_) AllReadyH.nil
                obtain ⟨v3, w3, hrun, hown, hgrow, hat⟩ := run_app1 (P := Try.prog) (w := w1) 32 32 intCells 1 8 3 (.int .i64 0) Try.underlying32 infoInt rfl (by decide) intCells_len intCells_one wt.heap.size v l (sj : Int) (HLL1.out.row si v l Hv.out Hl.out) s1 1 HS1.out (by have := Hll.out; unfold maxLen; omega) (by have := Hll.out; omega) HG1.out.size
                rw [if_pos (by rfl)]
                refine wp_app_run 32 _ _ rfl rfl rfl hrun ?_
                have hP := HLL1.out.grown Hv.out Hl.out hown hgrow hat
                obtain ⟨g3, eg3, _, hg3, hfz3, hcell3⟩ := OwnV.at2 hP.1 Hrn.out
                injection eg3 with eg3; injection eg3 with eg3
                subst eg3
                have c3 := hcell3 si (List.getElem?_eq_some_iff.1 Hv.out).1
                have f3 := hfz3 si
                have HLL3 := Lib.hid hP.2
                have HG3 := Lib.hid (HG1.out.andThen hgrow (fun j hj => Or.inl (own_lt (HLL1.out.row si v l Hv.out Hl.out) j hj).1))
                obtain ⟨B3, d3, rfl, _⟩ := OwnI.rd hown
                simp only [List.length_append, List.length_singleton] at HLL3
                refine hK.out _ _ trivial (fun hH6 => ?_)
                clear hK hrun hown hgrow hat hP hcell3 hfz3
                try simp only [Act.put, List.setIfInBounds_toArray, List.set_cons_zero, List.set_cons_succ]
                refine wpAnyH_take (i := 15) (oi := { dst := some 86, op := Go.Op.indexAddr 22 (Go.Operand.tmp 71) (Go.Operand.tmp 74), type := 0, pos := "low.go:468", after := #[{ on := 0, ground := Go.Ground.data }, { on := 3, ground := Go.Ground.data }, { on := 0, ground := Go.Ground.phase }, { on := 1, ground := Go.Ground.phase }, { on := 2, ground := Go.Ground.phase }, { on := 3, ground := Go.Ground.phase }, { on := 4, ground := Go.Ground.phase }, { on := 5, ground := Go.Ground.phase }, { on := 6, ground := Go.Ground.phase }, { on := 7, ground := Go.Ground.phase }, { on := 8, ground := Go.Ground.phase }, { on := 9, ground := Go.Ground.phase }, { on := 10, ground := Go.Ground.phase }, { on := 11, ground := Go.Ground.phase }, { on := 12, ground := Go.Ground.phase }, { on := 13, ground := Go.Ground.phase }, { on := 14, ground := Go.Ground.phase }], guard := none }) rfl (by kernel_rfl) (by kernel_rfl) (by kernel_rfl) (fun _ _ _ h => h) (Or.inl ⟨by rfl, fun w hw => by (go_simp; try with_reducible rfl)⟩) (by assumption) ?_
                try simp only [Act.put, List.setIfInBounds_toArray, List.set_cons_zero, List.set_cons_succ]
                refine wpAnyH_ready (rs := [16]) (by kernel_rfl) (by simp) ?_
                refine AllReadyH.cons (o := { dst := none, op := Go.Op.store 32 (Go.Operand.tmp 86) (Go.Operand.tmp 85), type := 0, pos := "low.go:468", after := #[{ on := 15, ground := Go.Ground.data }, { on := 14, ground := Go.Ground.data }, { on := 14, ground := Go.Ground.chain }, { on := 0, ground := Go.Ground.phase }, { on := 1, ground := Go.Ground.phase }, { on := 2, ground := Go.Ground.phase }, { on := 3, ground := Go.Ground.phase }, { on := 4, ground := Go.Ground.phase }, { on := 5, ground := Go.Ground.phase }, { on := 6, ground := Go.Ground.phase }, { on := 7, ground := Go.Ground.phase }, { on := 8, ground := Go.Ground.phase }, { on := 9, ground := Go.Ground.phase }, { on := 10, ground := Go.Ground.phase }, { on := 11, ground := Go.Ground.phase }, { on := 12, ground := Go.Ground.phase }, { on := 13, ground := Go.Ground.phase }, { on := 14, ground := Go.Ground.phase }], guard := none }) rfl (fun K hK => ?_) AllReadyH.nil
                go_simp
                refine hK.out _ _ trivial (fun hH7 => ?_)
                clear hK
                try simp only [Act.put, List.setIfInBounds_toArray, List.set_cons_zero, List.set_cons_succ]
                refine wpAnyH_done (by kernel_rfl) ?_ _
                go_wp2
                go_roundw
                case rel => exact ⟨t + 1, _, by omega, by go_num, by rw [← Hpush.out]; exact HLL3.out, HG3.out.andThen (grown_set w3 _ si _) (fun j hj => Or.inr hj)⟩
                case measure => simp [intOf]; omega
              · have : t = (trow ls i).length := by omega
                subst this
                go_wp2
                go_roundw
                case rel => exact ⟨i + 1, vals, by omega, by go_num, by rw [← bkTo_next]; exact hLL, hG⟩
                case measure => simp [intOf]; omega
          · have : i = ls.length := by omega
            subst this
            obtain ⟨wf, rfl⟩ : ∃ wf : World, wf = wr := ⟨_, rfl⟩
            have HBk : Hid (RdN wf (some ⟨b, 0, none⟩) (bk ls e)) := Lib.hid HLL.out.rd
            have HWf := Lib.hid (HW.out.trans ((HWpt.out.grown HG.out (by omega) (fun k hk => by injection hk with hk; omega)).mono (by omega)))
            have HXf : Hid (Box wf N e) := Lib.hid ((HG.out.block N HXt.out.lt (by simp; omega)).trans HXt.out)
            have HCf : Hid (∀ k, k < ls.length → wf.cell? ⟨gL, k, none⟩ = some (.int .u32 (lastS ls k : Nat))) := Lib.hid fun k hk => by
              have h := HC.out k (by rw [Hlen.out]; exact hk)
              rw [lastL_get] at h
              rw [← h]
              exact (HWpt.out.grown HG.out (by omega) (fun k hk => by injection hk with hk; omega)).cell (p := ⟨gL, k, none⟩) (by show gL < N; omega)
            have hgf : gL < wf.heap.size := by have := HG.out.size; omega
            have Hmay := Lib.hid (may_calls (some ⟨b, 0, none⟩) (bk ls e) ls.length wf HBk.out (by rw [bk_len]; unfold maxLen; omega))
            rw [bk_len] at Hmay
            clear HLL HG HTr HT HWpt HXt hbm hmt hqp hNb hbox HWw HC
            by_cases hb0 : wayErr (bk ls e) = 0
            · have hb2 : (wayErr (bk ls e) == 0) = true := by simpa using hb0
              obtain ⟨_, _, hvb⟩ := valid_of hb0
              have Htab := Lib.hid (table_ok (some ⟨b, 0, none⟩) (bk ls e) ls.length wf HBk.out hb0)
              rw [bk_len] at Htab
              have Hvb := Lib.hid hvb
              have Hrl : Hid ((rulesL (bk ls e)).length = ls.length) := Lib.hid (by rw [rulesL_len, bk_len])
              clear hb0 hvb
              go_wp2_with (first
                | (go_at_call 18; refine Hmay.out.mono ?_; rintro x w6 ⟨rfl, rfl⟩; rw [hb2])
                | (go_at_call 24; refine Htab.out.mono ?_
                   rintro x w7 ⟨v, rfl, hown, hW7⟩
                   obtain ⟨gR, capR, rfl, hgR, hgR2, hcR, _, hcells⟩ := OwnU.at_ hown (by rw [Hrl.out]; omega)
                   rw [Hrl.out]
                   have HCR : Hid (∀ k, k < ls.length → w7.cell? ⟨gR, k, none⟩ = some (.int .u32 (domS (bk ls e) k : Nat))) := Lib.hid fun k hk => by
                     have h := hcells k (by rw [Hrl.out]; exact hk)
                     rw [rulesL_get] at h
                     exact h
                   have HCL : Hid (∀ k, k < ls.length → w7.cell? ⟨gL, k, none⟩ = some (.int .u32 (lastS ls k : Nat))) := Lib.hid fun k hk => (hW7.cell (p := ⟨gL, k, none⟩) hgf).trans (HCf.out k hk)
                   have HX7 := Lib.hid (HXf.out.below hW7)
                   have HW7 := Lib.hid (HWf.out.trans (hW7.mono HWf.out.size))
                   clear hown hW7 hcells))
              have Hni := Lib.hid (fun i w (h : Box w N e) => name_calls N e i w h.cell)
              go_loopw [16] (fun i wr => ∃ k : Nat, k ≤ ls.length ∧ i = .int .i64 k ∧ ∃ nq, wr = w7.drewN nq) (fun i _ => ls.length - (intOf i).toNat)
              case atStart => exact ⟨0, Nat.zero_le _, rfl, 0, rfl⟩
              case round =>
                obtain ⟨i, hi, rfl, nq, hwr⟩ := hrel
                have Hwr := Lib.hid hwr
                clear hwr
                by_cases hlti : i < ls.length
                · go_wp2
                  go_loopw [17] (fun i wr => ∃ k : Nat, k ≤ ls.length ∧ i = .int .i64 k ∧ ∃ nq, wr = w7.drewN nq) (fun i _ => ls.length - (intOf i).toNat)
                  case atStart => exact ⟨0, Nat.zero_le _, rfl, _, Hwr.out⟩
                  case round =>
                    clear Hwr
                    obtain ⟨k, hk, rfl, nq2, hwr⟩ := hrel
                    have Hwr := Lib.hid hwr
                    by_cases hltk : k < ls.length
                    · have c1 : wr.cell? ⟨gL, i, none⟩ = some (.int .u32 (lastS ls i : Nat)) := by rw [hwr]; exact HCL.out i hlti
                      have hsil := swN_lt he hlti
                      have hskl := swN_lt he hltk
                      have c2 : wr.cell? ⟨gR, swN e i, none⟩ = some (.int .u32 (domS (bk ls e) (swN e i) : Nat)) := by rw [hwr]; exact HCR.out _ hsil
                      have HXr : Hid (∀ n, Box (wr.drewN n) N e) := Lib.hid fun n => by rw [hwr]; exact HX7.out
                      have hs := bk_same he h8 HV.out Hvb.out Hend.out Honly.out hlti hltk
                      have b1 := lastS_lt ls i
                      have b2 := domS_lt (bk ls e) (swN e i)
                      have q1 : ((i : Nat) : Int) < ((ls.length : Nat) : Int) := by omega
                      have q2 : ((swN e i : Nat) : Int) < ((ls.length : Nat) : Int) := by omega
                      have H1 := Lib.hid (fun w => bit_calls (lastS ls i) k w (by omega) (by omega))
                      have H2 := Lib.hid (fun w => bit_calls (domS (bk ls e) (swN e i)) (swN e k) w (by omega) (by omega))
                      have H3 := Lib.hid (fun w h => Hni.out i w h)
                      have H4 := Lib.hid (fun w h => Hni.out k w h)
                      rw [hs] at H1
                      clear hs hwr
                      generalize lastS ls i = x at *
                      generalize domS (bk ls e) (swN e i) = y at *
                      generalize swN e i = si at *
                      generalize swN e k = sk at *
                      generalize y.testBit sk = bb at *
                      go_wp2
                      go_quiet ((first
                        | (go_at_call 19; with_reducible exact Calls.quiet_of_same (H1.out _))
                        | (go_at_call 19; with_reducible exact Calls.quiet_of_same (H2.out _))
                        | (go_at_call 28; with_reducible exact Calls.quiet_of_same (H3.out _ (HXr.out _)))
                        | (go_at_call 28; with_reducible exact Calls.quiet_of_same (H4.out _ (HXr.out _)))))
                      go_wp2
                      go_roundw
                      case rel => exact ⟨k + 1, by omega, by go_num, nq2 + nq, by rw [Hwr.out, World.drewN_drewN]⟩
                      case measure => simp [intOf]; omega
                    · go_wp2
                      go_roundw
                      case rel => exact ⟨i + 1, by omega, by go_num, nq2, by first | rfl | exact Hwr.out⟩
                      case measure => simp [intOf]; omega
                · go_wp2
                  go_ret
                  exact ⟨rfl, by rw [Hwr.out]; exact below_dN HW7.out nq⟩
            · have hb2 : (wayErr (bk ls e) == 0) = false := by simpa using hb0
              clear hb0
              go_wp2_with (go_at_call 18; refine Hmay.out.mono ?_; rintro x w6 ⟨rfl, rfl⟩; rw [hb2])
              go_ret
              exact ⟨rfl, HWf.out⟩
      -- behind the turning
theorem hangTurn_calls (A : Option Addr) (ls : List (List Int)) (cap : Nat) (w : World) (hA : RdN w A ls) (hm : ls.length ≤ maxLen) :
    Calls Try.prog 7 #[.slice A ls.length cap] w fun e w' => e = .returned (.bool true) ∧ Below w.heap.size w w' := by
  by_cases h0 : wayErr ls = 0
  · exact hangTurn_ok A ls cap w hA h0
  · exact hangTurn_bad A ls cap w hA hm h0
end Go.Proofs.Ytljmignfbagomaa
