/- SingleSame: single.bare, From; what single.Check wants. -/
import Derived.Test.YtmgejacndhnikaaSnP
import Derived.Deep.RegionHeld3
namespace Go.Proofs.Ytmgejacndhnikaa
set_option maxRecDepth 100000
open Go.RowKit

set_option maxHeartbeats 4000000 in
theorem bare_calls (A : Option Addr) (l : List Sg) (cap : Nat) (w : World) (hA : RdSg w A l) (h8 : l.length ≤ 8) :
    Calls Try.prog 66 #[.slice A l.length cap] w fun e w' => (∃ A' c', e = .returned (.slice A' l.length c') ∧ RdBk w' A' (l.map bareB)) ∧ Below w.heap.size w w' := by
  have HA := Lib.hid hA
  clear hA
  go_enter Try.func66, Try.ntmps66
  go_wp2
  go_loopw [3, 8] (fun v i wr => ∃ k : Nat, k ≤ l.length ∧ i = .int .i64 (k : Nat) ∧ Hid (OwnBk wr w.heap.size v ((l.take k).map bareB)) ∧ Hid (Below w.heap.size w wr)) (fun _ i _ => l.length - (intOf i).toNat)
  case atStart => exact ⟨0, Nat.zero_le _, rfl, OwnBk.nil_ _ _, Below.refl _ _⟩
  case round =>
    obtain ⟨k, hk, rfl, hO, hW⟩ := hrel
    obtain ⟨A0, c0, hv0, -⟩ := hO.out.rd
    obtain ⟨n0, hn0⟩ : ∃ n0, n0 = ((l.take k).map bareB).length := ⟨_, rfl⟩
    have hn1 : n0 ≤ 8 := by rw [hn0, List.length_map, List.length_take]; omega
    rw [← hn0] at hv0
    subst hv0
    by_cases hlt : k < l.length
    · obtain ⟨b, off, A1, c1, A2, c2, A3, c3, rfl, hb, e0, e1, e2, e3, e4, e5, -, -, -⟩ := (HA.out.below hW.out).at_ hlt
      have hkl : ((k : Nat) : Int) < ((l.length : Nat) : Int) := by omega
      have HT : Hid ((l.take (k + 1)).map bareB = (l.take k).map bareB ++ [bareB l[k]]) := Lib.hid (by rw [List.take_succ_eq_append_getElem hlt, List.map_append]; rfl)
      generalize l[k] = sg at *
      obtain ⟨js, cd, ts, th, el, ls⟩ := sg
      dsimp only at e0 e1 e2 e3 e4 e5
      have HWa := Lib.hid ((hW.out.alloc hW.out.size (.cells #[.slice A1 js.length c1, .slice A2 cd.length c2, .int .i64 ts, .int .i64 th, .int .i64 el, .slice A3 ls.length c3] 114)).alloc (by have := hW.out.size; simp; omega) (.cells #[.slice none 0 0, .int .i64 ts, .int .i64 th, .int .i64 el] 85))
      have hBb := ((Below.refl wr.heap.size wr).alloc (Nat.le_refl _) (.cells #[.slice A1 js.length c1, .slice A2 cd.length c2, .int .i64 ts, .int .i64 th, .int .i64 el, .slice A3 ls.length c3] 114)).alloc (by simp) (.cells #[.slice none 0 0, .int .i64 ts, .int .i64 th, .int .i64 el] 85)
      have hOa := hO.out.below hBb
      have hN := heap_alloc_new (wr.alloc (.cells #[.slice A1 js.length c1, .slice A2 cd.length c2, .int .i64 ts, .int .i64 th, .int .i64 el, .slice A3 ls.length c3] 114)) (.cells #[.slice none 0 0, .int .i64 ts, .int .i64 th, .int .i64 el] 85)
      obtain ⟨v', w', hrun, hO', hg'⟩ := hOa.app HWa.out.size (by rw [← hn0]; omega) _ 1 none 0 (bareB ⟨js, cd, ts, th, el, ls⟩) (cell_h hN 0) (cell_h hN 1) (cell_h hN 2) (cell_h hN 3) Rd.nil_ (fun p hp => by cases hp)
      rw [← HT.out] at hO'
      have HWc := Lib.hid (HWa.out.grown hg' HWa.out.size (fun q e => (hOa.lt q e).1))
      have HO := Lib.hid hO'
      have Hrun := Lib.hid hrun
      obtain ⟨A7, c7, hv7, -⟩ := hO'.rd
      subst hv7
      clear hO hW hOa hN hrun hO' hg' hBb hn0
      generalize ((l.take (k + 1)).map bareB).length = n7 at *
      have HS1 : Hid ((wr.alloc (.cells #[.slice A1 js.length c1, .slice A2 cd.length c2, .int .i64 ts, .int .i64 th, .int .i64 el, .slice A3 ls.length c3] 114)).heap.size = wr.heap.size + 1) := Lib.hid (by simp)
      have Hrun : Hid _ := Lib.hid (by rw [HS1.out] at Hrun; exact Hrun.out)
      go_wp2_with (at_builtin; refine wpList_app_run rfl 22 _ _ rfl rfl rfl Hrun.out ?_)
      go_roundw
      case rel => exact ⟨k + 1, by omega, by go_num, HO, HWc⟩
      case measure => simp [intOf]; omega
    · have : k = l.length := by omega
      subst this
      have hO2 := hO.out
      rw [List.take_length] at hO2
      have HO2 := Lib.hid hO2
      have Hn0 : Hid (n0 = l.length) := Lib.hid (by rw [hn0, List.take_length, List.length_map])
      clear hO2 hn0 hlt hk hO
      go_wp2
      go_ret
      obtain ⟨A9, c9, e9, hR9⟩ := HO2.out.rd
      injection e9 with e1 e2 e3
      subst e1 e3
      exact ⟨⟨A0, c0, by rw [← Hn0.out]; rfl, hR9⟩, hW.out⟩
theorem row_get' {w0 : World} {A : Option Addr} {ls : List (List Int)} (h : RdN w0 A ls) {i : Nat} (hi : i < ls.length) : ∃ b off A' c', A = some ⟨b, off, none⟩ ∧ b < w0.heap.size ∧ w0.cell? ⟨b, off + i, none⟩ = some (.slice A' (ls.getD i []).length c') ∧ RdI w0 A' (ls.getD i []) := by
  have e : ls.getD i [] = ls[i] := by rw [List.getD_eq_getElem?_getD, List.getElem?_eq_getElem hi]; rfl
  rw [e]
  exact RdN.at_ h hi
set_option maxHeartbeats 4000000 in
theorem fromS_ok (A : Option Addr) (ls : List (List Int)) (cap : Nat) (w : World) (hA : RdN w A ls) (h1 : 1 ≤ ls.length) (h8 : ls.length ≤ 8) (hv : W.Valid ls) (hn : ∀ r ∈ ls, r.Nodup) :
    Calls Try.prog 54 #[.slice A ls.length cap] w fun e w' => ∃ B, e = .returned (.slice B ls.length ls.length) ∧ RdN w' B (fromX ls) ∧ Below w.heap.size w w' := by
  have Hcl := Lib.hid (W.factTurn_calls A ls cap w hA h1 h8 hv)
  have Hn := Lib.hid hn
  clear hA hn
  go_enter Try.func54, Try.ntmps54
  go_wp2_with fail
  (with_reducible refine Hcl.out.mono ?_)
  rintro e w1 ⟨vals, g, rfl, hLL, hT, hW⟩
  have hg : g = turnX ls := turned_exact hT Hn.out
  have hgl : g.length = ls.length := hT.len
  have hvl : vals.length = ls.length := by rw [hLL.len, hgl]
  have hsh := hT.short
  subst hg
  obtain ⟨PB, hPB⟩ : ∃ PB, PB = w.heap.size := ⟨_, rfl⟩
  rw [← hPB] at hLL
  rw [← hPB]
  have hlt1 : PB < w1.heap.size := hLL.lt
  obtain ⟨g0, eg, -, -, hfz, hcell⟩ := W.OwnV.at2 hLL.own (by omega)
  injection eg with eg
  injection eg with eg
  subst eg
  have hv0 : vals[0]? = some (vals[0]'(by omega)) := List.getElem?_eq_getElem _
  have hr0 : (turnX ls)[0]? = some (turnRow ls 0) := by
    unfold turnX
    rw [List.getElem?_map, List.getElem?_range (by omega)]
    rfl
  have hO0 := hLL.row 0 _ _ hv0 hr0
  have hs0 := hsh 0 _ hr0
  obtain ⟨A0, c0, e0, hR0⟩ := OwnI.rd hO0
  have d0 := hcell 0 (by omega)
  rw [e0] at d0
  -- append([]int{-1}, from[0]...)
  have hB2 := (Below.refl w1.heap.size w1).alloc (Nat.le_refl _) (.cells #[.int .i64 (-1)] 3)
  have hE := own_new intCells 1 3 intCells_len w1 w1.heap.size (Nat.le_refl _) [-1] (by simp [maxLen])
  have hE : OwnI (w1.alloc (.cells #[.int .i64 (-1)] 3)) w1.heap.size 3 (.slice (some ⟨w1.heap.size, 0, none⟩) 1 1) [-1] := hE
  obtain ⟨v3, w3, hrun, hO3, hg3, -⟩ := run_appN (P := Try.prog) 23 23 intCells 1 8 3 (.int .i64 0) Try.underlying23 infoInt rfl (by decide) intCells_len intCells_one w1.heap.size _ [-1] hE A0 (turnRow ls 0) c0 (Rd.below hR0 hB2) (by simp [maxLen]; omega) (by simp; omega) (by simp)
  obtain ⟨A3, c3, e3, hR3⟩ := OwnI.rd hO3
  have hl3 : ([-1] ++ turnRow ls 0).length = (turnRow ls 0).length + 1 := by simp
  rw [hl3] at e3
  subst e3
  have hB3 : Below w1.heap.size w1 w3 := hB2.grown hg3 (by simp) (fun k e => by have e : some w1.heap.size = some k := e; injection e with e; omega)
  have hcur := W.OwnLL.below hLL hB3
  obtain ⟨g1, eg1, -, hg1, hfz1, hcell1⟩ := W.OwnV.at2 hcur.own (by omega)
  injection eg1 with eg1
  injection eg1 with eg1
  subst eg1
  have f3 := hfz1 0
  have d3 := hcell1 0 (by omega)
  have HR : Hid (RdN (w3.setCell ⟨PB, 0, none⟩ (.slice A3 ((turnRow ls 0).length + 1) c3)) (some ⟨PB, 0, none⟩) (fromX ls)) := Lib.hid (by
    intro _
    refine ⟨PB, 0, rfl, by rw [show (w3.setCell ⟨PB, 0, none⟩ (.slice A3 ((turnRow ls 0).length + 1) c3)).heap.size = w3.heap.size by simp [World.setCell]]; exact hg1, fun k l hk => ?_⟩
    rw [Nat.zero_add]
    unfold fromX at hk
    by_cases e : k = 0
    · subst e
      rw [List.getElem?_set_self (by rw [hgl]; omega)] at hk
      injection hk with hk
      subst hk
      refine ⟨A3, c3, ?_, ?_⟩
      · rw [World.cell?_setCell_same' w3 _ _ (by rw [d3]; rfl)]
        rw [List.length_cons]
      · have hO4 := Own.far (p := ⟨PB, 0, none⟩) hO3 (fun e => by have := (own_lt' hO3 PB e).1; omega) (.slice A3 ((turnRow ls 0).length + 1) c3)
        obtain ⟨A5, c5, e5, hR5⟩ := OwnI.rd hO4
        injection e5 with e1 e2 e3
        subst e1
        exact hR5
    · rw [List.getElem?_set_ne (fun h => e h.symm)] at hk
      have hkl : k < vals.length := by rw [hvl, ← hgl]; exact (List.getElem?_eq_some_iff.1 hk).1
      have hrow := hcur.row k _ l (List.getElem?_eq_getElem hkl) hk
      have hO4 := Own.far (p := ⟨PB, 0, none⟩) hrow (fun e => by have := (own_lt' hrow PB e).1; have := hcur.hb; omega) (.slice A3 ((turnRow ls 0).length + 1) c3)
      obtain ⟨A5, c5, e5, hR5⟩ := OwnI.rd hO4
      refine ⟨A5, c5, ?_, hR5⟩
      rw [World.cell?_setCell_other _ _ _ _ (by first | omega | (simp; done) | (simp; omega)), hcell1 k hkl, e5])
  have HB : Hid (Below w.heap.size w (w3.setCell ⟨PB, 0, none⟩ (.slice A3 ((turnRow ls 0).length + 1) c3))) := Lib.hid ((hW.trans (hB3.mono hW.size)).setCell (p := ⟨PB, 0, none⟩) (by rw [hPB]; exact Nat.le_refl _) _)
  have Hrun := Lib.hid hrun
  have hl1 : ((0 : Nat) : Int) < ((ls.length : Nat) : Int) := by omega
  have d3' : w3.cell? ⟨PB, 0, none⟩ = some (vals[0]'(by omega)) := d3
  rw [e0] at d3'
  clear d3 hcell1 hfz1 hcell hfz hcur hR3 hO3 hg3 hB3 hE hB2 hR0 hO0 hsh hLL hT hW hrun hv0 hr0 hl3 hPB e0 hgl hvl
  generalize (turnRow ls 0).length = n0 at *
  go_wp2_with (at_builtin; refine wpList_app_run rfl 23 _ _ rfl rfl rfl Hrun.out ?_)
  go_ret
  exact ⟨_, rfl, HR.out, HB.out⟩
theorem thereS_yes (R : Nat) (A : Option Addr) (n cap : Nat) (x : Int) (w : World) (hR : w.cell? ⟨R, 0, none⟩ = some (.slice A n cap)) (h0 : 0 ≤ x) (h1 : x < n) :
    Calls Try.prog 108 #[.int .i64 x, .pointer (some ⟨R, 0, none⟩)] w fun e w' => e = .returned (.bool true) ∧ w' = w := by
  have d0 : decide (0 ≤ x) = true := decide_eq_true h0
  have d1 : decide (x < (n : Int)) = true := decide_eq_true h1
  go_enter Try.func108, Try.ntmps108
  go_wp2
  go_ret
  exact ⟨rfl, rfl⟩
theorem thereS_no (R : Nat) (A : Option Addr) (n cap : Nat) (x : Int) (w : World) (_hR : w.cell? ⟨R, 0, none⟩ = some (.slice A n cap)) (h : x < 0) :
    Calls Try.prog 108 #[.int .i64 x, .pointer (some ⟨R, 0, none⟩)] w fun e w' => e = .returned (.bool false) ∧ w' = w := by
  have d0 : decide (0 ≤ x) = false := decide_eq_false (by omega)
  go_enter Try.func108, Try.ntmps108
  go_wp2
  go_ret
  exact ⟨rfl, rfl⟩
set_option maxHeartbeats 1000000 in
theorem load_sg (a : Act) (o : Oper) (x : Operand) (ho : o.op = .load 114 x) (w : World) (p : Nat) (hx : a.eval x = .pointer (some ⟨p, 0, none⟩)) (v0 v1 v2 v3 v4 v5 : Value)
    (p0 : w.cell? ⟨p, 0, none⟩ = some v0) (p1 : w.cell? ⟨p, 1, none⟩ = some v1) (p2 : w.cell? ⟨p, 2, none⟩ = some v2) (p3 : w.cell? ⟨p, 3, none⟩ = some v3) (p4 : w.cell? ⟨p, 4, none⟩ = some v4) (p5 : w.cell? ⟨p, 5, none⟩ = some v5) :
    (execOp a.eval o).run Try.prog w = .ok (.value (.agg #[v0, v1, v2, v3, v4, v5])) w := by
  unfold execOp
  simp only [ho, hx]
  go_simp
theorem nexts_fit {vars : Int} {l : List Sg} {frm : List (List Int)} (h : SgOk vars l frm) : W.Valid (nexts (l.map bareB)) := by
  intro r hr
  unfold nexts at hr
  obtain ⟨b, hb, rfl⟩ := List.mem_map.1 hr
  obtain ⟨s, hs, rfl⟩ := List.mem_map.1 hb
  have h2 := h.two s hs
  have h1 := h.one s hs
  have hl : (nexts (l.map bareB)).length = l.length := by simp [nexts]
  rw [hl]
  unfold nxB bareB
  dsimp only
  constructor
  · rw [List.length_append]
    split <;> split <;> simp
  · intro x hx
    rcases List.mem_append.1 hx with hx | hx
    · split at hx
      · rename_i hth
        simp at hx
        subst hx
        by_cases ht : 0 ≤ s.test
        · exact (h2 ht).1
        · rcases h1 (by omega) with e | e
          · omega
          · exact e
      · exact absurd hx List.not_mem_nil
    · split at hx
      · rename_i hth
        simp at hx
        subst hx
        exact (h2 hth.1).2
      · exact absurd hx List.not_mem_nil
end Go.Proofs.Ytmgejacndhnikaa
