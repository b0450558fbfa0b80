/- SingleSame: single.Check at what may be (written by sng.py out of sng.txt). -/
import Derived.Test.YtmgejacndhnikaaSnG1
namespace Go.Proofs.Ytmgejacndhnikaa
set_option maxRecDepth 100000
open Go.RowKit

set_option maxHeartbeats 16000000 in
theorem checkS_calls (vars : Int) (A : Option Addr) (l : List Sg) (frm : List (List Int)) (cap : Nat) (w : World) (hA : RdSg w A l) (hok : SgOk vars l frm) (hf : ∀ i, (frm.getD i []).length ≤ 100) :
    Calls Try.prog 63 #[.int .i64 vars, .slice A l.length cap] w fun e w' => e = .returned (.int .i64 0) ∧ Below w.heap.size w w' := by
  have hn1 := hok.n1
  have hn8 := hok.n8
  have hB1 := (Below.refl w.heap.size w).alloc (Nat.le_refl _) (.cells #[.slice A l.length cap] 39)
  have HN1 := Lib.hid (heap_alloc_new w (.cells #[.slice A l.length cap] 39))
  obtain ⟨PB, hPB⟩ : ∃ PB, PB = w.heap.size := ⟨_, rfl⟩
  obtain ⟨w1, hw1⟩ : ∃ w1, w1 = w.alloc (.cells #[.slice A l.length cap] 39) := ⟨_, rfl⟩
  rw [← hw1] at hB1 HN1
  rw [← hPB] at HN1
  have HB1 := Lib.hid hB1
  have HA := Lib.hid (hA.below hB1)
  have HOK := Lib.hid hok
  have HF := Lib.hid hf
  have HNX := Lib.hid (nexts_fit hok)
  have Hlg := Lib.hid (large_calls vars A l cap w1 HA.out hok.v1 hok.v6 hn1 hn8 hok.steps hok.joins)
  have Hw1 := Lib.hid hw1
  have HPB := Lib.hid hPB
  clear hA hok hf hB1 hw1 hPB
  go_enter Try.func63, Try.ntmps63
  go_wp2_with fail
  rw [← Hw1.out]
  (with_reducible refine Hlg.out.mono ?_)
  rintro e w2 ⟨rfl, hW2⟩
  have HW2 := Lib.hid hW2
  have d0 := cell_h ((hW2.block PB (lt_h HN1.out)).trans HN1.out) 0
  rw [← HPB.out]
  clear hW2
  go_wp2
  go_loopw [18] (fun i wr => ∃ k : Nat, k ≤ l.length ∧ i = .int .i64 (k : Nat) ∧ Hid (Below w1.heap.size w1 wr)) (fun i _ => l.length - (intOf i).toNat)
  case atStart => exact ⟨0, Nat.zero_le _, rfl, HW2⟩
  case round =>
    clear HW2 d0 Hlg
    obtain ⟨k, hk, rfl, hW⟩ := hrel
    have dP := cell_h ((hW.out.block PB (lt_h HN1.out)).trans HN1.out) 0
    have hPl : PB < wr.heap.size := by have := lt_h HN1.out; have := hW.out.size; omega
    by_cases hlt : k < l.length
    · obtain ⟨b, off, A1, c1, A2, c2, A3, c3, rfl, hb, e0, e1, e2, e3, e4, e5, -, -, -⟩ := (HA.out.below hW.out).at_ hlt
      have hkl : ((k : Nat) : Int) < ((l.length : Nat) : Int) := by omega
      have hmem := List.getElem_mem hlt
      have k1 := HOK.out.lo _ hmem
      have k2 := HOK.out.two _ hmem
      have k3 := HOK.out.one _ hmem
      have k4 := HOK.out.last _ hmem
      clear hmem
      generalize l[k] = sg at *
      obtain ⟨js, cd, ts, th, el, ls⟩ := sg
      dsimp only at e0 e1 e2 e3 e4 e5 k1 k2 k3 k4
      have HWa := Lib.hid (hW.out.alloc hW.out.size (.cells #[.slice A1 js.length c1, .slice A2 cd.length c2, .int .i64 ts, .int .i64 th, .int .i64 el, .slice A3 ls.length c3] 114))
      have qv : (((ls.length : Nat) : Int) != vars) = false := by rw [k4]; simp
      have K4 := Lib.hid k4
      have hPa : (wr.alloc (.cells #[.slice A1 js.length c1, .slice A2 cd.length c2, .int .i64 ts, .int .i64 th, .int .i64 el, .slice A3 ls.length c3] 114)).cell? ⟨PB, 0, none⟩ = some (.slice (some ⟨b, off, none⟩) l.length cap) := by
        rw [World.cell?_of_block (Below.heap_alloc wr _ PB hPl)]
        exact dP
      have Hy := Lib.hid (fun x h0 h1 => thereS_yes PB _ l.length cap x _ hPa h0 h1)
      have Hn := Lib.hid (fun x h => thereS_no PB _ l.length cap x _ hPa h)
      clear k4 hW hPa
      by_cases ht : 0 ≤ ts
      · obtain ⟨⟨t0, t1⟩, t2, t3⟩ := k2 ht
        have T := Lib.hid (And.intro t0 t1)
        have T2 := Lib.hid (And.intro t2 t3)
        clear k2 k3
        go_wp2_with (go_at_call 108; first | ((with_reducible refine (Hy.out th T.out.1 T.out.2).mono ?_); rintro e w' ⟨rfl, rfl⟩) | ((with_reducible refine (Hy.out el T2.out.1 T2.out.2).mono ?_); rintro e w' ⟨rfl, rfl⟩))
        all_goals (try (exfalso; omega))
        go_roundw
        case rel => exact ⟨k + 1, by omega, by go_num, HWa⟩
        case measure => simp [intOf]; omega
      · have t := k3 (by omega)
        clear k2 k3
        rcases t with rfl | ⟨t0, t1⟩
        · go_wp2_with (go_at_call 108; refine (Hn.out (-1) (by decide)).mono ?_; rintro e w' ⟨rfl, rfl⟩)
          all_goals (try (exfalso; omega))
          go_roundw
          case rel => exact ⟨k + 1, by omega, by go_num, HWa⟩
          case measure => simp [intOf]; omega
        · have T := Lib.hid (And.intro t0 t1)
          go_wp2_with (go_at_call 108; refine (Hy.out th T.out.1 T.out.2).mono ?_; rintro e w' ⟨rfl, rfl⟩)
          all_goals (try (exfalso; omega))
          go_roundw
          case rel => exact ⟨k + 1, by omega, by go_num, HWa⟩
          case measure => simp [intOf]; omega
    · have : k = l.length := by omega
      subst this
      have Hba := Lib.hid (bare_calls A l cap wr (HA.out.below hW.out) hn8)
      go_wp2_with fail
      (with_reducible refine Hba.out.mono ?_)
      rintro e w3 ⟨⟨A3, c3, rfl, hR3⟩, hW3⟩
      have Hnx := next_calls A3 (l.map bareB) c3 w3 hR3 (by simp; omega) (by simp; omega)
      rw [List.length_map] at Hnx
      have Hnx := Lib.hid Hnx
      go_wp2_with fail
      (with_reducible refine Hnx.out.mono ?_)
      rintro e w4 ⟨b4, rfl, hR4, hW4⟩
      have hlx : (nexts (l.map bareB)).length = l.length := by simp [nexts]
      have Hfr := fromS_ok (some ⟨b4, 0, none⟩) (nexts (l.map bareB)) l.length w4 hR4 (by simp [nexts]; omega) (by simp [nexts]; omega) HNX.out (nexts_nodup _)
      rw [hlx] at Hfr
      have Hfr := Lib.hid Hfr
      go_wp2_with fail
      (with_reducible refine Hfr.out.mono ?_)
      rintro e w5 ⟨B5, rfl, hR5, hW5⟩
      rw [← HOK.out.fe] at hR5
      have HW5 := Lib.hid (((hW.out.trans (hW3.mono hW.out.size)).trans (hW4.mono (by have := hW.out.size; have := hW3.size; omega))).trans (hW5.mono (by have := hW.out.size; have := hW3.size; have := hW4.size; omega)))
      have HR5 := Lib.hid hR5
      have d5 := cell_h ((HW5.out.block PB (lt_h HN1.out)).trans HN1.out) 0
      have Hfl : Hid (frm.length = l.length) := Lib.hid (by rw [HOK.out.fe]; unfold fromX turnX; simp [nexts])
      clear Hba Hnx Hfr hR3 hR4 hR5 hW3 hW4 hW5 hW hlx hlt hk
      go_wp2
      go_loopw [68] (fun i wr => ∃ k : Nat, k ≤ l.length ∧ i = .int .i64 (k : Nat) ∧ Hid (Below w5.heap.size w5 wr)) (fun i _ => l.length - (intOf i).toNat)
      case atStart => exact ⟨0, Nat.zero_le _, rfl, Below.refl _ _⟩
      case round =>
        clear d5 dP hPl
        obtain ⟨k, hk, rfl, hW⟩ := hrel
        have HWw := Lib.hid (HW5.out.trans (hW.out.mono HW5.out.size))
        by_cases hlt : k < l.length
        · obtain ⟨b, off, A1, c1, A2, c2, A3', c3', rfl, hb, e0, e1, e2, e3, e4, e5, r1, r2, r3⟩ := (HA.out.below HWw.out).at_ hlt
          obtain ⟨fb, fo, FA, fc, rfl, hfb, f0, -⟩ := row_get' (HR5.out.below hW.out) (i := k) (by rw [Hfl.out]; exact hlt)
          have hin := HOK.out.ins k hlt
          have hgd : l.getD k sgnul = l[k] := by rw [List.getD_eq_getElem?_getD, List.getElem?_eq_getElem hlt]; rfl
          rw [hgd] at hin
          have hkl : ((k : Nat) : Int) < ((l.length : Nat) : Int) := by omega
          have hfl := HF.out k
          have hs1 : l[k].code.length ≤ 20 := by
            have := sum_take (f := fun b => b.code.length) hlt
            have h2 := sum_take_le (f := fun b => b.code.length) (l := l) (k + 1)
            have h3 := HOK.out.steps
            unfold sumS at h3
            omega
          have hs2 : l[k].joins.length ≤ 64 := by
            have := sum_take (f := fun b => b.joins.length) hlt
            have h2 := sum_take_le (f := fun b => b.joins.length) (l := l) (k + 1)
            have h3 := HOK.out.joins
            unfold sumJ at h3
            omega
          have hs3 : l[k].last.length ≤ 6 := by have := HOK.out.last _ (List.getElem_mem hlt); have := HOK.out.v6; omega
          clear hgd
          generalize l[k] = sg at *
          generalize (frm.getD k []).length = nf at *
          have HIN := Lib.hid hin
          have hBw := (Below.refl wr.heap.size wr).alloc (Nat.le_refl _) (.cells #[.slice A1 sg.joins.length c1, .slice A2 sg.code.length c2, .int .i64 sg.test, .int .i64 sg.thn, .int .i64 sg.els, .slice A3' sg.last.length c3'] 114)
          have HNP := Lib.hid (heap_alloc_new wr (.cells #[.slice A1 sg.joins.length c1, .slice A2 sg.code.length c2, .int .i64 sg.test, .int .i64 sg.thn, .int .i64 sg.els, .slice A3' sg.last.length c3'] 114))
          have HWa := Lib.hid (hW.out.trans (hBw.mono hW.out.size))
          have hf1 := (hBw.cell (p := ⟨fb, fo + k, none⟩) hfb).trans f0
          obtain ⟨PX, hPX⟩ : ∃ PX, PX = wr.heap.size := ⟨_, rfl⟩
          obtain ⟨u1, hu1⟩ : ∃ u1, u1 = wr.alloc (.cells #[.slice A1 sg.joins.length c1, .slice A2 sg.code.length c2, .int .i64 sg.test, .int .i64 sg.thn, .int .i64 sg.els, .slice A3' sg.last.length c3'] 114) := ⟨_, rfl⟩
          rw [← hu1] at HNP HWa hf1 hBw
          rw [← hPX] at HNP
          have Hin := Lib.hid (insideS_calls sg nf A1 A2 A3' c1 c2 c3' u1.drew (r1.below hBw).drewS (Rd.below r2 hBw.drew) (Rd.below r3 hBw.drew) hin hfl hs2 hs1 hs3)
          have HK0 : Hid ((u1.drew.cell? ⟨PX, 0, none⟩ = some (.slice A1 sg.joins.length c1) ∧ u1.drew.cell? ⟨PX, 1, none⟩ = some (.slice A2 sg.code.length c2) ∧ u1.drew.cell? ⟨PX, 2, none⟩ = some (.int .i64 sg.test) ∧ u1.drew.cell? ⟨PX, 3, none⟩ = some (.int .i64 sg.thn) ∧ u1.drew.cell? ⟨PX, 4, none⟩ = some (.int .i64 sg.els) ∧ u1.drew.cell? ⟨PX, 5, none⟩ = some (.slice A3' sg.last.length c3')) ∧ u1.drew.cell? ⟨fb, fo + k, none⟩ = some (.slice FA nf fc)) := Lib.hid ⟨⟨cell_h HNP.out 0, cell_h HNP.out 1, cell_h HNP.out 2, cell_h HNP.out 3, cell_h HNP.out 4, cell_h HNP.out 5⟩, hf1⟩
          have HfB : Hid (fb < u1.heap.size) := Lib.hid (by have := hBw.size; omega)
          have Hf1 := Lib.hid hf1
          have Hlt := Lib.hid hlt
          clear hBw hin r1 r2 r3 f0 hf1 hW hs1 hs2 hs3 HWw hlt
          generalize sg.joins.length = nj at *
          generalize sg.code.length = nc at *
          generalize sg.last.length = nl at *
          generalize sg.test = gt at *
          generalize sg.thn = gh at *
          generalize sg.els = ge at *
          go_wp2
          rw [← hPX, ← hu1]
          clear hPX hu1 e0 e1 e2 e3 e4 e5 hb hfb
          refine wp_region_held_drew (S := fun w' => (w'.cell? ⟨PX, 0, none⟩ = some (.slice A1 nj c1) ∧ w'.cell? ⟨PX, 1, none⟩ = some (.slice A2 nc c2) ∧ w'.cell? ⟨PX, 2, none⟩ = some (.int .i64 gt) ∧ w'.cell? ⟨PX, 3, none⟩ = some (.int .i64 gh) ∧ w'.cell? ⟨PX, 4, none⟩ = some (.int .i64 ge) ∧ w'.cell? ⟨PX, 5, none⟩ = some (.slice A3' nl c3')) ∧ w'.cell? ⟨fb, fo + k, none⟩ = some (.slice FA nf fc)) (by kernel_rfl) HK0.out (fun hH0 => ?_)
          refine wpAnyH_take (i := 0) (oi := { dst := some 73, op := Go.Op.load 114 (Go.Operand.tmp 10), type := 114, pos := "single.go:96", after := #[], guard := none }) rfl (by kernel_rfl) (by kernel_rfl) (by kernel_rfl) (fun _ _ _ h => h) (Or.inl ⟨by rfl, fun w hw => by (obtain ⟨⟨p0, p1, p2, p3, p4, p5⟩, p6⟩ := hw; exact load_sg _ _ _ rfl w PX rfl _ _ _ _ _ _ p0 p1 p2 p3 p4 p5)⟩) (by assumption) ?_
          try simp only [Act.put, List.setIfInBounds_toArray, List.set_cons_zero, List.set_cons_succ]
          refine wpAnyH_take (i := 1) (oi := { dst := some 74, op := Go.Op.move (Go.Operand.tmp 8), type := 97, pos := "single.go:96", after := #[], guard := none }) rfl (by kernel_rfl) (by kernel_rfl) (by kernel_rfl) (fun _ _ _ h => h) (Or.inl ⟨by rfl, fun w hw => by (go_simp; try with_reducible rfl)⟩) (by assumption) ?_
          try simp only [Act.put, List.setIfInBounds_toArray, List.set_cons_zero, List.set_cons_succ]
          refine wpAnyH_take (i := 2) (oi := { dst := some 75, op := Go.Op.move (Go.Operand.tmp 9), type := 3, pos := "single.go:96", after := #[], guard := none }) rfl (by kernel_rfl) (by kernel_rfl) (by kernel_rfl) (fun _ _ _ h => h) (Or.inl ⟨by rfl, fun w hw => by (go_simp; try with_reducible rfl)⟩) (by assumption) ?_
          try simp only [Act.put, List.setIfInBounds_toArray, List.set_cons_zero, List.set_cons_succ]
          refine wpAnyH_take (i := 3) (oi := { dst := some 76, op := Go.Op.indexAddr 97 (Go.Operand.tmp 74) (Go.Operand.tmp 75), type := 0, pos := "single.go:96", after := #[{ on := 1, ground := Go.Ground.data }, { on := 2, ground := Go.Ground.data }], guard := none }) rfl (by kernel_rfl) (by kernel_rfl) (by kernel_rfl) (fun _ _ _ h => h) (Or.inl ⟨by rfl, fun w hw => by (go_simp; try with_reducible rfl)⟩) (by assumption) ?_
          try simp only [Act.put, List.setIfInBounds_toArray, List.set_cons_zero, List.set_cons_succ]
          refine wpAnyH_take (i := 4) (oi := { dst := some 77, op := Go.Op.load 23 (Go.Operand.tmp 76), type := 23, pos := "single.go:96", after := #[{ on := 3, ground := Go.Ground.data }], guard := none }) rfl (by kernel_rfl) (by kernel_rfl) (by kernel_rfl) (fun _ _ _ h => h) (Or.inl ⟨by rfl, fun w hw => by (obtain ⟨-, p6⟩ := hw; go_simp; try with_reducible rfl)⟩) (by assumption) ?_
          try simp only [Act.put, List.setIfInBounds_toArray, List.set_cons_zero, List.set_cons_succ]
          refine wpAnyH_take (i := 5) (oi := { dst := some 78, op := Go.Op.call { callee := Go.Callee.builtin Go.Builtin.len, args := #[Go.Operand.tmp 77], argTypes := #[23] }, type := 3, pos := "single.go:96", after := #[{ on := 4, ground := Go.Ground.data }], guard := none }) rfl (by kernel_rfl) (by kernel_rfl) (by kernel_rfl) (fun _ _ _ h => h) (Or.inl ⟨by rfl, fun w hw => by (go_simp; try with_reducible rfl)⟩) (by assumption) ?_
          try simp only [Act.put, List.setIfInBounds_toArray, List.set_cons_zero, List.set_cons_succ]
          refine wpAnyH_ready (rs := [6]) (by kernel_rfl) (by simp) ?_
          refine AllReadyH.cons (o := { dst := some 79, op := Go.Op.call { callee := Go.Callee.value (Go.Operand.func 109), args := #[Go.Operand.tmp 73, Go.Operand.tmp 78], argTypes := #[114, 3] }, type := 26, pos := "single.go:96", after := #[{ on := 0, ground := Go.Ground.data }, { on := 5, ground := Go.Ground.data }], guard := none }) rfl (fun K hK => ?_) AllReadyH.nil
          go_simp
          go_at_call 109
          (with_reducible refine Hin.out.mono ?_)
          rintro e u7 ⟨rfl, hB7⟩
          have hN7 := (hB7.block PX (lt_h HNP.out)).trans (show u1.drew.heap[PX]? = _ from HNP.out)
          have HK7 : Hid ((u7.cell? ⟨PX, 0, none⟩ = some (.slice A1 nj c1) ∧ u7.cell? ⟨PX, 1, none⟩ = some (.slice A2 nc c2) ∧ u7.cell? ⟨PX, 2, none⟩ = some (.int .i64 gt) ∧ u7.cell? ⟨PX, 3, none⟩ = some (.int .i64 gh) ∧ u7.cell? ⟨PX, 4, none⟩ = some (.int .i64 ge) ∧ u7.cell? ⟨PX, 5, none⟩ = some (.slice A3' nl c3')) ∧ u7.cell? ⟨fb, fo + k, none⟩ = some (.slice FA nf fc)) := Lib.hid ⟨⟨cell_h hN7 0, cell_h hN7 1, cell_h hN7 2, cell_h hN7 3, cell_h hN7 4, cell_h hN7 5⟩, (hB7.cell (p := ⟨fb, fo + k, none⟩) HfB.out).trans Hf1.out⟩
          have HW7 := Lib.hid (HWa.out.trans (Below.trans ((Below.refl _ _).drew) (hB7.mono HWa.out.size)))
          clear hB7 hN7
          refine hK.out _ _ HK7.out (fun hH1 => ?_)
          clear hK hH0
          have hH0 := hH1
          clear hH1
          try simp only [Act.put, List.setIfInBounds_toArray, List.set_cons_zero, List.set_cons_succ]
          refine wpAnyH_take (i := 7) (oi := { dst := some 11, op := Go.Op.assign (Go.Operand.tmp 79), type := 26, pos := "single.go:96", after := #[{ on := 6, ground := Go.Ground.data }, { on := 6, ground := Go.Ground.chain }, { on := 0, ground := Go.Ground.phase }, { on := 1, ground := Go.Ground.phase }, { on := 2, ground := Go.Ground.phase }, { on := 3, ground := Go.Ground.phase }, { on := 4, ground := Go.Ground.phase }, { on := 5, ground := Go.Ground.phase }, { on := 6, ground := Go.Ground.phase }], guard := none }) rfl (by kernel_rfl) (by kernel_rfl) (by kernel_rfl) (fun _ _ _ h => h) (Or.inl ⟨by rfl, fun w hw => by (go_simp; try with_reducible rfl)⟩) (by assumption) ?_
          try simp only [Act.put, List.setIfInBounds_toArray, List.set_cons_zero, List.set_cons_succ]
          refine wpAnyH_done (by kernel_rfl) ?_ _
          clear hH0
          go_wp2
          go_roundw
          case rel => exact ⟨k + 1, by have := Hlt.out; omega, by go_num, HW7⟩
          case measure => have := Hlt.out; simp [intOf]; omega
        · have : k = l.length := by omega
          subst this
          have HWz := Lib.hid (HB1.out.trans (HWw.out.mono HB1.out.size))
          clear hlt hk
          go_wp2
          go_ret
          exact ⟨rfl, HWz.out⟩
end Go.Proofs.Ytmgejacndhnikaa
