/- SingleSame: the namer's walk to where one comes for the first time (written by sne.py out of sne.txt). -/
import Derived.Test.YtmgejacndhnikaaSnL
namespace Go.Proofs.Ytmgejacndhnikaa
set_option maxRecDepth 100000
open Go.RowKit

theorem first_eq {E : NE} {st : NS} {i : Nat} {l : Int} {ns : List Int} (hd : st.done.testBit i = false) (hraw : st.out.getD i sgnul = rawSg E i) {js' : List Jn} {ns' : List Int}
    (hF : FillR ((fromAt E i).idxOf l) (joinsAt E i) (mkJ st.many (joinsAt E i).length (fromAt E i).length) ns (joinsAt E i).length js' ns') {cs : List Step} {nn : List Int} (hC : RenR ns' (st.many + (joinsAt E i).length) (codeAt E i) (codeAt E i).length cs nn) :
    firstN E l i ns st = ⟨st.many + (joinsAt E i).length + (codeAt E i).length, st.done ||| 2 ^ i, st.out.set i ⟨js', cs, if 0 ≤ (rawSg E i).test then gI nn (E.p.getD i bnul).test else (rawSg E i).test, (rawSg E i).thn, (rawSg E i).els, nn⟩⟩ := by
  obtain ⟨f1, f2⟩ := hF.done (mkJ_len _ _ _).symm
  obtain ⟨c1, c2⟩ := hC.done
  have hfi : firstIn E i st = mkJ st.many (joinsAt E i).length (fromAt E i).length := by
    unfold firstIn
    rw [if_neg (by rw [hd]; simp), hraw]
    rfl
  have hmi : manyIn E i st = st.many + (joinsAt E i).length := by unfold manyIn; rw [if_neg (by rw [hd]; simp)]
  unfold firstN filled nameB
  rw [hfi, hmi, hraw, ← f1, ← f2]
  have e : (E.p.getD i bnul).code = codeAt E i := rfl
  rw [e, ← c1, ← c2]
  rfl
theorem Blk_at {w : World} {A : Option Addr} {p : List Blk} (h : RdBk w A p) {i : Nat} (hi : i < p.length) : ∃ b off A' cap, A = some ⟨b, off, none⟩ ∧ b < w.heap.size ∧ w.cell? ⟨b, off + i * 4, none⟩ = some (.slice A' (p.getD i bnul).code.length cap) ∧ w.cell? ⟨b, off + i * 4 + 1, none⟩ = some (.int .i64 (p.getD i bnul).test) ∧ RdSt w A' (p.getD i bnul).code := by
  obtain ⟨b, off, A', cap, e, hb, c0, c1, -, -, hS⟩ := RdBk.at_ h hi
  rw [bget hi]
  exact ⟨b, off, A', cap, e, hb, c0, c1, hS⟩
/-- Between two of a block's next ones. -/
structure KidR (E : NE) (R : Nat → Prop) (D : Nat → Nat → Prop) (f i : Nat) (st st1 : NS) (XL : List Int) (k : Nat) (st' : NS) : Prop where
  inv : ∃ b n o, Inv E R D st' b n o
  und : undN E st' < f
  di : st'.done.testBit i = true
  d0 : st'.done.testBit 0 = true
  la : lastN i st' = lastN i st1
  mono : ∀ k, st.done.testBit k = true → st'.done.testBit k = true
  eq : walksN E f i (lastN i st1) XL st1 = walksN E f i (lastN i st1) (XL.drop k) st'
set_option maxHeartbeats 64000000 in
theorem first_calls {E : NE} {R : Nat → Prop} {D : Nat → Nat → Prop} (hG : Gr E R D) {w0 : World} {H : Hdr} (hH : HdX w0 H E) {T g : Nat} {f : Nat}
    (IH : ∀ (st : NS) (base : Nat → Nat) (nin : Nat → List Int) (own : Int → Nat) (l : Int) (i : Nat), Inv E R D st base nin own → undN E st < f → R i → l ∈ fromAt E i → Come E st l i →
      ∀ (w : World) (o : Nat → Nat × Nat) (rs : List RS) (A : Option Addr) (c : Nat), NmX w0 w H T g o rs st.many st.done nulV [] none → rs.map RS.sg = st.out → RdI w A (srcOf E st l) →
        Calls Try.prog 60 #[.pointer (some ⟨T, 0, none⟩), .int .i64 l, .int .i64 (i : Nat), .slice A (srcOf E st l).length c] w (WalkE w0 H T g (walkN E f l i (srcOf E st l) st) (fun k => st.done.testBit k = true) rs))
    {st : NS} {base : Nat → Nat} {nin : Nat → List Int} {own : Int → Nat} (h : Inv E R D st base nin own) (hu : undN E st < f + 1) {i : Nat} {l : Int} (hd : st.done.testBit i = false) (hR : R i) (hm : l ∈ fromAt E i) (hc : Come E st l i)
    {w : World} {o : Nat → Nat × Nat} {rs : List RS} (hS : NmX w0 w H T g o rs st.many st.done nulV [] none) (hrs : rs.map RS.sg = st.out) {A : Option Addr} {c : Nat} (hA : RdI w A (srcOf E st l)) :
    Calls Try.prog 60 #[.pointer (some ⟨T, 0, none⟩), .int .i64 l, .int .i64 (i : Nat), .slice A (srcOf E st l).length c] w (WalkE w0 H T g (walkN E (f + 1) l i (srcOf E st l) st) (fun k => st.done.testBit k = true) rs) := by
  have hip := hG.rlt i hR
  have hi8 : i < 8 := by have := hG.ok.n8; omega
  have hl := src_len h hc
  have hv1 := hG.ok.v1
  have hv6 := hG.ok.v6
  have hdn := Inv.done_lt hG h
  have hmn := Inv.many_le hG h
  have hraw := h.raw i hip hd
  have hJ := hG.js i
  have hil : i < rs.length := by rw [hS.len, hH.n]; exact hip
  -- what the pure step is
  have hcm : Cm E st l i := by
    rcases hc with e | ⟨r, e1, e2, e3, e4⟩
    · exact .inl e
    · exact .inr ⟨r, e1, e2, e3, fun e => by subst e; rw [hd] at e4; cases e4⟩
  have HFO := Lib.hid (first_ok hG h hd hR hm hcm)
  have HWK : Hid (walkN E (f + 1) l i (srcOf E st l) st = walksN E f i (lastN i (firstN E l i (srcOf E st l) st)) (E.next.getD i []) (firstN E l i (srcOf E st l) st)) := Lib.hid (by rw [walkN, if_neg (by rw [hd]; simp)])
  have HU : Hid (undN E (firstN E l i (srcOf E st l) st) < f ∧ (firstN E l i (srcOf E st l) st).done.testBit 0 = true) := Lib.hid (by
    obtain ⟨b1, n1, o1, hI1, hE1, hW1, hbit⟩ := HFO.out
    have hi1 := (hbit i).2 (.inr rfl)
    have hu1 := und_lt hE1.done (hG.rlt i hR) hd hi1
    refine ⟨by omega, ?_⟩
    rcases hc with ⟨_, rfl⟩ | ⟨r, _, _, _, e4⟩
    · exact hi1
    · exact hE1.done 0 e4)
  have HP := Lib.hid (fun js' ns' hF cs nn hC => first_eq (E := E) (l := l) (ns := srcOf E st l) (js' := js') (ns' := ns') (cs := cs) (nn := nn) hd hraw hF hC)
  obtain ⟨JA, jc, ejv, rjv⟩ := hH.jv
  obtain ⟨jb, jo, JA', jc', eJA, hjb, cj, rJ⟩ := row_get rjv (by rw [hH.lj]; exact hip)
  obtain ⟨FA, fc, efm, rfm⟩ := hH.fm
  obtain ⟨fb, fo, FA', fc', eFA, hfb, cf, rF⟩ := row_get rfm (by rw [hH.lf]; exact hip)
  obtain ⟨NA, nc, enx, rnx⟩ := hH.nx
  obtain ⟨xb, xo, NA', nc', eNA, hxb, cx, rX⟩ := row_get rnx (by rw [hH.lx]; exact hip)
  obtain ⟨PA, pc, epv, rpv⟩ := hH.p
  obtain ⟨pb, po, PA', pc', ePA, hpb, cp0, cp1, rP⟩ := Blk_at rpv hip
  subst eJA eFA eNA ePA
  obtain ⟨x0, hx0⟩ : ∃ x, rs[i]? = some x := ⟨_, List.getElem?_eq_getElem hil⟩
  have hrs0 := (map_sg hrs hx0 (x' := x0)).1
  rw [hraw] at hrs0
  have HO := Lib.hid hrs
  have Hx0 := Lib.hid hx0
  have HNL := Lib.hid (fun v (hv : v ∈ joinsAt E i) => hJ.2 v hv)
  have hFm : Hid (l ∈ fromAt E i) := Lib.hid hm
  have hF100 := hH.f100 i
  have hX100 := hH.x100 i
  have hJ6 := joins_6 hG i
  have hbok := hG.ok.bs _ (List.getElem_mem hip)
  rw [← bget hip] at hbok
  have HB := Lib.hid hbok
  have HC20 : (codeAt E i).length ≤ 20 := code_20 hG hR
  change w0.cell? ⟨jb, jo + i, none⟩ = some (.slice JA' (joinsAt E i).length jc') at cj
  change w0.cell? ⟨fb, fo + i, none⟩ = some (.slice FA' (fromAt E i).length fc') at cf
  change w0.cell? ⟨pb, po + i * 4, none⟩ = some (.slice PA' (codeAt E i).length pc') at cp0
  change RdI w0 JA' (joinsAt E i) at rJ
  change RdI w0 FA' (fromAt E i) at rF
  change RdSt w0 PA' (codeAt E i) at rP
  have HCO : Hid (∀ s ∈ codeAt E i, SOk E.vars s) := Lib.hid hbok.code
  have hwi : ((i : Nat) : Int) < ((H.n : Nat) : Int) := by rw [hH.n]; omega
  have hwp : ((i : Nat) : Int) < ((E.p.length : Nat) : Int) := by omega
  have Hil : Hid (i < H.n) := Lib.hid (by rw [hH.n]; exact hip)
  generalize hdd : (fun k => st.done.testBit k = true) = d at *
  have Hdd := Lib.hid hdd
  clear hdd
  generalize hns : srcOf E st l = ns at *
  have Hns := Lib.hid hns
  have hX0 : Hid (x0.sg = rawSg E i) := Lib.hid hrs0
  obtain ⟨st1, hst1⟩ : ∃ st1, st1 = firstN E l i ns st := ⟨_, rfl⟩
  rw [← hst1] at HFO HWK HU HP
  clear hst1
  have HXe : Hid (E.next.getD i [] = E.next.getD i []) := Lib.hid rfl
  generalize joinsAt E i = JR at *
  generalize fromAt E i = FR at *
  generalize codeAt E i = CO at *
  -- the names are cloned
  have hn1 : 1 ≤ ns.length := by omega
  have Hcl := Lib.hid (cloneI_calls A ns c w hA hn1 (by omega))
  clear hA
  have HS := Lib.hid hS
  clear hS
  have HcJ := Lib.hid cj
  have HcF := Lib.hid cf
  have HcX := Lib.hid cx
  have HcP := Lib.hid (⟨cp0, cp1⟩ : _ ∧ _)
  have HRJ := Lib.hid rJ
  have HRF := Lib.hid rF
  have HRX := Lib.hid rX
  have HRP := Lib.hid rP
  clear cj cf cx cp0 cp1 rJ rF rX rP
  have t1 := W.test_u32 st.done i (by omega)
  rw [hd] at t1
  have Hd := Lib.hid hd
  have HI0 := Lib.hid h
  have HG := Lib.hid hG
  have Hc := Lib.hid hc
  have HR := Lib.hid hR
  have HIH := Lib.hid IH
  have p1 := W.pow_u32 i (by omega)
  have p2 := W.or_u32 st.done (2 ^ i) (by omega) (Nat.lt_of_lt_of_le (Nat.pow_lt_pow_right (by decide) (by omega : i < 32)) (by decide))
  rw [Int.natCast_pow, show ((2 : Nat) : Int) = 2 from rfl] at p1 p2
  have hi32 : i < 32 := by omega
  have HL := Lib.hid hl
  have hl1 : ns.length ≤ 6 := by omega
  have HHn := Lib.hid hH
  clear hG h hd hR hm hc hJ hH hrs hrs0 hip hil hx0 rjv rfm rnx rpv hl hv1 hv6 IH hu hraw hcm hns hbok
  go_enter Try.func60, Try.ntmps60
  go_wp2_with fail
  (with_reducible refine Hcl.out.mono ?_)
  rintro e w1 ⟨v1, rfl, hO1, hW1⟩
  obtain ⟨nb, cn, rfl, -, -, -, -, -⟩ := OwnI.at_ hO1 hn1
  obtain ⟨o1, hS1⟩ := HS.out.names hW1 hO1
  clear hO1 Hcl HS
  obtain ⟨⟨-, -, -, cT3⟩, -, cT6, cT7, fT⟩ := hS1.t
  rw [ejv] at cT3
  have hj1 := (hS1.bel.cell (p := ⟨jb, jo + i, none⟩) hjb).trans HcJ.out
  have hjT : jb ≠ T := by have := hS1.lo.1; omega
  have hTj : T ≠ jb := fun e => hjT e.symm
  have HS1 := Lib.hid hS1
  have f6 := fT 6
  clear hS1 fT
  have hyl := List.idxOf_lt_length_of_mem hFm.out
  have HYX := Lib.hid (idxOf_yes hFm.out)
  generalize FR.idxOf l = yx at *
  have HYL := Lib.hid hyl
  obtain ⟨m0, hm0⟩ : ∃ m0, m0 = st.many := ⟨_, rfl⟩
  rw [← hm0] at hmn HP
  obtain ⟨DN, hDN⟩ : ∃ DN, DN = st.done ||| 2 ^ i := ⟨_, rfl⟩
  have HSd := Lib.hid (HS1.out.setD DN).drew
  rw [← hm0] at HSd
  rw [← hDN] at p2 HP
  have HMN := Lib.hid hm0
  have HDN := Lib.hid hDN
  clear hm0 hDN
  obtain ⟨sr, hsr⟩ : ∃ sr, sr = x0.sg := ⟨_, rfl⟩
  have Hsr : Hid (sr = rawSg E i) := Lib.hid (by rw [hsr]; exact hX0.out)
  have H0 : Hid (rs.map RS.sg = st.out.set i { sr with joins := mkJ m0 0 FR.length }) := Lib.hid (by
    have e := map_self HO.out Hx0.out
    have e1 : ({ sr with joins := mkJ m0 0 FR.length } : Sg) = x0.sg := by rw [Hsr.out, hX0.out]; rfl
    rw [e1]; exact e)
  clear hsr hyl
  generalize hNL : ns.length = NL at *
  have HNL2 := Lib.hid hNL
  clear hNL
  go_wp2_with fail
  go_still_tail 9, (by kernel_rfl)
  go_wp2
  go_loopw [51] (fun k' wr => ∃ (k : Nat) (rs' : List RS) (o' : Nat → Nat × Nat), k' = .int .i64 (k : Nat) ∧ k ≤ JR.length ∧ Hid (NmX w0 wr H T g o' rs' (m0 + k) DN (.slice (some ⟨nb, 0, none⟩) NL cn) ns none) ∧ Hid (rs'.map RS.sg = st.out.set i { sr with joins := mkJ m0 k FR.length }) ∧ Hid (LvF d rs rs')) (fun k' _ => JR.length - (intOf k').toNat)
  case atStart => exact ⟨0, rs, o1, rfl, Nat.zero_le _, HSd, H0, Lib.hid (LvF.refl _ _)⟩
  case round =>
    clear HS1 HSd H0 cT3 cT6 cT7 hj1 hjT hTj f6 p1 p2 t1
    obtain ⟨k, rs', o', rfl, hk, HS, HR2, HV⟩ := hrel
    by_cases hlt : k < JR.length
    · obtain ⟨x, hx⟩ : ∃ x, rs'[i]? = some x := ⟨_, List.getElem?_eq_getElem (by rw [HS.out.len]; exact Hil.out)⟩
      have hsl : i < st.out.length := by have := congrArg List.length HR2.out; rw [List.length_map, List.length_set] at this; rw [← this, HS.out.len]; exact Hil.out
      have hsg : x.sg = { sr with joins := mkJ m0 k FR.length } := by rw [(map_sg HR2.out hx (x' := x)).1, getS_set hsl, if_pos rfl]
      have hjs : x.js.map RJ.jn = mkJ m0 k FR.length := congrArg Sg.joins hsg
      have hjl : x.js.length = k := by have := congrArg List.length hjs; rw [List.length_map, mkJ_len] at this; exact this
      obtain ⟨mk, hmk⟩ : ∃ mk, mk = m0 + k := ⟨_, rfl⟩
      rw [← hmk] at HS
      have Hmk := Lib.hid hmk
      have hmk2 : mk ≤ 1000 := by omega
      have hSg := HS.out.at_ i x hx (by simp)
      obtain ⟨A1, c1, ejx, -, -, -⟩ := Own.form rjCells_len hSg.jn
      rw [hjl] at ejx
      have HX := Lib.hid hx
      have Hejx := Lib.hid ejx
      have Hjl := Lib.hid hjl
      have HC0 := Lib.hid HS.out.drew
      have HSf : Hid (∀ (w' : World) (o' : Nat → Nat × Nat) (rs' : List RS) (m d : Nat) (nv : Value) (ns' : List Int), NmX w0 w' H T g o' rs' m d nv ns' none → w'.cell? ⟨T, 2, none⟩ = some (.slice (some ⟨fb, fo, none⟩) E.p.length fc) ∧ w'.cell? ⟨fb, fo + i, none⟩ = some (.slice FA' FR.length fc')) := Lib.hid (fun w' o' rs' m d nv ns' hN => ⟨by have := hN.t.1.2.2.1; rw [efm] at this; exact this, (hN.bel.cell (p := ⟨fb, fo + i, none⟩) hfb).trans HcF.out⟩)
      have HK0 := Lib.hid (HSf.out _ _ _ _ _ _ _ HC0.out)
      have Hlt := Lib.hid hlt
      have hkj : ((k : Nat) : Int) < ((JR.length : Nat) : Int) := by omega
      have HR7 : Hid (∀ A' n' c' fz, ((rs'.set i { x with jv := .slice A' n' c', js := x.js ++ [⟨fz, ((mk : Nat) : Int), List.replicate FR.length 0⟩] }).map RS.sg = st.out.set i { sr with joins := mkJ m0 (k + 1) FR.length }) ∧ LvF d rs (rs'.set i { x with jv := .slice A' n' c', js := x.js ++ [⟨fz, ((mk : Nat) : Int), List.replicate FR.length 0⟩] })) := Lib.hid (fun A' n' c' fz => by
        refine ⟨?_, HV.out.set hx (.inl rfl)⟩
        rw [(map_sg HR2.out hx (x' := { x with jv := .slice A' n' c', js := x.js ++ [⟨fz, ((mk : Nat) : Int), List.replicate FR.length 0⟩] })).2, List.set_set]
        congr 1
        show Sg.mk ((x.js ++ [(⟨fz, ((mk : Nat) : Int), List.replicate FR.length 0⟩ : RJ)]).map RJ.jn) x.code x.test x.thn x.els x.last = _
        rw [List.map_append, hjs, mkJ_succ, ← hmk]
        have q1 : x.code = sr.code := congrArg Sg.code hsg
        have q2 : x.test = sr.test := congrArg Sg.test hsg
        have q3 : x.thn = sr.thn := congrArg Sg.thn hsg
        have q4 : x.els = sr.els := congrArg Sg.els hsg
        have q5 : x.last = sr.last := congrArg Sg.last hsg
        rw [q1, q2, q3, q4, q5]
        rfl)
      clear hmk hSg hx hsg hjs hsl HS HR2 HV hlt ejx hjl
      go_wp2
      refine wp_region_held_drew (S := fun w' => w'.cell? ⟨T, 2, none⟩ = some (.slice (some ⟨fb, fo, none⟩) E.p.length fc) ∧ w'.cell? ⟨fb, fo + i, none⟩ = some (.slice FA' FR.length fc')) (by kernel_rfl) HK0.out (fun hH0 => ?_)
      refine wpAnyH_take (i := 0) (oi := { dst := some 53, op := Go.Op.move (Go.Operand.tmp 9), type := 172, pos := "single.go:285", after := #[], guard := none }) rfl (by kernel_rfl) (by kernel_rfl) (by kernel_rfl) (fun _ _ _ h => h) (Or.inl ⟨by rfl, fun w hw => by (go_simp; try with_reducible rfl)⟩) (by assumption) ?_
      try simp only [Act.put, List.setIfInBounds_toArray, List.set_cons_zero, List.set_cons_succ]
      refine wpAnyH_take (i := 1) (oi := { dst := some 54, op := Go.Op.move (Go.Operand.tmp 9), type := 172, pos := "single.go:285", after := #[], guard := none }) rfl (by kernel_rfl) (by kernel_rfl) (by kernel_rfl) (fun _ _ _ h => h) (Or.inl ⟨by rfl, fun w hw => by (go_simp; try with_reducible rfl)⟩) (by assumption) ?_
      try simp only [Act.put, List.setIfInBounds_toArray, List.set_cons_zero, List.set_cons_succ]
      refine wpAnyH_take (i := 2) (oi := { dst := some 55, op := Go.Op.nilCheck (Go.Operand.tmp 54), type := 0, pos := "single.go:285", after := #[{ on := 1, ground := Go.Ground.data }], guard := none }) rfl (by kernel_rfl) (by kernel_rfl) (by kernel_rfl) (fun _ _ _ h => h) (Or.inl ⟨by rfl, fun w hw => by (go_simp; try with_reducible rfl)⟩) (by assumption) ?_
      try simp only [Act.put, List.setIfInBounds_toArray, List.set_cons_zero, List.set_cons_succ]
      refine wpAnyH_take (i := 3) (oi := { dst := some 56, op := Go.Op.fieldAddr 114 (Go.Operand.tmp 55) 0, type := 0, pos := "single.go:285", after := #[{ on := 2, ground := Go.Ground.data }], guard := none }) rfl (by kernel_rfl) (by kernel_rfl) (by kernel_rfl) (fun _ _ _ h => h) (Or.inl ⟨by rfl, fun w hw => by (go_simp; try with_reducible rfl)⟩) (by assumption) ?_
      try simp only [Act.put, List.setIfInBounds_toArray, List.set_cons_zero, List.set_cons_succ]
      refine wpAnyH_take (i := 5) (oi := { dst := some 58, op := Go.Op.move (Go.Operand.tmp 0), type := 108, pos := "single.go:285", after := #[], guard := none }) rfl (by kernel_rfl) (by kernel_rfl) (by kernel_rfl) (fun _ _ _ h => h) (Or.inl ⟨by rfl, fun w hw => by (go_simp; try with_reducible rfl)⟩) (by assumption) ?_
      try simp only [Act.put, List.setIfInBounds_toArray, List.set_cons_zero, List.set_cons_succ]
      refine wpAnyH_take (i := 7) (oi := { dst := some 60, op := Go.Op.move (Go.Operand.tmp 0), type := 108, pos := "single.go:285", after := #[], guard := none }) rfl (by kernel_rfl) (by kernel_rfl) (by kernel_rfl) (fun _ _ _ h => h) (Or.inl ⟨by rfl, fun w hw => by (go_simp; try with_reducible rfl)⟩) (by assumption) ?_
      try simp only [Act.put, List.setIfInBounds_toArray, List.set_cons_zero, List.set_cons_succ]
      refine wpAnyH_take (i := 8) (oi := { dst := some 61, op := Go.Op.nilCheck (Go.Operand.tmp 60), type := 0, pos := "single.go:285", after := #[{ on := 7, ground := Go.Ground.data }], guard := none }) rfl (by kernel_rfl) (by kernel_rfl) (by kernel_rfl) (fun _ _ _ h => h) (Or.inl ⟨by rfl, fun w hw => by (go_simp; try with_reducible rfl)⟩) (by assumption) ?_
      try simp only [Act.put, List.setIfInBounds_toArray, List.set_cons_zero, List.set_cons_succ]
      refine wpAnyH_take (i := 9) (oi := { dst := some 62, op := Go.Op.fieldAddr 110 (Go.Operand.tmp 61) 2, type := 0, pos := "single.go:285", after := #[{ on := 8, ground := Go.Ground.data }], guard := none }) rfl (by kernel_rfl) (by kernel_rfl) (by kernel_rfl) (fun _ _ _ h => h) (Or.inl ⟨by rfl, fun w hw => by (go_simp; try with_reducible rfl)⟩) (by assumption) ?_
      try simp only [Act.put, List.setIfInBounds_toArray, List.set_cons_zero, List.set_cons_succ]
      refine wpAnyH_take (i := 10) (oi := { dst := some 63, op := Go.Op.load 97 (Go.Operand.tmp 62), type := 97, pos := "single.go:285", after := #[{ on := 9, ground := Go.Ground.data }], guard := none }) rfl (by kernel_rfl) (by kernel_rfl) (by kernel_rfl) (fun _ _ _ h => h) (Or.inl ⟨by rfl, fun w hw => by (obtain ⟨p0, p1⟩ := hw; go_simp; try with_reducible rfl)⟩) (by assumption) ?_
      try simp only [Act.put, List.setIfInBounds_toArray, List.set_cons_zero, List.set_cons_succ]
      refine wpAnyH_take (i := 11) (oi := { dst := some 64, op := Go.Op.move (Go.Operand.tmp 2), type := 3, pos := "single.go:285", after := #[], guard := none }) rfl (by kernel_rfl) (by kernel_rfl) (by kernel_rfl) (fun _ _ _ h => h) (Or.inl ⟨by rfl, fun w hw => by (go_simp; try with_reducible rfl)⟩) (by assumption) ?_
      try simp only [Act.put, List.setIfInBounds_toArray, List.set_cons_zero, List.set_cons_succ]
      refine wpAnyH_take (i := 12) (oi := { dst := some 65, op := Go.Op.indexAddr 97 (Go.Operand.tmp 63) (Go.Operand.tmp 64), type := 0, pos := "single.go:285", after := #[{ on := 10, ground := Go.Ground.data }, { on := 11, ground := Go.Ground.data }], guard := none }) rfl (by kernel_rfl) (by kernel_rfl) (by kernel_rfl) (fun _ _ _ h => h) (Or.inl ⟨by rfl, fun w hw => by (go_simp; try with_reducible rfl)⟩) (by assumption) ?_
      try simp only [Act.put, List.setIfInBounds_toArray, List.set_cons_zero, List.set_cons_succ]
      refine wpAnyH_take (i := 13) (oi := { dst := some 66, op := Go.Op.load 23 (Go.Operand.tmp 65), type := 23, pos := "single.go:285", after := #[{ on := 12, ground := Go.Ground.data }], guard := none }) rfl (by kernel_rfl) (by kernel_rfl) (by kernel_rfl) (fun _ _ _ h => h) (Or.inl ⟨by rfl, fun w hw => by (obtain ⟨p0, p1⟩ := hw; go_simp; try with_reducible rfl)⟩) (by assumption) ?_
      try simp only [Act.put, List.setIfInBounds_toArray, List.set_cons_zero, List.set_cons_succ]
      refine wpAnyH_take (i := 14) (oi := { dst := some 67, op := Go.Op.call { callee := Go.Callee.builtin Go.Builtin.len, args := #[Go.Operand.tmp 66], argTypes := #[23] }, type := 3, pos := "single.go:285", after := #[{ on := 13, ground := Go.Ground.data }], guard := none }) rfl (by kernel_rfl) (by kernel_rfl) (by kernel_rfl) (fun _ _ _ h => h) (Or.inl ⟨by rfl, fun w hw => by (go_simp; try with_reducible rfl)⟩) (by assumption) ?_
      try simp only [Act.put, List.setIfInBounds_toArray, List.set_cons_zero, List.set_cons_succ]
      refine wpAnyH_ready (rs := [4, 6, 15]) (by kernel_rfl) (by simp) ?_
      refine AllReadyH.cons (o := { dst := some 57, op := Go.Op.load 112 (Go.Operand.tmp 56), type := 112, pos := "single.go:285", after := #[{ on := 3, ground := Go.Ground.data }], guard := none }) rfl (fun K hK => ?_) ?_
      · have c9 := (HC0.out.g_ HX.out).1.1
        rw [Hejx.out] at c9
        go_simp
        clear c9
        refine hK.out _ _ hH0 (fun hH1 => ?_)
        clear hK hH0
        have hH0 := hH1
        clear hH1
        try simp only [Act.put, List.setIfInBounds_toArray, List.set_cons_zero, List.set_cons_succ]
        refine wpAnyH_ready (rs := [6, 15]) (by kernel_rfl) (by simp) ?_
        refine AllReadyH.cons (o := { dst := some 59, op := Go.Op.call { callee := Go.Callee.value (Go.Operand.func 106), args := #[Go.Operand.tmp 58], argTypes := #[108] }, type := 3, pos := "single.go:285", after := #[{ on := 5, ground := Go.Ground.data }], guard := none }) rfl (fun K hK => ?_) ?_
        · go_simp
          go_at_call 106
          (with_reducible refine (fresh_calls T mk _ (by omega) (HC0.out.t).2.1 ((HC0.out.t).2.2.2.2 5)).mono ?_)
          rintro e u1 ⟨rfl, hu⟩
          have HC1 := Lib.hid (HC0.out.setM (mk + 1))
          rw [← hu] at HC1
          clear hu
          have HK1 := Lib.hid (HSf.out _ _ _ _ _ _ _ HC1.out)
          refine hK.out _ _ HK1.out (fun hH1 => ?_)
          clear hK hH0
          have hH0 := hH1
          clear hH1
          try simp only [Act.put, List.setIfInBounds_toArray, List.set_cons_zero, List.set_cons_succ]
          refine wpAnyH_ready (rs := [15]) (by kernel_rfl) (by simp) ?_
          refine AllReadyH.cons (o := { dst := some 68, op := Go.Op.makeSlice 23 (Go.Operand.tmp 67) (Go.Operand.tmp 67), type := 23, pos := "single.go:285", after := #[{ on := 14, ground := Go.Ground.data }, { on := 14, ground := Go.Ground.data }], guard := none }) rfl (fun K hK => ?_) AllReadyH.nil
          obtain ⟨oz, Hoz, hz⟩ := HC1.out.owner (i + 1, k + 3)
          refine wp_makeF _ _ rfl FR.length rfl rfl (by omega) ?_
          intro u2 hf hb
          have HC2 := Lib.hid (hz.below hb)
          obtain ⟨fz, hfz⟩ : ∃ fz, fz = (u1).heap.size := ⟨_, rfl⟩
          rw [← hfz] at hf Hoz
          rw [← hfz]
          have HFT : Hid (fz ≠ T) := Lib.hid (by rw [hfz]; exact fun e => by have := lt_h HC1.out.tc; omega)
          have HFB : Hid (w0.heap.size ≤ fz) := Lib.hid (by rw [hfz]; exact HC1.out.bel.size)
          have HFx2 := Lib.hid hf
          have Hoz := Lib.hid Hoz
          clear hf hb hz hfz
          have HK2 := Lib.hid (HSf.out _ _ _ _ _ _ _ HC2.out)
          refine hK.out _ _ HK2.out (fun hH1 => ?_)
          clear hK hH0
          have hH0 := hH1
          clear hH1
          try simp only [Act.put, List.setIfInBounds_toArray, List.set_cons_zero, List.set_cons_succ]
          refine wpAnyH_take (i := 16) (oi := { dst := some 69, op := Go.Op.build 128 #[(0, Go.Operand.tmp 59), (1, Go.Operand.tmp 68)], type := 128, pos := "single.go:285", after := #[{ on := 6, ground := Go.Ground.data }, { on := 15, ground := Go.Ground.data }], guard := none }) rfl (by kernel_rfl) (by kernel_rfl) (by kernel_rfl) (fun _ _ _ h => h) (Or.inl ⟨by rfl, fun w hw => by (go_simp; try with_reducible rfl)⟩) (by assumption) ?_
          try simp only [Act.put, List.setIfInBounds_toArray, List.set_cons_zero, List.set_cons_succ]
          refine wpAnyH_ready (rs := [17]) (by kernel_rfl) (by simp) ?_
          refine AllReadyH.cons (o := { dst := some 70, op := Go.Op.buildSlice 112 1 #[(0, Go.Operand.tmp 69)], type := 112, pos := "single.go:285", after := #[{ on := 16, ground := Go.Ground.data }], guard := none }) rfl (fun K hK => ?_) AllReadyH.nil
          have HC3 := Lib.hid (HC2.out.alloc (.cells #[.int .i64 ((mk : Nat) : Int), .slice (some ⟨fz, 0, none⟩) FR.length FR.length] 128))
          have hsz : fz < u2.heap.size := lt_h HFx2.out
          have HFx3 := Lib.hid ((Below.heap_alloc u2 (.cells #[.int .i64 ((mk : Nat) : Int), .slice (some ⟨fz, 0, none⟩) FR.length FR.length] 128) fz hsz).trans HFx2.out)
          have HJx := Lib.hid (heap_alloc_new u2 (.cells #[.int .i64 ((mk : Nat) : Int), .slice (some ⟨fz, 0, none⟩) FR.length FR.length] 128))
          clear hsz
          obtain ⟨u3, hu⟩ : ∃ x, x = u2.alloc (.cells #[.int .i64 ((mk : Nat) : Int), .slice (some ⟨fz, 0, none⟩) FR.length FR.length] 128) := ⟨_, rfl⟩
          obtain ⟨sz, hsz⟩ : ∃ sz, sz = u2.heap.size := ⟨_, rfl⟩
          rw [← hu] at HC3 HFx3 HJx
          rw [← hsz] at HJx
          go_simp
          rw [← hsz, ← hu]
          clear hsz hu
          have HK3 := Lib.hid (HSf.out _ _ _ _ _ _ _ HC3.out)
          refine hK.out _ _ HK3.out (fun hH1 => ?_)
          clear hK hH0
          have hH0 := hH1
          clear hH1
          try simp only [Act.put, List.setIfInBounds_toArray, List.set_cons_zero, List.set_cons_succ]
          refine wpAnyH_ready (rs := [18]) (by kernel_rfl) (by simp) ?_
          refine AllReadyH.cons (o := { dst := some 71, op := Go.Op.call { callee := Go.Callee.builtin Go.Builtin.append, args := #[Go.Operand.tmp 57, Go.Operand.tmp 70], argTypes := #[112, 112] }, type := 112, pos := "single.go:285", after := #[{ on := 4, ground := Go.Ground.data }, { on := 17, ground := Go.Ground.data }, { on := 6, ground := Go.Ground.chain }], guard := none }) rfl (fun K hK => ?_) AllReadyH.nil
          obtain ⟨Az, nz, cz, uz, oy, hrun, ⟨cg, fg⟩, ⟨hky, hby⟩, hS9⟩ := HC3.out.join HX.out HFx3.out (by rw [Hjl.out]; exact Hoz.out) HFB.out 1 HJx.out (by rw [Hjl.out]; omega)
          rw [Hejx.out] at hrun cg
          try rw [if_pos (by rfl)]
          refine wp_app_run 112 _ _ rfl rfl rfl hrun ?_
          have HK4 : Hid (uz.cell? ⟨T, 2, none⟩ = some (.slice (some ⟨fb, fo, none⟩) E.p.length fc) ∧ uz.cell? ⟨fb, fo + i, none⟩ = some (.slice FA' FR.length fc')) := Lib.hid ⟨(World.cell?_of_block (hky T (lt_h HC3.out.tc) (by rw [HC3.out.tg.1]; simp))).trans HK3.out.1, (hby.cell (p := ⟨fb, fo + i, none⟩) hfb).trans HcF.out⟩
          have Hcg := Lib.hid (⟨cg, fg⟩ : _ ∧ _)
          have HS9 := Lib.hid hS9
          clear hrun cg fg hky hby hS9
          refine hK.out _ _ HK4.out (fun hH1 => ?_)
          clear hK hH0
          have hH0 := hH1
          clear hH1
          try simp only [Act.put, List.setIfInBounds_toArray, List.set_cons_zero, List.set_cons_succ]
          refine wpAnyH_take (i := 19) (oi := { dst := some 72, op := Go.Op.nilCheck (Go.Operand.tmp 53), type := 0, pos := "single.go:285", after := #[{ on := 0, ground := Go.Ground.data }, { on := 0, ground := Go.Ground.phase }, { on := 1, ground := Go.Ground.phase }, { on := 2, ground := Go.Ground.phase }, { on := 3, ground := Go.Ground.phase }, { on := 4, ground := Go.Ground.phase }, { on := 5, ground := Go.Ground.phase }, { on := 6, ground := Go.Ground.phase }, { on := 7, ground := Go.Ground.phase }, { on := 8, ground := Go.Ground.phase }, { on := 9, ground := Go.Ground.phase }, { on := 10, ground := Go.Ground.phase }, { on := 11, ground := Go.Ground.phase }, { on := 12, ground := Go.Ground.phase }, { on := 13, ground := Go.Ground.phase }, { on := 14, ground := Go.Ground.phase }, { on := 15, ground := Go.Ground.phase }, { on := 16, ground := Go.Ground.phase }, { on := 17, ground := Go.Ground.phase }, { on := 18, ground := Go.Ground.phase }], guard := none }) rfl (by kernel_rfl) (by kernel_rfl) (by kernel_rfl) (fun _ _ _ h => h) (Or.inl ⟨by rfl, fun w hw => by (go_simp; try with_reducible rfl)⟩) (by assumption) ?_
          try simp only [Act.put, List.setIfInBounds_toArray, List.set_cons_zero, List.set_cons_succ]
          refine wpAnyH_take (i := 20) (oi := { dst := some 73, op := Go.Op.fieldAddr 114 (Go.Operand.tmp 72) 0, type := 0, pos := "single.go:285", after := #[{ on := 19, ground := Go.Ground.data }, { on := 0, ground := Go.Ground.phase }, { on := 1, ground := Go.Ground.phase }, { on := 2, ground := Go.Ground.phase }, { on := 3, ground := Go.Ground.phase }, { on := 4, ground := Go.Ground.phase }, { on := 5, ground := Go.Ground.phase }, { on := 6, ground := Go.Ground.phase }, { on := 7, ground := Go.Ground.phase }, { on := 8, ground := Go.Ground.phase }, { on := 9, ground := Go.Ground.phase }, { on := 10, ground := Go.Ground.phase }, { on := 11, ground := Go.Ground.phase }, { on := 12, ground := Go.Ground.phase }, { on := 13, ground := Go.Ground.phase }, { on := 14, ground := Go.Ground.phase }, { on := 15, ground := Go.Ground.phase }, { on := 16, ground := Go.Ground.phase }, { on := 17, ground := Go.Ground.phase }, { on := 18, ground := Go.Ground.phase }], guard := none }) rfl (by kernel_rfl) (by kernel_rfl) (by kernel_rfl) (fun _ _ _ h => h) (Or.inl ⟨by rfl, fun w hw => by (go_simp; try with_reducible rfl)⟩) (by assumption) ?_
          try simp only [Act.put, List.setIfInBounds_toArray, List.set_cons_zero, List.set_cons_succ]
          refine wpAnyH_ready (rs := [21]) (by kernel_rfl) (by simp) ?_
          refine AllReadyH.cons (o := { dst := none, op := Go.Op.store 112 (Go.Operand.tmp 73) (Go.Operand.tmp 71), type := 0, pos := "single.go:285", after := #[{ on := 20, ground := Go.Ground.data }, { on := 18, ground := Go.Ground.data }, { on := 18, ground := Go.Ground.chain }, { on := 0, ground := Go.Ground.phase }, { on := 1, ground := Go.Ground.phase }, { on := 2, ground := Go.Ground.phase }, { on := 3, ground := Go.Ground.phase }, { on := 4, ground := Go.Ground.phase }, { on := 5, ground := Go.Ground.phase }, { on := 6, ground := Go.Ground.phase }, { on := 7, ground := Go.Ground.phase }, { on := 8, ground := Go.Ground.phase }, { on := 9, ground := Go.Ground.phase }, { on := 10, ground := Go.Ground.phase }, { on := 11, ground := Go.Ground.phase }, { on := 12, ground := Go.Ground.phase }, { on := 13, ground := Go.Ground.phase }, { on := 14, ground := Go.Ground.phase }, { on := 15, ground := Go.Ground.phase }, { on := 16, ground := Go.Ground.phase }, { on := 17, ground := Go.Ground.phase }, { on := 18, ground := Go.Ground.phase }], guard := none }) rfl (fun K hK => ?_) AllReadyH.nil
          obtain ⟨c9, f9⟩ := Hcg.out
          have HK9 := Lib.hid (HSf.out _ _ _ _ _ _ _ HS9.out)
          go_simp
          clear c9 f9
          refine hK.out _ _ HK9.out (fun hH1 => ?_)
          clear hK hH0
          have hH0 := hH1
          clear hH1
          try simp only [Act.put, List.setIfInBounds_toArray, List.set_cons_zero, List.set_cons_succ]
          refine wpAnyH_done (by kernel_rfl) ?_ _
          clear hH0
          have e9 : mk + 1 = m0 + (k + 1) := by rw [Hmk.out]; omega
          rw [e9] at HS9
          clear e9
          go_wp2
          go_roundw
          case rel => exact ⟨k + 1, _, _, by go_num, by have := Hlt.out; omega, HS9, Lib.hid (HR7.out _ _ _ _).1, Lib.hid (HR7.out _ _ _ _).2⟩
          case measure => have := Hlt.out; simp [intOf]; omega
        refine AllReadyH.cons (o := { dst := some 68, op := Go.Op.makeSlice 23 (Go.Operand.tmp 67) (Go.Operand.tmp 67), type := 23, pos := "single.go:285", after := #[{ on := 14, ground := Go.Ground.data }, { on := 14, ground := Go.Ground.data }], guard := none }) rfl (fun K hK => ?_) AllReadyH.nil
        obtain ⟨oz, Hoz, hz⟩ := HC0.out.owner (i + 1, k + 3)
        refine wp_makeF _ _ rfl FR.length rfl rfl (by omega) ?_
        intro u1 hf hb
        have HC1 := Lib.hid (hz.below hb)
        obtain ⟨fz, hfz⟩ : ∃ fz, fz = (wr.drew).heap.size := ⟨_, rfl⟩
        rw [← hfz] at hf Hoz
        rw [← hfz]
        have HFT : Hid (fz ≠ T) := Lib.hid (by rw [hfz]; exact fun e => by have := lt_h HC0.out.tc; omega)
        have HFB : Hid (w0.heap.size ≤ fz) := Lib.hid (by rw [hfz]; exact HC0.out.bel.size)
        have HFx1 := Lib.hid hf
        have Hoz := Lib.hid Hoz
        clear hf hb hz hfz
        have HK1 := Lib.hid (HSf.out _ _ _ _ _ _ _ HC1.out)
        refine hK.out _ _ HK1.out (fun hH1 => ?_)
        clear hK hH0
        have hH0 := hH1
        clear hH1
        try simp only [Act.put, List.setIfInBounds_toArray, List.set_cons_zero, List.set_cons_succ]
        refine wpAnyH_ready (rs := [6]) (by kernel_rfl) (by simp) ?_
        refine AllReadyH.cons (o := { dst := some 59, op := Go.Op.call { callee := Go.Callee.value (Go.Operand.func 106), args := #[Go.Operand.tmp 58], argTypes := #[108] }, type := 3, pos := "single.go:285", after := #[{ on := 5, ground := Go.Ground.data }], guard := none }) rfl (fun K hK => ?_) AllReadyH.nil
        go_simp
        go_at_call 106
        (with_reducible refine (fresh_calls T mk _ (by omega) (HC1.out.t).2.1 ((HC1.out.t).2.2.2.2 5)).mono ?_)
        rintro e u2 ⟨rfl, hu⟩
        have HC2 := Lib.hid (HC1.out.setM (mk + 1))
        rw [← hu] at HC2
        have HFx2 : Hid (u2.heap[fz]? = some (frV (List.replicate FR.length 0))) := Lib.hid (by rw [hu, Below.heap_setCell _ _ _ _ HFT.out]; exact HFx1.out)
        clear hu
        have HK2 := Lib.hid (HSf.out _ _ _ _ _ _ _ HC2.out)
        refine hK.out _ _ HK2.out (fun hH1 => ?_)
        clear hK hH0
        have hH0 := hH1
        clear hH1
        try simp only [Act.put, List.setIfInBounds_toArray, List.set_cons_zero, List.set_cons_succ]
        refine wpAnyH_take (i := 16) (oi := { dst := some 69, op := Go.Op.build 128 #[(0, Go.Operand.tmp 59), (1, Go.Operand.tmp 68)], type := 128, pos := "single.go:285", after := #[{ on := 6, ground := Go.Ground.data }, { on := 15, ground := Go.Ground.data }], guard := none }) rfl (by kernel_rfl) (by kernel_rfl) (by kernel_rfl) (fun _ _ _ h => h) (Or.inl ⟨by rfl, fun w hw => by (go_simp; try with_reducible rfl)⟩) (by assumption) ?_
        try simp only [Act.put, List.setIfInBounds_toArray, List.set_cons_zero, List.set_cons_succ]
        refine wpAnyH_ready (rs := [17]) (by kernel_rfl) (by simp) ?_
        refine AllReadyH.cons (o := { dst := some 70, op := Go.Op.buildSlice 112 1 #[(0, Go.Operand.tmp 69)], type := 112, pos := "single.go:285", after := #[{ on := 16, ground := Go.Ground.data }], guard := none }) rfl (fun K hK => ?_) AllReadyH.nil
        have HC3 := Lib.hid (HC2.out.alloc (.cells #[.int .i64 ((mk : Nat) : Int), .slice (some ⟨fz, 0, none⟩) FR.length FR.length] 128))
        have hsz : fz < u2.heap.size := lt_h HFx2.out
        have HFx3 := Lib.hid ((Below.heap_alloc u2 (.cells #[.int .i64 ((mk : Nat) : Int), .slice (some ⟨fz, 0, none⟩) FR.length FR.length] 128) fz hsz).trans HFx2.out)
        have HJx := Lib.hid (heap_alloc_new u2 (.cells #[.int .i64 ((mk : Nat) : Int), .slice (some ⟨fz, 0, none⟩) FR.length FR.length] 128))
        clear hsz
        obtain ⟨u3, hu⟩ : ∃ x, x = u2.alloc (.cells #[.int .i64 ((mk : Nat) : Int), .slice (some ⟨fz, 0, none⟩) FR.length FR.length] 128) := ⟨_, rfl⟩
        obtain ⟨sz, hsz⟩ : ∃ sz, sz = u2.heap.size := ⟨_, rfl⟩
        rw [← hu] at HC3 HFx3 HJx
        rw [← hsz] at HJx
        go_simp
        rw [← hsz, ← hu]
        clear hsz hu
        have HK3 := Lib.hid (HSf.out _ _ _ _ _ _ _ HC3.out)
        refine hK.out _ _ HK3.out (fun hH1 => ?_)
        clear hK hH0
        have hH0 := hH1
        clear hH1
        try simp only [Act.put, List.setIfInBounds_toArray, List.set_cons_zero, List.set_cons_succ]
        refine wpAnyH_ready (rs := [18]) (by kernel_rfl) (by simp) ?_
        refine AllReadyH.cons (o := { dst := some 71, op := Go.Op.call { callee := Go.Callee.builtin Go.Builtin.append, args := #[Go.Operand.tmp 57, Go.Operand.tmp 70], argTypes := #[112, 112] }, type := 112, pos := "single.go:285", after := #[{ on := 4, ground := Go.Ground.data }, { on := 17, ground := Go.Ground.data }, { on := 6, ground := Go.Ground.chain }], guard := none }) rfl (fun K hK => ?_) AllReadyH.nil
        obtain ⟨Az, nz, cz, uz, oy, hrun, ⟨cg, fg⟩, ⟨hky, hby⟩, hS9⟩ := HC3.out.join HX.out HFx3.out (by rw [Hjl.out]; exact Hoz.out) HFB.out 1 HJx.out (by rw [Hjl.out]; omega)
        rw [Hejx.out] at hrun cg
        try rw [if_pos (by rfl)]
        refine wp_app_run 112 _ _ rfl rfl rfl hrun ?_
        have HK4 : Hid (uz.cell? ⟨T, 2, none⟩ = some (.slice (some ⟨fb, fo, none⟩) E.p.length fc) ∧ uz.cell? ⟨fb, fo + i, none⟩ = some (.slice FA' FR.length fc')) := Lib.hid ⟨(World.cell?_of_block (hky T (lt_h HC3.out.tc) (by rw [HC3.out.tg.1]; simp))).trans HK3.out.1, (hby.cell (p := ⟨fb, fo + i, none⟩) hfb).trans HcF.out⟩
        have Hcg := Lib.hid (⟨cg, fg⟩ : _ ∧ _)
        have HS9 := Lib.hid hS9
        clear hrun cg fg hky hby hS9
        refine hK.out _ _ HK4.out (fun hH1 => ?_)
        clear hK hH0
        have hH0 := hH1
        clear hH1
        try simp only [Act.put, List.setIfInBounds_toArray, List.set_cons_zero, List.set_cons_succ]
        refine wpAnyH_take (i := 19) (oi := { dst := some 72, op := Go.Op.nilCheck (Go.Operand.tmp 53), type := 0, pos := "single.go:285", after := #[{ on := 0, ground := Go.Ground.data }, { on := 0, ground := Go.Ground.phase }, { on := 1, ground := Go.Ground.phase }, { on := 2, ground := Go.Ground.phase }, { on := 3, ground := Go.Ground.phase }, { on := 4, ground := Go.Ground.phase }, { on := 5, ground := Go.Ground.phase }, { on := 6, ground := Go.Ground.phase }, { on := 7, ground := Go.Ground.phase }, { on := 8, ground := Go.Ground.phase }, { on := 9, ground := Go.Ground.phase }, { on := 10, ground := Go.Ground.phase }, { on := 11, ground := Go.Ground.phase }, { on := 12, ground := Go.Ground.phase }, { on := 13, ground := Go.Ground.phase }, { on := 14, ground := Go.Ground.phase }, { on := 15, ground := Go.Ground.phase }, { on := 16, ground := Go.Ground.phase }, { on := 17, ground := Go.Ground.phase }, { on := 18, ground := Go.Ground.phase }], guard := none }) rfl (by kernel_rfl) (by kernel_rfl) (by kernel_rfl) (fun _ _ _ h => h) (Or.inl ⟨by rfl, fun w hw => by (go_simp; try with_reducible rfl)⟩) (by assumption) ?_
        try simp only [Act.put, List.setIfInBounds_toArray, List.set_cons_zero, List.set_cons_succ]
        refine wpAnyH_take (i := 20) (oi := { dst := some 73, op := Go.Op.fieldAddr 114 (Go.Operand.tmp 72) 0, type := 0, pos := "single.go:285", after := #[{ on := 19, ground := Go.Ground.data }, { on := 0, ground := Go.Ground.phase }, { on := 1, ground := Go.Ground.phase }, { on := 2, ground := Go.Ground.phase }, { on := 3, ground := Go.Ground.phase }, { on := 4, ground := Go.Ground.phase }, { on := 5, ground := Go.Ground.phase }, { on := 6, ground := Go.Ground.phase }, { on := 7, ground := Go.Ground.phase }, { on := 8, ground := Go.Ground.phase }, { on := 9, ground := Go.Ground.phase }, { on := 10, ground := Go.Ground.phase }, { on := 11, ground := Go.Ground.phase }, { on := 12, ground := Go.Ground.phase }, { on := 13, ground := Go.Ground.phase }, { on := 14, ground := Go.Ground.phase }, { on := 15, ground := Go.Ground.phase }, { on := 16, ground := Go.Ground.phase }, { on := 17, ground := Go.Ground.phase }, { on := 18, ground := Go.Ground.phase }], guard := none }) rfl (by kernel_rfl) (by kernel_rfl) (by kernel_rfl) (fun _ _ _ h => h) (Or.inl ⟨by rfl, fun w hw => by (go_simp; try with_reducible rfl)⟩) (by assumption) ?_
        try simp only [Act.put, List.setIfInBounds_toArray, List.set_cons_zero, List.set_cons_succ]
        refine wpAnyH_ready (rs := [21]) (by kernel_rfl) (by simp) ?_
        refine AllReadyH.cons (o := { dst := none, op := Go.Op.store 112 (Go.Operand.tmp 73) (Go.Operand.tmp 71), type := 0, pos := "single.go:285", after := #[{ on := 20, ground := Go.Ground.data }, { on := 18, ground := Go.Ground.data }, { on := 18, ground := Go.Ground.chain }, { on := 0, ground := Go.Ground.phase }, { on := 1, ground := Go.Ground.phase }, { on := 2, ground := Go.Ground.phase }, { on := 3, ground := Go.Ground.phase }, { on := 4, ground := Go.Ground.phase }, { on := 5, ground := Go.Ground.phase }, { on := 6, ground := Go.Ground.phase }, { on := 7, ground := Go.Ground.phase }, { on := 8, ground := Go.Ground.phase }, { on := 9, ground := Go.Ground.phase }, { on := 10, ground := Go.Ground.phase }, { on := 11, ground := Go.Ground.phase }, { on := 12, ground := Go.Ground.phase }, { on := 13, ground := Go.Ground.phase }, { on := 14, ground := Go.Ground.phase }, { on := 15, ground := Go.Ground.phase }, { on := 16, ground := Go.Ground.phase }, { on := 17, ground := Go.Ground.phase }, { on := 18, ground := Go.Ground.phase }], guard := none }) rfl (fun K hK => ?_) AllReadyH.nil
        obtain ⟨c9, f9⟩ := Hcg.out
        have HK9 := Lib.hid (HSf.out _ _ _ _ _ _ _ HS9.out)
        go_simp
        clear c9 f9
        refine hK.out _ _ HK9.out (fun hH1 => ?_)
        clear hK hH0
        have hH0 := hH1
        clear hH1
        try simp only [Act.put, List.setIfInBounds_toArray, List.set_cons_zero, List.set_cons_succ]
        refine wpAnyH_done (by kernel_rfl) ?_ _
        clear hH0
        have e9 : mk + 1 = m0 + (k + 1) := by rw [Hmk.out]; omega
        rw [e9] at HS9
        clear e9
        go_wp2
        go_roundw
        case rel => exact ⟨k + 1, _, _, by go_num, by have := Hlt.out; omega, HS9, Lib.hid (HR7.out _ _ _ _).1, Lib.hid (HR7.out _ _ _ _).2⟩
        case measure => have := Hlt.out; simp [intOf]; omega
      refine AllReadyH.cons (o := { dst := some 59, op := Go.Op.call { callee := Go.Callee.value (Go.Operand.func 106), args := #[Go.Operand.tmp 58], argTypes := #[108] }, type := 3, pos := "single.go:285", after := #[{ on := 5, ground := Go.Ground.data }], guard := none }) rfl (fun K hK => ?_) ?_
      · go_simp
        go_at_call 106
        (with_reducible refine (fresh_calls T mk _ (by omega) (HC0.out.t).2.1 ((HC0.out.t).2.2.2.2 5)).mono ?_)
        rintro e u1 ⟨rfl, hu⟩
        have HC1 := Lib.hid (HC0.out.setM (mk + 1))
        rw [← hu] at HC1
        clear hu
        have HK1 := Lib.hid (HSf.out _ _ _ _ _ _ _ HC1.out)
        refine hK.out _ _ HK1.out (fun hH1 => ?_)
        clear hK hH0
        have hH0 := hH1
        clear hH1
        try simp only [Act.put, List.setIfInBounds_toArray, List.set_cons_zero, List.set_cons_succ]
        refine wpAnyH_ready (rs := [4, 15]) (by kernel_rfl) (by simp) ?_
        refine AllReadyH.cons (o := { dst := some 57, op := Go.Op.load 112 (Go.Operand.tmp 56), type := 112, pos := "single.go:285", after := #[{ on := 3, ground := Go.Ground.data }], guard := none }) rfl (fun K hK => ?_) ?_
        · have c9 := (HC1.out.g_ HX.out).1.1
          rw [Hejx.out] at c9
          go_simp
          clear c9
          refine hK.out _ _ hH0 (fun hH1 => ?_)
          clear hK hH0
          have hH0 := hH1
          clear hH1
          try simp only [Act.put, List.setIfInBounds_toArray, List.set_cons_zero, List.set_cons_succ]
          refine wpAnyH_ready (rs := [15]) (by kernel_rfl) (by simp) ?_
          refine AllReadyH.cons (o := { dst := some 68, op := Go.Op.makeSlice 23 (Go.Operand.tmp 67) (Go.Operand.tmp 67), type := 23, pos := "single.go:285", after := #[{ on := 14, ground := Go.Ground.data }, { on := 14, ground := Go.Ground.data }], guard := none }) rfl (fun K hK => ?_) AllReadyH.nil
          obtain ⟨oz, Hoz, hz⟩ := HC1.out.owner (i + 1, k + 3)
          refine wp_makeF _ _ rfl FR.length rfl rfl (by omega) ?_
          intro u2 hf hb
          have HC2 := Lib.hid (hz.below hb)
          obtain ⟨fz, hfz⟩ : ∃ fz, fz = (u1).heap.size := ⟨_, rfl⟩
          rw [← hfz] at hf Hoz
          rw [← hfz]
          have HFT : Hid (fz ≠ T) := Lib.hid (by rw [hfz]; exact fun e => by have := lt_h HC1.out.tc; omega)
          have HFB : Hid (w0.heap.size ≤ fz) := Lib.hid (by rw [hfz]; exact HC1.out.bel.size)
          have HFx2 := Lib.hid hf
          have Hoz := Lib.hid Hoz
          clear hf hb hz hfz
          have HK2 := Lib.hid (HSf.out _ _ _ _ _ _ _ HC2.out)
          refine hK.out _ _ HK2.out (fun hH1 => ?_)
          clear hK hH0
          have hH0 := hH1
          clear hH1
          try simp only [Act.put, List.setIfInBounds_toArray, List.set_cons_zero, List.set_cons_succ]
          refine wpAnyH_take (i := 16) (oi := { dst := some 69, op := Go.Op.build 128 #[(0, Go.Operand.tmp 59), (1, Go.Operand.tmp 68)], type := 128, pos := "single.go:285", after := #[{ on := 6, ground := Go.Ground.data }, { on := 15, ground := Go.Ground.data }], guard := none }) rfl (by kernel_rfl) (by kernel_rfl) (by kernel_rfl) (fun _ _ _ h => h) (Or.inl ⟨by rfl, fun w hw => by (go_simp; try with_reducible rfl)⟩) (by assumption) ?_
          try simp only [Act.put, List.setIfInBounds_toArray, List.set_cons_zero, List.set_cons_succ]
          refine wpAnyH_ready (rs := [17]) (by kernel_rfl) (by simp) ?_
          refine AllReadyH.cons (o := { dst := some 70, op := Go.Op.buildSlice 112 1 #[(0, Go.Operand.tmp 69)], type := 112, pos := "single.go:285", after := #[{ on := 16, ground := Go.Ground.data }], guard := none }) rfl (fun K hK => ?_) AllReadyH.nil
          have HC3 := Lib.hid (HC2.out.alloc (.cells #[.int .i64 ((mk : Nat) : Int), .slice (some ⟨fz, 0, none⟩) FR.length FR.length] 128))
          have hsz : fz < u2.heap.size := lt_h HFx2.out
          have HFx3 := Lib.hid ((Below.heap_alloc u2 (.cells #[.int .i64 ((mk : Nat) : Int), .slice (some ⟨fz, 0, none⟩) FR.length FR.length] 128) fz hsz).trans HFx2.out)
          have HJx := Lib.hid (heap_alloc_new u2 (.cells #[.int .i64 ((mk : Nat) : Int), .slice (some ⟨fz, 0, none⟩) FR.length FR.length] 128))
          clear hsz
          obtain ⟨u3, hu⟩ : ∃ x, x = u2.alloc (.cells #[.int .i64 ((mk : Nat) : Int), .slice (some ⟨fz, 0, none⟩) FR.length FR.length] 128) := ⟨_, rfl⟩
          obtain ⟨sz, hsz⟩ : ∃ sz, sz = u2.heap.size := ⟨_, rfl⟩
          rw [← hu] at HC3 HFx3 HJx
          rw [← hsz] at HJx
          go_simp
          rw [← hsz, ← hu]
          clear hsz hu
          have HK3 := Lib.hid (HSf.out _ _ _ _ _ _ _ HC3.out)
          refine hK.out _ _ HK3.out (fun hH1 => ?_)
          clear hK hH0
          have hH0 := hH1
          clear hH1
          try simp only [Act.put, List.setIfInBounds_toArray, List.set_cons_zero, List.set_cons_succ]
          refine wpAnyH_ready (rs := [18]) (by kernel_rfl) (by simp) ?_
          refine AllReadyH.cons (o := { dst := some 71, op := Go.Op.call { callee := Go.Callee.builtin Go.Builtin.append, args := #[Go.Operand.tmp 57, Go.Operand.tmp 70], argTypes := #[112, 112] }, type := 112, pos := "single.go:285", after := #[{ on := 4, ground := Go.Ground.data }, { on := 17, ground := Go.Ground.data }, { on := 6, ground := Go.Ground.chain }], guard := none }) rfl (fun K hK => ?_) AllReadyH.nil
          obtain ⟨Az, nz, cz, uz, oy, hrun, ⟨cg, fg⟩, ⟨hky, hby⟩, hS9⟩ := HC3.out.join HX.out HFx3.out (by rw [Hjl.out]; exact Hoz.out) HFB.out 1 HJx.out (by rw [Hjl.out]; omega)
          rw [Hejx.out] at hrun cg
          try rw [if_pos (by rfl)]
          refine wp_app_run 112 _ _ rfl rfl rfl hrun ?_
          have HK4 : Hid (uz.cell? ⟨T, 2, none⟩ = some (.slice (some ⟨fb, fo, none⟩) E.p.length fc) ∧ uz.cell? ⟨fb, fo + i, none⟩ = some (.slice FA' FR.length fc')) := Lib.hid ⟨(World.cell?_of_block (hky T (lt_h HC3.out.tc) (by rw [HC3.out.tg.1]; simp))).trans HK3.out.1, (hby.cell (p := ⟨fb, fo + i, none⟩) hfb).trans HcF.out⟩
          have Hcg := Lib.hid (⟨cg, fg⟩ : _ ∧ _)
          have HS9 := Lib.hid hS9
          clear hrun cg fg hky hby hS9
          refine hK.out _ _ HK4.out (fun hH1 => ?_)
          clear hK hH0
          have hH0 := hH1
          clear hH1
          try simp only [Act.put, List.setIfInBounds_toArray, List.set_cons_zero, List.set_cons_succ]
          refine wpAnyH_take (i := 19) (oi := { dst := some 72, op := Go.Op.nilCheck (Go.Operand.tmp 53), type := 0, pos := "single.go:285", after := #[{ on := 0, ground := Go.Ground.data }, { on := 0, ground := Go.Ground.phase }, { on := 1, ground := Go.Ground.phase }, { on := 2, ground := Go.Ground.phase }, { on := 3, ground := Go.Ground.phase }, { on := 4, ground := Go.Ground.phase }, { on := 5, ground := Go.Ground.phase }, { on := 6, ground := Go.Ground.phase }, { on := 7, ground := Go.Ground.phase }, { on := 8, ground := Go.Ground.phase }, { on := 9, ground := Go.Ground.phase }, { on := 10, ground := Go.Ground.phase }, { on := 11, ground := Go.Ground.phase }, { on := 12, ground := Go.Ground.phase }, { on := 13, ground := Go.Ground.phase }, { on := 14, ground := Go.Ground.phase }, { on := 15, ground := Go.Ground.phase }, { on := 16, ground := Go.Ground.phase }, { on := 17, ground := Go.Ground.phase }, { on := 18, ground := Go.Ground.phase }], guard := none }) rfl (by kernel_rfl) (by kernel_rfl) (by kernel_rfl) (fun _ _ _ h => h) (Or.inl ⟨by rfl, fun w hw => by (go_simp; try with_reducible rfl)⟩) (by assumption) ?_
          try simp only [Act.put, List.setIfInBounds_toArray, List.set_cons_zero, List.set_cons_succ]
          refine wpAnyH_take (i := 20) (oi := { dst := some 73, op := Go.Op.fieldAddr 114 (Go.Operand.tmp 72) 0, type := 0, pos := "single.go:285", after := #[{ on := 19, ground := Go.Ground.data }, { on := 0, ground := Go.Ground.phase }, { on := 1, ground := Go.Ground.phase }, { on := 2, ground := Go.Ground.phase }, { on := 3, ground := Go.Ground.phase }, { on := 4, ground := Go.Ground.phase }, { on := 5, ground := Go.Ground.phase }, { on := 6, ground := Go.Ground.phase }, { on := 7, ground := Go.Ground.phase }, { on := 8, ground := Go.Ground.phase }, { on := 9, ground := Go.Ground.phase }, { on := 10, ground := Go.Ground.phase }, { on := 11, ground := Go.Ground.phase }, { on := 12, ground := Go.Ground.phase }, { on := 13, ground := Go.Ground.phase }, { on := 14, ground := Go.Ground.phase }, { on := 15, ground := Go.Ground.phase }, { on := 16, ground := Go.Ground.phase }, { on := 17, ground := Go.Ground.phase }, { on := 18, ground := Go.Ground.phase }], guard := none }) rfl (by kernel_rfl) (by kernel_rfl) (by kernel_rfl) (fun _ _ _ h => h) (Or.inl ⟨by rfl, fun w hw => by (go_simp; try with_reducible rfl)⟩) (by assumption) ?_
          try simp only [Act.put, List.setIfInBounds_toArray, List.set_cons_zero, List.set_cons_succ]
          refine wpAnyH_ready (rs := [21]) (by kernel_rfl) (by simp) ?_
          refine AllReadyH.cons (o := { dst := none, op := Go.Op.store 112 (Go.Operand.tmp 73) (Go.Operand.tmp 71), type := 0, pos := "single.go:285", after := #[{ on := 20, ground := Go.Ground.data }, { on := 18, ground := Go.Ground.data }, { on := 18, ground := Go.Ground.chain }, { on := 0, ground := Go.Ground.phase }, { on := 1, ground := Go.Ground.phase }, { on := 2, ground := Go.Ground.phase }, { on := 3, ground := Go.Ground.phase }, { on := 4, ground := Go.Ground.phase }, { on := 5, ground := Go.Ground.phase }, { on := 6, ground := Go.Ground.phase }, { on := 7, ground := Go.Ground.phase }, { on := 8, ground := Go.Ground.phase }, { on := 9, ground := Go.Ground.phase }, { on := 10, ground := Go.Ground.phase }, { on := 11, ground := Go.Ground.phase }, { on := 12, ground := Go.Ground.phase }, { on := 13, ground := Go.Ground.phase }, { on := 14, ground := Go.Ground.phase }, { on := 15, ground := Go.Ground.phase }, { on := 16, ground := Go.Ground.phase }, { on := 17, ground := Go.Ground.phase }, { on := 18, ground := Go.Ground.phase }], guard := none }) rfl (fun K hK => ?_) AllReadyH.nil
          obtain ⟨c9, f9⟩ := Hcg.out
          have HK9 := Lib.hid (HSf.out _ _ _ _ _ _ _ HS9.out)
          go_simp
          clear c9 f9
          refine hK.out _ _ HK9.out (fun hH1 => ?_)
          clear hK hH0
          have hH0 := hH1
          clear hH1
          try simp only [Act.put, List.setIfInBounds_toArray, List.set_cons_zero, List.set_cons_succ]
          refine wpAnyH_done (by kernel_rfl) ?_ _
          clear hH0
          have e9 : mk + 1 = m0 + (k + 1) := by rw [Hmk.out]; omega
          rw [e9] at HS9
          clear e9
          go_wp2
          go_roundw
          case rel => exact ⟨k + 1, _, _, by go_num, by have := Hlt.out; omega, HS9, Lib.hid (HR7.out _ _ _ _).1, Lib.hid (HR7.out _ _ _ _).2⟩
          case measure => have := Hlt.out; simp [intOf]; omega
        refine AllReadyH.cons (o := { dst := some 68, op := Go.Op.makeSlice 23 (Go.Operand.tmp 67) (Go.Operand.tmp 67), type := 23, pos := "single.go:285", after := #[{ on := 14, ground := Go.Ground.data }, { on := 14, ground := Go.Ground.data }], guard := none }) rfl (fun K hK => ?_) AllReadyH.nil
        obtain ⟨oz, Hoz, hz⟩ := HC1.out.owner (i + 1, k + 3)
        refine wp_makeF _ _ rfl FR.length rfl rfl (by omega) ?_
        intro u2 hf hb
        have HC2 := Lib.hid (hz.below hb)
        obtain ⟨fz, hfz⟩ : ∃ fz, fz = (u1).heap.size := ⟨_, rfl⟩
        rw [← hfz] at hf Hoz
        rw [← hfz]
        have HFT : Hid (fz ≠ T) := Lib.hid (by rw [hfz]; exact fun e => by have := lt_h HC1.out.tc; omega)
        have HFB : Hid (w0.heap.size ≤ fz) := Lib.hid (by rw [hfz]; exact HC1.out.bel.size)
        have HFx2 := Lib.hid hf
        have Hoz := Lib.hid Hoz
        clear hf hb hz hfz
        have HK2 := Lib.hid (HSf.out _ _ _ _ _ _ _ HC2.out)
        refine hK.out _ _ HK2.out (fun hH1 => ?_)
        clear hK hH0
        have hH0 := hH1
        clear hH1
        try simp only [Act.put, List.setIfInBounds_toArray, List.set_cons_zero, List.set_cons_succ]
        refine wpAnyH_take (i := 16) (oi := { dst := some 69, op := Go.Op.build 128 #[(0, Go.Operand.tmp 59), (1, Go.Operand.tmp 68)], type := 128, pos := "single.go:285", after := #[{ on := 6, ground := Go.Ground.data }, { on := 15, ground := Go.Ground.data }], guard := none }) rfl (by kernel_rfl) (by kernel_rfl) (by kernel_rfl) (fun _ _ _ h => h) (Or.inl ⟨by rfl, fun w hw => by (go_simp; try with_reducible rfl)⟩) (by assumption) ?_
        try simp only [Act.put, List.setIfInBounds_toArray, List.set_cons_zero, List.set_cons_succ]
        refine wpAnyH_ready (rs := [4, 17]) (by kernel_rfl) (by simp) ?_
        refine AllReadyH.cons (o := { dst := some 57, op := Go.Op.load 112 (Go.Operand.tmp 56), type := 112, pos := "single.go:285", after := #[{ on := 3, ground := Go.Ground.data }], guard := none }) rfl (fun K hK => ?_) ?_
        · have c9 := (HC2.out.g_ HX.out).1.1
          rw [Hejx.out] at c9
          go_simp
          clear c9
          refine hK.out _ _ hH0 (fun hH1 => ?_)
          clear hK hH0
          have hH0 := hH1
          clear hH1
          try simp only [Act.put, List.setIfInBounds_toArray, List.set_cons_zero, List.set_cons_succ]
          refine wpAnyH_ready (rs := [17]) (by kernel_rfl) (by simp) ?_
          refine AllReadyH.cons (o := { dst := some 70, op := Go.Op.buildSlice 112 1 #[(0, Go.Operand.tmp 69)], type := 112, pos := "single.go:285", after := #[{ on := 16, ground := Go.Ground.data }], guard := none }) rfl (fun K hK => ?_) AllReadyH.nil
          have HC3 := Lib.hid (HC2.out.alloc (.cells #[.int .i64 ((mk : Nat) : Int), .slice (some ⟨fz, 0, none⟩) FR.length FR.length] 128))
          have hsz : fz < u2.heap.size := lt_h HFx2.out
          have HFx3 := Lib.hid ((Below.heap_alloc u2 (.cells #[.int .i64 ((mk : Nat) : Int), .slice (some ⟨fz, 0, none⟩) FR.length FR.length] 128) fz hsz).trans HFx2.out)
          have HJx := Lib.hid (heap_alloc_new u2 (.cells #[.int .i64 ((mk : Nat) : Int), .slice (some ⟨fz, 0, none⟩) FR.length FR.length] 128))
          clear hsz
          obtain ⟨u3, hu⟩ : ∃ x, x = u2.alloc (.cells #[.int .i64 ((mk : Nat) : Int), .slice (some ⟨fz, 0, none⟩) FR.length FR.length] 128) := ⟨_, rfl⟩
          obtain ⟨sz, hsz⟩ : ∃ sz, sz = u2.heap.size := ⟨_, rfl⟩
          rw [← hu] at HC3 HFx3 HJx
          rw [← hsz] at HJx
          go_simp
          rw [← hsz, ← hu]
          clear hsz hu
          have HK3 := Lib.hid (HSf.out _ _ _ _ _ _ _ HC3.out)
          refine hK.out _ _ HK3.out (fun hH1 => ?_)
          clear hK hH0
          have hH0 := hH1
          clear hH1
          try simp only [Act.put, List.setIfInBounds_toArray, List.set_cons_zero, List.set_cons_succ]
          refine wpAnyH_ready (rs := [18]) (by kernel_rfl) (by simp) ?_
          refine AllReadyH.cons (o := { dst := some 71, op := Go.Op.call { callee := Go.Callee.builtin Go.Builtin.append, args := #[Go.Operand.tmp 57, Go.Operand.tmp 70], argTypes := #[112, 112] }, type := 112, pos := "single.go:285", after := #[{ on := 4, ground := Go.Ground.data }, { on := 17, ground := Go.Ground.data }, { on := 6, ground := Go.Ground.chain }], guard := none }) rfl (fun K hK => ?_) AllReadyH.nil
          obtain ⟨Az, nz, cz, uz, oy, hrun, ⟨cg, fg⟩, ⟨hky, hby⟩, hS9⟩ := HC3.out.join HX.out HFx3.out (by rw [Hjl.out]; exact Hoz.out) HFB.out 1 HJx.out (by rw [Hjl.out]; omega)
          rw [Hejx.out] at hrun cg
          try rw [if_pos (by rfl)]
          refine wp_app_run 112 _ _ rfl rfl rfl hrun ?_
          have HK4 : Hid (uz.cell? ⟨T, 2, none⟩ = some (.slice (some ⟨fb, fo, none⟩) E.p.length fc) ∧ uz.cell? ⟨fb, fo + i, none⟩ = some (.slice FA' FR.length fc')) := Lib.hid ⟨(World.cell?_of_block (hky T (lt_h HC3.out.tc) (by rw [HC3.out.tg.1]; simp))).trans HK3.out.1, (hby.cell (p := ⟨fb, fo + i, none⟩) hfb).trans HcF.out⟩
          have Hcg := Lib.hid (⟨cg, fg⟩ : _ ∧ _)
          have HS9 := Lib.hid hS9
          clear hrun cg fg hky hby hS9
          refine hK.out _ _ HK4.out (fun hH1 => ?_)
          clear hK hH0
          have hH0 := hH1
          clear hH1
          try simp only [Act.put, List.setIfInBounds_toArray, List.set_cons_zero, List.set_cons_succ]
          refine wpAnyH_take (i := 19) (oi := { dst := some 72, op := Go.Op.nilCheck (Go.Operand.tmp 53), type := 0, pos := "single.go:285", after := #[{ on := 0, ground := Go.Ground.data }, { on := 0, ground := Go.Ground.phase }, { on := 1, ground := Go.Ground.phase }, { on := 2, ground := Go.Ground.phase }, { on := 3, ground := Go.Ground.phase }, { on := 4, ground := Go.Ground.phase }, { on := 5, ground := Go.Ground.phase }, { on := 6, ground := Go.Ground.phase }, { on := 7, ground := Go.Ground.phase }, { on := 8, ground := Go.Ground.phase }, { on := 9, ground := Go.Ground.phase }, { on := 10, ground := Go.Ground.phase }, { on := 11, ground := Go.Ground.phase }, { on := 12, ground := Go.Ground.phase }, { on := 13, ground := Go.Ground.phase }, { on := 14, ground := Go.Ground.phase }, { on := 15, ground := Go.Ground.phase }, { on := 16, ground := Go.Ground.phase }, { on := 17, ground := Go.Ground.phase }, { on := 18, ground := Go.Ground.phase }], guard := none }) rfl (by kernel_rfl) (by kernel_rfl) (by kernel_rfl) (fun _ _ _ h => h) (Or.inl ⟨by rfl, fun w hw => by (go_simp; try with_reducible rfl)⟩) (by assumption) ?_
          try simp only [Act.put, List.setIfInBounds_toArray, List.set_cons_zero, List.set_cons_succ]
          refine wpAnyH_take (i := 20) (oi := { dst := some 73, op := Go.Op.fieldAddr 114 (Go.Operand.tmp 72) 0, type := 0, pos := "single.go:285", after := #[{ on := 19, ground := Go.Ground.data }, { on := 0, ground := Go.Ground.phase }, { on := 1, ground := Go.Ground.phase }, { on := 2, ground := Go.Ground.phase }, { on := 3, ground := Go.Ground.phase }, { on := 4, ground := Go.Ground.phase }, { on := 5, ground := Go.Ground.phase }, { on := 6, ground := Go.Ground.phase }, { on := 7, ground := Go.Ground.phase }, { on := 8, ground := Go.Ground.phase }, { on := 9, ground := Go.Ground.phase }, { on := 10, ground := Go.Ground.phase }, { on := 11, ground := Go.Ground.phase }, { on := 12, ground := Go.Ground.phase }, { on := 13, ground := Go.Ground.phase }, { on := 14, ground := Go.Ground.phase }, { on := 15, ground := Go.Ground.phase }, { on := 16, ground := Go.Ground.phase }, { on := 17, ground := Go.Ground.phase }, { on := 18, ground := Go.Ground.phase }], guard := none }) rfl (by kernel_rfl) (by kernel_rfl) (by kernel_rfl) (fun _ _ _ h => h) (Or.inl ⟨by rfl, fun w hw => by (go_simp; try with_reducible rfl)⟩) (by assumption) ?_
          try simp only [Act.put, List.setIfInBounds_toArray, List.set_cons_zero, List.set_cons_succ]
          refine wpAnyH_ready (rs := [21]) (by kernel_rfl) (by simp) ?_
          refine AllReadyH.cons (o := { dst := none, op := Go.Op.store 112 (Go.Operand.tmp 73) (Go.Operand.tmp 71), type := 0, pos := "single.go:285", after := #[{ on := 20, ground := Go.Ground.data }, { on := 18, ground := Go.Ground.data }, { on := 18, ground := Go.Ground.chain }, { on := 0, ground := Go.Ground.phase }, { on := 1, ground := Go.Ground.phase }, { on := 2, ground := Go.Ground.phase }, { on := 3, ground := Go.Ground.phase }, { on := 4, ground := Go.Ground.phase }, { on := 5, ground := Go.Ground.phase }, { on := 6, ground := Go.Ground.phase }, { on := 7, ground := Go.Ground.phase }, { on := 8, ground := Go.Ground.phase }, { on := 9, ground := Go.Ground.phase }, { on := 10, ground := Go.Ground.phase }, { on := 11, ground := Go.Ground.phase }, { on := 12, ground := Go.Ground.phase }, { on := 13, ground := Go.Ground.phase }, { on := 14, ground := Go.Ground.phase }, { on := 15, ground := Go.Ground.phase }, { on := 16, ground := Go.Ground.phase }, { on := 17, ground := Go.Ground.phase }, { on := 18, ground := Go.Ground.phase }], guard := none }) rfl (fun K hK => ?_) AllReadyH.nil
          obtain ⟨c9, f9⟩ := Hcg.out
          have HK9 := Lib.hid (HSf.out _ _ _ _ _ _ _ HS9.out)
          go_simp
          clear c9 f9
          refine hK.out _ _ HK9.out (fun hH1 => ?_)
          clear hK hH0
          have hH0 := hH1
          clear hH1
          try simp only [Act.put, List.setIfInBounds_toArray, List.set_cons_zero, List.set_cons_succ]
          refine wpAnyH_done (by kernel_rfl) ?_ _
          clear hH0
          have e9 : mk + 1 = m0 + (k + 1) := by rw [Hmk.out]; omega
          rw [e9] at HS9
          clear e9
          go_wp2
          go_roundw
          case rel => exact ⟨k + 1, _, _, by go_num, by have := Hlt.out; omega, HS9, Lib.hid (HR7.out _ _ _ _).1, Lib.hid (HR7.out _ _ _ _).2⟩
          case measure => have := Hlt.out; simp [intOf]; omega
        refine AllReadyH.cons (o := { dst := some 70, op := Go.Op.buildSlice 112 1 #[(0, Go.Operand.tmp 69)], type := 112, pos := "single.go:285", after := #[{ on := 16, ground := Go.Ground.data }], guard := none }) rfl (fun K hK => ?_) AllReadyH.nil
        have HC3 := Lib.hid (HC2.out.alloc (.cells #[.int .i64 ((mk : Nat) : Int), .slice (some ⟨fz, 0, none⟩) FR.length FR.length] 128))
        have hsz : fz < u2.heap.size := lt_h HFx2.out
        have HFx3 := Lib.hid ((Below.heap_alloc u2 (.cells #[.int .i64 ((mk : Nat) : Int), .slice (some ⟨fz, 0, none⟩) FR.length FR.length] 128) fz hsz).trans HFx2.out)
        have HJx := Lib.hid (heap_alloc_new u2 (.cells #[.int .i64 ((mk : Nat) : Int), .slice (some ⟨fz, 0, none⟩) FR.length FR.length] 128))
        clear hsz
        obtain ⟨u3, hu⟩ : ∃ x, x = u2.alloc (.cells #[.int .i64 ((mk : Nat) : Int), .slice (some ⟨fz, 0, none⟩) FR.length FR.length] 128) := ⟨_, rfl⟩
        obtain ⟨sz, hsz⟩ : ∃ sz, sz = u2.heap.size := ⟨_, rfl⟩
        rw [← hu] at HC3 HFx3 HJx
        rw [← hsz] at HJx
        go_simp
        rw [← hsz, ← hu]
        clear hsz hu
        have HK3 := Lib.hid (HSf.out _ _ _ _ _ _ _ HC3.out)
        refine hK.out _ _ HK3.out (fun hH1 => ?_)
        clear hK hH0
        have hH0 := hH1
        clear hH1
        try simp only [Act.put, List.setIfInBounds_toArray, List.set_cons_zero, List.set_cons_succ]
        refine wpAnyH_ready (rs := [4]) (by kernel_rfl) (by simp) ?_
        refine AllReadyH.cons (o := { dst := some 57, op := Go.Op.load 112 (Go.Operand.tmp 56), type := 112, pos := "single.go:285", after := #[{ on := 3, ground := Go.Ground.data }], guard := none }) rfl (fun K hK => ?_) AllReadyH.nil
        have c9 := (HC3.out.g_ HX.out).1.1
        rw [Hejx.out] at c9
        go_simp
        clear c9
        refine hK.out _ _ hH0 (fun hH1 => ?_)
        clear hK hH0
        have hH0 := hH1
        clear hH1
        try simp only [Act.put, List.setIfInBounds_toArray, List.set_cons_zero, List.set_cons_succ]
        refine wpAnyH_ready (rs := [18]) (by kernel_rfl) (by simp) ?_
        refine AllReadyH.cons (o := { dst := some 71, op := Go.Op.call { callee := Go.Callee.builtin Go.Builtin.append, args := #[Go.Operand.tmp 57, Go.Operand.tmp 70], argTypes := #[112, 112] }, type := 112, pos := "single.go:285", after := #[{ on := 4, ground := Go.Ground.data }, { on := 17, ground := Go.Ground.data }, { on := 6, ground := Go.Ground.chain }], guard := none }) rfl (fun K hK => ?_) AllReadyH.nil
        obtain ⟨Az, nz, cz, uz, oy, hrun, ⟨cg, fg⟩, ⟨hky, hby⟩, hS9⟩ := HC3.out.join HX.out HFx3.out (by rw [Hjl.out]; exact Hoz.out) HFB.out 1 HJx.out (by rw [Hjl.out]; omega)
        rw [Hejx.out] at hrun cg
        try rw [if_pos (by rfl)]
        refine wp_app_run 112 _ _ rfl rfl rfl hrun ?_
        have HK4 : Hid (uz.cell? ⟨T, 2, none⟩ = some (.slice (some ⟨fb, fo, none⟩) E.p.length fc) ∧ uz.cell? ⟨fb, fo + i, none⟩ = some (.slice FA' FR.length fc')) := Lib.hid ⟨(World.cell?_of_block (hky T (lt_h HC3.out.tc) (by rw [HC3.out.tg.1]; simp))).trans HK3.out.1, (hby.cell (p := ⟨fb, fo + i, none⟩) hfb).trans HcF.out⟩
        have Hcg := Lib.hid (⟨cg, fg⟩ : _ ∧ _)
        have HS9 := Lib.hid hS9
        clear hrun cg fg hky hby hS9
        refine hK.out _ _ HK4.out (fun hH1 => ?_)
        clear hK hH0
        have hH0 := hH1
        clear hH1
        try simp only [Act.put, List.setIfInBounds_toArray, List.set_cons_zero, List.set_cons_succ]
        refine wpAnyH_take (i := 19) (oi := { dst := some 72, op := Go.Op.nilCheck (Go.Operand.tmp 53), type := 0, pos := "single.go:285", after := #[{ on := 0, ground := Go.Ground.data }, { on := 0, ground := Go.Ground.phase }, { on := 1, ground := Go.Ground.phase }, { on := 2, ground := Go.Ground.phase }, { on := 3, ground := Go.Ground.phase }, { on := 4, ground := Go.Ground.phase }, { on := 5, ground := Go.Ground.phase }, { on := 6, ground := Go.Ground.phase }, { on := 7, ground := Go.Ground.phase }, { on := 8, ground := Go.Ground.phase }, { on := 9, ground := Go.Ground.phase }, { on := 10, ground := Go.Ground.phase }, { on := 11, ground := Go.Ground.phase }, { on := 12, ground := Go.Ground.phase }, { on := 13, ground := Go.Ground.phase }, { on := 14, ground := Go.Ground.phase }, { on := 15, ground := Go.Ground.phase }, { on := 16, ground := Go.Ground.phase }, { on := 17, ground := Go.Ground.phase }, { on := 18, ground := Go.Ground.phase }], guard := none }) rfl (by kernel_rfl) (by kernel_rfl) (by kernel_rfl) (fun _ _ _ h => h) (Or.inl ⟨by rfl, fun w hw => by (go_simp; try with_reducible rfl)⟩) (by assumption) ?_
        try simp only [Act.put, List.setIfInBounds_toArray, List.set_cons_zero, List.set_cons_succ]
        refine wpAnyH_take (i := 20) (oi := { dst := some 73, op := Go.Op.fieldAddr 114 (Go.Operand.tmp 72) 0, type := 0, pos := "single.go:285", after := #[{ on := 19, ground := Go.Ground.data }, { on := 0, ground := Go.Ground.phase }, { on := 1, ground := Go.Ground.phase }, { on := 2, ground := Go.Ground.phase }, { on := 3, ground := Go.Ground.phase }, { on := 4, ground := Go.Ground.phase }, { on := 5, ground := Go.Ground.phase }, { on := 6, ground := Go.Ground.phase }, { on := 7, ground := Go.Ground.phase }, { on := 8, ground := Go.Ground.phase }, { on := 9, ground := Go.Ground.phase }, { on := 10, ground := Go.Ground.phase }, { on := 11, ground := Go.Ground.phase }, { on := 12, ground := Go.Ground.phase }, { on := 13, ground := Go.Ground.phase }, { on := 14, ground := Go.Ground.phase }, { on := 15, ground := Go.Ground.phase }, { on := 16, ground := Go.Ground.phase }, { on := 17, ground := Go.Ground.phase }, { on := 18, ground := Go.Ground.phase }], guard := none }) rfl (by kernel_rfl) (by kernel_rfl) (by kernel_rfl) (fun _ _ _ h => h) (Or.inl ⟨by rfl, fun w hw => by (go_simp; try with_reducible rfl)⟩) (by assumption) ?_
        try simp only [Act.put, List.setIfInBounds_toArray, List.set_cons_zero, List.set_cons_succ]
        refine wpAnyH_ready (rs := [21]) (by kernel_rfl) (by simp) ?_
        refine AllReadyH.cons (o := { dst := none, op := Go.Op.store 112 (Go.Operand.tmp 73) (Go.Operand.tmp 71), type := 0, pos := "single.go:285", after := #[{ on := 20, ground := Go.Ground.data }, { on := 18, ground := Go.Ground.data }, { on := 18, ground := Go.Ground.chain }, { on := 0, ground := Go.Ground.phase }, { on := 1, ground := Go.Ground.phase }, { on := 2, ground := Go.Ground.phase }, { on := 3, ground := Go.Ground.phase }, { on := 4, ground := Go.Ground.phase }, { on := 5, ground := Go.Ground.phase }, { on := 6, ground := Go.Ground.phase }, { on := 7, ground := Go.Ground.phase }, { on := 8, ground := Go.Ground.phase }, { on := 9, ground := Go.Ground.phase }, { on := 10, ground := Go.Ground.phase }, { on := 11, ground := Go.Ground.phase }, { on := 12, ground := Go.Ground.phase }, { on := 13, ground := Go.Ground.phase }, { on := 14, ground := Go.Ground.phase }, { on := 15, ground := Go.Ground.phase }, { on := 16, ground := Go.Ground.phase }, { on := 17, ground := Go.Ground.phase }, { on := 18, ground := Go.Ground.phase }], guard := none }) rfl (fun K hK => ?_) AllReadyH.nil
        obtain ⟨c9, f9⟩ := Hcg.out
        have HK9 := Lib.hid (HSf.out _ _ _ _ _ _ _ HS9.out)
        go_simp
        clear c9 f9
        refine hK.out _ _ HK9.out (fun hH1 => ?_)
        clear hK hH0
        have hH0 := hH1
        clear hH1
        try simp only [Act.put, List.setIfInBounds_toArray, List.set_cons_zero, List.set_cons_succ]
        refine wpAnyH_done (by kernel_rfl) ?_ _
        clear hH0
        have e9 : mk + 1 = m0 + (k + 1) := by rw [Hmk.out]; omega
        rw [e9] at HS9
        clear e9
        go_wp2
        go_roundw
        case rel => exact ⟨k + 1, _, _, by go_num, by have := Hlt.out; omega, HS9, Lib.hid (HR7.out _ _ _ _).1, Lib.hid (HR7.out _ _ _ _).2⟩
        case measure => have := Hlt.out; simp [intOf]; omega
      refine AllReadyH.cons (o := { dst := some 68, op := Go.Op.makeSlice 23 (Go.Operand.tmp 67) (Go.Operand.tmp 67), type := 23, pos := "single.go:285", after := #[{ on := 14, ground := Go.Ground.data }, { on := 14, ground := Go.Ground.data }], guard := none }) rfl (fun K hK => ?_) AllReadyH.nil
      obtain ⟨oz, Hoz, hz⟩ := HC0.out.owner (i + 1, k + 3)
      refine wp_makeF _ _ rfl FR.length rfl rfl (by omega) ?_
      intro u1 hf hb
      have HC1 := Lib.hid (hz.below hb)
      obtain ⟨fz, hfz⟩ : ∃ fz, fz = (wr.drew).heap.size := ⟨_, rfl⟩
      rw [← hfz] at hf Hoz
      rw [← hfz]
      have HFT : Hid (fz ≠ T) := Lib.hid (by rw [hfz]; exact fun e => by have := lt_h HC0.out.tc; omega)
      have HFB : Hid (w0.heap.size ≤ fz) := Lib.hid (by rw [hfz]; exact HC0.out.bel.size)
      have HFx1 := Lib.hid hf
      have Hoz := Lib.hid Hoz
      clear hf hb hz hfz
      have HK1 := Lib.hid (HSf.out _ _ _ _ _ _ _ HC1.out)
      refine hK.out _ _ HK1.out (fun hH1 => ?_)
      clear hK hH0
      have hH0 := hH1
      clear hH1
      try simp only [Act.put, List.setIfInBounds_toArray, List.set_cons_zero, List.set_cons_succ]
      refine wpAnyH_ready (rs := [4, 6]) (by kernel_rfl) (by simp) ?_
      refine AllReadyH.cons (o := { dst := some 57, op := Go.Op.load 112 (Go.Operand.tmp 56), type := 112, pos := "single.go:285", after := #[{ on := 3, ground := Go.Ground.data }], guard := none }) rfl (fun K hK => ?_) ?_
      · have c9 := (HC1.out.g_ HX.out).1.1
        rw [Hejx.out] at c9
        go_simp
        clear c9
        refine hK.out _ _ hH0 (fun hH1 => ?_)
        clear hK hH0
        have hH0 := hH1
        clear hH1
        try simp only [Act.put, List.setIfInBounds_toArray, List.set_cons_zero, List.set_cons_succ]
        refine wpAnyH_ready (rs := [6]) (by kernel_rfl) (by simp) ?_
        refine AllReadyH.cons (o := { dst := some 59, op := Go.Op.call { callee := Go.Callee.value (Go.Operand.func 106), args := #[Go.Operand.tmp 58], argTypes := #[108] }, type := 3, pos := "single.go:285", after := #[{ on := 5, ground := Go.Ground.data }], guard := none }) rfl (fun K hK => ?_) AllReadyH.nil
        go_simp
        go_at_call 106
        (with_reducible refine (fresh_calls T mk _ (by omega) (HC1.out.t).2.1 ((HC1.out.t).2.2.2.2 5)).mono ?_)
        rintro e u2 ⟨rfl, hu⟩
        have HC2 := Lib.hid (HC1.out.setM (mk + 1))
        rw [← hu] at HC2
        have HFx2 : Hid (u2.heap[fz]? = some (frV (List.replicate FR.length 0))) := Lib.hid (by rw [hu, Below.heap_setCell _ _ _ _ HFT.out]; exact HFx1.out)
        clear hu
        have HK2 := Lib.hid (HSf.out _ _ _ _ _ _ _ HC2.out)
        refine hK.out _ _ HK2.out (fun hH1 => ?_)
        clear hK hH0
        have hH0 := hH1
        clear hH1
        try simp only [Act.put, List.setIfInBounds_toArray, List.set_cons_zero, List.set_cons_succ]
        refine wpAnyH_take (i := 16) (oi := { dst := some 69, op := Go.Op.build 128 #[(0, Go.Operand.tmp 59), (1, Go.Operand.tmp 68)], type := 128, pos := "single.go:285", after := #[{ on := 6, ground := Go.Ground.data }, { on := 15, ground := Go.Ground.data }], guard := none }) rfl (by kernel_rfl) (by kernel_rfl) (by kernel_rfl) (fun _ _ _ h => h) (Or.inl ⟨by rfl, fun w hw => by (go_simp; try with_reducible rfl)⟩) (by assumption) ?_
        try simp only [Act.put, List.setIfInBounds_toArray, List.set_cons_zero, List.set_cons_succ]
        refine wpAnyH_ready (rs := [17]) (by kernel_rfl) (by simp) ?_
        refine AllReadyH.cons (o := { dst := some 70, op := Go.Op.buildSlice 112 1 #[(0, Go.Operand.tmp 69)], type := 112, pos := "single.go:285", after := #[{ on := 16, ground := Go.Ground.data }], guard := none }) rfl (fun K hK => ?_) AllReadyH.nil
        have HC3 := Lib.hid (HC2.out.alloc (.cells #[.int .i64 ((mk : Nat) : Int), .slice (some ⟨fz, 0, none⟩) FR.length FR.length] 128))
        have hsz : fz < u2.heap.size := lt_h HFx2.out
        have HFx3 := Lib.hid ((Below.heap_alloc u2 (.cells #[.int .i64 ((mk : Nat) : Int), .slice (some ⟨fz, 0, none⟩) FR.length FR.length] 128) fz hsz).trans HFx2.out)
        have HJx := Lib.hid (heap_alloc_new u2 (.cells #[.int .i64 ((mk : Nat) : Int), .slice (some ⟨fz, 0, none⟩) FR.length FR.length] 128))
        clear hsz
        obtain ⟨u3, hu⟩ : ∃ x, x = u2.alloc (.cells #[.int .i64 ((mk : Nat) : Int), .slice (some ⟨fz, 0, none⟩) FR.length FR.length] 128) := ⟨_, rfl⟩
        obtain ⟨sz, hsz⟩ : ∃ sz, sz = u2.heap.size := ⟨_, rfl⟩
        rw [← hu] at HC3 HFx3 HJx
        rw [← hsz] at HJx
        go_simp
        rw [← hsz, ← hu]
        clear hsz hu
        have HK3 := Lib.hid (HSf.out _ _ _ _ _ _ _ HC3.out)
        refine hK.out _ _ HK3.out (fun hH1 => ?_)
        clear hK hH0
        have hH0 := hH1
        clear hH1
        try simp only [Act.put, List.setIfInBounds_toArray, List.set_cons_zero, List.set_cons_succ]
        refine wpAnyH_ready (rs := [18]) (by kernel_rfl) (by simp) ?_
        refine AllReadyH.cons (o := { dst := some 71, op := Go.Op.call { callee := Go.Callee.builtin Go.Builtin.append, args := #[Go.Operand.tmp 57, Go.Operand.tmp 70], argTypes := #[112, 112] }, type := 112, pos := "single.go:285", after := #[{ on := 4, ground := Go.Ground.data }, { on := 17, ground := Go.Ground.data }, { on := 6, ground := Go.Ground.chain }], guard := none }) rfl (fun K hK => ?_) AllReadyH.nil
        obtain ⟨Az, nz, cz, uz, oy, hrun, ⟨cg, fg⟩, ⟨hky, hby⟩, hS9⟩ := HC3.out.join HX.out HFx3.out (by rw [Hjl.out]; exact Hoz.out) HFB.out 1 HJx.out (by rw [Hjl.out]; omega)
        rw [Hejx.out] at hrun cg
        try rw [if_pos (by rfl)]
        refine wp_app_run 112 _ _ rfl rfl rfl hrun ?_
        have HK4 : Hid (uz.cell? ⟨T, 2, none⟩ = some (.slice (some ⟨fb, fo, none⟩) E.p.length fc) ∧ uz.cell? ⟨fb, fo + i, none⟩ = some (.slice FA' FR.length fc')) := Lib.hid ⟨(World.cell?_of_block (hky T (lt_h HC3.out.tc) (by rw [HC3.out.tg.1]; simp))).trans HK3.out.1, (hby.cell (p := ⟨fb, fo + i, none⟩) hfb).trans HcF.out⟩
        have Hcg := Lib.hid (⟨cg, fg⟩ : _ ∧ _)
        have HS9 := Lib.hid hS9
        clear hrun cg fg hky hby hS9
        refine hK.out _ _ HK4.out (fun hH1 => ?_)
        clear hK hH0
        have hH0 := hH1
        clear hH1
        try simp only [Act.put, List.setIfInBounds_toArray, List.set_cons_zero, List.set_cons_succ]
        refine wpAnyH_take (i := 19) (oi := { dst := some 72, op := Go.Op.nilCheck (Go.Operand.tmp 53), type := 0, pos := "single.go:285", after := #[{ on := 0, ground := Go.Ground.data }, { on := 0, ground := Go.Ground.phase }, { on := 1, ground := Go.Ground.phase }, { on := 2, ground := Go.Ground.phase }, { on := 3, ground := Go.Ground.phase }, { on := 4, ground := Go.Ground.phase }, { on := 5, ground := Go.Ground.phase }, { on := 6, ground := Go.Ground.phase }, { on := 7, ground := Go.Ground.phase }, { on := 8, ground := Go.Ground.phase }, { on := 9, ground := Go.Ground.phase }, { on := 10, ground := Go.Ground.phase }, { on := 11, ground := Go.Ground.phase }, { on := 12, ground := Go.Ground.phase }, { on := 13, ground := Go.Ground.phase }, { on := 14, ground := Go.Ground.phase }, { on := 15, ground := Go.Ground.phase }, { on := 16, ground := Go.Ground.phase }, { on := 17, ground := Go.Ground.phase }, { on := 18, ground := Go.Ground.phase }], guard := none }) rfl (by kernel_rfl) (by kernel_rfl) (by kernel_rfl) (fun _ _ _ h => h) (Or.inl ⟨by rfl, fun w hw => by (go_simp; try with_reducible rfl)⟩) (by assumption) ?_
        try simp only [Act.put, List.setIfInBounds_toArray, List.set_cons_zero, List.set_cons_succ]
        refine wpAnyH_take (i := 20) (oi := { dst := some 73, op := Go.Op.fieldAddr 114 (Go.Operand.tmp 72) 0, type := 0, pos := "single.go:285", after := #[{ on := 19, ground := Go.Ground.data }, { on := 0, ground := Go.Ground.phase }, { on := 1, ground := Go.Ground.phase }, { on := 2, ground := Go.Ground.phase }, { on := 3, ground := Go.Ground.phase }, { on := 4, ground := Go.Ground.phase }, { on := 5, ground := Go.Ground.phase }, { on := 6, ground := Go.Ground.phase }, { on := 7, ground := Go.Ground.phase }, { on := 8, ground := Go.Ground.phase }, { on := 9, ground := Go.Ground.phase }, { on := 10, ground := Go.Ground.phase }, { on := 11, ground := Go.Ground.phase }, { on := 12, ground := Go.Ground.phase }, { on := 13, ground := Go.Ground.phase }, { on := 14, ground := Go.Ground.phase }, { on := 15, ground := Go.Ground.phase }, { on := 16, ground := Go.Ground.phase }, { on := 17, ground := Go.Ground.phase }, { on := 18, ground := Go.Ground.phase }], guard := none }) rfl (by kernel_rfl) (by kernel_rfl) (by kernel_rfl) (fun _ _ _ h => h) (Or.inl ⟨by rfl, fun w hw => by (go_simp; try with_reducible rfl)⟩) (by assumption) ?_
        try simp only [Act.put, List.setIfInBounds_toArray, List.set_cons_zero, List.set_cons_succ]
        refine wpAnyH_ready (rs := [21]) (by kernel_rfl) (by simp) ?_
        refine AllReadyH.cons (o := { dst := none, op := Go.Op.store 112 (Go.Operand.tmp 73) (Go.Operand.tmp 71), type := 0, pos := "single.go:285", after := #[{ on := 20, ground := Go.Ground.data }, { on := 18, ground := Go.Ground.data }, { on := 18, ground := Go.Ground.chain }, { on := 0, ground := Go.Ground.phase }, { on := 1, ground := Go.Ground.phase }, { on := 2, ground := Go.Ground.phase }, { on := 3, ground := Go.Ground.phase }, { on := 4, ground := Go.Ground.phase }, { on := 5, ground := Go.Ground.phase }, { on := 6, ground := Go.Ground.phase }, { on := 7, ground := Go.Ground.phase }, { on := 8, ground := Go.Ground.phase }, { on := 9, ground := Go.Ground.phase }, { on := 10, ground := Go.Ground.phase }, { on := 11, ground := Go.Ground.phase }, { on := 12, ground := Go.Ground.phase }, { on := 13, ground := Go.Ground.phase }, { on := 14, ground := Go.Ground.phase }, { on := 15, ground := Go.Ground.phase }, { on := 16, ground := Go.Ground.phase }, { on := 17, ground := Go.Ground.phase }, { on := 18, ground := Go.Ground.phase }], guard := none }) rfl (fun K hK => ?_) AllReadyH.nil
        obtain ⟨c9, f9⟩ := Hcg.out
        have HK9 := Lib.hid (HSf.out _ _ _ _ _ _ _ HS9.out)
        go_simp
        clear c9 f9
        refine hK.out _ _ HK9.out (fun hH1 => ?_)
        clear hK hH0
        have hH0 := hH1
        clear hH1
        try simp only [Act.put, List.setIfInBounds_toArray, List.set_cons_zero, List.set_cons_succ]
        refine wpAnyH_done (by kernel_rfl) ?_ _
        clear hH0
        have e9 : mk + 1 = m0 + (k + 1) := by rw [Hmk.out]; omega
        rw [e9] at HS9
        clear e9
        go_wp2
        go_roundw
        case rel => exact ⟨k + 1, _, _, by go_num, by have := Hlt.out; omega, HS9, Lib.hid (HR7.out _ _ _ _).1, Lib.hid (HR7.out _ _ _ _).2⟩
        case measure => have := Hlt.out; simp [intOf]; omega
      refine AllReadyH.cons (o := { dst := some 59, op := Go.Op.call { callee := Go.Callee.value (Go.Operand.func 106), args := #[Go.Operand.tmp 58], argTypes := #[108] }, type := 3, pos := "single.go:285", after := #[{ on := 5, ground := Go.Ground.data }], guard := none }) rfl (fun K hK => ?_) AllReadyH.nil
      go_simp
      go_at_call 106
      (with_reducible refine (fresh_calls T mk _ (by omega) (HC1.out.t).2.1 ((HC1.out.t).2.2.2.2 5)).mono ?_)
      rintro e u2 ⟨rfl, hu⟩
      have HC2 := Lib.hid (HC1.out.setM (mk + 1))
      rw [← hu] at HC2
      have HFx2 : Hid (u2.heap[fz]? = some (frV (List.replicate FR.length 0))) := Lib.hid (by rw [hu, Below.heap_setCell _ _ _ _ HFT.out]; exact HFx1.out)
      clear hu
      have HK2 := Lib.hid (HSf.out _ _ _ _ _ _ _ HC2.out)
      refine hK.out _ _ HK2.out (fun hH1 => ?_)
      clear hK hH0
      have hH0 := hH1
      clear hH1
      try simp only [Act.put, List.setIfInBounds_toArray, List.set_cons_zero, List.set_cons_succ]
      refine wpAnyH_take (i := 16) (oi := { dst := some 69, op := Go.Op.build 128 #[(0, Go.Operand.tmp 59), (1, Go.Operand.tmp 68)], type := 128, pos := "single.go:285", after := #[{ on := 6, ground := Go.Ground.data }, { on := 15, ground := Go.Ground.data }], guard := none }) rfl (by kernel_rfl) (by kernel_rfl) (by kernel_rfl) (fun _ _ _ h => h) (Or.inl ⟨by rfl, fun w hw => by (go_simp; try with_reducible rfl)⟩) (by assumption) ?_
      try simp only [Act.put, List.setIfInBounds_toArray, List.set_cons_zero, List.set_cons_succ]
      refine wpAnyH_ready (rs := [4, 17]) (by kernel_rfl) (by simp) ?_
      refine AllReadyH.cons (o := { dst := some 57, op := Go.Op.load 112 (Go.Operand.tmp 56), type := 112, pos := "single.go:285", after := #[{ on := 3, ground := Go.Ground.data }], guard := none }) rfl (fun K hK => ?_) ?_
      · have c9 := (HC2.out.g_ HX.out).1.1
        rw [Hejx.out] at c9
        go_simp
        clear c9
        refine hK.out _ _ hH0 (fun hH1 => ?_)
        clear hK hH0
        have hH0 := hH1
        clear hH1
        try simp only [Act.put, List.setIfInBounds_toArray, List.set_cons_zero, List.set_cons_succ]
        refine wpAnyH_ready (rs := [17]) (by kernel_rfl) (by simp) ?_
        refine AllReadyH.cons (o := { dst := some 70, op := Go.Op.buildSlice 112 1 #[(0, Go.Operand.tmp 69)], type := 112, pos := "single.go:285", after := #[{ on := 16, ground := Go.Ground.data }], guard := none }) rfl (fun K hK => ?_) AllReadyH.nil
        have HC3 := Lib.hid (HC2.out.alloc (.cells #[.int .i64 ((mk : Nat) : Int), .slice (some ⟨fz, 0, none⟩) FR.length FR.length] 128))
        have hsz : fz < u2.heap.size := lt_h HFx2.out
        have HFx3 := Lib.hid ((Below.heap_alloc u2 (.cells #[.int .i64 ((mk : Nat) : Int), .slice (some ⟨fz, 0, none⟩) FR.length FR.length] 128) fz hsz).trans HFx2.out)
        have HJx := Lib.hid (heap_alloc_new u2 (.cells #[.int .i64 ((mk : Nat) : Int), .slice (some ⟨fz, 0, none⟩) FR.length FR.length] 128))
        clear hsz
        obtain ⟨u3, hu⟩ : ∃ x, x = u2.alloc (.cells #[.int .i64 ((mk : Nat) : Int), .slice (some ⟨fz, 0, none⟩) FR.length FR.length] 128) := ⟨_, rfl⟩
        obtain ⟨sz, hsz⟩ : ∃ sz, sz = u2.heap.size := ⟨_, rfl⟩
        rw [← hu] at HC3 HFx3 HJx
        rw [← hsz] at HJx
        go_simp
        rw [← hsz, ← hu]
        clear hsz hu
        have HK3 := Lib.hid (HSf.out _ _ _ _ _ _ _ HC3.out)
        refine hK.out _ _ HK3.out (fun hH1 => ?_)
        clear hK hH0
        have hH0 := hH1
        clear hH1
        try simp only [Act.put, List.setIfInBounds_toArray, List.set_cons_zero, List.set_cons_succ]
        refine wpAnyH_ready (rs := [18]) (by kernel_rfl) (by simp) ?_
        refine AllReadyH.cons (o := { dst := some 71, op := Go.Op.call { callee := Go.Callee.builtin Go.Builtin.append, args := #[Go.Operand.tmp 57, Go.Operand.tmp 70], argTypes := #[112, 112] }, type := 112, pos := "single.go:285", after := #[{ on := 4, ground := Go.Ground.data }, { on := 17, ground := Go.Ground.data }, { on := 6, ground := Go.Ground.chain }], guard := none }) rfl (fun K hK => ?_) AllReadyH.nil
        obtain ⟨Az, nz, cz, uz, oy, hrun, ⟨cg, fg⟩, ⟨hky, hby⟩, hS9⟩ := HC3.out.join HX.out HFx3.out (by rw [Hjl.out]; exact Hoz.out) HFB.out 1 HJx.out (by rw [Hjl.out]; omega)
        rw [Hejx.out] at hrun cg
        try rw [if_pos (by rfl)]
        refine wp_app_run 112 _ _ rfl rfl rfl hrun ?_
        have HK4 : Hid (uz.cell? ⟨T, 2, none⟩ = some (.slice (some ⟨fb, fo, none⟩) E.p.length fc) ∧ uz.cell? ⟨fb, fo + i, none⟩ = some (.slice FA' FR.length fc')) := Lib.hid ⟨(World.cell?_of_block (hky T (lt_h HC3.out.tc) (by rw [HC3.out.tg.1]; simp))).trans HK3.out.1, (hby.cell (p := ⟨fb, fo + i, none⟩) hfb).trans HcF.out⟩
        have Hcg := Lib.hid (⟨cg, fg⟩ : _ ∧ _)
        have HS9 := Lib.hid hS9
        clear hrun cg fg hky hby hS9
        refine hK.out _ _ HK4.out (fun hH1 => ?_)
        clear hK hH0
        have hH0 := hH1
        clear hH1
        try simp only [Act.put, List.setIfInBounds_toArray, List.set_cons_zero, List.set_cons_succ]
        refine wpAnyH_take (i := 19) (oi := { dst := some 72, op := Go.Op.nilCheck (Go.Operand.tmp 53), type := 0, pos := "single.go:285", after := #[{ on := 0, ground := Go.Ground.data }, { on := 0, ground := Go.Ground.phase }, { on := 1, ground := Go.Ground.phase }, { on := 2, ground := Go.Ground.phase }, { on := 3, ground := Go.Ground.phase }, { on := 4, ground := Go.Ground.phase }, { on := 5, ground := Go.Ground.phase }, { on := 6, ground := Go.Ground.phase }, { on := 7, ground := Go.Ground.phase }, { on := 8, ground := Go.Ground.phase }, { on := 9, ground := Go.Ground.phase }, { on := 10, ground := Go.Ground.phase }, { on := 11, ground := Go.Ground.phase }, { on := 12, ground := Go.Ground.phase }, { on := 13, ground := Go.Ground.phase }, { on := 14, ground := Go.Ground.phase }, { on := 15, ground := Go.Ground.phase }, { on := 16, ground := Go.Ground.phase }, { on := 17, ground := Go.Ground.phase }, { on := 18, ground := Go.Ground.phase }], guard := none }) rfl (by kernel_rfl) (by kernel_rfl) (by kernel_rfl) (fun _ _ _ h => h) (Or.inl ⟨by rfl, fun w hw => by (go_simp; try with_reducible rfl)⟩) (by assumption) ?_
        try simp only [Act.put, List.setIfInBounds_toArray, List.set_cons_zero, List.set_cons_succ]
        refine wpAnyH_take (i := 20) (oi := { dst := some 73, op := Go.Op.fieldAddr 114 (Go.Operand.tmp 72) 0, type := 0, pos := "single.go:285", after := #[{ on := 19, ground := Go.Ground.data }, { on := 0, ground := Go.Ground.phase }, { on := 1, ground := Go.Ground.phase }, { on := 2, ground := Go.Ground.phase }, { on := 3, ground := Go.Ground.phase }, { on := 4, ground := Go.Ground.phase }, { on := 5, ground := Go.Ground.phase }, { on := 6, ground := Go.Ground.phase }, { on := 7, ground := Go.Ground.phase }, { on := 8, ground := Go.Ground.phase }, { on := 9, ground := Go.Ground.phase }, { on := 10, ground := Go.Ground.phase }, { on := 11, ground := Go.Ground.phase }, { on := 12, ground := Go.Ground.phase }, { on := 13, ground := Go.Ground.phase }, { on := 14, ground := Go.Ground.phase }, { on := 15, ground := Go.Ground.phase }, { on := 16, ground := Go.Ground.phase }, { on := 17, ground := Go.Ground.phase }, { on := 18, ground := Go.Ground.phase }], guard := none }) rfl (by kernel_rfl) (by kernel_rfl) (by kernel_rfl) (fun _ _ _ h => h) (Or.inl ⟨by rfl, fun w hw => by (go_simp; try with_reducible rfl)⟩) (by assumption) ?_
        try simp only [Act.put, List.setIfInBounds_toArray, List.set_cons_zero, List.set_cons_succ]
        refine wpAnyH_ready (rs := [21]) (by kernel_rfl) (by simp) ?_
        refine AllReadyH.cons (o := { dst := none, op := Go.Op.store 112 (Go.Operand.tmp 73) (Go.Operand.tmp 71), type := 0, pos := "single.go:285", after := #[{ on := 20, ground := Go.Ground.data }, { on := 18, ground := Go.Ground.data }, { on := 18, ground := Go.Ground.chain }, { on := 0, ground := Go.Ground.phase }, { on := 1, ground := Go.Ground.phase }, { on := 2, ground := Go.Ground.phase }, { on := 3, ground := Go.Ground.phase }, { on := 4, ground := Go.Ground.phase }, { on := 5, ground := Go.Ground.phase }, { on := 6, ground := Go.Ground.phase }, { on := 7, ground := Go.Ground.phase }, { on := 8, ground := Go.Ground.phase }, { on := 9, ground := Go.Ground.phase }, { on := 10, ground := Go.Ground.phase }, { on := 11, ground := Go.Ground.phase }, { on := 12, ground := Go.Ground.phase }, { on := 13, ground := Go.Ground.phase }, { on := 14, ground := Go.Ground.phase }, { on := 15, ground := Go.Ground.phase }, { on := 16, ground := Go.Ground.phase }, { on := 17, ground := Go.Ground.phase }, { on := 18, ground := Go.Ground.phase }], guard := none }) rfl (fun K hK => ?_) AllReadyH.nil
        obtain ⟨c9, f9⟩ := Hcg.out
        have HK9 := Lib.hid (HSf.out _ _ _ _ _ _ _ HS9.out)
        go_simp
        clear c9 f9
        refine hK.out _ _ HK9.out (fun hH1 => ?_)
        clear hK hH0
        have hH0 := hH1
        clear hH1
        try simp only [Act.put, List.setIfInBounds_toArray, List.set_cons_zero, List.set_cons_succ]
        refine wpAnyH_done (by kernel_rfl) ?_ _
        clear hH0
        have e9 : mk + 1 = m0 + (k + 1) := by rw [Hmk.out]; omega
        rw [e9] at HS9
        clear e9
        go_wp2
        go_roundw
        case rel => exact ⟨k + 1, _, _, by go_num, by have := Hlt.out; omega, HS9, Lib.hid (HR7.out _ _ _ _).1, Lib.hid (HR7.out _ _ _ _).2⟩
        case measure => have := Hlt.out; simp [intOf]; omega
      refine AllReadyH.cons (o := { dst := some 70, op := Go.Op.buildSlice 112 1 #[(0, Go.Operand.tmp 69)], type := 112, pos := "single.go:285", after := #[{ on := 16, ground := Go.Ground.data }], guard := none }) rfl (fun K hK => ?_) AllReadyH.nil
      have HC3 := Lib.hid (HC2.out.alloc (.cells #[.int .i64 ((mk : Nat) : Int), .slice (some ⟨fz, 0, none⟩) FR.length FR.length] 128))
      have hsz : fz < u2.heap.size := lt_h HFx2.out
      have HFx3 := Lib.hid ((Below.heap_alloc u2 (.cells #[.int .i64 ((mk : Nat) : Int), .slice (some ⟨fz, 0, none⟩) FR.length FR.length] 128) fz hsz).trans HFx2.out)
      have HJx := Lib.hid (heap_alloc_new u2 (.cells #[.int .i64 ((mk : Nat) : Int), .slice (some ⟨fz, 0, none⟩) FR.length FR.length] 128))
      clear hsz
      obtain ⟨u3, hu⟩ : ∃ x, x = u2.alloc (.cells #[.int .i64 ((mk : Nat) : Int), .slice (some ⟨fz, 0, none⟩) FR.length FR.length] 128) := ⟨_, rfl⟩
      obtain ⟨sz, hsz⟩ : ∃ sz, sz = u2.heap.size := ⟨_, rfl⟩
      rw [← hu] at HC3 HFx3 HJx
      rw [← hsz] at HJx
      go_simp
      rw [← hsz, ← hu]
      clear hsz hu
      have HK3 := Lib.hid (HSf.out _ _ _ _ _ _ _ HC3.out)
      refine hK.out _ _ HK3.out (fun hH1 => ?_)
      clear hK hH0
      have hH0 := hH1
      clear hH1
      try simp only [Act.put, List.setIfInBounds_toArray, List.set_cons_zero, List.set_cons_succ]
      refine wpAnyH_ready (rs := [4]) (by kernel_rfl) (by simp) ?_
      refine AllReadyH.cons (o := { dst := some 57, op := Go.Op.load 112 (Go.Operand.tmp 56), type := 112, pos := "single.go:285", after := #[{ on := 3, ground := Go.Ground.data }], guard := none }) rfl (fun K hK => ?_) AllReadyH.nil
      have c9 := (HC3.out.g_ HX.out).1.1
      rw [Hejx.out] at c9
      go_simp
      clear c9
      refine hK.out _ _ hH0 (fun hH1 => ?_)
      clear hK hH0
      have hH0 := hH1
      clear hH1
      try simp only [Act.put, List.setIfInBounds_toArray, List.set_cons_zero, List.set_cons_succ]
      refine wpAnyH_ready (rs := [18]) (by kernel_rfl) (by simp) ?_
      refine AllReadyH.cons (o := { dst := some 71, op := Go.Op.call { callee := Go.Callee.builtin Go.Builtin.append, args := #[Go.Operand.tmp 57, Go.Operand.tmp 70], argTypes := #[112, 112] }, type := 112, pos := "single.go:285", after := #[{ on := 4, ground := Go.Ground.data }, { on := 17, ground := Go.Ground.data }, { on := 6, ground := Go.Ground.chain }], guard := none }) rfl (fun K hK => ?_) AllReadyH.nil
      obtain ⟨Az, nz, cz, uz, oy, hrun, ⟨cg, fg⟩, ⟨hky, hby⟩, hS9⟩ := HC3.out.join HX.out HFx3.out (by rw [Hjl.out]; exact Hoz.out) HFB.out 1 HJx.out (by rw [Hjl.out]; omega)
      rw [Hejx.out] at hrun cg
      try rw [if_pos (by rfl)]
      refine wp_app_run 112 _ _ rfl rfl rfl hrun ?_
      have HK4 : Hid (uz.cell? ⟨T, 2, none⟩ = some (.slice (some ⟨fb, fo, none⟩) E.p.length fc) ∧ uz.cell? ⟨fb, fo + i, none⟩ = some (.slice FA' FR.length fc')) := Lib.hid ⟨(World.cell?_of_block (hky T (lt_h HC3.out.tc) (by rw [HC3.out.tg.1]; simp))).trans HK3.out.1, (hby.cell (p := ⟨fb, fo + i, none⟩) hfb).trans HcF.out⟩
      have Hcg := Lib.hid (⟨cg, fg⟩ : _ ∧ _)
      have HS9 := Lib.hid hS9
      clear hrun cg fg hky hby hS9
      refine hK.out _ _ HK4.out (fun hH1 => ?_)
      clear hK hH0
      have hH0 := hH1
      clear hH1
      try simp only [Act.put, List.setIfInBounds_toArray, List.set_cons_zero, List.set_cons_succ]
      refine wpAnyH_take (i := 19) (oi := { dst := some 72, op := Go.Op.nilCheck (Go.Operand.tmp 53), type := 0, pos := "single.go:285", after := #[{ on := 0, ground := Go.Ground.data }, { on := 0, ground := Go.Ground.phase }, { on := 1, ground := Go.Ground.phase }, { on := 2, ground := Go.Ground.phase }, { on := 3, ground := Go.Ground.phase }, { on := 4, ground := Go.Ground.phase }, { on := 5, ground := Go.Ground.phase }, { on := 6, ground := Go.Ground.phase }, { on := 7, ground := Go.Ground.phase }, { on := 8, ground := Go.Ground.phase }, { on := 9, ground := Go.Ground.phase }, { on := 10, ground := Go.Ground.phase }, { on := 11, ground := Go.Ground.phase }, { on := 12, ground := Go.Ground.phase }, { on := 13, ground := Go.Ground.phase }, { on := 14, ground := Go.Ground.phase }, { on := 15, ground := Go.Ground.phase }, { on := 16, ground := Go.Ground.phase }, { on := 17, ground := Go.Ground.phase }, { on := 18, ground := Go.Ground.phase }], guard := none }) rfl (by kernel_rfl) (by kernel_rfl) (by kernel_rfl) (fun _ _ _ h => h) (Or.inl ⟨by rfl, fun w hw => by (go_simp; try with_reducible rfl)⟩) (by assumption) ?_
      try simp only [Act.put, List.setIfInBounds_toArray, List.set_cons_zero, List.set_cons_succ]
      refine wpAnyH_take (i := 20) (oi := { dst := some 73, op := Go.Op.fieldAddr 114 (Go.Operand.tmp 72) 0, type := 0, pos := "single.go:285", after := #[{ on := 19, ground := Go.Ground.data }, { on := 0, ground := Go.Ground.phase }, { on := 1, ground := Go.Ground.phase }, { on := 2, ground := Go.Ground.phase }, { on := 3, ground := Go.Ground.phase }, { on := 4, ground := Go.Ground.phase }, { on := 5, ground := Go.Ground.phase }, { on := 6, ground := Go.Ground.phase }, { on := 7, ground := Go.Ground.phase }, { on := 8, ground := Go.Ground.phase }, { on := 9, ground := Go.Ground.phase }, { on := 10, ground := Go.Ground.phase }, { on := 11, ground := Go.Ground.phase }, { on := 12, ground := Go.Ground.phase }, { on := 13, ground := Go.Ground.phase }, { on := 14, ground := Go.Ground.phase }, { on := 15, ground := Go.Ground.phase }, { on := 16, ground := Go.Ground.phase }, { on := 17, ground := Go.Ground.phase }, { on := 18, ground := Go.Ground.phase }], guard := none }) rfl (by kernel_rfl) (by kernel_rfl) (by kernel_rfl) (fun _ _ _ h => h) (Or.inl ⟨by rfl, fun w hw => by (go_simp; try with_reducible rfl)⟩) (by assumption) ?_
      try simp only [Act.put, List.setIfInBounds_toArray, List.set_cons_zero, List.set_cons_succ]
      refine wpAnyH_ready (rs := [21]) (by kernel_rfl) (by simp) ?_
      refine AllReadyH.cons (o := { dst := none, op := Go.Op.store 112 (Go.Operand.tmp 73) (Go.Operand.tmp 71), type := 0, pos := "single.go:285", after := #[{ on := 20, ground := Go.Ground.data }, { on := 18, ground := Go.Ground.data }, { on := 18, ground := Go.Ground.chain }, { on := 0, ground := Go.Ground.phase }, { on := 1, ground := Go.Ground.phase }, { on := 2, ground := Go.Ground.phase }, { on := 3, ground := Go.Ground.phase }, { on := 4, ground := Go.Ground.phase }, { on := 5, ground := Go.Ground.phase }, { on := 6, ground := Go.Ground.phase }, { on := 7, ground := Go.Ground.phase }, { on := 8, ground := Go.Ground.phase }, { on := 9, ground := Go.Ground.phase }, { on := 10, ground := Go.Ground.phase }, { on := 11, ground := Go.Ground.phase }, { on := 12, ground := Go.Ground.phase }, { on := 13, ground := Go.Ground.phase }, { on := 14, ground := Go.Ground.phase }, { on := 15, ground := Go.Ground.phase }, { on := 16, ground := Go.Ground.phase }, { on := 17, ground := Go.Ground.phase }, { on := 18, ground := Go.Ground.phase }], guard := none }) rfl (fun K hK => ?_) AllReadyH.nil
      obtain ⟨c9, f9⟩ := Hcg.out
      have HK9 := Lib.hid (HSf.out _ _ _ _ _ _ _ HS9.out)
      go_simp
      clear c9 f9
      refine hK.out _ _ HK9.out (fun hH1 => ?_)
      clear hK hH0
      have hH0 := hH1
      clear hH1
      try simp only [Act.put, List.setIfInBounds_toArray, List.set_cons_zero, List.set_cons_succ]
      refine wpAnyH_done (by kernel_rfl) ?_ _
      clear hH0
      have e9 : mk + 1 = m0 + (k + 1) := by rw [Hmk.out]; omega
      rw [e9] at HS9
      clear e9
      go_wp2
      go_roundw
      case rel => exact ⟨k + 1, _, _, by go_num, by have := Hlt.out; omega, HS9, Lib.hid (HR7.out _ _ _ _).1, Lib.hid (HR7.out _ _ _ _).2⟩
      case measure => have := Hlt.out; simp [intOf]; omega
    · have : k = JR.length := by omega
      subst this
      obtain ⟨wo, rfl⟩ : ∃ wo : World, wo = wr := ⟨_, rfl⟩
      obtain ⟨MN, hM1⟩ : ∃ MN, MN = m0 + JR.length := ⟨_, rfl⟩
      rw [← hM1] at HS HP
      have HM1 := Lib.hid hM1
      clear hM1
      obtain ⟨s0, hs0⟩ : ∃ s0 : Sg, s0 = { sr with joins := mkJ m0 JR.length FR.length } := ⟨_, rfl⟩
      have H2 : Hid (rs'.map RS.sg = st.out.set i { s0 with joins := s0.joins }) := Lib.hid (by rw [hs0]; exact HR2.out)
      have Hs0 := Lib.hid hs0
      have HJL : Hid (s0.joins.length = JR.length) := Lib.hid (by rw [hs0]; exact mkJ_len _ _ _)
      have HJT : Hid (∀ (k : Nat) (j : Jn), s0.joins[k]? = some j → j.fr.length = FR.length) := Lib.hid (fun k j hj => by
        rw [hs0] at hj
        have hj : (mkJ m0 JR.length FR.length)[k]? = some j := hj
        have hk := (List.getElem?_eq_some_iff.1 hj).1
        rw [mkJ_len] at hk
        rw [mkJ_get hk] at hj
        injection hj with hj
        rw [← hj]
        exact List.length_replicate)
      have Hjs : Hid (s0.joins = mkJ m0 JR.length FR.length) := Lib.hid (by rw [hs0])
      obtain ⟨⟨-, -, -, cT3⟩, -⟩ := HS.out.t
      rw [ejv] at cT3
      have hj1 := (HS.out.bel.cell (p := ⟨jb, jo + i, none⟩) hjb).trans HcJ.out
      clear hs0 HR2 hk hlt
      go_wp2
      go_loopw [83] (fun k' wr => ∃ (k : Nat) (js' : List Jn) (ns' : List Int) (rs' : List RS) (o' : Nat → Nat × Nat), k' = .int .i64 (k : Nat) ∧ k ≤ JR.length ∧ Hid (NmX w0 wr H T g o' rs' MN DN (.slice (some ⟨nb, 0, none⟩) NL cn) ns' none) ∧ Hid (FillR yx JR s0.joins ns k js' ns') ∧ Hid (rs'.map RS.sg = st.out.set i { s0 with joins := js' }) ∧ Hid (LvF d rs rs')) (fun k' _ => JR.length - (intOf k').toNat)
      case atStart => exact ⟨0, s0.joins, ns, rs', o', rfl, Nat.zero_le _, HS, Lib.hid (FillR.start _ _ _ _), H2, HV⟩
      case round =>
        clear HS H2 HV cT3 hj1
        obtain ⟨k, js', ns', rs', o', rfl, hk, HS, HF, HR, HV⟩ := hrel
        by_cases hlt : k < JR.length
        · obtain ⟨hvk0, hvk1⟩ := HNL.out _ (List.getElem_mem hlt)
          obtain ⟨vn, hvn⟩ := Int.eq_ofNat_of_zero_le hvk0
          obtain ⟨b5, off5, rfl, hb5, c5⟩ := RdI.at1 (Rd.below HRJ.out HS.out.bel) hlt
          rw [hvn] at c5 hvk1
          have hns' : ns'.length = NL := by obtain ⟨pre, -, -, h0, -⟩ := HF.out; rw [h0]; exact HNL2.out
          have hvl : vn < NL := by have := HL.out; omega
          obtain ⟨x, hx⟩ : ∃ x, rs'[i]? = some x := ⟨_, List.getElem?_eq_getElem (by rw [HS.out.len]; exact Hil.out)⟩
          have hsl : i < st.out.length := by have := congrArg List.length HR.out; rw [List.length_map, List.length_set] at this; rw [← this, HS.out.len]; exact Hil.out
          have hsg : x.sg = { s0 with joins := js' } := by rw [(map_sg HR.out hx (x' := x)).1, getS_set hsl, if_pos rfl]
          have hjs : x.js.map RJ.jn = js' := congrArg Sg.joins hsg
          have hkl : k < s0.joins.length := by rw [HJL.out]; exact hlt
          have hJk := HF.out.get hkl
          rw [← hjs, List.getElem?_map] at hJk
          obtain ⟨j, hj, hjn⟩ := Option.map_eq_some_iff.1 hJk
          have hfl : j.fr.length = FR.length := by have := HJT.out k _ (List.getElem?_eq_getElem hkl); rw [← hjn] at this; exact this
          obtain ⟨jB, jC, ejx, cA, cB, cC, fC⟩ := HS.out.jcell hx hj
          obtain ⟨⟨cG, -, -, -⟩, -⟩ := HS.out.g_ hx
          rw [ejx] at cG
          rw [hfl] at cB
          obtain ⟨nb', en', -, -, -, fN, cN⟩ := OwnI.at2 HS.out.nm (by omega)
          injection en' with en'
          injection en' with en'
          subst en'
          have cNv := cN vn (by omega)
          have hyx : yx < FR.length := HYL.out
          obtain ⟨⟨-, -, cT2, -⟩, -⟩ := HS.out.t
          rw [efm] at cT2
          have cF := (HS.out.bel.cell (p := ⟨fb, fo + i, none⟩) hfb).trans HcF.out
          obtain ⟨yv, hyv⟩ : ∃ yv, yv = ns'[vn]'(by omega) := ⟨_, rfl⟩
          rw [← hyv] at cNv
          have hjl : x.js.length ≤ 1000 := by have : (x.js.map RJ.jn).length = JR.length := by rw [hjs]; obtain ⟨pre, h1, h2, -, -⟩ := HF.out; rw [h2, List.length_append, List.length_drop, HJL.out]; omega
                                              rw [List.length_map] at this; omega
          have hkx : k < x.js.length := (List.getElem?_eq_some_iff.1 hj).1
          -- behind the store
          have h2 := (HS.out.fill hx hj yx yv).drew
          have hx2 : (rs'.set i { x with js := x.js.set k ⟨j.f, j.nm, j.fr.set yx yv⟩ })[i]? = some { x with js := x.js.set k ⟨j.f, j.nm, j.fr.set yx yv⟩ } := List.getElem?_set_self (List.getElem?_eq_some_iff.1 hx).1
          have hj2 : ({ x with js := x.js.set k ⟨j.f, j.nm, j.fr.set yx yv⟩ } : RS).js[k]? = some ⟨j.f, j.nm, j.fr.set yx yv⟩ := List.getElem?_set_self hkx
          obtain ⟨jB', jC', ejx', cA2, cB2, -, -⟩ := h2.jcell hx2 hj2
          have ejx' : x.jv = _ := ejx'
          rw [ejx] at ejx'
          have ejb : jB = jB' := by injection ejx' with e1 e2 e3; injection e1 with e1; injection e1
          subst ejb
          have cB2 : _ = some (Value.slice (some ⟨j.f, 0, none⟩) (j.fr.set yx yv).length (j.fr.set yx yv).length) := cB2
          have cA2 : _ = some (Value.int .i64 j.nm) := cA2
          rw [List.length_set, hfl] at cB2
          obtain ⟨⟨cG2, -, -, -⟩, -⟩ := h2.g_ hx2
          have cG2 : _ = some x.jv := cG2
          rw [ejx] at cG2
          obtain ⟨_, en', -, -, -, fN2, cN2⟩ := OwnI.at2 h2.nm (by omega)
          injection en' with en'
          injection en' with en'
          subst en'
          have cNv2 := cN2 vn (by omega)
          rw [← hyv] at cNv2
          obtain ⟨⟨-, -, cT22, -⟩, -⟩ := h2.t
          rw [efm] at cT22
          have cF2 := (h2.bel.cell (p := ⟨fb, fo + i, none⟩) hfb).trans HcF.out
          have HK1 : Hid (wr.drew.cell? ⟨g, i * 6, none⟩ = some (.slice (some ⟨jB, 0, none⟩) x.js.length jC) ∧ wr.drew.cell? ⟨jB, k * 2 + 1, none⟩ = some (.slice (some ⟨j.f, 0, none⟩) FR.length FR.length) ∧ wr.drew.cell? ⟨T, 2, none⟩ = some (.slice (some ⟨fb, fo, none⟩) E.p.length fc) ∧ wr.drew.cell? ⟨fb, fo + i, none⟩ = some (.slice FA' FR.length fc') ∧ wr.drew.cell? ⟨nb, vn, none⟩ = some (.int .i64 yv)) := Lib.hid ⟨cG, cB, cT2, cF, cNv⟩
          have HK2 := Lib.hid (⟨cG2, cB2, cT22, cF2, cNv2⟩ : _ ∧ _ ∧ _ ∧ _ ∧ _)
          have h3 := h2.setN (k := vn) (by omega) j.nm
          have HI := Lib.hid (fun w' (hb : RdI w' FA' FR) => indexI_calls FA' FR fc' l w' hb (by unfold maxLen; omega))
          have HFR : Hid (RdI wr.drew FA' FR) := Lib.hid (Rd.below HRF.out HS.out.drew.bel)
          have HYx2 : Hid (Lib.idxOf FR l = ((yx : Nat) : Int)) := Lib.hid HYX.out
          have HCS : Hid ((∃ v, wr.drew.cell? ⟨j.f, yx, none⟩ = some v) ∧ wr.drew.frozen? ⟨j.f, yx, none⟩ = false) := Lib.hid ⟨cC yx (by omega), fC yx⟩
          obtain ⟨w2, hw2⟩ : ∃ w2, w2 = (wr.setCell ⟨j.f, yx, none⟩ (.int .i64 yv)).drew := ⟨_, rfl⟩
          rw [← hw2] at h3 cG2 cA2 fN2 cNv2 HK2
          have fN3 := fN2 vn
          have HS3 := Lib.hid h3
          have HF3 : Hid (FillR yx JR s0.joins ns (k + 1) (js'.set k ⟨j.nm, j.fr.set yx (gI ns' ((vn : Nat) : Int))⟩) (ns'.set vn j.nm)) := Lib.hid (by
            have := HF.out.next (k := k) (v := ((vn : Nat) : Int)) (by rw [List.getElem?_eq_getElem hlt, hvn]) (j := j.jn) (by rw [List.getElem?_eq_getElem hkl, hjn])
            rw [Int.toNat_natCast] at this
            exact this)
          have HR3 : Hid ((rs'.set i { x with js := x.js.set k ⟨j.f, j.nm, j.fr.set yx yv⟩ }).map RS.sg = st.out.set i { s0 with joins := js'.set k ⟨j.nm, j.fr.set yx (gI ns' ((vn : Nat) : Int))⟩ }) := Lib.hid (by
            have e1 : gI ns' ((vn : Nat) : Int) = yv := by unfold gI; rw [Int.toNat_natCast, hyv, List.getD_eq_getElem?_getD, List.getElem?_eq_getElem (by omega)]; rfl
            have e2 := (map_sg HR.out hx (x' := { x with js := x.js.set k ⟨j.f, j.nm, j.fr.set yx yv⟩ })).2
            rw [e2, List.set_set, e1]
            congr 1
            show Sg.mk ((x.js.set k ⟨j.f, j.nm, j.fr.set yx yv⟩).map RJ.jn) x.code x.test x.thn x.els x.last = _
            rw [List.map_set, hjs]
            have q1 : x.code = s0.code := congrArg Sg.code hsg
            have q2 : x.test = s0.test := congrArg Sg.test hsg
            have q3 : x.thn = s0.thn := congrArg Sg.thn hsg
            have q4 : x.els = s0.els := congrArg Sg.els hsg
            have q5 : x.last = s0.last := congrArg Sg.last hsg
            rw [q1, q2, q3, q4, q5]
            rfl)
          have HV3 := Lib.hid (HV.out.set hx (x' := { x with js := x.js.set k ⟨j.f, j.nm, j.fr.set yx yv⟩ }) (.inl rfl))
          have hyi : ((yx : Nat) : Int) < ((FR.length : Nat) : Int) := by omega
          have hki : ((k : Nat) : Int) < ((x.js.length : Nat) : Int) := by omega
          have hkj : ((k : Nat) : Int) < ((JR.length : Nat) : Int) := by omega
          have hvi : ((vn : Nat) : Int) < ((NL : Nat) : Int) := by omega
          have Hlt := Lib.hid hlt
          have Hw2 := Lib.hid hw2
          clear h2 h3 hx2 hj2 hw2 cB2 cT22 cF2 cN cN2 fN fN2 cC fC cA cG cB cT2 cF cNv ejx ejx' hx hj hjn hsg hjs hJk hfl hyv hvn hvk0 hvk1 HS HF HR HV hns' hyx hkl hkx hsl
          generalize hjn' : j.f = jf at *
          generalize j.nm = jnm at *
          generalize x.js.length = jsl at *
          clear hjn'
          go_wp2
          refine wp_region_held_drew (S := fun w' => w'.cell? ⟨g, i * 6, none⟩ = some (.slice (some ⟨jB, 0, none⟩) jsl jC) ∧ w'.cell? ⟨jB, k * 2 + 1, none⟩ = some (.slice (some ⟨jf, 0, none⟩) FR.length FR.length) ∧ w'.cell? ⟨T, 2, none⟩ = some (.slice (some ⟨fb, fo, none⟩) E.p.length fc) ∧ w'.cell? ⟨fb, fo + i, none⟩ = some (.slice FA' FR.length fc') ∧ w'.cell? ⟨nb, vn, none⟩ = some (.int .i64 yv)) (by kernel_rfl) HK1.out (fun hH0 => ?_)
          refine wpAnyH_take (i := 0) (oi := { dst := some 88, op := Go.Op.move (Go.Operand.tmp 9), type := 172, pos := "single.go:289", after := #[], guard := none }) rfl (by kernel_rfl) (by kernel_rfl) (by kernel_rfl) (fun _ _ _ h => h) (Or.inl ⟨by rfl, fun w hw => by (go_simp; try with_reducible rfl)⟩) (by assumption) ?_
          try simp only [Act.put, List.setIfInBounds_toArray, List.set_cons_zero, List.set_cons_succ]
          refine wpAnyH_take (i := 1) (oi := { dst := some 89, op := Go.Op.nilCheck (Go.Operand.tmp 88), type := 0, pos := "single.go:289", after := #[{ on := 0, ground := Go.Ground.data }], guard := none }) rfl (by kernel_rfl) (by kernel_rfl) (by kernel_rfl) (fun _ _ _ h => h) (Or.inl ⟨by rfl, fun w hw => by (go_simp; try with_reducible rfl)⟩) (by assumption) ?_
          try simp only [Act.put, List.setIfInBounds_toArray, List.set_cons_zero, List.set_cons_succ]
          refine wpAnyH_take (i := 2) (oi := { dst := some 90, op := Go.Op.fieldAddr 114 (Go.Operand.tmp 89) 0, type := 0, pos := "single.go:289", after := #[{ on := 1, ground := Go.Ground.data }], guard := none }) rfl (by kernel_rfl) (by kernel_rfl) (by kernel_rfl) (fun _ _ _ h => h) (Or.inl ⟨by rfl, fun w hw => by (go_simp; try with_reducible rfl)⟩) (by assumption) ?_
          try simp only [Act.put, List.setIfInBounds_toArray, List.set_cons_zero, List.set_cons_succ]
          refine wpAnyH_take (i := 3) (oi := { dst := some 91, op := Go.Op.load 112 (Go.Operand.tmp 90), type := 112, pos := "single.go:289", after := #[{ on := 2, ground := Go.Ground.data }], guard := none }) rfl (by kernel_rfl) (by kernel_rfl) (by kernel_rfl) (fun _ _ _ h => h) (Or.inl ⟨by rfl, fun w hw => by (obtain ⟨p0, p1, p2, p3, p4⟩ := hw; go_simp; try with_reducible rfl)⟩) (by assumption) ?_
          try simp only [Act.put, List.setIfInBounds_toArray, List.set_cons_zero, List.set_cons_succ]
          refine wpAnyH_take (i := 4) (oi := { dst := some 92, op := Go.Op.move (Go.Operand.tmp 10), type := 3, pos := "single.go:289", after := #[], guard := none }) rfl (by kernel_rfl) (by kernel_rfl) (by kernel_rfl) (fun _ _ _ h => h) (Or.inl ⟨by rfl, fun w hw => by (go_simp; try with_reducible rfl)⟩) (by assumption) ?_
          try simp only [Act.put, List.setIfInBounds_toArray, List.set_cons_zero, List.set_cons_succ]
          refine wpAnyH_take (i := 5) (oi := { dst := some 93, op := Go.Op.indexAddr 112 (Go.Operand.tmp 91) (Go.Operand.tmp 92), type := 0, pos := "single.go:289", after := #[{ on := 3, ground := Go.Ground.data }, { on := 4, ground := Go.Ground.data }], guard := none }) rfl (by kernel_rfl) (by kernel_rfl) (by kernel_rfl) (fun _ _ _ h => h) (Or.inl ⟨by rfl, fun w hw => by (go_simp; try with_reducible rfl)⟩) (by assumption) ?_
          try simp only [Act.put, List.setIfInBounds_toArray, List.set_cons_zero, List.set_cons_succ]
          refine wpAnyH_take (i := 6) (oi := { dst := some 94, op := Go.Op.fieldAddr 128 (Go.Operand.tmp 93) 1, type := 0, pos := "single.go:289", after := #[{ on := 5, ground := Go.Ground.data }], guard := none }) rfl (by kernel_rfl) (by kernel_rfl) (by kernel_rfl) (fun _ _ _ h => h) (Or.inl ⟨by rfl, fun w hw => by (go_simp; try with_reducible rfl)⟩) (by assumption) ?_
          try simp only [Act.put, List.setIfInBounds_toArray, List.set_cons_zero, List.set_cons_succ]
          refine wpAnyH_take (i := 7) (oi := { dst := some 95, op := Go.Op.load 23 (Go.Operand.tmp 94), type := 23, pos := "single.go:289", after := #[{ on := 6, ground := Go.Ground.data }], guard := none }) rfl (by kernel_rfl) (by kernel_rfl) (by kernel_rfl) (fun _ _ _ h => h) (Or.inl ⟨by rfl, fun w hw => by (obtain ⟨p0, p1, p2, p3, p4⟩ := hw; go_simp; try with_reducible rfl)⟩) (by assumption) ?_
          try simp only [Act.put, List.setIfInBounds_toArray, List.set_cons_zero, List.set_cons_succ]
          refine wpAnyH_take (i := 8) (oi := { dst := some 96, op := Go.Op.move (Go.Operand.tmp 0), type := 108, pos := "single.go:289", after := #[], guard := none }) rfl (by kernel_rfl) (by kernel_rfl) (by kernel_rfl) (fun _ _ _ h => h) (Or.inl ⟨by rfl, fun w hw => by (go_simp; try with_reducible rfl)⟩) (by assumption) ?_
          try simp only [Act.put, List.setIfInBounds_toArray, List.set_cons_zero, List.set_cons_succ]
          refine wpAnyH_take (i := 9) (oi := { dst := some 97, op := Go.Op.nilCheck (Go.Operand.tmp 96), type := 0, pos := "single.go:289", after := #[{ on := 8, ground := Go.Ground.data }], guard := none }) rfl (by kernel_rfl) (by kernel_rfl) (by kernel_rfl) (fun _ _ _ h => h) (Or.inl ⟨by rfl, fun w hw => by (go_simp; try with_reducible rfl)⟩) (by assumption) ?_
          try simp only [Act.put, List.setIfInBounds_toArray, List.set_cons_zero, List.set_cons_succ]
          refine wpAnyH_take (i := 10) (oi := { dst := some 98, op := Go.Op.fieldAddr 110 (Go.Operand.tmp 97) 2, type := 0, pos := "single.go:289", after := #[{ on := 9, ground := Go.Ground.data }], guard := none }) rfl (by kernel_rfl) (by kernel_rfl) (by kernel_rfl) (fun _ _ _ h => h) (Or.inl ⟨by rfl, fun w hw => by (go_simp; try with_reducible rfl)⟩) (by assumption) ?_
          try simp only [Act.put, List.setIfInBounds_toArray, List.set_cons_zero, List.set_cons_succ]
          refine wpAnyH_take (i := 11) (oi := { dst := some 99, op := Go.Op.load 97 (Go.Operand.tmp 98), type := 97, pos := "single.go:289", after := #[{ on := 10, ground := Go.Ground.data }], guard := none }) rfl (by kernel_rfl) (by kernel_rfl) (by kernel_rfl) (fun _ _ _ h => h) (Or.inl ⟨by rfl, fun w hw => by (obtain ⟨p0, p1, p2, p3, p4⟩ := hw; go_simp; try with_reducible rfl)⟩) (by assumption) ?_
          try simp only [Act.put, List.setIfInBounds_toArray, List.set_cons_zero, List.set_cons_succ]
          refine wpAnyH_take (i := 12) (oi := { dst := some 100, op := Go.Op.move (Go.Operand.tmp 2), type := 3, pos := "single.go:289", after := #[], guard := none }) rfl (by kernel_rfl) (by kernel_rfl) (by kernel_rfl) (fun _ _ _ h => h) (Or.inl ⟨by rfl, fun w hw => by (go_simp; try with_reducible rfl)⟩) (by assumption) ?_
          try simp only [Act.put, List.setIfInBounds_toArray, List.set_cons_zero, List.set_cons_succ]
          refine wpAnyH_take (i := 13) (oi := { dst := some 101, op := Go.Op.indexAddr 97 (Go.Operand.tmp 99) (Go.Operand.tmp 100), type := 0, pos := "single.go:289", after := #[{ on := 11, ground := Go.Ground.data }, { on := 12, ground := Go.Ground.data }], guard := none }) rfl (by kernel_rfl) (by kernel_rfl) (by kernel_rfl) (fun _ _ _ h => h) (Or.inl ⟨by rfl, fun w hw => by (go_simp; try with_reducible rfl)⟩) (by assumption) ?_
          try simp only [Act.put, List.setIfInBounds_toArray, List.set_cons_zero, List.set_cons_succ]
          refine wpAnyH_take (i := 14) (oi := { dst := some 102, op := Go.Op.load 23 (Go.Operand.tmp 101), type := 23, pos := "single.go:289", after := #[{ on := 13, ground := Go.Ground.data }], guard := none }) rfl (by kernel_rfl) (by kernel_rfl) (by kernel_rfl) (fun _ _ _ h => h) (Or.inl ⟨by rfl, fun w hw => by (obtain ⟨p0, p1, p2, p3, p4⟩ := hw; go_simp; try with_reducible rfl)⟩) (by assumption) ?_
          try simp only [Act.put, List.setIfInBounds_toArray, List.set_cons_zero, List.set_cons_succ]
          refine wpAnyH_take (i := 15) (oi := { dst := some 103, op := Go.Op.move (Go.Operand.tmp 1), type := 3, pos := "single.go:289", after := #[], guard := none }) rfl (by kernel_rfl) (by kernel_rfl) (by kernel_rfl) (fun _ _ _ h => h) (Or.inl ⟨by rfl, fun w hw => by (go_simp; try with_reducible rfl)⟩) (by assumption) ?_
          try simp only [Act.put, List.setIfInBounds_toArray, List.set_cons_zero, List.set_cons_succ]
          refine wpAnyH_take (i := 17) (oi := { dst := some 105, op := Go.Op.move (Go.Operand.tmp 3), type := 23, pos := "single.go:289", after := #[], guard := none }) rfl (by kernel_rfl) (by kernel_rfl) (by kernel_rfl) (fun _ _ _ h => h) (Or.inl ⟨by rfl, fun w hw => by (go_simp; try with_reducible rfl)⟩) (by assumption) ?_
          try simp only [Act.put, List.setIfInBounds_toArray, List.set_cons_zero, List.set_cons_succ]
          refine wpAnyH_take (i := 18) (oi := { dst := some 106, op := Go.Op.move (Go.Operand.tmp 11), type := 3, pos := "single.go:289", after := #[], guard := none }) rfl (by kernel_rfl) (by kernel_rfl) (by kernel_rfl) (fun _ _ _ h => h) (Or.inl ⟨by rfl, fun w hw => by (go_simp; try with_reducible rfl)⟩) (by assumption) ?_
          try simp only [Act.put, List.setIfInBounds_toArray, List.set_cons_zero, List.set_cons_succ]
          refine wpAnyH_take (i := 19) (oi := { dst := some 107, op := Go.Op.indexAddr 23 (Go.Operand.tmp 105) (Go.Operand.tmp 106), type := 0, pos := "single.go:289", after := #[{ on := 17, ground := Go.Ground.data }, { on := 18, ground := Go.Ground.data }], guard := none }) rfl (by kernel_rfl) (by kernel_rfl) (by kernel_rfl) (fun _ _ _ h => h) (Or.inl ⟨by rfl, fun w hw => by (go_simp; try with_reducible rfl)⟩) (by assumption) ?_
          try simp only [Act.put, List.setIfInBounds_toArray, List.set_cons_zero, List.set_cons_succ]
          refine wpAnyH_take (i := 20) (oi := { dst := some 108, op := Go.Op.load 3 (Go.Operand.tmp 107), type := 3, pos := "single.go:289", after := #[{ on := 19, ground := Go.Ground.data }], guard := none }) rfl (by kernel_rfl) (by kernel_rfl) (by kernel_rfl) (fun _ _ _ h => h) (Or.inl ⟨by rfl, fun w hw => by (obtain ⟨p0, p1, p2, p3, p4⟩ := hw; go_simp; try with_reducible rfl)⟩) (by assumption) ?_
          try simp only [Act.put, List.setIfInBounds_toArray, List.set_cons_zero, List.set_cons_succ]
          refine wpAnyH_ready (rs := [16]) (by kernel_rfl) (by simp) ?_
          refine AllReadyH.cons (o := { dst := some 104, op := Go.Op.call { callee := Go.Callee.value (Go.Operand.func 70), args := #[Go.Operand.tmp 102, Go.Operand.tmp 103], argTypes := #[23, 3] }, type := 3, pos := "single.go:289", after := #[{ on := 14, ground := Go.Ground.data }, { on := 15, ground := Go.Ground.data }], guard := none }) rfl (fun K hK => ?_) AllReadyH.nil
          go_simp
          go_at_call 70
          (with_reducible refine (HI.out _ HFR.out).mono ?_)
          rintro e w7 ⟨rfl, rfl⟩
          rw [HYx2.out]
          refine hK.out _ _ hH0 (fun hH1 => ?_)
          clear hK hH0
          have hH0 := hH1
          clear hH1
          try simp only [Act.put, List.setIfInBounds_toArray, List.set_cons_zero, List.set_cons_succ]
          refine wpAnyH_take (i := 21) (oi := { dst := some 109, op := Go.Op.indexAddr 23 (Go.Operand.tmp 95) (Go.Operand.tmp 104), type := 0, pos := "single.go:289", after := #[{ on := 7, ground := Go.Ground.data }, { on := 16, ground := Go.Ground.data }, { on := 0, ground := Go.Ground.phase }, { on := 1, ground := Go.Ground.phase }, { on := 2, ground := Go.Ground.phase }, { on := 3, ground := Go.Ground.phase }, { on := 4, ground := Go.Ground.phase }, { on := 5, ground := Go.Ground.phase }, { on := 6, ground := Go.Ground.phase }, { on := 7, ground := Go.Ground.phase }, { on := 8, ground := Go.Ground.phase }, { on := 9, ground := Go.Ground.phase }, { on := 10, ground := Go.Ground.phase }, { on := 11, ground := Go.Ground.phase }, { on := 12, ground := Go.Ground.phase }, { on := 13, ground := Go.Ground.phase }, { on := 14, ground := Go.Ground.phase }, { on := 15, ground := Go.Ground.phase }, { on := 16, ground := Go.Ground.phase }, { on := 17, ground := Go.Ground.phase }, { on := 18, ground := Go.Ground.phase }, { on := 19, ground := Go.Ground.phase }, { on := 20, ground := Go.Ground.phase }], guard := none }) rfl (by kernel_rfl) (by kernel_rfl) (by kernel_rfl) (fun _ _ _ h => h) (Or.inl ⟨by rfl, fun w hw => by (go_simp; try with_reducible rfl)⟩) (by assumption) ?_
          try simp only [Act.put, List.setIfInBounds_toArray, List.set_cons_zero, List.set_cons_succ]
          refine wpAnyH_ready (rs := [22]) (by kernel_rfl) (by simp) ?_
          refine AllReadyH.cons (o := { dst := none, op := Go.Op.store 3 (Go.Operand.tmp 109) (Go.Operand.tmp 108), type := 0, pos := "single.go:289", after := #[{ on := 21, ground := Go.Ground.data }, { on := 20, ground := Go.Ground.data }, { on := 16, ground := Go.Ground.chain }, { on := 0, ground := Go.Ground.phase }, { on := 1, ground := Go.Ground.phase }, { on := 2, ground := Go.Ground.phase }, { on := 3, ground := Go.Ground.phase }, { on := 4, ground := Go.Ground.phase }, { on := 5, ground := Go.Ground.phase }, { on := 6, ground := Go.Ground.phase }, { on := 7, ground := Go.Ground.phase }, { on := 8, ground := Go.Ground.phase }, { on := 9, ground := Go.Ground.phase }, { on := 10, ground := Go.Ground.phase }, { on := 11, ground := Go.Ground.phase }, { on := 12, ground := Go.Ground.phase }, { on := 13, ground := Go.Ground.phase }, { on := 14, ground := Go.Ground.phase }, { on := 15, ground := Go.Ground.phase }, { on := 16, ground := Go.Ground.phase }, { on := 17, ground := Go.Ground.phase }, { on := 18, ground := Go.Ground.phase }, { on := 19, ground := Go.Ground.phase }, { on := 20, ground := Go.Ground.phase }], guard := none }) rfl (fun K hK => ?_) AllReadyH.nil
          obtain ⟨cc9, c9⟩ := HCS.out.1
          have f9 := HCS.out.2
          go_simp
          clear c9 f9 cc9
          rw [← Hw2.out]
          refine hK.out _ _ HK2.out (fun hH1 => ?_)
          clear hK hH0
          have hH0 := hH1
          clear hH1
          try simp only [Act.put, List.setIfInBounds_toArray, List.set_cons_zero, List.set_cons_succ]
          refine wpAnyH_done (by kernel_rfl) ?_ _
          clear hH0
          go_wp2
          go_roundw
          case rel => exact ⟨k + 1, _, _, _, _, by go_num, by have := Hlt.out; omega, HS3, HF3, HR3, HV3⟩
          case measure => have := Hlt.out; simp [intOf]; omega
        · have : k = JR.length := by omega
          subst this
          have HP2 : Hid (∀ cs nn, RenR ns' MN CO CO.length cs nn → st1 = ⟨MN + CO.length, DN, st.out.set i ⟨js', cs, if 0 ≤ (rawSg E i).test then gI nn (E.p.getD i bnul).test else (rawSg E i).test, (rawSg E i).thn, (rawSg E i).els, nn⟩⟩) := Lib.hid (fun cs nn hC => HP.out js' ns' (by rw [← Hjs.out]; exact HF.out) cs nn hC)
          obtain ⟨wo2, rfl⟩ : ∃ wo2 : World, wo2 = wr := ⟨_, rfl⟩
          have hns0 : Hid (ns'.length = NL) := Lib.hid (by obtain ⟨pre, -, -, h0, -⟩ := HF.out; rw [h0]; exact HNL2.out)
          have Hcode : Hid (s0.code = []) := Lib.hid (by rw [Hs0.out, Hsr.out]; rfl)
          have H3 : Hid (rs'.map RS.sg = st.out.set i { s0 with joins := js', code := [] }) := Lib.hid (by rw [← Hcode.out]; exact HR.out)
          obtain ⟨⟨cT0, -⟩, -⟩ := HS.out.t
          rw [epv] at cT0
          have hp0 := (HS.out.bel.cell (p := ⟨pb, po + i * 4, none⟩) hpb).trans HcP.out.1
          have HM214 : MN ≤ 500 := by have := HM1.out; omega
          clear HR hlt hk
          go_wp2
          go_loopw [133] (fun k' wr => ∃ (k : Nat) (cs : List Step) (nn : List Int) (rs3 : List RS) (o3 : Nat → Nat × Nat), k' = .int .i64 (k : Nat) ∧ k ≤ CO.length ∧ Hid (NmX w0 wr H T g o3 rs3 (MN + k) DN (.slice (some ⟨nb, 0, none⟩) NL cn) nn none) ∧ Hid (RenR ns' MN CO k cs nn) ∧ Hid (rs3.map RS.sg = st.out.set i { s0 with joins := js', code := cs }) ∧ Hid (LvF d rs rs3)) (fun k' _ => CO.length - (intOf k').toNat)
          case atStart => exact ⟨0, [], ns', rs', o', rfl, Nat.zero_le _, HS, Lib.hid (RenR.start _ _ _), H3, HV⟩
          case round =>
            clear HS HF HV H3 cT0 hp0
            obtain ⟨k, cs, nn, rs3, o3, rfl, hk, HS, HF, HR, HV⟩ := hrel
            by_cases hlt : k < CO.length
            · obtain ⟨b5, off5, rfl, hb5, e0, e1, e2, e3, e4⟩ := RdSt.at5 (Rd.below HRP.out HS.out.bel) hlt
              have hso := HCO.out _ (List.getElem_mem hlt)
              have HgetC := Lib.hid (List.getElem?_eq_getElem hlt)
              have Hlt := Lib.hid hlt
              have hkc : ((k : Nat) : Int) < ((CO.length : Nat) : Int) := by omega
              generalize CO[k] = sc at *
              obtain ⟨op, tg, sa, sb, sv⟩ := sc
              obtain ⟨o1', o6, -, ov, ⟨t0, t1'⟩, oab⟩ := hso
              dsimp only at e0 e1 e2 e3 e4 o1' o6 ov t0 t1' oab
              obtain ⟨tn, rfl⟩ := Int.eq_ofNat_of_zero_le t0
              obtain ⟨mk, hmk⟩ : ∃ mk, mk = MN + k := ⟨_, rfl⟩
              rw [← hmk] at HS
              have hmk2 : mk ≤ 1000 := by omega
              have Hmk := Lib.hid hmk
              clear hmk
              obtain ⟨x, hx⟩ : ∃ x, rs3[i]? = some x := ⟨_, List.getElem?_eq_getElem (by rw [HS.out.len]; exact Hil.out)⟩
              have hsl : i < st.out.length := by have := congrArg List.length HR.out; rw [List.length_map, List.length_set] at this; rw [← this, HS.out.len]; exact Hil.out
              have hsg : x.sg = { s0 with joins := js', code := cs } := by rw [(map_sg HR.out hx (x' := x)).1, getS_set hsl, if_pos rfl]
              have hxc : x.code = cs := congrArg Sg.code hsg
              have hcl : x.code.length ≤ 1000 := by rw [hxc, HF.out.1]; omega
              have hSg := HS.out.at_ i x hx (by simp)
              obtain ⟨A1, c1, ejx, -, -, -⟩ := Own.form stepCells_len hSg.cd
              obtain ⟨ncl, hncl⟩ : ∃ ncl, ncl = x.code.length := ⟨_, rfl⟩
              rw [← hncl] at ejx
              have HX := Lib.hid hx
              have Hejx := Lib.hid ejx
              have Hcl := Lib.hid hcl
              have hnl : nn.length = NL := by rw [HF.out.2.1]; exact hns0.out
              have htn : tn < NL := by have := HL.out; omega
              obtain ⟨nb', en', -, hnb2, -, fN, cN⟩ := OwnI.at2 HS.out.nm (by omega)
              injection en' with en'
              injection en' with en'
              subst en'
              have Hnames := Lib.hid (fun (v : Nat) (hv : v < NL) => (show wr.cell? ⟨nb, v, none⟩ = some (.int .i64 (gI nn ((v : Nat) : Int))) from by
                have := cN v (by omega)
                rw [this]
                unfold gI
                rw [Int.toNat_natCast, List.getD_eq_getElem?_getD, List.getElem?_eq_getElem (by omega)]
                rfl))
              obtain ⟨o4, ho4, hz⟩ := HS.out.owner (0, 9)
              have HC1 := Lib.hid (hz.alloc (.cells #[.int .i64 op, .int .i64 (tn : Nat), .int .i64 sa, .int .i64 sb, .int .i64 sv] 87))
              have HSB1 := Lib.hid (heap_alloc_new wr (.cells #[.int .i64 op, .int .i64 (tn : Nat), .int .i64 sa, .int .i64 sb, .int .i64 sv] 87))
              have HnlH := Lib.hid hnl
              have Hz := Lib.hid hz
              have HNL9 : Hid (∀ (w' : World) (o' : Nat → Nat × Nat) (rs' : List RS) (m d : Nat), NmX w0 w' H T g o' rs' m d (.slice (some ⟨nb, 0, none⟩) NL cn) nn none → ∀ v, v < NL → w'.cell? ⟨nb, v, none⟩ = some (.int .i64 (gI nn ((v : Nat) : Int))) ∧ w'.frozen? ⟨nb, v, none⟩ = false) := Lib.hid (fun w' o' rs' m d hN v hv => by
                obtain ⟨nb', en', -, -, -, fN, cN⟩ := OwnI.at2 hN.nm (by have := HnlH.out; omega)
                injection en' with en'
                injection en' with en'
                subst en'
                have := cN v (by have := HnlH.out; omega)
                refine ⟨?_, fN v⟩
                rw [this]
                unfold gI
                rw [Int.toNat_natCast, List.getD_eq_getElem?_getD, List.getElem?_eq_getElem (by have := HnlH.out; omega)]
                rfl)
              obtain ⟨SX, hSX⟩ : ∃ SX, SX = wr.heap.size := ⟨_, rfl⟩
              have HoS : Hid (o4 SX = (0, 9)) := Lib.hid (by rw [hSX]; exact ho4)
              have HSB0 : Hid (w0.heap.size ≤ SX) := Lib.hid (by rw [hSX]; exact HS.out.bel.size)
              have HST : Hid (SX ≠ T) := Lib.hid (by rw [hSX]; exact fun e => by have := lt_h HS.out.tc; omega)
              have hSnb : SX ≠ nb := by omega
              obtain ⟨u1, hu1⟩ : ∃ u1, u1 = wr.alloc (.cells #[.int .i64 op, .int .i64 (tn : Nat), .int .i64 sa, .int .i64 sb, .int .i64 sv] 87) := ⟨_, rfl⟩
              rw [← hu1] at HC1 HSB1
              rw [← hSX] at HSB1
              have Hti := htn
              have htni : ((tn : Nat) : Int) < ((NL : Nat) : Int) := by omega
              -- what comes out of the round, for whatever the step has become
              have HEND : Hid (∀ sN : Step, renS nn mk ⟨op, ((tn : Nat) : Int), sa, sb, sv⟩ = sN → ∀ A' n' c', (RenR ns' MN CO (k + 1) (cs ++ [sN]) (nn.set tn ((mk : Nat) : Int))) ∧ ((rs3.set i { x with cv := .slice A' n' c', code := x.code ++ [sN] }).map RS.sg = st.out.set i { s0 with joins := js', code := cs ++ [sN] }) ∧ LvF d rs (rs3.set i { x with cv := .slice A' n' c', code := x.code ++ [sN] })) := Lib.hid (fun sN hsN A' n' c' => by
                have h1 := HF.out.next HgetC.out
                rw [← Hmk.out, hsN] at h1
                refine ⟨h1, ?_, HV.out.set hx (.inl rfl)⟩
                rw [(map_sg HR.out hx (x' := { x with cv := .slice A' n' c', code := x.code ++ [sN] })).2, List.set_set]
                congr 1
                show Sg.mk (x.js.map RJ.jn) (x.code ++ [sN]) x.test x.thn x.els x.last = _
                have q0 : x.js.map RJ.jn = js' := congrArg Sg.joins hsg
                have q2 : x.test = s0.test := congrArg Sg.test hsg
                have q3 : x.thn = s0.thn := congrArg Sg.thn hsg
                have q4 : x.els = s0.els := congrArg Sg.els hsg
                have q5 : x.last = s0.last := congrArg Sg.last hsg
                rw [hxc, q0, q2, q3, q4, q5])
              clear hx hsg hxc hsl hcl hSg ejx hncl hnl fN cN ho4 hz t0 t1' HS HF HR HV hlt
              have hop : op = 1 ∨ op = 2 ∨ 2 < op := by omega
              rcases hop with rfl | rfl | hop
              · clear ov oab
                go_wp2_with fail
                rw [← hSX, ← hu1]
                clear hSX hu1 e0 e1 e2 e3 e4 hnb2
                have HC2 := HC1
                have HSB2 := HSB1
                obtain ⟨u2, hu2⟩ : ∃ u2, u2 = u1 := ⟨_, rfl⟩
                rw [← hu2]
                rw [← hu2] at HC2 HSB2
                clear hu2
                (with_reducible refine (fresh_calls T mk _ (by omega) (HC2.out.t).2.1 ((HC2.out.t).2.2.2.2 5)).mono ?_)
                rintro e u3 ⟨rfl, hu3⟩
                have HC3 := Lib.hid (HC2.out.setM (mk + 1))
                have HSB3 : Hid (u3.heap[SX]? = some (.cells #[.int .i64 1, .int .i64 (tn : Nat), .int .i64 sa, .int .i64 sb, .int .i64 sv] 87 (0, 0))) := Lib.hid (by rw [hu3, Below.heap_setCell _ _ _ _ HST.out]; exact HSB2.out)
                rw [← hu3] at HC3
                clear hu3 HC2 HSB2 HC1 HSB1 Hnames
                have g1 := cell_h HSB3.out 1
                have g2 := fz_h HSB3.out 1
                obtain ⟨n1, n2⟩ := HNL9.out _ _ _ _ _ HC3.out tn Hti
                have HC5 := Lib.hid ((HC3.out.free HoS.out HSB0.out 1 (.int .i64 ((mk : Nat) : Int))).setN (k := tn) (by rw [HnlH.out]; exact Hti) ((mk : Nat) : Int))
                have HSB5 : Hid (((u3.setCell ⟨SX, 1, none⟩ (.int .i64 ((mk : Nat) : Int))).setCell ⟨nb, tn, none⟩ (.int .i64 ((mk : Nat) : Int))).heap[SX]? = some (.cells #[.int .i64 1, .int .i64 ((mk : Nat) : Int), .int .i64 sa, .int .i64 sb, .int .i64 sv] 87 (0, 0))) := Lib.hid (by
                  rw [Below.heap_setCell _ _ _ _ (show SX ≠ nb from hSnb)]
                  exact heapSetCell u3 SX 1 (.int .i64 ((mk : Nat) : Int)) _ _ HSB3.out)
                go_wp2
                obtain ⟨u5, hu5⟩ : ∃ u5, u5 = (u3.setCell ⟨SX, 1, none⟩ (.int .i64 ((mk : Nat) : Int))).setCell ⟨nb, tn, none⟩ (.int .i64 ((mk : Nat) : Int)) := ⟨_, rfl⟩
                rw [← hu5]
                rw [← hu5] at HC5 HSB5
                have HsN : Hid (renS nn mk ⟨1, ((tn : Nat) : Int), sa, sb, sv⟩ = ⟨1, ((mk : Nat) : Int), sa, sb, sv⟩) := Lib.hid (by simp [renS])
                have HC5 := Lib.hid HC5.out.drew
                have HSB5 : Hid (u5.drew.heap[SX]? = some (.cells #[.int .i64 1, .int .i64 ((mk : Nat) : Int), .int .i64 sa, .int .i64 sb, .int .i64 sv] 87 (0, 0))) := HSB5
                clear hu5 g1 g2 n1 n2 HC3 HSB3
                have HK5 : Hid (u5.drew.cell? ⟨SX, 0, none⟩ = some (.int .i64 1) ∧ u5.drew.cell? ⟨SX, 1, none⟩ = some (.int .i64 ((mk : Nat) : Int)) ∧ u5.drew.cell? ⟨SX, 2, none⟩ = some (.int .i64 sa) ∧ u5.drew.cell? ⟨SX, 3, none⟩ = some (.int .i64 sb) ∧ u5.drew.cell? ⟨SX, 4, none⟩ = some (.int .i64 sv)) := Lib.hid ⟨cell_h HSB5.out 0, cell_h HSB5.out 1, cell_h HSB5.out 2, cell_h HSB5.out 3, cell_h HSB5.out 4⟩
                refine wp_region_held_drew (S := fun w' => w'.cell? ⟨SX, 0, none⟩ = some (.int .i64 1) ∧ w'.cell? ⟨SX, 1, none⟩ = some (.int .i64 ((mk : Nat) : Int)) ∧ w'.cell? ⟨SX, 2, none⟩ = some (.int .i64 sa) ∧ w'.cell? ⟨SX, 3, none⟩ = some (.int .i64 sb) ∧ w'.cell? ⟨SX, 4, none⟩ = some (.int .i64 sv)) (by kernel_rfl) HK5.out (fun hH0 => ?_)
                refine wpAnyH_take (i := 0) (oi := { dst := some 171, op := Go.Op.move (Go.Operand.tmp 9), type := 172, pos := "single.go:305", after := #[], guard := none }) rfl (by kernel_rfl) (by kernel_rfl) (by kernel_rfl) (fun _ _ _ h => h) (Or.inl ⟨by rfl, fun w hw => by (go_simp; try with_reducible rfl)⟩) (by assumption) ?_
                try simp only [Act.put, List.setIfInBounds_toArray, List.set_cons_zero, List.set_cons_succ]
                refine wpAnyH_take (i := 1) (oi := { dst := some 172, op := Go.Op.move (Go.Operand.tmp 9), type := 172, pos := "single.go:305", after := #[], guard := none }) rfl (by kernel_rfl) (by kernel_rfl) (by kernel_rfl) (fun _ _ _ h => h) (Or.inl ⟨by rfl, fun w hw => by (go_simp; try with_reducible rfl)⟩) (by assumption) ?_
                try simp only [Act.put, List.setIfInBounds_toArray, List.set_cons_zero, List.set_cons_succ]
                refine wpAnyH_take (i := 2) (oi := { dst := some 173, op := Go.Op.nilCheck (Go.Operand.tmp 172), type := 0, pos := "single.go:305", after := #[{ on := 1, ground := Go.Ground.data }], guard := none }) rfl (by kernel_rfl) (by kernel_rfl) (by kernel_rfl) (fun _ _ _ h => h) (Or.inl ⟨by rfl, fun w hw => by (go_simp; try with_reducible rfl)⟩) (by assumption) ?_
                try simp only [Act.put, List.setIfInBounds_toArray, List.set_cons_zero, List.set_cons_succ]
                refine wpAnyH_take (i := 3) (oi := { dst := some 174, op := Go.Op.fieldAddr 114 (Go.Operand.tmp 173) 1, type := 0, pos := "single.go:305", after := #[{ on := 2, ground := Go.Ground.data }], guard := none }) rfl (by kernel_rfl) (by kernel_rfl) (by kernel_rfl) (fun _ _ _ h => h) (Or.inl ⟨by rfl, fun w hw => by (go_simp; try with_reducible rfl)⟩) (by assumption) ?_
                try simp only [Act.put, List.setIfInBounds_toArray, List.set_cons_zero, List.set_cons_succ]
                refine wpAnyH_take (i := 5) (oi := { dst := some 176, op := Go.Op.load 87 (Go.Operand.tmp 13), type := 87, pos := "single.go:305", after := #[], guard := none }) rfl (by kernel_rfl) (by kernel_rfl) (by kernel_rfl) (fun _ _ _ h => h) (Or.inl ⟨by rfl, fun w hw => by (obtain ⟨p0, p1, p2, p3, p4⟩ := hw; exact load_step _ _ _ rfl w SX rfl _ _ _ _ _ p0 p1 p2 p3 p4)⟩) (by assumption) ?_
                try simp only [Act.put, List.setIfInBounds_toArray, List.set_cons_zero, List.set_cons_succ]
                refine wpAnyH_ready (rs := [4, 6]) (by kernel_rfl) (by simp) ?_
                refine AllReadyH.cons (o := { dst := some 175, op := Go.Op.load 48 (Go.Operand.tmp 174), type := 48, pos := "single.go:305", after := #[{ on := 3, ground := Go.Ground.data }], guard := none }) rfl (fun K hK => ?_) ?_
                · have c9 := (HC5.out.g_ HX.out).1.2.1
                  rw [Hejx.out] at c9
                  go_simp
                  clear c9
                  refine hK.out _ _ hH0 (fun hH1 => ?_)
                  clear hK hH0
                  have hH0 := hH1
                  clear hH1
                  try simp only [Act.put, List.setIfInBounds_toArray, List.set_cons_zero, List.set_cons_succ]
                  refine wpAnyH_ready (rs := [6]) (by kernel_rfl) (by simp) ?_
                  refine AllReadyH.cons (o := { dst := some 177, op := Go.Op.buildSlice 48 1 #[(0, Go.Operand.tmp 176)], type := 48, pos := "single.go:305", after := #[{ on := 5, ground := Go.Ground.data }], guard := none }) rfl (fun K hK => ?_) AllReadyH.nil
                  have HC6 := Lib.hid (HC5.out.alloc (.cells #[.int .i64 1, .int .i64 ((mk : Nat) : Int), .int .i64 sa, .int .i64 sb, .int .i64 sv] 87))
                  have HSB6 : Hid ((u5.drew.alloc (.cells #[.int .i64 1, .int .i64 ((mk : Nat) : Int), .int .i64 sa, .int .i64 sb, .int .i64 sv] 87)).heap[SX]? = some (.cells #[.int .i64 1, .int .i64 ((mk : Nat) : Int), .int .i64 sa, .int .i64 sb, .int .i64 sv] 87 (0, 0))) := Lib.hid ((Below.heap_alloc u5.drew (.cells #[.int .i64 1, .int .i64 ((mk : Nat) : Int), .int .i64 sa, .int .i64 sb, .int .i64 sv] 87) SX (lt_h HSB5.out)).trans HSB5.out)
                  have HJx := Lib.hid (heap_alloc_new u5.drew (.cells #[.int .i64 1, .int .i64 ((mk : Nat) : Int), .int .i64 sa, .int .i64 sb, .int .i64 sv] 87))
                  have HsN' : Hid ((#[.int .i64 1, .int .i64 ((mk : Nat) : Int), .int .i64 sa, .int .i64 sb, .int .i64 sv] : Array Value) = (Step.mk 1 ((mk : Nat) : Int) sa sb sv).cells.toArray) := Lib.hid rfl
                  go_simp
                  obtain ⟨u6, hu⟩ : ∃ x, x = (u5.alloc (.cells #[.int .i64 1, .int .i64 ((mk : Nat) : Int), .int .i64 sa, .int .i64 sb, .int .i64 sv] 87)).drew := ⟨_, rfl⟩
                  obtain ⟨sz, hsz⟩ : ∃ sz, sz = u5.heap.size := ⟨_, rfl⟩
                  rw [← hsz, ← hu]
                  have HC6 : Hid (NmX w0 u6 H T g _ _ _ _ _ _ none) := Lib.hid (by rw [hu]; exact HC6.out)
                  have HSB6 : Hid (u6.heap[SX]? = some (.cells #[.int .i64 1, .int .i64 ((mk : Nat) : Int), .int .i64 sa, .int .i64 sb, .int .i64 sv] 87 (0, 0))) := Lib.hid (by rw [hu]; exact HSB6.out)
                  have HJx : Hid (u6.heap[sz]? = some (.cells #[.int .i64 1, .int .i64 ((mk : Nat) : Int), .int .i64 sa, .int .i64 sb, .int .i64 sv] 87 (0, 0))) := Lib.hid (by rw [hu, hsz]; exact HJx.out)
                  clear hu hsz
                  have HK6 : Hid (u6.cell? ⟨SX, 0, none⟩ = some (.int .i64 1) ∧ u6.cell? ⟨SX, 1, none⟩ = some (.int .i64 ((mk : Nat) : Int)) ∧ u6.cell? ⟨SX, 2, none⟩ = some (.int .i64 sa) ∧ u6.cell? ⟨SX, 3, none⟩ = some (.int .i64 sb) ∧ u6.cell? ⟨SX, 4, none⟩ = some (.int .i64 sv)) := Lib.hid ⟨cell_h HSB6.out 0, cell_h HSB6.out 1, cell_h HSB6.out 2, cell_h HSB6.out 3, cell_h HSB6.out 4⟩
                  refine hK.out _ _ HK6.out (fun hH1 => ?_)
                  clear hK hH0
                  have hH0 := hH1
                  clear hH1
                  try simp only [Act.put, List.setIfInBounds_toArray, List.set_cons_zero, List.set_cons_succ]
                  refine wpAnyH_ready (rs := [7]) (by kernel_rfl) (by simp) ?_
                  refine AllReadyH.cons (o := { dst := some 178, op := Go.Op.call { callee := Go.Callee.builtin Go.Builtin.append, args := #[Go.Operand.tmp 175, Go.Operand.tmp 177], argTypes := #[48, 48] }, type := 48, pos := "single.go:305", after := #[{ on := 4, ground := Go.Ground.data }, { on := 6, ground := Go.Ground.data }], guard := none }) rfl (fun K hK => ?_) AllReadyH.nil
                  obtain ⟨Az, nz, cz, uz, oy, hrun, ⟨cg, fg⟩, ⟨hky, hby⟩, hS9⟩ := HC6.out.step1 HX.out (Step.mk 1 ((mk : Nat) : Int) sa sb sv) 1 HJx.out Hcl.out
                  rw [Hejx.out] at hrun cg
                  have hSz : uz.heap[SX]? = some (.cells #[.int .i64 1, .int .i64 ((mk : Nat) : Int), .int .i64 sa, .int .i64 sb, .int .i64 sv] 87 (0, 0)) := (hky SX (lt_h HSB6.out) (by rw [HoS.out]; simp)).trans HSB6.out
                  try rw [if_pos (by rfl)]
                  refine wp_app_run 48 _ _ rfl rfl rfl hrun ?_
                  have HK7 : Hid (uz.cell? ⟨SX, 0, none⟩ = some (.int .i64 1) ∧ uz.cell? ⟨SX, 1, none⟩ = some (.int .i64 ((mk : Nat) : Int)) ∧ uz.cell? ⟨SX, 2, none⟩ = some (.int .i64 sa) ∧ uz.cell? ⟨SX, 3, none⟩ = some (.int .i64 sb) ∧ uz.cell? ⟨SX, 4, none⟩ = some (.int .i64 sv)) := Lib.hid ⟨cell_h hSz 0, cell_h hSz 1, cell_h hSz 2, cell_h hSz 3, cell_h hSz 4⟩
                  have HSB9 : Hid ((uz.setCell ⟨g, i * 6 + 1, none⟩ (.slice Az nz cz)).heap[SX]? = some (.cells #[.int .i64 1, .int .i64 ((mk : Nat) : Int), .int .i64 sa, .int .i64 sb, .int .i64 sv] 87 (0, 0))) := Lib.hid ((Below.heap_setCell uz ⟨g, i * 6 + 1, none⟩ _ SX (fun e => by have h1 := HC6.out.tg.2; have h2 := HoS.out; have e : SX = g := e; rw [e] at h2; rw [h2] at h1; cases h1)).trans hSz)
                  have HK9 : Hid ((uz.setCell ⟨g, i * 6 + 1, none⟩ (.slice Az nz cz)).cell? ⟨SX, 0, none⟩ = some (.int .i64 1) ∧ (uz.setCell ⟨g, i * 6 + 1, none⟩ (.slice Az nz cz)).cell? ⟨SX, 1, none⟩ = some (.int .i64 ((mk : Nat) : Int)) ∧ (uz.setCell ⟨g, i * 6 + 1, none⟩ (.slice Az nz cz)).cell? ⟨SX, 2, none⟩ = some (.int .i64 sa) ∧ (uz.setCell ⟨g, i * 6 + 1, none⟩ (.slice Az nz cz)).cell? ⟨SX, 3, none⟩ = some (.int .i64 sb) ∧ (uz.setCell ⟨g, i * 6 + 1, none⟩ (.slice Az nz cz)).cell? ⟨SX, 4, none⟩ = some (.int .i64 sv)) := Lib.hid ⟨cell_h HSB9.out 0, cell_h HSB9.out 1, cell_h HSB9.out 2, cell_h HSB9.out 3, cell_h HSB9.out 4⟩
                  have Hcg := Lib.hid (⟨cg, fg⟩ : _ ∧ _)
                  have HS9 := Lib.hid hS9
                  clear hrun cg fg hky hby hS9 hSz
                  refine hK.out _ _ HK7.out (fun hH1 => ?_)
                  clear hK hH0
                  have hH0 := hH1
                  clear hH1
                  try simp only [Act.put, List.setIfInBounds_toArray, List.set_cons_zero, List.set_cons_succ]
                  refine wpAnyH_take (i := 8) (oi := { dst := some 179, op := Go.Op.nilCheck (Go.Operand.tmp 171), type := 0, pos := "single.go:305", after := #[{ on := 0, ground := Go.Ground.data }, { on := 0, ground := Go.Ground.phase }, { on := 1, ground := Go.Ground.phase }, { on := 2, ground := Go.Ground.phase }, { on := 3, ground := Go.Ground.phase }, { on := 4, ground := Go.Ground.phase }, { on := 5, ground := Go.Ground.phase }, { on := 6, ground := Go.Ground.phase }, { on := 7, ground := Go.Ground.phase }], guard := none }) rfl (by kernel_rfl) (by kernel_rfl) (by kernel_rfl) (fun _ _ _ h => h) (Or.inl ⟨by rfl, fun w hw => by (go_simp; try with_reducible rfl)⟩) (by assumption) ?_
                  try simp only [Act.put, List.setIfInBounds_toArray, List.set_cons_zero, List.set_cons_succ]
                  refine wpAnyH_take (i := 9) (oi := { dst := some 180, op := Go.Op.fieldAddr 114 (Go.Operand.tmp 179) 1, type := 0, pos := "single.go:305", after := #[{ on := 8, ground := Go.Ground.data }, { on := 0, ground := Go.Ground.phase }, { on := 1, ground := Go.Ground.phase }, { on := 2, ground := Go.Ground.phase }, { on := 3, ground := Go.Ground.phase }, { on := 4, ground := Go.Ground.phase }, { on := 5, ground := Go.Ground.phase }, { on := 6, ground := Go.Ground.phase }, { on := 7, ground := Go.Ground.phase }], guard := none }) rfl (by kernel_rfl) (by kernel_rfl) (by kernel_rfl) (fun _ _ _ h => h) (Or.inl ⟨by rfl, fun w hw => by (go_simp; try with_reducible rfl)⟩) (by assumption) ?_
                  try simp only [Act.put, List.setIfInBounds_toArray, List.set_cons_zero, List.set_cons_succ]
                  refine wpAnyH_ready (rs := [10]) (by kernel_rfl) (by simp) ?_
                  refine AllReadyH.cons (o := { dst := none, op := Go.Op.store 48 (Go.Operand.tmp 180) (Go.Operand.tmp 178), type := 0, pos := "single.go:305", after := #[{ on := 9, ground := Go.Ground.data }, { on := 7, ground := Go.Ground.data }, { on := 7, ground := Go.Ground.chain }, { on := 0, ground := Go.Ground.phase }, { on := 1, ground := Go.Ground.phase }, { on := 2, ground := Go.Ground.phase }, { on := 3, ground := Go.Ground.phase }, { on := 4, ground := Go.Ground.phase }, { on := 5, ground := Go.Ground.phase }, { on := 6, ground := Go.Ground.phase }, { on := 7, ground := Go.Ground.phase }], guard := none }) rfl (fun K hK => ?_) AllReadyH.nil
                  obtain ⟨c9, f9⟩ := Hcg.out
                  go_simp
                  clear c9 f9
                  refine hK.out _ _ HK9.out (fun hH1 => ?_)
                  clear hK hH0
                  have hH0 := hH1
                  clear hH1
                  try simp only [Act.put, List.setIfInBounds_toArray, List.set_cons_zero, List.set_cons_succ]
                  refine wpAnyH_done (by kernel_rfl) ?_ _
                  clear hH0
                  have e9 : mk + 1 = MN + (k + 1) := by rw [Hmk.out]; omega
                  rw [e9] at HS9
                  clear e9
                  go_wp2
                  go_roundw
                  case rel => exact ⟨k + 1, _, _, _, _, by go_num, by have := Hlt.out; omega, HS9, Lib.hid (HEND.out _ HsN.out Az nz cz).1, Lib.hid (HEND.out _ HsN.out Az nz cz).2.1, Lib.hid (HEND.out _ HsN.out Az nz cz).2.2⟩
                  case measure => have := Hlt.out; simp [intOf]; omega
                refine AllReadyH.cons (o := { dst := some 177, op := Go.Op.buildSlice 48 1 #[(0, Go.Operand.tmp 176)], type := 48, pos := "single.go:305", after := #[{ on := 5, ground := Go.Ground.data }], guard := none }) rfl (fun K hK => ?_) AllReadyH.nil
                have HC6 := Lib.hid (HC5.out.alloc (.cells #[.int .i64 1, .int .i64 ((mk : Nat) : Int), .int .i64 sa, .int .i64 sb, .int .i64 sv] 87))
                have HSB6 : Hid ((u5.drew.alloc (.cells #[.int .i64 1, .int .i64 ((mk : Nat) : Int), .int .i64 sa, .int .i64 sb, .int .i64 sv] 87)).heap[SX]? = some (.cells #[.int .i64 1, .int .i64 ((mk : Nat) : Int), .int .i64 sa, .int .i64 sb, .int .i64 sv] 87 (0, 0))) := Lib.hid ((Below.heap_alloc u5.drew (.cells #[.int .i64 1, .int .i64 ((mk : Nat) : Int), .int .i64 sa, .int .i64 sb, .int .i64 sv] 87) SX (lt_h HSB5.out)).trans HSB5.out)
                have HJx := Lib.hid (heap_alloc_new u5.drew (.cells #[.int .i64 1, .int .i64 ((mk : Nat) : Int), .int .i64 sa, .int .i64 sb, .int .i64 sv] 87))
                have HsN' : Hid ((#[.int .i64 1, .int .i64 ((mk : Nat) : Int), .int .i64 sa, .int .i64 sb, .int .i64 sv] : Array Value) = (Step.mk 1 ((mk : Nat) : Int) sa sb sv).cells.toArray) := Lib.hid rfl
                go_simp
                obtain ⟨u6, hu⟩ : ∃ x, x = (u5.alloc (.cells #[.int .i64 1, .int .i64 ((mk : Nat) : Int), .int .i64 sa, .int .i64 sb, .int .i64 sv] 87)).drew := ⟨_, rfl⟩
                obtain ⟨sz, hsz⟩ : ∃ sz, sz = u5.heap.size := ⟨_, rfl⟩
                rw [← hsz, ← hu]
                have HC6 : Hid (NmX w0 u6 H T g _ _ _ _ _ _ none) := Lib.hid (by rw [hu]; exact HC6.out)
                have HSB6 : Hid (u6.heap[SX]? = some (.cells #[.int .i64 1, .int .i64 ((mk : Nat) : Int), .int .i64 sa, .int .i64 sb, .int .i64 sv] 87 (0, 0))) := Lib.hid (by rw [hu]; exact HSB6.out)
                have HJx : Hid (u6.heap[sz]? = some (.cells #[.int .i64 1, .int .i64 ((mk : Nat) : Int), .int .i64 sa, .int .i64 sb, .int .i64 sv] 87 (0, 0))) := Lib.hid (by rw [hu, hsz]; exact HJx.out)
                clear hu hsz
                have HK6 : Hid (u6.cell? ⟨SX, 0, none⟩ = some (.int .i64 1) ∧ u6.cell? ⟨SX, 1, none⟩ = some (.int .i64 ((mk : Nat) : Int)) ∧ u6.cell? ⟨SX, 2, none⟩ = some (.int .i64 sa) ∧ u6.cell? ⟨SX, 3, none⟩ = some (.int .i64 sb) ∧ u6.cell? ⟨SX, 4, none⟩ = some (.int .i64 sv)) := Lib.hid ⟨cell_h HSB6.out 0, cell_h HSB6.out 1, cell_h HSB6.out 2, cell_h HSB6.out 3, cell_h HSB6.out 4⟩
                refine hK.out _ _ HK6.out (fun hH1 => ?_)
                clear hK hH0
                have hH0 := hH1
                clear hH1
                try simp only [Act.put, List.setIfInBounds_toArray, List.set_cons_zero, List.set_cons_succ]
                refine wpAnyH_ready (rs := [4]) (by kernel_rfl) (by simp) ?_
                refine AllReadyH.cons (o := { dst := some 175, op := Go.Op.load 48 (Go.Operand.tmp 174), type := 48, pos := "single.go:305", after := #[{ on := 3, ground := Go.Ground.data }], guard := none }) rfl (fun K hK => ?_) AllReadyH.nil
                have c9 := (HC6.out.g_ HX.out).1.2.1
                rw [Hejx.out] at c9
                go_simp
                clear c9
                refine hK.out _ _ hH0 (fun hH1 => ?_)
                clear hK hH0
                have hH0 := hH1
                clear hH1
                try simp only [Act.put, List.setIfInBounds_toArray, List.set_cons_zero, List.set_cons_succ]
                refine wpAnyH_ready (rs := [7]) (by kernel_rfl) (by simp) ?_
                refine AllReadyH.cons (o := { dst := some 178, op := Go.Op.call { callee := Go.Callee.builtin Go.Builtin.append, args := #[Go.Operand.tmp 175, Go.Operand.tmp 177], argTypes := #[48, 48] }, type := 48, pos := "single.go:305", after := #[{ on := 4, ground := Go.Ground.data }, { on := 6, ground := Go.Ground.data }], guard := none }) rfl (fun K hK => ?_) AllReadyH.nil
                obtain ⟨Az, nz, cz, uz, oy, hrun, ⟨cg, fg⟩, ⟨hky, hby⟩, hS9⟩ := HC6.out.step1 HX.out (Step.mk 1 ((mk : Nat) : Int) sa sb sv) 1 HJx.out Hcl.out
                rw [Hejx.out] at hrun cg
                have hSz : uz.heap[SX]? = some (.cells #[.int .i64 1, .int .i64 ((mk : Nat) : Int), .int .i64 sa, .int .i64 sb, .int .i64 sv] 87 (0, 0)) := (hky SX (lt_h HSB6.out) (by rw [HoS.out]; simp)).trans HSB6.out
                try rw [if_pos (by rfl)]
                refine wp_app_run 48 _ _ rfl rfl rfl hrun ?_
                have HK7 : Hid (uz.cell? ⟨SX, 0, none⟩ = some (.int .i64 1) ∧ uz.cell? ⟨SX, 1, none⟩ = some (.int .i64 ((mk : Nat) : Int)) ∧ uz.cell? ⟨SX, 2, none⟩ = some (.int .i64 sa) ∧ uz.cell? ⟨SX, 3, none⟩ = some (.int .i64 sb) ∧ uz.cell? ⟨SX, 4, none⟩ = some (.int .i64 sv)) := Lib.hid ⟨cell_h hSz 0, cell_h hSz 1, cell_h hSz 2, cell_h hSz 3, cell_h hSz 4⟩
                have HSB9 : Hid ((uz.setCell ⟨g, i * 6 + 1, none⟩ (.slice Az nz cz)).heap[SX]? = some (.cells #[.int .i64 1, .int .i64 ((mk : Nat) : Int), .int .i64 sa, .int .i64 sb, .int .i64 sv] 87 (0, 0))) := Lib.hid ((Below.heap_setCell uz ⟨g, i * 6 + 1, none⟩ _ SX (fun e => by have h1 := HC6.out.tg.2; have h2 := HoS.out; have e : SX = g := e; rw [e] at h2; rw [h2] at h1; cases h1)).trans hSz)
                have HK9 : Hid ((uz.setCell ⟨g, i * 6 + 1, none⟩ (.slice Az nz cz)).cell? ⟨SX, 0, none⟩ = some (.int .i64 1) ∧ (uz.setCell ⟨g, i * 6 + 1, none⟩ (.slice Az nz cz)).cell? ⟨SX, 1, none⟩ = some (.int .i64 ((mk : Nat) : Int)) ∧ (uz.setCell ⟨g, i * 6 + 1, none⟩ (.slice Az nz cz)).cell? ⟨SX, 2, none⟩ = some (.int .i64 sa) ∧ (uz.setCell ⟨g, i * 6 + 1, none⟩ (.slice Az nz cz)).cell? ⟨SX, 3, none⟩ = some (.int .i64 sb) ∧ (uz.setCell ⟨g, i * 6 + 1, none⟩ (.slice Az nz cz)).cell? ⟨SX, 4, none⟩ = some (.int .i64 sv)) := Lib.hid ⟨cell_h HSB9.out 0, cell_h HSB9.out 1, cell_h HSB9.out 2, cell_h HSB9.out 3, cell_h HSB9.out 4⟩
                have Hcg := Lib.hid (⟨cg, fg⟩ : _ ∧ _)
                have HS9 := Lib.hid hS9
                clear hrun cg fg hky hby hS9 hSz
                refine hK.out _ _ HK7.out (fun hH1 => ?_)
                clear hK hH0
                have hH0 := hH1
                clear hH1
                try simp only [Act.put, List.setIfInBounds_toArray, List.set_cons_zero, List.set_cons_succ]
                refine wpAnyH_take (i := 8) (oi := { dst := some 179, op := Go.Op.nilCheck (Go.Operand.tmp 171), type := 0, pos := "single.go:305", after := #[{ on := 0, ground := Go.Ground.data }, { on := 0, ground := Go.Ground.phase }, { on := 1, ground := Go.Ground.phase }, { on := 2, ground := Go.Ground.phase }, { on := 3, ground := Go.Ground.phase }, { on := 4, ground := Go.Ground.phase }, { on := 5, ground := Go.Ground.phase }, { on := 6, ground := Go.Ground.phase }, { on := 7, ground := Go.Ground.phase }], guard := none }) rfl (by kernel_rfl) (by kernel_rfl) (by kernel_rfl) (fun _ _ _ h => h) (Or.inl ⟨by rfl, fun w hw => by (go_simp; try with_reducible rfl)⟩) (by assumption) ?_
                try simp only [Act.put, List.setIfInBounds_toArray, List.set_cons_zero, List.set_cons_succ]
                refine wpAnyH_take (i := 9) (oi := { dst := some 180, op := Go.Op.fieldAddr 114 (Go.Operand.tmp 179) 1, type := 0, pos := "single.go:305", after := #[{ on := 8, ground := Go.Ground.data }, { on := 0, ground := Go.Ground.phase }, { on := 1, ground := Go.Ground.phase }, { on := 2, ground := Go.Ground.phase }, { on := 3, ground := Go.Ground.phase }, { on := 4, ground := Go.Ground.phase }, { on := 5, ground := Go.Ground.phase }, { on := 6, ground := Go.Ground.phase }, { on := 7, ground := Go.Ground.phase }], guard := none }) rfl (by kernel_rfl) (by kernel_rfl) (by kernel_rfl) (fun _ _ _ h => h) (Or.inl ⟨by rfl, fun w hw => by (go_simp; try with_reducible rfl)⟩) (by assumption) ?_
                try simp only [Act.put, List.setIfInBounds_toArray, List.set_cons_zero, List.set_cons_succ]
                refine wpAnyH_ready (rs := [10]) (by kernel_rfl) (by simp) ?_
                refine AllReadyH.cons (o := { dst := none, op := Go.Op.store 48 (Go.Operand.tmp 180) (Go.Operand.tmp 178), type := 0, pos := "single.go:305", after := #[{ on := 9, ground := Go.Ground.data }, { on := 7, ground := Go.Ground.data }, { on := 7, ground := Go.Ground.chain }, { on := 0, ground := Go.Ground.phase }, { on := 1, ground := Go.Ground.phase }, { on := 2, ground := Go.Ground.phase }, { on := 3, ground := Go.Ground.phase }, { on := 4, ground := Go.Ground.phase }, { on := 5, ground := Go.Ground.phase }, { on := 6, ground := Go.Ground.phase }, { on := 7, ground := Go.Ground.phase }], guard := none }) rfl (fun K hK => ?_) AllReadyH.nil
                obtain ⟨c9, f9⟩ := Hcg.out
                go_simp
                clear c9 f9
                refine hK.out _ _ HK9.out (fun hH1 => ?_)
                clear hK hH0
                have hH0 := hH1
                clear hH1
                try simp only [Act.put, List.setIfInBounds_toArray, List.set_cons_zero, List.set_cons_succ]
                refine wpAnyH_done (by kernel_rfl) ?_ _
                clear hH0
                have e9 : mk + 1 = MN + (k + 1) := by rw [Hmk.out]; omega
                rw [e9] at HS9
                clear e9
                go_wp2
                go_roundw
                case rel => exact ⟨k + 1, _, _, _, _, by go_num, by have := Hlt.out; omega, HS9, Lib.hid (HEND.out _ HsN.out Az nz cz).1, Lib.hid (HEND.out _ HsN.out Az nz cz).2.1, Lib.hid (HEND.out _ HsN.out Az nz cz).2.2⟩
                case measure => have := Hlt.out; simp [intOf]; omega
              · obtain ⟨v0, v1⟩ := ov rfl
                clear ov oab
                obtain ⟨vl, rfl⟩ := Int.eq_ofNat_of_zero_le v0
                have hvl : vl < NL := by have := HL.out; omega
                have hvi : ((vl : Nat) : Int) < ((NL : Nat) : Int) := by omega
                have cV := Hnames.out vl hvl
                generalize hyv : gI nn ((vl : Nat) : Int) = yv at *
                have Hyv := Lib.hid hyv
                clear hyv v0 v1
                have HC2 := Lib.hid (Hz.out.alloc (.cells #[.int .i64 2, .int .i64 (tn : Nat), .int .i64 sa, .int .i64 sb, .int .i64 yv] 87))
                have HSB2 := Lib.hid (heap_alloc_new wr (.cells #[.int .i64 2, .int .i64 (tn : Nat), .int .i64 sa, .int .i64 sb, .int .i64 yv] 87))
                obtain ⟨u2, hu2⟩ : ∃ u2, u2 = wr.alloc (.cells #[.int .i64 2, .int .i64 (tn : Nat), .int .i64 sa, .int .i64 sb, .int .i64 yv] 87) := ⟨_, rfl⟩
                rw [← hu2] at HC2 HSB2
                rw [← hSX] at HSB2
                go_wp2_with fail
                rw [← hSX, ← hu2]
                clear hSX hu1 hu2 e0 e1 e2 e3 e4 cV hnb2
                (with_reducible refine (fresh_calls T mk _ (by omega) (HC2.out.t).2.1 ((HC2.out.t).2.2.2.2 5)).mono ?_)
                rintro e u3 ⟨rfl, hu3⟩
                have HC3 := Lib.hid (HC2.out.setM (mk + 1))
                have HSB3 : Hid (u3.heap[SX]? = some (.cells #[.int .i64 2, .int .i64 (tn : Nat), .int .i64 sa, .int .i64 sb, .int .i64 yv] 87 (0, 0))) := Lib.hid (by rw [hu3, Below.heap_setCell _ _ _ _ HST.out]; exact HSB2.out)
                rw [← hu3] at HC3
                clear hu3 HC2 HSB2 HC1 HSB1 Hnames
                have g1 := cell_h HSB3.out 1
                have g2 := fz_h HSB3.out 1
                obtain ⟨n1, n2⟩ := HNL9.out _ _ _ _ _ HC3.out tn Hti
                have HC5 := Lib.hid ((HC3.out.free HoS.out HSB0.out 1 (.int .i64 ((mk : Nat) : Int))).setN (k := tn) (by rw [HnlH.out]; exact Hti) ((mk : Nat) : Int))
                have HSB5 : Hid (((u3.setCell ⟨SX, 1, none⟩ (.int .i64 ((mk : Nat) : Int))).setCell ⟨nb, tn, none⟩ (.int .i64 ((mk : Nat) : Int))).heap[SX]? = some (.cells #[.int .i64 2, .int .i64 ((mk : Nat) : Int), .int .i64 sa, .int .i64 sb, .int .i64 yv] 87 (0, 0))) := Lib.hid (by
                  rw [Below.heap_setCell _ _ _ _ (show SX ≠ nb from hSnb)]
                  exact heapSetCell u3 SX 1 (.int .i64 ((mk : Nat) : Int)) _ _ HSB3.out)
                go_wp2
                obtain ⟨u5, hu5⟩ : ∃ u5, u5 = (u3.setCell ⟨SX, 1, none⟩ (.int .i64 ((mk : Nat) : Int))).setCell ⟨nb, tn, none⟩ (.int .i64 ((mk : Nat) : Int)) := ⟨_, rfl⟩
                rw [← hu5]
                rw [← hu5] at HC5 HSB5
                have HsN : Hid (renS nn mk ⟨2, ((tn : Nat) : Int), sa, sb, ((vl:Nat):Int)⟩ = ⟨2, ((mk : Nat) : Int), sa, sb, yv⟩) := Lib.hid (by simp [renS, Hyv.out])
                have HC5 := Lib.hid HC5.out.drew
                have HSB5 : Hid (u5.drew.heap[SX]? = some (.cells #[.int .i64 2, .int .i64 ((mk : Nat) : Int), .int .i64 sa, .int .i64 sb, .int .i64 yv] 87 (0, 0))) := HSB5
                clear hu5 g1 g2 n1 n2 HC3 HSB3
                have HK5 : Hid (u5.drew.cell? ⟨SX, 0, none⟩ = some (.int .i64 2) ∧ u5.drew.cell? ⟨SX, 1, none⟩ = some (.int .i64 ((mk : Nat) : Int)) ∧ u5.drew.cell? ⟨SX, 2, none⟩ = some (.int .i64 sa) ∧ u5.drew.cell? ⟨SX, 3, none⟩ = some (.int .i64 sb) ∧ u5.drew.cell? ⟨SX, 4, none⟩ = some (.int .i64 yv)) := Lib.hid ⟨cell_h HSB5.out 0, cell_h HSB5.out 1, cell_h HSB5.out 2, cell_h HSB5.out 3, cell_h HSB5.out 4⟩
                refine wp_region_held_drew (S := fun w' => w'.cell? ⟨SX, 0, none⟩ = some (.int .i64 2) ∧ w'.cell? ⟨SX, 1, none⟩ = some (.int .i64 ((mk : Nat) : Int)) ∧ w'.cell? ⟨SX, 2, none⟩ = some (.int .i64 sa) ∧ w'.cell? ⟨SX, 3, none⟩ = some (.int .i64 sb) ∧ w'.cell? ⟨SX, 4, none⟩ = some (.int .i64 yv)) (by kernel_rfl) HK5.out (fun hH0 => ?_)
                refine wpAnyH_take (i := 0) (oi := { dst := some 171, op := Go.Op.move (Go.Operand.tmp 9), type := 172, pos := "single.go:305", after := #[], guard := none }) rfl (by kernel_rfl) (by kernel_rfl) (by kernel_rfl) (fun _ _ _ h => h) (Or.inl ⟨by rfl, fun w hw => by (go_simp; try with_reducible rfl)⟩) (by assumption) ?_
                try simp only [Act.put, List.setIfInBounds_toArray, List.set_cons_zero, List.set_cons_succ]
                refine wpAnyH_take (i := 1) (oi := { dst := some 172, op := Go.Op.move (Go.Operand.tmp 9), type := 172, pos := "single.go:305", after := #[], guard := none }) rfl (by kernel_rfl) (by kernel_rfl) (by kernel_rfl) (fun _ _ _ h => h) (Or.inl ⟨by rfl, fun w hw => by (go_simp; try with_reducible rfl)⟩) (by assumption) ?_
                try simp only [Act.put, List.setIfInBounds_toArray, List.set_cons_zero, List.set_cons_succ]
                refine wpAnyH_take (i := 2) (oi := { dst := some 173, op := Go.Op.nilCheck (Go.Operand.tmp 172), type := 0, pos := "single.go:305", after := #[{ on := 1, ground := Go.Ground.data }], guard := none }) rfl (by kernel_rfl) (by kernel_rfl) (by kernel_rfl) (fun _ _ _ h => h) (Or.inl ⟨by rfl, fun w hw => by (go_simp; try with_reducible rfl)⟩) (by assumption) ?_
                try simp only [Act.put, List.setIfInBounds_toArray, List.set_cons_zero, List.set_cons_succ]
                refine wpAnyH_take (i := 3) (oi := { dst := some 174, op := Go.Op.fieldAddr 114 (Go.Operand.tmp 173) 1, type := 0, pos := "single.go:305", after := #[{ on := 2, ground := Go.Ground.data }], guard := none }) rfl (by kernel_rfl) (by kernel_rfl) (by kernel_rfl) (fun _ _ _ h => h) (Or.inl ⟨by rfl, fun w hw => by (go_simp; try with_reducible rfl)⟩) (by assumption) ?_
                try simp only [Act.put, List.setIfInBounds_toArray, List.set_cons_zero, List.set_cons_succ]
                refine wpAnyH_take (i := 5) (oi := { dst := some 176, op := Go.Op.load 87 (Go.Operand.tmp 13), type := 87, pos := "single.go:305", after := #[], guard := none }) rfl (by kernel_rfl) (by kernel_rfl) (by kernel_rfl) (fun _ _ _ h => h) (Or.inl ⟨by rfl, fun w hw => by (obtain ⟨p0, p1, p2, p3, p4⟩ := hw; exact load_step _ _ _ rfl w SX rfl _ _ _ _ _ p0 p1 p2 p3 p4)⟩) (by assumption) ?_
                try simp only [Act.put, List.setIfInBounds_toArray, List.set_cons_zero, List.set_cons_succ]
                refine wpAnyH_ready (rs := [4, 6]) (by kernel_rfl) (by simp) ?_
                refine AllReadyH.cons (o := { dst := some 175, op := Go.Op.load 48 (Go.Operand.tmp 174), type := 48, pos := "single.go:305", after := #[{ on := 3, ground := Go.Ground.data }], guard := none }) rfl (fun K hK => ?_) ?_
                · have c9 := (HC5.out.g_ HX.out).1.2.1
                  rw [Hejx.out] at c9
                  go_simp
                  clear c9
                  refine hK.out _ _ hH0 (fun hH1 => ?_)
                  clear hK hH0
                  have hH0 := hH1
                  clear hH1
                  try simp only [Act.put, List.setIfInBounds_toArray, List.set_cons_zero, List.set_cons_succ]
                  refine wpAnyH_ready (rs := [6]) (by kernel_rfl) (by simp) ?_
                  refine AllReadyH.cons (o := { dst := some 177, op := Go.Op.buildSlice 48 1 #[(0, Go.Operand.tmp 176)], type := 48, pos := "single.go:305", after := #[{ on := 5, ground := Go.Ground.data }], guard := none }) rfl (fun K hK => ?_) AllReadyH.nil
                  have HC6 := Lib.hid (HC5.out.alloc (.cells #[.int .i64 2, .int .i64 ((mk : Nat) : Int), .int .i64 sa, .int .i64 sb, .int .i64 yv] 87))
                  have HSB6 : Hid ((u5.drew.alloc (.cells #[.int .i64 2, .int .i64 ((mk : Nat) : Int), .int .i64 sa, .int .i64 sb, .int .i64 yv] 87)).heap[SX]? = some (.cells #[.int .i64 2, .int .i64 ((mk : Nat) : Int), .int .i64 sa, .int .i64 sb, .int .i64 yv] 87 (0, 0))) := Lib.hid ((Below.heap_alloc u5.drew (.cells #[.int .i64 2, .int .i64 ((mk : Nat) : Int), .int .i64 sa, .int .i64 sb, .int .i64 yv] 87) SX (lt_h HSB5.out)).trans HSB5.out)
                  have HJx := Lib.hid (heap_alloc_new u5.drew (.cells #[.int .i64 2, .int .i64 ((mk : Nat) : Int), .int .i64 sa, .int .i64 sb, .int .i64 yv] 87))
                  have HsN' : Hid ((#[.int .i64 2, .int .i64 ((mk : Nat) : Int), .int .i64 sa, .int .i64 sb, .int .i64 yv] : Array Value) = (Step.mk 2 ((mk : Nat) : Int) sa sb yv).cells.toArray) := Lib.hid rfl
                  go_simp
                  obtain ⟨u6, hu⟩ : ∃ x, x = (u5.alloc (.cells #[.int .i64 2, .int .i64 ((mk : Nat) : Int), .int .i64 sa, .int .i64 sb, .int .i64 yv] 87)).drew := ⟨_, rfl⟩
                  obtain ⟨sz, hsz⟩ : ∃ sz, sz = u5.heap.size := ⟨_, rfl⟩
                  rw [← hsz, ← hu]
                  have HC6 : Hid (NmX w0 u6 H T g _ _ _ _ _ _ none) := Lib.hid (by rw [hu]; exact HC6.out)
                  have HSB6 : Hid (u6.heap[SX]? = some (.cells #[.int .i64 2, .int .i64 ((mk : Nat) : Int), .int .i64 sa, .int .i64 sb, .int .i64 yv] 87 (0, 0))) := Lib.hid (by rw [hu]; exact HSB6.out)
                  have HJx : Hid (u6.heap[sz]? = some (.cells #[.int .i64 2, .int .i64 ((mk : Nat) : Int), .int .i64 sa, .int .i64 sb, .int .i64 yv] 87 (0, 0))) := Lib.hid (by rw [hu, hsz]; exact HJx.out)
                  clear hu hsz
                  have HK6 : Hid (u6.cell? ⟨SX, 0, none⟩ = some (.int .i64 2) ∧ u6.cell? ⟨SX, 1, none⟩ = some (.int .i64 ((mk : Nat) : Int)) ∧ u6.cell? ⟨SX, 2, none⟩ = some (.int .i64 sa) ∧ u6.cell? ⟨SX, 3, none⟩ = some (.int .i64 sb) ∧ u6.cell? ⟨SX, 4, none⟩ = some (.int .i64 yv)) := Lib.hid ⟨cell_h HSB6.out 0, cell_h HSB6.out 1, cell_h HSB6.out 2, cell_h HSB6.out 3, cell_h HSB6.out 4⟩
                  refine hK.out _ _ HK6.out (fun hH1 => ?_)
                  clear hK hH0
                  have hH0 := hH1
                  clear hH1
                  try simp only [Act.put, List.setIfInBounds_toArray, List.set_cons_zero, List.set_cons_succ]
                  refine wpAnyH_ready (rs := [7]) (by kernel_rfl) (by simp) ?_
                  refine AllReadyH.cons (o := { dst := some 178, op := Go.Op.call { callee := Go.Callee.builtin Go.Builtin.append, args := #[Go.Operand.tmp 175, Go.Operand.tmp 177], argTypes := #[48, 48] }, type := 48, pos := "single.go:305", after := #[{ on := 4, ground := Go.Ground.data }, { on := 6, ground := Go.Ground.data }], guard := none }) rfl (fun K hK => ?_) AllReadyH.nil
                  obtain ⟨Az, nz, cz, uz, oy, hrun, ⟨cg, fg⟩, ⟨hky, hby⟩, hS9⟩ := HC6.out.step1 HX.out (Step.mk 2 ((mk : Nat) : Int) sa sb yv) 1 HJx.out Hcl.out
                  rw [Hejx.out] at hrun cg
                  have hSz : uz.heap[SX]? = some (.cells #[.int .i64 2, .int .i64 ((mk : Nat) : Int), .int .i64 sa, .int .i64 sb, .int .i64 yv] 87 (0, 0)) := (hky SX (lt_h HSB6.out) (by rw [HoS.out]; simp)).trans HSB6.out
                  try rw [if_pos (by rfl)]
                  refine wp_app_run 48 _ _ rfl rfl rfl hrun ?_
                  have HK7 : Hid (uz.cell? ⟨SX, 0, none⟩ = some (.int .i64 2) ∧ uz.cell? ⟨SX, 1, none⟩ = some (.int .i64 ((mk : Nat) : Int)) ∧ uz.cell? ⟨SX, 2, none⟩ = some (.int .i64 sa) ∧ uz.cell? ⟨SX, 3, none⟩ = some (.int .i64 sb) ∧ uz.cell? ⟨SX, 4, none⟩ = some (.int .i64 yv)) := Lib.hid ⟨cell_h hSz 0, cell_h hSz 1, cell_h hSz 2, cell_h hSz 3, cell_h hSz 4⟩
                  have HSB9 : Hid ((uz.setCell ⟨g, i * 6 + 1, none⟩ (.slice Az nz cz)).heap[SX]? = some (.cells #[.int .i64 2, .int .i64 ((mk : Nat) : Int), .int .i64 sa, .int .i64 sb, .int .i64 yv] 87 (0, 0))) := Lib.hid ((Below.heap_setCell uz ⟨g, i * 6 + 1, none⟩ _ SX (fun e => by have h1 := HC6.out.tg.2; have h2 := HoS.out; have e : SX = g := e; rw [e] at h2; rw [h2] at h1; cases h1)).trans hSz)
                  have HK9 : Hid ((uz.setCell ⟨g, i * 6 + 1, none⟩ (.slice Az nz cz)).cell? ⟨SX, 0, none⟩ = some (.int .i64 2) ∧ (uz.setCell ⟨g, i * 6 + 1, none⟩ (.slice Az nz cz)).cell? ⟨SX, 1, none⟩ = some (.int .i64 ((mk : Nat) : Int)) ∧ (uz.setCell ⟨g, i * 6 + 1, none⟩ (.slice Az nz cz)).cell? ⟨SX, 2, none⟩ = some (.int .i64 sa) ∧ (uz.setCell ⟨g, i * 6 + 1, none⟩ (.slice Az nz cz)).cell? ⟨SX, 3, none⟩ = some (.int .i64 sb) ∧ (uz.setCell ⟨g, i * 6 + 1, none⟩ (.slice Az nz cz)).cell? ⟨SX, 4, none⟩ = some (.int .i64 yv)) := Lib.hid ⟨cell_h HSB9.out 0, cell_h HSB9.out 1, cell_h HSB9.out 2, cell_h HSB9.out 3, cell_h HSB9.out 4⟩
                  have Hcg := Lib.hid (⟨cg, fg⟩ : _ ∧ _)
                  have HS9 := Lib.hid hS9
                  clear hrun cg fg hky hby hS9 hSz
                  refine hK.out _ _ HK7.out (fun hH1 => ?_)
                  clear hK hH0
                  have hH0 := hH1
                  clear hH1
                  try simp only [Act.put, List.setIfInBounds_toArray, List.set_cons_zero, List.set_cons_succ]
                  refine wpAnyH_take (i := 8) (oi := { dst := some 179, op := Go.Op.nilCheck (Go.Operand.tmp 171), type := 0, pos := "single.go:305", after := #[{ on := 0, ground := Go.Ground.data }, { on := 0, ground := Go.Ground.phase }, { on := 1, ground := Go.Ground.phase }, { on := 2, ground := Go.Ground.phase }, { on := 3, ground := Go.Ground.phase }, { on := 4, ground := Go.Ground.phase }, { on := 5, ground := Go.Ground.phase }, { on := 6, ground := Go.Ground.phase }, { on := 7, ground := Go.Ground.phase }], guard := none }) rfl (by kernel_rfl) (by kernel_rfl) (by kernel_rfl) (fun _ _ _ h => h) (Or.inl ⟨by rfl, fun w hw => by (go_simp; try with_reducible rfl)⟩) (by assumption) ?_
                  try simp only [Act.put, List.setIfInBounds_toArray, List.set_cons_zero, List.set_cons_succ]
                  refine wpAnyH_take (i := 9) (oi := { dst := some 180, op := Go.Op.fieldAddr 114 (Go.Operand.tmp 179) 1, type := 0, pos := "single.go:305", after := #[{ on := 8, ground := Go.Ground.data }, { on := 0, ground := Go.Ground.phase }, { on := 1, ground := Go.Ground.phase }, { on := 2, ground := Go.Ground.phase }, { on := 3, ground := Go.Ground.phase }, { on := 4, ground := Go.Ground.phase }, { on := 5, ground := Go.Ground.phase }, { on := 6, ground := Go.Ground.phase }, { on := 7, ground := Go.Ground.phase }], guard := none }) rfl (by kernel_rfl) (by kernel_rfl) (by kernel_rfl) (fun _ _ _ h => h) (Or.inl ⟨by rfl, fun w hw => by (go_simp; try with_reducible rfl)⟩) (by assumption) ?_
                  try simp only [Act.put, List.setIfInBounds_toArray, List.set_cons_zero, List.set_cons_succ]
                  refine wpAnyH_ready (rs := [10]) (by kernel_rfl) (by simp) ?_
                  refine AllReadyH.cons (o := { dst := none, op := Go.Op.store 48 (Go.Operand.tmp 180) (Go.Operand.tmp 178), type := 0, pos := "single.go:305", after := #[{ on := 9, ground := Go.Ground.data }, { on := 7, ground := Go.Ground.data }, { on := 7, ground := Go.Ground.chain }, { on := 0, ground := Go.Ground.phase }, { on := 1, ground := Go.Ground.phase }, { on := 2, ground := Go.Ground.phase }, { on := 3, ground := Go.Ground.phase }, { on := 4, ground := Go.Ground.phase }, { on := 5, ground := Go.Ground.phase }, { on := 6, ground := Go.Ground.phase }, { on := 7, ground := Go.Ground.phase }], guard := none }) rfl (fun K hK => ?_) AllReadyH.nil
                  obtain ⟨c9, f9⟩ := Hcg.out
                  go_simp
                  clear c9 f9
                  refine hK.out _ _ HK9.out (fun hH1 => ?_)
                  clear hK hH0
                  have hH0 := hH1
                  clear hH1
                  try simp only [Act.put, List.setIfInBounds_toArray, List.set_cons_zero, List.set_cons_succ]
                  refine wpAnyH_done (by kernel_rfl) ?_ _
                  clear hH0
                  have e9 : mk + 1 = MN + (k + 1) := by rw [Hmk.out]; omega
                  rw [e9] at HS9
                  clear e9
                  go_wp2
                  go_roundw
                  case rel => exact ⟨k + 1, _, _, _, _, by go_num, by have := Hlt.out; omega, HS9, Lib.hid (HEND.out _ HsN.out Az nz cz).1, Lib.hid (HEND.out _ HsN.out Az nz cz).2.1, Lib.hid (HEND.out _ HsN.out Az nz cz).2.2⟩
                  case measure => have := Hlt.out; simp [intOf]; omega
                refine AllReadyH.cons (o := { dst := some 177, op := Go.Op.buildSlice 48 1 #[(0, Go.Operand.tmp 176)], type := 48, pos := "single.go:305", after := #[{ on := 5, ground := Go.Ground.data }], guard := none }) rfl (fun K hK => ?_) AllReadyH.nil
                have HC6 := Lib.hid (HC5.out.alloc (.cells #[.int .i64 2, .int .i64 ((mk : Nat) : Int), .int .i64 sa, .int .i64 sb, .int .i64 yv] 87))
                have HSB6 : Hid ((u5.drew.alloc (.cells #[.int .i64 2, .int .i64 ((mk : Nat) : Int), .int .i64 sa, .int .i64 sb, .int .i64 yv] 87)).heap[SX]? = some (.cells #[.int .i64 2, .int .i64 ((mk : Nat) : Int), .int .i64 sa, .int .i64 sb, .int .i64 yv] 87 (0, 0))) := Lib.hid ((Below.heap_alloc u5.drew (.cells #[.int .i64 2, .int .i64 ((mk : Nat) : Int), .int .i64 sa, .int .i64 sb, .int .i64 yv] 87) SX (lt_h HSB5.out)).trans HSB5.out)
                have HJx := Lib.hid (heap_alloc_new u5.drew (.cells #[.int .i64 2, .int .i64 ((mk : Nat) : Int), .int .i64 sa, .int .i64 sb, .int .i64 yv] 87))
                have HsN' : Hid ((#[.int .i64 2, .int .i64 ((mk : Nat) : Int), .int .i64 sa, .int .i64 sb, .int .i64 yv] : Array Value) = (Step.mk 2 ((mk : Nat) : Int) sa sb yv).cells.toArray) := Lib.hid rfl
                go_simp
                obtain ⟨u6, hu⟩ : ∃ x, x = (u5.alloc (.cells #[.int .i64 2, .int .i64 ((mk : Nat) : Int), .int .i64 sa, .int .i64 sb, .int .i64 yv] 87)).drew := ⟨_, rfl⟩
                obtain ⟨sz, hsz⟩ : ∃ sz, sz = u5.heap.size := ⟨_, rfl⟩
                rw [← hsz, ← hu]
                have HC6 : Hid (NmX w0 u6 H T g _ _ _ _ _ _ none) := Lib.hid (by rw [hu]; exact HC6.out)
                have HSB6 : Hid (u6.heap[SX]? = some (.cells #[.int .i64 2, .int .i64 ((mk : Nat) : Int), .int .i64 sa, .int .i64 sb, .int .i64 yv] 87 (0, 0))) := Lib.hid (by rw [hu]; exact HSB6.out)
                have HJx : Hid (u6.heap[sz]? = some (.cells #[.int .i64 2, .int .i64 ((mk : Nat) : Int), .int .i64 sa, .int .i64 sb, .int .i64 yv] 87 (0, 0))) := Lib.hid (by rw [hu, hsz]; exact HJx.out)
                clear hu hsz
                have HK6 : Hid (u6.cell? ⟨SX, 0, none⟩ = some (.int .i64 2) ∧ u6.cell? ⟨SX, 1, none⟩ = some (.int .i64 ((mk : Nat) : Int)) ∧ u6.cell? ⟨SX, 2, none⟩ = some (.int .i64 sa) ∧ u6.cell? ⟨SX, 3, none⟩ = some (.int .i64 sb) ∧ u6.cell? ⟨SX, 4, none⟩ = some (.int .i64 yv)) := Lib.hid ⟨cell_h HSB6.out 0, cell_h HSB6.out 1, cell_h HSB6.out 2, cell_h HSB6.out 3, cell_h HSB6.out 4⟩
                refine hK.out _ _ HK6.out (fun hH1 => ?_)
                clear hK hH0
                have hH0 := hH1
                clear hH1
                try simp only [Act.put, List.setIfInBounds_toArray, List.set_cons_zero, List.set_cons_succ]
                refine wpAnyH_ready (rs := [4]) (by kernel_rfl) (by simp) ?_
                refine AllReadyH.cons (o := { dst := some 175, op := Go.Op.load 48 (Go.Operand.tmp 174), type := 48, pos := "single.go:305", after := #[{ on := 3, ground := Go.Ground.data }], guard := none }) rfl (fun K hK => ?_) AllReadyH.nil
                have c9 := (HC6.out.g_ HX.out).1.2.1
                rw [Hejx.out] at c9
                go_simp
                clear c9
                refine hK.out _ _ hH0 (fun hH1 => ?_)
                clear hK hH0
                have hH0 := hH1
                clear hH1
                try simp only [Act.put, List.setIfInBounds_toArray, List.set_cons_zero, List.set_cons_succ]
                refine wpAnyH_ready (rs := [7]) (by kernel_rfl) (by simp) ?_
                refine AllReadyH.cons (o := { dst := some 178, op := Go.Op.call { callee := Go.Callee.builtin Go.Builtin.append, args := #[Go.Operand.tmp 175, Go.Operand.tmp 177], argTypes := #[48, 48] }, type := 48, pos := "single.go:305", after := #[{ on := 4, ground := Go.Ground.data }, { on := 6, ground := Go.Ground.data }], guard := none }) rfl (fun K hK => ?_) AllReadyH.nil
                obtain ⟨Az, nz, cz, uz, oy, hrun, ⟨cg, fg⟩, ⟨hky, hby⟩, hS9⟩ := HC6.out.step1 HX.out (Step.mk 2 ((mk : Nat) : Int) sa sb yv) 1 HJx.out Hcl.out
                rw [Hejx.out] at hrun cg
                have hSz : uz.heap[SX]? = some (.cells #[.int .i64 2, .int .i64 ((mk : Nat) : Int), .int .i64 sa, .int .i64 sb, .int .i64 yv] 87 (0, 0)) := (hky SX (lt_h HSB6.out) (by rw [HoS.out]; simp)).trans HSB6.out
                try rw [if_pos (by rfl)]
                refine wp_app_run 48 _ _ rfl rfl rfl hrun ?_
                have HK7 : Hid (uz.cell? ⟨SX, 0, none⟩ = some (.int .i64 2) ∧ uz.cell? ⟨SX, 1, none⟩ = some (.int .i64 ((mk : Nat) : Int)) ∧ uz.cell? ⟨SX, 2, none⟩ = some (.int .i64 sa) ∧ uz.cell? ⟨SX, 3, none⟩ = some (.int .i64 sb) ∧ uz.cell? ⟨SX, 4, none⟩ = some (.int .i64 yv)) := Lib.hid ⟨cell_h hSz 0, cell_h hSz 1, cell_h hSz 2, cell_h hSz 3, cell_h hSz 4⟩
                have HSB9 : Hid ((uz.setCell ⟨g, i * 6 + 1, none⟩ (.slice Az nz cz)).heap[SX]? = some (.cells #[.int .i64 2, .int .i64 ((mk : Nat) : Int), .int .i64 sa, .int .i64 sb, .int .i64 yv] 87 (0, 0))) := Lib.hid ((Below.heap_setCell uz ⟨g, i * 6 + 1, none⟩ _ SX (fun e => by have h1 := HC6.out.tg.2; have h2 := HoS.out; have e : SX = g := e; rw [e] at h2; rw [h2] at h1; cases h1)).trans hSz)
                have HK9 : Hid ((uz.setCell ⟨g, i * 6 + 1, none⟩ (.slice Az nz cz)).cell? ⟨SX, 0, none⟩ = some (.int .i64 2) ∧ (uz.setCell ⟨g, i * 6 + 1, none⟩ (.slice Az nz cz)).cell? ⟨SX, 1, none⟩ = some (.int .i64 ((mk : Nat) : Int)) ∧ (uz.setCell ⟨g, i * 6 + 1, none⟩ (.slice Az nz cz)).cell? ⟨SX, 2, none⟩ = some (.int .i64 sa) ∧ (uz.setCell ⟨g, i * 6 + 1, none⟩ (.slice Az nz cz)).cell? ⟨SX, 3, none⟩ = some (.int .i64 sb) ∧ (uz.setCell ⟨g, i * 6 + 1, none⟩ (.slice Az nz cz)).cell? ⟨SX, 4, none⟩ = some (.int .i64 yv)) := Lib.hid ⟨cell_h HSB9.out 0, cell_h HSB9.out 1, cell_h HSB9.out 2, cell_h HSB9.out 3, cell_h HSB9.out 4⟩
                have Hcg := Lib.hid (⟨cg, fg⟩ : _ ∧ _)
                have HS9 := Lib.hid hS9
                clear hrun cg fg hky hby hS9 hSz
                refine hK.out _ _ HK7.out (fun hH1 => ?_)
                clear hK hH0
                have hH0 := hH1
                clear hH1
                try simp only [Act.put, List.setIfInBounds_toArray, List.set_cons_zero, List.set_cons_succ]
                refine wpAnyH_take (i := 8) (oi := { dst := some 179, op := Go.Op.nilCheck (Go.Operand.tmp 171), type := 0, pos := "single.go:305", after := #[{ on := 0, ground := Go.Ground.data }, { on := 0, ground := Go.Ground.phase }, { on := 1, ground := Go.Ground.phase }, { on := 2, ground := Go.Ground.phase }, { on := 3, ground := Go.Ground.phase }, { on := 4, ground := Go.Ground.phase }, { on := 5, ground := Go.Ground.phase }, { on := 6, ground := Go.Ground.phase }, { on := 7, ground := Go.Ground.phase }], guard := none }) rfl (by kernel_rfl) (by kernel_rfl) (by kernel_rfl) (fun _ _ _ h => h) (Or.inl ⟨by rfl, fun w hw => by (go_simp; try with_reducible rfl)⟩) (by assumption) ?_
                try simp only [Act.put, List.setIfInBounds_toArray, List.set_cons_zero, List.set_cons_succ]
                refine wpAnyH_take (i := 9) (oi := { dst := some 180, op := Go.Op.fieldAddr 114 (Go.Operand.tmp 179) 1, type := 0, pos := "single.go:305", after := #[{ on := 8, ground := Go.Ground.data }, { on := 0, ground := Go.Ground.phase }, { on := 1, ground := Go.Ground.phase }, { on := 2, ground := Go.Ground.phase }, { on := 3, ground := Go.Ground.phase }, { on := 4, ground := Go.Ground.phase }, { on := 5, ground := Go.Ground.phase }, { on := 6, ground := Go.Ground.phase }, { on := 7, ground := Go.Ground.phase }], guard := none }) rfl (by kernel_rfl) (by kernel_rfl) (by kernel_rfl) (fun _ _ _ h => h) (Or.inl ⟨by rfl, fun w hw => by (go_simp; try with_reducible rfl)⟩) (by assumption) ?_
                try simp only [Act.put, List.setIfInBounds_toArray, List.set_cons_zero, List.set_cons_succ]
                refine wpAnyH_ready (rs := [10]) (by kernel_rfl) (by simp) ?_
                refine AllReadyH.cons (o := { dst := none, op := Go.Op.store 48 (Go.Operand.tmp 180) (Go.Operand.tmp 178), type := 0, pos := "single.go:305", after := #[{ on := 9, ground := Go.Ground.data }, { on := 7, ground := Go.Ground.data }, { on := 7, ground := Go.Ground.chain }, { on := 0, ground := Go.Ground.phase }, { on := 1, ground := Go.Ground.phase }, { on := 2, ground := Go.Ground.phase }, { on := 3, ground := Go.Ground.phase }, { on := 4, ground := Go.Ground.phase }, { on := 5, ground := Go.Ground.phase }, { on := 6, ground := Go.Ground.phase }, { on := 7, ground := Go.Ground.phase }], guard := none }) rfl (fun K hK => ?_) AllReadyH.nil
                obtain ⟨c9, f9⟩ := Hcg.out
                go_simp
                clear c9 f9
                refine hK.out _ _ HK9.out (fun hH1 => ?_)
                clear hK hH0
                have hH0 := hH1
                clear hH1
                try simp only [Act.put, List.setIfInBounds_toArray, List.set_cons_zero, List.set_cons_succ]
                refine wpAnyH_done (by kernel_rfl) ?_ _
                clear hH0
                have e9 : mk + 1 = MN + (k + 1) := by rw [Hmk.out]; omega
                rw [e9] at HS9
                clear e9
                go_wp2
                go_roundw
                case rel => exact ⟨k + 1, _, _, _, _, by go_num, by have := Hlt.out; omega, HS9, Lib.hid (HEND.out _ HsN.out Az nz cz).1, Lib.hid (HEND.out _ HsN.out Az nz cz).2.1, Lib.hid (HEND.out _ HsN.out Az nz cz).2.2⟩
                case measure => have := Hlt.out; simp [intOf]; omega
              · obtain ⟨⟨a0, a1⟩, b0, b1⟩ := oab hop
                clear ov oab
                obtain ⟨an, rfl⟩ := Int.eq_ofNat_of_zero_le a0
                obtain ⟨bn, rfl⟩ := Int.eq_ofNat_of_zero_le b0
                have han : an < NL := by have := HL.out; omega
                have hbn : bn < NL := by have := HL.out; omega
                have hai : ((an : Nat) : Int) < ((NL : Nat) : Int) := by omega
                have hbi : ((bn : Nat) : Int) < ((NL : Nat) : Int) := by omega
                have q2 : (op == 2) = false := by rw [beq_eq_false_iff_ne]; omega
                obtain ⟨ya, hya⟩ : ∃ ya, ya = gI nn ((an : Nat) : Int) := ⟨_, rfl⟩
                obtain ⟨yb, hyb⟩ : ∃ yb, yb = gI nn ((bn : Nat) : Int) := ⟨_, rfl⟩
                have HS2 : Hid (∀ (w' : World) (o' : Nat → Nat × Nat) (rs' : List RS) (m d : Nat), NmX w0 w' H T g o' rs' m d (.slice (some ⟨nb, 0, none⟩) NL cn) nn none → w'.cell? ⟨nb, an, none⟩ = some (.int .i64 ya) ∧ w'.cell? ⟨nb, bn, none⟩ = some (.int .i64 yb)) := Lib.hid (fun w' o' rs' m d hN => ⟨by rw [hya]; exact (HNL9.out w' o' rs' m d hN an han).1, by rw [hyb]; exact (HNL9.out w' o' rs' m d hN bn hbn).1⟩)
                have Hya := Lib.hid hya
                have Hyb := Lib.hid hyb
                clear hya hyb a0 a1 b0 b1
                have HK1 : Hid (u1.drew.cell? ⟨nb, an, none⟩ = some (.int .i64 ya) ∧ u1.drew.cell? ⟨nb, bn, none⟩ = some (.int .i64 yb)) := Lib.hid (HS2.out _ _ _ _ _ HC1.out.drew)
                have HCa := Lib.hid (HC1.out.free HoS.out HSB0.out 2 (.int .i64 ya)).drew
                have HSBa : Hid ((u1.setCell ⟨SX, 2, none⟩ (.int .i64 ya)).drew.heap[SX]? = some (.cells #[.int .i64 op, .int .i64 (tn : Nat), .int .i64 ya, .int .i64 ((bn : Nat) : Int), .int .i64 sv] 87 (0, 0))) := Lib.hid (heapSetCell u1 SX 2 (.int .i64 ya) _ _ HSB1.out)
                obtain ⟨ua, hua⟩ : ∃ ua, ua = (u1.setCell ⟨SX, 2, none⟩ (.int .i64 ya)).drew := ⟨_, rfl⟩
                rw [← hua] at HCa HSBa
                have HC2 := Lib.hid (HCa.out.free HoS.out HSB0.out 3 (.int .i64 yb))
                have HSB2 : Hid ((ua.setCell ⟨SX, 3, none⟩ (.int .i64 yb)).heap[SX]? = some (.cells #[.int .i64 op, .int .i64 (tn : Nat), .int .i64 ya, .int .i64 yb, .int .i64 sv] 87 (0, 0))) := Lib.hid (heapSetCell ua SX 3 (.int .i64 yb) _ _ HSBa.out)
                obtain ⟨u2, hu2⟩ : ∃ u2, u2 = ua.setCell ⟨SX, 3, none⟩ (.int .i64 yb) := ⟨_, rfl⟩
                rw [← hu2] at HC2 HSB2
                have Hua := Lib.hid hua
                have Hu2 := Lib.hid hu2
                clear hua hu2
                go_wp2
                rw [← hSX, ← hu1]
                clear hSX hu1 e0 e1 e2 e3 e4 hnb2
                refine wp_region_held_drew (S := fun w' => w'.cell? ⟨nb, an, none⟩ = some (.int .i64 ya) ∧ w'.cell? ⟨nb, bn, none⟩ = some (.int .i64 yb)) (by kernel_rfl) HK1.out (fun hH0 => ?_)
                refine wpAnyH_take (i := 0) (oi := { dst := some 149, op := Go.Op.move (Go.Operand.tmp 3), type := 23, pos := "single.go:300", after := #[], guard := none }) rfl (by kernel_rfl) (by kernel_rfl) (by kernel_rfl) (fun _ _ _ h => h) (Or.inl ⟨by rfl, fun w hw => by (go_simp; try with_reducible rfl)⟩) (by assumption) ?_
                try simp only [Act.put, List.setIfInBounds_toArray, List.set_cons_zero, List.set_cons_succ]
                refine wpAnyH_take (i := 1) (oi := { dst := some 150, op := Go.Op.fieldAddr 87 (Go.Operand.tmp 13) 2, type := 0, pos := "single.go:300", after := #[], guard := none }) rfl (by kernel_rfl) (by kernel_rfl) (by kernel_rfl) (fun _ _ _ h => h) (Or.inl ⟨by rfl, fun w hw => by (go_simp; try with_reducible rfl)⟩) (by assumption) ?_
                try simp only [Act.put, List.setIfInBounds_toArray, List.set_cons_zero, List.set_cons_succ]
                refine wpAnyH_take (i := 5) (oi := { dst := some 154, op := Go.Op.move (Go.Operand.tmp 3), type := 23, pos := "single.go:300", after := #[], guard := none }) rfl (by kernel_rfl) (by kernel_rfl) (by kernel_rfl) (fun _ _ _ h => h) (Or.inl ⟨by rfl, fun w hw => by (go_simp; try with_reducible rfl)⟩) (by assumption) ?_
                try simp only [Act.put, List.setIfInBounds_toArray, List.set_cons_zero, List.set_cons_succ]
                refine wpAnyH_take (i := 6) (oi := { dst := some 155, op := Go.Op.fieldAddr 87 (Go.Operand.tmp 13) 3, type := 0, pos := "single.go:300", after := #[], guard := none }) rfl (by kernel_rfl) (by kernel_rfl) (by kernel_rfl) (fun _ _ _ h => h) (Or.inl ⟨by rfl, fun w hw => by (go_simp; try with_reducible rfl)⟩) (by assumption) ?_
                try simp only [Act.put, List.setIfInBounds_toArray, List.set_cons_zero, List.set_cons_succ]
                refine wpAnyH_ready (rs := [2, 7]) (by kernel_rfl) (by simp) ?_
                refine AllReadyH.cons (o := { dst := some 151, op := Go.Op.load 3 (Go.Operand.tmp 150), type := 3, pos := "single.go:300", after := #[{ on := 1, ground := Go.Ground.data }], guard := none }) rfl (fun K hK => ?_) ?_
                · have c9 := cell_h HSB1.out 2
                  go_simp
                  clear c9
                  refine hK.out _ _ hH0 (fun hH1 => ?_)
                  clear hK hH0
                  have hH0 := hH1
                  clear hH1
                  try simp only [Act.put, List.setIfInBounds_toArray, List.set_cons_zero, List.set_cons_succ]
                  refine wpAnyH_take (i := 3) (oi := { dst := some 152, op := Go.Op.indexAddr 23 (Go.Operand.tmp 149) (Go.Operand.tmp 151), type := 0, pos := "single.go:300", after := #[{ on := 0, ground := Go.Ground.data }, { on := 2, ground := Go.Ground.data }], guard := none }) rfl (by kernel_rfl) (by kernel_rfl) (by kernel_rfl) (fun _ _ _ h => h) (Or.inl ⟨by rfl, fun w hw => by (go_simp; try with_reducible rfl)⟩) (by assumption) ?_
                  try simp only [Act.put, List.setIfInBounds_toArray, List.set_cons_zero, List.set_cons_succ]
                  refine wpAnyH_take (i := 4) (oi := { dst := some 153, op := Go.Op.load 3 (Go.Operand.tmp 152), type := 3, pos := "single.go:300", after := #[{ on := 3, ground := Go.Ground.data }], guard := none }) rfl (by kernel_rfl) (by kernel_rfl) (by kernel_rfl) (fun _ _ _ h => h) (Or.inl ⟨by rfl, fun w hw => by (obtain ⟨p0, p1⟩ := hw; go_simp; try with_reducible rfl)⟩) (by assumption) ?_
                  try simp only [Act.put, List.setIfInBounds_toArray, List.set_cons_zero, List.set_cons_succ]
                  refine wpAnyH_ready (rs := [7]) (by kernel_rfl) (by simp) ?_
                  refine AllReadyH.cons (o := { dst := some 156, op := Go.Op.load 3 (Go.Operand.tmp 155), type := 3, pos := "single.go:300", after := #[{ on := 6, ground := Go.Ground.data }], guard := none }) rfl (fun K hK => ?_) AllReadyH.nil
                  have c9 := cell_h HSB1.out 3
                  go_simp
                  clear c9
                  refine hK.out _ _ hH0 (fun hH1 => ?_)
                  clear hK hH0
                  have hH0 := hH1
                  clear hH1
                  try simp only [Act.put, List.setIfInBounds_toArray, List.set_cons_zero, List.set_cons_succ]
                  refine wpAnyH_take (i := 8) (oi := { dst := some 157, op := Go.Op.indexAddr 23 (Go.Operand.tmp 154) (Go.Operand.tmp 156), type := 0, pos := "single.go:300", after := #[{ on := 5, ground := Go.Ground.data }, { on := 7, ground := Go.Ground.data }], guard := none }) rfl (by kernel_rfl) (by kernel_rfl) (by kernel_rfl) (fun _ _ _ h => h) (Or.inl ⟨by rfl, fun w hw => by (go_simp; try with_reducible rfl)⟩) (by assumption) ?_
                  try simp only [Act.put, List.setIfInBounds_toArray, List.set_cons_zero, List.set_cons_succ]
                  refine wpAnyH_take (i := 9) (oi := { dst := some 158, op := Go.Op.load 3 (Go.Operand.tmp 157), type := 3, pos := "single.go:300", after := #[{ on := 8, ground := Go.Ground.data }], guard := none }) rfl (by kernel_rfl) (by kernel_rfl) (by kernel_rfl) (fun _ _ _ h => h) (Or.inl ⟨by rfl, fun w hw => by (obtain ⟨p0, p1⟩ := hw; go_simp; try with_reducible rfl)⟩) (by assumption) ?_
                  try simp only [Act.put, List.setIfInBounds_toArray, List.set_cons_zero, List.set_cons_succ]
                  refine wpAnyH_take (i := 10) (oi := { dst := some 159, op := Go.Op.fieldAddr 87 (Go.Operand.tmp 13) 2, type := 0, pos := "single.go:300", after := #[{ on := 0, ground := Go.Ground.phase }, { on := 1, ground := Go.Ground.phase }, { on := 2, ground := Go.Ground.phase }, { on := 3, ground := Go.Ground.phase }, { on := 4, ground := Go.Ground.phase }, { on := 5, ground := Go.Ground.textOnly Go.Departure.lateStores }, { on := 6, ground := Go.Ground.phase }, { on := 7, ground := Go.Ground.phase }, { on := 8, ground := Go.Ground.textOnly Go.Departure.lateStoresUnsure }, { on := 9, ground := Go.Ground.textOnly Go.Departure.lateStoresUnsure }], guard := none }) rfl (by kernel_rfl) (by kernel_rfl) (by kernel_rfl) (fun _ _ _ h => h) (Or.inl ⟨by rfl, fun w hw => by (go_simp; try with_reducible rfl)⟩) (by assumption) ?_
                  try simp only [Act.put, List.setIfInBounds_toArray, List.set_cons_zero, List.set_cons_succ]
                  refine wpAnyH_ready (rs := [11]) (by kernel_rfl) (by simp) ?_
                  refine AllReadyH.cons (o := { dst := none, op := Go.Op.store 3 (Go.Operand.tmp 159) (Go.Operand.tmp 153), type := 0, pos := "single.go:300", after := #[{ on := 10, ground := Go.Ground.data }, { on := 4, ground := Go.Ground.data }, { on := 0, ground := Go.Ground.phase }, { on := 1, ground := Go.Ground.phase }, { on := 2, ground := Go.Ground.phase }, { on := 3, ground := Go.Ground.phase }, { on := 4, ground := Go.Ground.phase }, { on := 5, ground := Go.Ground.textOnly Go.Departure.lateStores }, { on := 6, ground := Go.Ground.phase }, { on := 7, ground := Go.Ground.phase }, { on := 8, ground := Go.Ground.textOnly Go.Departure.lateStoresUnsure }, { on := 9, ground := Go.Ground.textOnly Go.Departure.lateStoresUnsure }], guard := none }) rfl (fun K hK => ?_) AllReadyH.nil
                  have c9 := cell_h HSB1.out 2
                  have f9 := fz_h HSB1.out 2
                  go_simp
                  clear c9 f9
                  rw [← Hua.out]
                  refine hK.out _ _ (HS2.out _ _ _ _ _ HCa.out) (fun hH1 => ?_)
                  clear hK hH0
                  have hH0 := hH1
                  clear hH1
                  try simp only [Act.put, List.setIfInBounds_toArray, List.set_cons_zero, List.set_cons_succ]
                  refine wpAnyH_take (i := 12) (oi := { dst := some 160, op := Go.Op.fieldAddr 87 (Go.Operand.tmp 13) 3, type := 0, pos := "single.go:300", after := #[{ on := 0, ground := Go.Ground.phase }, { on := 1, ground := Go.Ground.phase }, { on := 2, ground := Go.Ground.phase }, { on := 3, ground := Go.Ground.phase }, { on := 4, ground := Go.Ground.phase }, { on := 5, ground := Go.Ground.phase }, { on := 6, ground := Go.Ground.phase }, { on := 7, ground := Go.Ground.phase }, { on := 8, ground := Go.Ground.phase }, { on := 9, ground := Go.Ground.phase }, { on := 10, ground := Go.Ground.phase }, { on := 11, ground := Go.Ground.phase }], guard := none }) rfl (by kernel_rfl) (by kernel_rfl) (by kernel_rfl) (fun _ _ _ h => h) (Or.inl ⟨by rfl, fun w hw => by (go_simp; try with_reducible rfl)⟩) (by assumption) ?_
                  try simp only [Act.put, List.setIfInBounds_toArray, List.set_cons_zero, List.set_cons_succ]
                  refine wpAnyH_ready (rs := [13]) (by kernel_rfl) (by simp) ?_
                  refine AllReadyH.cons (o := { dst := none, op := Go.Op.store 3 (Go.Operand.tmp 160) (Go.Operand.tmp 158), type := 0, pos := "single.go:300", after := #[{ on := 12, ground := Go.Ground.data }, { on := 9, ground := Go.Ground.data }, { on := 11, ground := Go.Ground.chain }, { on := 0, ground := Go.Ground.phase }, { on := 1, ground := Go.Ground.phase }, { on := 2, ground := Go.Ground.phase }, { on := 3, ground := Go.Ground.phase }, { on := 4, ground := Go.Ground.phase }, { on := 5, ground := Go.Ground.phase }, { on := 6, ground := Go.Ground.phase }, { on := 7, ground := Go.Ground.phase }, { on := 8, ground := Go.Ground.phase }, { on := 9, ground := Go.Ground.phase }, { on := 10, ground := Go.Ground.phase }, { on := 11, ground := Go.Ground.phase }], guard := none }) rfl (fun K hK => ?_) AllReadyH.nil
                  have c9 := cell_h HSBa.out 3
                  have f9 := fz_h HSBa.out 3
                  go_simp
                  clear c9 f9
                  rw [← Hu2.out]
                  refine hK.out _ _ (HS2.out _ _ _ _ _ HC2.out) (fun hH1 => ?_)
                  clear hK hH0
                  have hH0 := hH1
                  clear hH1
                  try simp only [Act.put, List.setIfInBounds_toArray, List.set_cons_zero, List.set_cons_succ]
                  refine wpAnyH_done (by kernel_rfl) ?_ _
                  clear hH0 HK1
                  have d1 := cell_h HSB2.out 1
                  go_wp2_with fail
                  clear d1
                  (with_reducible refine (fresh_calls T mk _ (by omega) (HC2.out.t).2.1 ((HC2.out.t).2.2.2.2 5)).mono ?_)
                  rintro e u3 ⟨rfl, hu3⟩
                  have HC3 := Lib.hid (HC2.out.setM (mk + 1))
                  have HSB3 : Hid (u3.heap[SX]? = some (.cells #[.int .i64 op, .int .i64 (tn : Nat), .int .i64 ya, .int .i64 yb, .int .i64 sv] 87 (0, 0))) := Lib.hid (by rw [hu3, Below.heap_setCell _ _ _ _ HST.out]; exact HSB2.out)
                  rw [← hu3] at HC3
                  clear hu3 HC2 HSB2 HC1 HSB1 Hnames
                  have g1 := cell_h HSB3.out 1
                  have g2 := fz_h HSB3.out 1
                  obtain ⟨n1, n2⟩ := HNL9.out _ _ _ _ _ HC3.out tn Hti
                  have HC5 := Lib.hid ((HC3.out.free HoS.out HSB0.out 1 (.int .i64 ((mk : Nat) : Int))).setN (k := tn) (by rw [HnlH.out]; exact Hti) ((mk : Nat) : Int))
                  have HSB5 : Hid (((u3.setCell ⟨SX, 1, none⟩ (.int .i64 ((mk : Nat) : Int))).setCell ⟨nb, tn, none⟩ (.int .i64 ((mk : Nat) : Int))).heap[SX]? = some (.cells #[.int .i64 op, .int .i64 ((mk : Nat) : Int), .int .i64 ya, .int .i64 yb, .int .i64 sv] 87 (0, 0))) := Lib.hid (by
                    rw [Below.heap_setCell _ _ _ _ (show SX ≠ nb from hSnb)]
                    exact heapSetCell u3 SX 1 (.int .i64 ((mk : Nat) : Int)) _ _ HSB3.out)
                  go_wp2
                  obtain ⟨u5, hu5⟩ : ∃ u5, u5 = (u3.setCell ⟨SX, 1, none⟩ (.int .i64 ((mk : Nat) : Int))).setCell ⟨nb, tn, none⟩ (.int .i64 ((mk : Nat) : Int)) := ⟨_, rfl⟩
                  rw [← hu5]
                  rw [← hu5] at HC5 HSB5
                  have HsN : Hid (renS nn mk ⟨op, ((tn : Nat) : Int), ((an:Nat):Int), ((bn:Nat):Int), sv⟩ = ⟨op, ((mk : Nat) : Int), ya, yb, sv⟩) := Lib.hid (by (unfold renS; dsimp only; rw [if_pos hop, if_pos hop, if_neg (by omega), ← Hya.out, ← Hyb.out]))
                  have HC5 := Lib.hid HC5.out.drew
                  have HSB5 : Hid (u5.drew.heap[SX]? = some (.cells #[.int .i64 op, .int .i64 ((mk : Nat) : Int), .int .i64 ya, .int .i64 yb, .int .i64 sv] 87 (0, 0))) := HSB5
                  clear hu5 g1 g2 n1 n2 HC3 HSB3
                  have HK5 : Hid (u5.drew.cell? ⟨SX, 0, none⟩ = some (.int .i64 op) ∧ u5.drew.cell? ⟨SX, 1, none⟩ = some (.int .i64 ((mk : Nat) : Int)) ∧ u5.drew.cell? ⟨SX, 2, none⟩ = some (.int .i64 ya) ∧ u5.drew.cell? ⟨SX, 3, none⟩ = some (.int .i64 yb) ∧ u5.drew.cell? ⟨SX, 4, none⟩ = some (.int .i64 sv)) := Lib.hid ⟨cell_h HSB5.out 0, cell_h HSB5.out 1, cell_h HSB5.out 2, cell_h HSB5.out 3, cell_h HSB5.out 4⟩
                  refine wp_region_held_drew (S := fun w' => w'.cell? ⟨SX, 0, none⟩ = some (.int .i64 op) ∧ w'.cell? ⟨SX, 1, none⟩ = some (.int .i64 ((mk : Nat) : Int)) ∧ w'.cell? ⟨SX, 2, none⟩ = some (.int .i64 ya) ∧ w'.cell? ⟨SX, 3, none⟩ = some (.int .i64 yb) ∧ w'.cell? ⟨SX, 4, none⟩ = some (.int .i64 sv)) (by kernel_rfl) HK5.out (fun hH0 => ?_)
                  refine wpAnyH_take (i := 0) (oi := { dst := some 171, op := Go.Op.move (Go.Operand.tmp 9), type := 172, pos := "single.go:305", after := #[], guard := none }) rfl (by kernel_rfl) (by kernel_rfl) (by kernel_rfl) (fun _ _ _ h => h) (Or.inl ⟨by rfl, fun w hw => by (go_simp; try with_reducible rfl)⟩) (by assumption) ?_
                  try simp only [Act.put, List.setIfInBounds_toArray, List.set_cons_zero, List.set_cons_succ]
                  refine wpAnyH_take (i := 1) (oi := { dst := some 172, op := Go.Op.move (Go.Operand.tmp 9), type := 172, pos := "single.go:305", after := #[], guard := none }) rfl (by kernel_rfl) (by kernel_rfl) (by kernel_rfl) (fun _ _ _ h => h) (Or.inl ⟨by rfl, fun w hw => by (go_simp; try with_reducible rfl)⟩) (by assumption) ?_
                  try simp only [Act.put, List.setIfInBounds_toArray, List.set_cons_zero, List.set_cons_succ]
                  refine wpAnyH_take (i := 2) (oi := { dst := some 173, op := Go.Op.nilCheck (Go.Operand.tmp 172), type := 0, pos := "single.go:305", after := #[{ on := 1, ground := Go.Ground.data }], guard := none }) rfl (by kernel_rfl) (by kernel_rfl) (by kernel_rfl) (fun _ _ _ h => h) (Or.inl ⟨by rfl, fun w hw => by (go_simp; try with_reducible rfl)⟩) (by assumption) ?_
                  try simp only [Act.put, List.setIfInBounds_toArray, List.set_cons_zero, List.set_cons_succ]
                  refine wpAnyH_take (i := 3) (oi := { dst := some 174, op := Go.Op.fieldAddr 114 (Go.Operand.tmp 173) 1, type := 0, pos := "single.go:305", after := #[{ on := 2, ground := Go.Ground.data }], guard := none }) rfl (by kernel_rfl) (by kernel_rfl) (by kernel_rfl) (fun _ _ _ h => h) (Or.inl ⟨by rfl, fun w hw => by (go_simp; try with_reducible rfl)⟩) (by assumption) ?_
                  try simp only [Act.put, List.setIfInBounds_toArray, List.set_cons_zero, List.set_cons_succ]
                  refine wpAnyH_take (i := 5) (oi := { dst := some 176, op := Go.Op.load 87 (Go.Operand.tmp 13), type := 87, pos := "single.go:305", after := #[], guard := none }) rfl (by kernel_rfl) (by kernel_rfl) (by kernel_rfl) (fun _ _ _ h => h) (Or.inl ⟨by rfl, fun w hw => by (obtain ⟨p0, p1, p2, p3, p4⟩ := hw; exact load_step _ _ _ rfl w SX rfl _ _ _ _ _ p0 p1 p2 p3 p4)⟩) (by assumption) ?_
                  try simp only [Act.put, List.setIfInBounds_toArray, List.set_cons_zero, List.set_cons_succ]
                  refine wpAnyH_ready (rs := [4, 6]) (by kernel_rfl) (by simp) ?_
                  refine AllReadyH.cons (o := { dst := some 175, op := Go.Op.load 48 (Go.Operand.tmp 174), type := 48, pos := "single.go:305", after := #[{ on := 3, ground := Go.Ground.data }], guard := none }) rfl (fun K hK => ?_) ?_
                  · have c9 := (HC5.out.g_ HX.out).1.2.1
                    rw [Hejx.out] at c9
                    go_simp
                    clear c9
                    refine hK.out _ _ hH0 (fun hH1 => ?_)
                    clear hK hH0
                    have hH0 := hH1
                    clear hH1
                    try simp only [Act.put, List.setIfInBounds_toArray, List.set_cons_zero, List.set_cons_succ]
                    refine wpAnyH_ready (rs := [6]) (by kernel_rfl) (by simp) ?_
                    refine AllReadyH.cons (o := { dst := some 177, op := Go.Op.buildSlice 48 1 #[(0, Go.Operand.tmp 176)], type := 48, pos := "single.go:305", after := #[{ on := 5, ground := Go.Ground.data }], guard := none }) rfl (fun K hK => ?_) AllReadyH.nil
                    have HC6 := Lib.hid (HC5.out.alloc (.cells #[.int .i64 op, .int .i64 ((mk : Nat) : Int), .int .i64 ya, .int .i64 yb, .int .i64 sv] 87))
                    have HSB6 : Hid ((u5.drew.alloc (.cells #[.int .i64 op, .int .i64 ((mk : Nat) : Int), .int .i64 ya, .int .i64 yb, .int .i64 sv] 87)).heap[SX]? = some (.cells #[.int .i64 op, .int .i64 ((mk : Nat) : Int), .int .i64 ya, .int .i64 yb, .int .i64 sv] 87 (0, 0))) := Lib.hid ((Below.heap_alloc u5.drew (.cells #[.int .i64 op, .int .i64 ((mk : Nat) : Int), .int .i64 ya, .int .i64 yb, .int .i64 sv] 87) SX (lt_h HSB5.out)).trans HSB5.out)
                    have HJx := Lib.hid (heap_alloc_new u5.drew (.cells #[.int .i64 op, .int .i64 ((mk : Nat) : Int), .int .i64 ya, .int .i64 yb, .int .i64 sv] 87))
                    have HsN' : Hid ((#[.int .i64 op, .int .i64 ((mk : Nat) : Int), .int .i64 ya, .int .i64 yb, .int .i64 sv] : Array Value) = (Step.mk op ((mk : Nat) : Int) ya yb sv).cells.toArray) := Lib.hid rfl
                    go_simp
                    obtain ⟨u6, hu⟩ : ∃ x, x = (u5.alloc (.cells #[.int .i64 op, .int .i64 ((mk : Nat) : Int), .int .i64 ya, .int .i64 yb, .int .i64 sv] 87)).drew := ⟨_, rfl⟩
                    obtain ⟨sz, hsz⟩ : ∃ sz, sz = u5.heap.size := ⟨_, rfl⟩
                    rw [← hsz, ← hu]
                    have HC6 : Hid (NmX w0 u6 H T g _ _ _ _ _ _ none) := Lib.hid (by rw [hu]; exact HC6.out)
                    have HSB6 : Hid (u6.heap[SX]? = some (.cells #[.int .i64 op, .int .i64 ((mk : Nat) : Int), .int .i64 ya, .int .i64 yb, .int .i64 sv] 87 (0, 0))) := Lib.hid (by rw [hu]; exact HSB6.out)
                    have HJx : Hid (u6.heap[sz]? = some (.cells #[.int .i64 op, .int .i64 ((mk : Nat) : Int), .int .i64 ya, .int .i64 yb, .int .i64 sv] 87 (0, 0))) := Lib.hid (by rw [hu, hsz]; exact HJx.out)
                    clear hu hsz
                    have HK6 : Hid (u6.cell? ⟨SX, 0, none⟩ = some (.int .i64 op) ∧ u6.cell? ⟨SX, 1, none⟩ = some (.int .i64 ((mk : Nat) : Int)) ∧ u6.cell? ⟨SX, 2, none⟩ = some (.int .i64 ya) ∧ u6.cell? ⟨SX, 3, none⟩ = some (.int .i64 yb) ∧ u6.cell? ⟨SX, 4, none⟩ = some (.int .i64 sv)) := Lib.hid ⟨cell_h HSB6.out 0, cell_h HSB6.out 1, cell_h HSB6.out 2, cell_h HSB6.out 3, cell_h HSB6.out 4⟩
                    refine hK.out _ _ HK6.out (fun hH1 => ?_)
                    clear hK hH0
                    have hH0 := hH1
                    clear hH1
                    try simp only [Act.put, List.setIfInBounds_toArray, List.set_cons_zero, List.set_cons_succ]
                    refine wpAnyH_ready (rs := [7]) (by kernel_rfl) (by simp) ?_
                    refine AllReadyH.cons (o := { dst := some 178, op := Go.Op.call { callee := Go.Callee.builtin Go.Builtin.append, args := #[Go.Operand.tmp 175, Go.Operand.tmp 177], argTypes := #[48, 48] }, type := 48, pos := "single.go:305", after := #[{ on := 4, ground := Go.Ground.data }, { on := 6, ground := Go.Ground.data }], guard := none }) rfl (fun K hK => ?_) AllReadyH.nil
                    obtain ⟨Az, nz, cz, uz, oy, hrun, ⟨cg, fg⟩, ⟨hky, hby⟩, hS9⟩ := HC6.out.step1 HX.out (Step.mk op ((mk : Nat) : Int) ya yb sv) 1 HJx.out Hcl.out
                    rw [Hejx.out] at hrun cg
                    have hSz : uz.heap[SX]? = some (.cells #[.int .i64 op, .int .i64 ((mk : Nat) : Int), .int .i64 ya, .int .i64 yb, .int .i64 sv] 87 (0, 0)) := (hky SX (lt_h HSB6.out) (by rw [HoS.out]; simp)).trans HSB6.out
                    try rw [if_pos (by rfl)]
                    refine wp_app_run 48 _ _ rfl rfl rfl hrun ?_
                    have HK7 : Hid (uz.cell? ⟨SX, 0, none⟩ = some (.int .i64 op) ∧ uz.cell? ⟨SX, 1, none⟩ = some (.int .i64 ((mk : Nat) : Int)) ∧ uz.cell? ⟨SX, 2, none⟩ = some (.int .i64 ya) ∧ uz.cell? ⟨SX, 3, none⟩ = some (.int .i64 yb) ∧ uz.cell? ⟨SX, 4, none⟩ = some (.int .i64 sv)) := Lib.hid ⟨cell_h hSz 0, cell_h hSz 1, cell_h hSz 2, cell_h hSz 3, cell_h hSz 4⟩
                    have HSB9 : Hid ((uz.setCell ⟨g, i * 6 + 1, none⟩ (.slice Az nz cz)).heap[SX]? = some (.cells #[.int .i64 op, .int .i64 ((mk : Nat) : Int), .int .i64 ya, .int .i64 yb, .int .i64 sv] 87 (0, 0))) := Lib.hid ((Below.heap_setCell uz ⟨g, i * 6 + 1, none⟩ _ SX (fun e => by have h1 := HC6.out.tg.2; have h2 := HoS.out; have e : SX = g := e; rw [e] at h2; rw [h2] at h1; cases h1)).trans hSz)
                    have HK9 : Hid ((uz.setCell ⟨g, i * 6 + 1, none⟩ (.slice Az nz cz)).cell? ⟨SX, 0, none⟩ = some (.int .i64 op) ∧ (uz.setCell ⟨g, i * 6 + 1, none⟩ (.slice Az nz cz)).cell? ⟨SX, 1, none⟩ = some (.int .i64 ((mk : Nat) : Int)) ∧ (uz.setCell ⟨g, i * 6 + 1, none⟩ (.slice Az nz cz)).cell? ⟨SX, 2, none⟩ = some (.int .i64 ya) ∧ (uz.setCell ⟨g, i * 6 + 1, none⟩ (.slice Az nz cz)).cell? ⟨SX, 3, none⟩ = some (.int .i64 yb) ∧ (uz.setCell ⟨g, i * 6 + 1, none⟩ (.slice Az nz cz)).cell? ⟨SX, 4, none⟩ = some (.int .i64 sv)) := Lib.hid ⟨cell_h HSB9.out 0, cell_h HSB9.out 1, cell_h HSB9.out 2, cell_h HSB9.out 3, cell_h HSB9.out 4⟩
                    have Hcg := Lib.hid (⟨cg, fg⟩ : _ ∧ _)
                    have HS9 := Lib.hid hS9
                    clear hrun cg fg hky hby hS9 hSz
                    refine hK.out _ _ HK7.out (fun hH1 => ?_)
                    clear hK hH0
                    have hH0 := hH1
                    clear hH1
                    try simp only [Act.put, List.setIfInBounds_toArray, List.set_cons_zero, List.set_cons_succ]
                    refine wpAnyH_take (i := 8) (oi := { dst := some 179, op := Go.Op.nilCheck (Go.Operand.tmp 171), type := 0, pos := "single.go:305", after := #[{ on := 0, ground := Go.Ground.data }, { on := 0, ground := Go.Ground.phase }, { on := 1, ground := Go.Ground.phase }, { on := 2, ground := Go.Ground.phase }, { on := 3, ground := Go.Ground.phase }, { on := 4, ground := Go.Ground.phase }, { on := 5, ground := Go.Ground.phase }, { on := 6, ground := Go.Ground.phase }, { on := 7, ground := Go.Ground.phase }], guard := none }) rfl (by kernel_rfl) (by kernel_rfl) (by kernel_rfl) (fun _ _ _ h => h) (Or.inl ⟨by rfl, fun w hw => by (go_simp; try with_reducible rfl)⟩) (by assumption) ?_
                    try simp only [Act.put, List.setIfInBounds_toArray, List.set_cons_zero, List.set_cons_succ]
                    refine wpAnyH_take (i := 9) (oi := { dst := some 180, op := Go.Op.fieldAddr 114 (Go.Operand.tmp 179) 1, type := 0, pos := "single.go:305", after := #[{ on := 8, ground := Go.Ground.data }, { on := 0, ground := Go.Ground.phase }, { on := 1, ground := Go.Ground.phase }, { on := 2, ground := Go.Ground.phase }, { on := 3, ground := Go.Ground.phase }, { on := 4, ground := Go.Ground.phase }, { on := 5, ground := Go.Ground.phase }, { on := 6, ground := Go.Ground.phase }, { on := 7, ground := Go.Ground.phase }], guard := none }) rfl (by kernel_rfl) (by kernel_rfl) (by kernel_rfl) (fun _ _ _ h => h) (Or.inl ⟨by rfl, fun w hw => by (go_simp; try with_reducible rfl)⟩) (by assumption) ?_
                    try simp only [Act.put, List.setIfInBounds_toArray, List.set_cons_zero, List.set_cons_succ]
                    refine wpAnyH_ready (rs := [10]) (by kernel_rfl) (by simp) ?_
                    refine AllReadyH.cons (o := { dst := none, op := Go.Op.store 48 (Go.Operand.tmp 180) (Go.Operand.tmp 178), type := 0, pos := "single.go:305", after := #[{ on := 9, ground := Go.Ground.data }, { on := 7, ground := Go.Ground.data }, { on := 7, ground := Go.Ground.chain }, { on := 0, ground := Go.Ground.phase }, { on := 1, ground := Go.Ground.phase }, { on := 2, ground := Go.Ground.phase }, { on := 3, ground := Go.Ground.phase }, { on := 4, ground := Go.Ground.phase }, { on := 5, ground := Go.Ground.phase }, { on := 6, ground := Go.Ground.phase }, { on := 7, ground := Go.Ground.phase }], guard := none }) rfl (fun K hK => ?_) AllReadyH.nil
                    obtain ⟨c9, f9⟩ := Hcg.out
                    go_simp
                    clear c9 f9
                    refine hK.out _ _ HK9.out (fun hH1 => ?_)
                    clear hK hH0
                    have hH0 := hH1
                    clear hH1
                    try simp only [Act.put, List.setIfInBounds_toArray, List.set_cons_zero, List.set_cons_succ]
                    refine wpAnyH_done (by kernel_rfl) ?_ _
                    clear hH0
                    have e9 : mk + 1 = MN + (k + 1) := by rw [Hmk.out]; omega
                    rw [e9] at HS9
                    clear e9
                    go_wp2
                    go_roundw
                    case rel => exact ⟨k + 1, _, _, _, _, by go_num, by have := Hlt.out; omega, HS9, Lib.hid (HEND.out _ HsN.out Az nz cz).1, Lib.hid (HEND.out _ HsN.out Az nz cz).2.1, Lib.hid (HEND.out _ HsN.out Az nz cz).2.2⟩
                    case measure => have := Hlt.out; simp [intOf]; omega
                  refine AllReadyH.cons (o := { dst := some 177, op := Go.Op.buildSlice 48 1 #[(0, Go.Operand.tmp 176)], type := 48, pos := "single.go:305", after := #[{ on := 5, ground := Go.Ground.data }], guard := none }) rfl (fun K hK => ?_) AllReadyH.nil
                  have HC6 := Lib.hid (HC5.out.alloc (.cells #[.int .i64 op, .int .i64 ((mk : Nat) : Int), .int .i64 ya, .int .i64 yb, .int .i64 sv] 87))
                  have HSB6 : Hid ((u5.drew.alloc (.cells #[.int .i64 op, .int .i64 ((mk : Nat) : Int), .int .i64 ya, .int .i64 yb, .int .i64 sv] 87)).heap[SX]? = some (.cells #[.int .i64 op, .int .i64 ((mk : Nat) : Int), .int .i64 ya, .int .i64 yb, .int .i64 sv] 87 (0, 0))) := Lib.hid ((Below.heap_alloc u5.drew (.cells #[.int .i64 op, .int .i64 ((mk : Nat) : Int), .int .i64 ya, .int .i64 yb, .int .i64 sv] 87) SX (lt_h HSB5.out)).trans HSB5.out)
                  have HJx := Lib.hid (heap_alloc_new u5.drew (.cells #[.int .i64 op, .int .i64 ((mk : Nat) : Int), .int .i64 ya, .int .i64 yb, .int .i64 sv] 87))
                  have HsN' : Hid ((#[.int .i64 op, .int .i64 ((mk : Nat) : Int), .int .i64 ya, .int .i64 yb, .int .i64 sv] : Array Value) = (Step.mk op ((mk : Nat) : Int) ya yb sv).cells.toArray) := Lib.hid rfl
                  go_simp
                  obtain ⟨u6, hu⟩ : ∃ x, x = (u5.alloc (.cells #[.int .i64 op, .int .i64 ((mk : Nat) : Int), .int .i64 ya, .int .i64 yb, .int .i64 sv] 87)).drew := ⟨_, rfl⟩
                  obtain ⟨sz, hsz⟩ : ∃ sz, sz = u5.heap.size := ⟨_, rfl⟩
                  rw [← hsz, ← hu]
                  have HC6 : Hid (NmX w0 u6 H T g _ _ _ _ _ _ none) := Lib.hid (by rw [hu]; exact HC6.out)
                  have HSB6 : Hid (u6.heap[SX]? = some (.cells #[.int .i64 op, .int .i64 ((mk : Nat) : Int), .int .i64 ya, .int .i64 yb, .int .i64 sv] 87 (0, 0))) := Lib.hid (by rw [hu]; exact HSB6.out)
                  have HJx : Hid (u6.heap[sz]? = some (.cells #[.int .i64 op, .int .i64 ((mk : Nat) : Int), .int .i64 ya, .int .i64 yb, .int .i64 sv] 87 (0, 0))) := Lib.hid (by rw [hu, hsz]; exact HJx.out)
                  clear hu hsz
                  have HK6 : Hid (u6.cell? ⟨SX, 0, none⟩ = some (.int .i64 op) ∧ u6.cell? ⟨SX, 1, none⟩ = some (.int .i64 ((mk : Nat) : Int)) ∧ u6.cell? ⟨SX, 2, none⟩ = some (.int .i64 ya) ∧ u6.cell? ⟨SX, 3, none⟩ = some (.int .i64 yb) ∧ u6.cell? ⟨SX, 4, none⟩ = some (.int .i64 sv)) := Lib.hid ⟨cell_h HSB6.out 0, cell_h HSB6.out 1, cell_h HSB6.out 2, cell_h HSB6.out 3, cell_h HSB6.out 4⟩
                  refine hK.out _ _ HK6.out (fun hH1 => ?_)
                  clear hK hH0
                  have hH0 := hH1
                  clear hH1
                  try simp only [Act.put, List.setIfInBounds_toArray, List.set_cons_zero, List.set_cons_succ]
                  refine wpAnyH_ready (rs := [4]) (by kernel_rfl) (by simp) ?_
                  refine AllReadyH.cons (o := { dst := some 175, op := Go.Op.load 48 (Go.Operand.tmp 174), type := 48, pos := "single.go:305", after := #[{ on := 3, ground := Go.Ground.data }], guard := none }) rfl (fun K hK => ?_) AllReadyH.nil
                  have c9 := (HC6.out.g_ HX.out).1.2.1
                  rw [Hejx.out] at c9
                  go_simp
                  clear c9
                  refine hK.out _ _ hH0 (fun hH1 => ?_)
                  clear hK hH0
                  have hH0 := hH1
                  clear hH1
                  try simp only [Act.put, List.setIfInBounds_toArray, List.set_cons_zero, List.set_cons_succ]
                  refine wpAnyH_ready (rs := [7]) (by kernel_rfl) (by simp) ?_
                  refine AllReadyH.cons (o := { dst := some 178, op := Go.Op.call { callee := Go.Callee.builtin Go.Builtin.append, args := #[Go.Operand.tmp 175, Go.Operand.tmp 177], argTypes := #[48, 48] }, type := 48, pos := "single.go:305", after := #[{ on := 4, ground := Go.Ground.data }, { on := 6, ground := Go.Ground.data }], guard := none }) rfl (fun K hK => ?_) AllReadyH.nil
                  obtain ⟨Az, nz, cz, uz, oy, hrun, ⟨cg, fg⟩, ⟨hky, hby⟩, hS9⟩ := HC6.out.step1 HX.out (Step.mk op ((mk : Nat) : Int) ya yb sv) 1 HJx.out Hcl.out
                  rw [Hejx.out] at hrun cg
                  have hSz : uz.heap[SX]? = some (.cells #[.int .i64 op, .int .i64 ((mk : Nat) : Int), .int .i64 ya, .int .i64 yb, .int .i64 sv] 87 (0, 0)) := (hky SX (lt_h HSB6.out) (by rw [HoS.out]; simp)).trans HSB6.out
                  try rw [if_pos (by rfl)]
                  refine wp_app_run 48 _ _ rfl rfl rfl hrun ?_
                  have HK7 : Hid (uz.cell? ⟨SX, 0, none⟩ = some (.int .i64 op) ∧ uz.cell? ⟨SX, 1, none⟩ = some (.int .i64 ((mk : Nat) : Int)) ∧ uz.cell? ⟨SX, 2, none⟩ = some (.int .i64 ya) ∧ uz.cell? ⟨SX, 3, none⟩ = some (.int .i64 yb) ∧ uz.cell? ⟨SX, 4, none⟩ = some (.int .i64 sv)) := Lib.hid ⟨cell_h hSz 0, cell_h hSz 1, cell_h hSz 2, cell_h hSz 3, cell_h hSz 4⟩
                  have HSB9 : Hid ((uz.setCell ⟨g, i * 6 + 1, none⟩ (.slice Az nz cz)).heap[SX]? = some (.cells #[.int .i64 op, .int .i64 ((mk : Nat) : Int), .int .i64 ya, .int .i64 yb, .int .i64 sv] 87 (0, 0))) := Lib.hid ((Below.heap_setCell uz ⟨g, i * 6 + 1, none⟩ _ SX (fun e => by have h1 := HC6.out.tg.2; have h2 := HoS.out; have e : SX = g := e; rw [e] at h2; rw [h2] at h1; cases h1)).trans hSz)
                  have HK9 : Hid ((uz.setCell ⟨g, i * 6 + 1, none⟩ (.slice Az nz cz)).cell? ⟨SX, 0, none⟩ = some (.int .i64 op) ∧ (uz.setCell ⟨g, i * 6 + 1, none⟩ (.slice Az nz cz)).cell? ⟨SX, 1, none⟩ = some (.int .i64 ((mk : Nat) : Int)) ∧ (uz.setCell ⟨g, i * 6 + 1, none⟩ (.slice Az nz cz)).cell? ⟨SX, 2, none⟩ = some (.int .i64 ya) ∧ (uz.setCell ⟨g, i * 6 + 1, none⟩ (.slice Az nz cz)).cell? ⟨SX, 3, none⟩ = some (.int .i64 yb) ∧ (uz.setCell ⟨g, i * 6 + 1, none⟩ (.slice Az nz cz)).cell? ⟨SX, 4, none⟩ = some (.int .i64 sv)) := Lib.hid ⟨cell_h HSB9.out 0, cell_h HSB9.out 1, cell_h HSB9.out 2, cell_h HSB9.out 3, cell_h HSB9.out 4⟩
                  have Hcg := Lib.hid (⟨cg, fg⟩ : _ ∧ _)
                  have HS9 := Lib.hid hS9
                  clear hrun cg fg hky hby hS9 hSz
                  refine hK.out _ _ HK7.out (fun hH1 => ?_)
                  clear hK hH0
                  have hH0 := hH1
                  clear hH1
                  try simp only [Act.put, List.setIfInBounds_toArray, List.set_cons_zero, List.set_cons_succ]
                  refine wpAnyH_take (i := 8) (oi := { dst := some 179, op := Go.Op.nilCheck (Go.Operand.tmp 171), type := 0, pos := "single.go:305", after := #[{ on := 0, ground := Go.Ground.data }, { on := 0, ground := Go.Ground.phase }, { on := 1, ground := Go.Ground.phase }, { on := 2, ground := Go.Ground.phase }, { on := 3, ground := Go.Ground.phase }, { on := 4, ground := Go.Ground.phase }, { on := 5, ground := Go.Ground.phase }, { on := 6, ground := Go.Ground.phase }, { on := 7, ground := Go.Ground.phase }], guard := none }) rfl (by kernel_rfl) (by kernel_rfl) (by kernel_rfl) (fun _ _ _ h => h) (Or.inl ⟨by rfl, fun w hw => by (go_simp; try with_reducible rfl)⟩) (by assumption) ?_
                  try simp only [Act.put, List.setIfInBounds_toArray, List.set_cons_zero, List.set_cons_succ]
                  refine wpAnyH_take (i := 9) (oi := { dst := some 180, op := Go.Op.fieldAddr 114 (Go.Operand.tmp 179) 1, type := 0, pos := "single.go:305", after := #[{ on := 8, ground := Go.Ground.data }, { on := 0, ground := Go.Ground.phase }, { on := 1, ground := Go.Ground.phase }, { on := 2, ground := Go.Ground.phase }, { on := 3, ground := Go.Ground.phase }, { on := 4, ground := Go.Ground.phase }, { on := 5, ground := Go.Ground.phase }, { on := 6, ground := Go.Ground.phase }, { on := 7, ground := Go.Ground.phase }], guard := none }) rfl (by kernel_rfl) (by kernel_rfl) (by kernel_rfl) (fun _ _ _ h => h) (Or.inl ⟨by rfl, fun w hw => by (go_simp; try with_reducible rfl)⟩) (by assumption) ?_
                  try simp only [Act.put, List.setIfInBounds_toArray, List.set_cons_zero, List.set_cons_succ]
                  refine wpAnyH_ready (rs := [10]) (by kernel_rfl) (by simp) ?_
                  refine AllReadyH.cons (o := { dst := none, op := Go.Op.store 48 (Go.Operand.tmp 180) (Go.Operand.tmp 178), type := 0, pos := "single.go:305", after := #[{ on := 9, ground := Go.Ground.data }, { on := 7, ground := Go.Ground.data }, { on := 7, ground := Go.Ground.chain }, { on := 0, ground := Go.Ground.phase }, { on := 1, ground := Go.Ground.phase }, { on := 2, ground := Go.Ground.phase }, { on := 3, ground := Go.Ground.phase }, { on := 4, ground := Go.Ground.phase }, { on := 5, ground := Go.Ground.phase }, { on := 6, ground := Go.Ground.phase }, { on := 7, ground := Go.Ground.phase }], guard := none }) rfl (fun K hK => ?_) AllReadyH.nil
                  obtain ⟨c9, f9⟩ := Hcg.out
                  go_simp
                  clear c9 f9
                  refine hK.out _ _ HK9.out (fun hH1 => ?_)
                  clear hK hH0
                  have hH0 := hH1
                  clear hH1
                  try simp only [Act.put, List.setIfInBounds_toArray, List.set_cons_zero, List.set_cons_succ]
                  refine wpAnyH_done (by kernel_rfl) ?_ _
                  clear hH0
                  have e9 : mk + 1 = MN + (k + 1) := by rw [Hmk.out]; omega
                  rw [e9] at HS9
                  clear e9
                  go_wp2
                  go_roundw
                  case rel => exact ⟨k + 1, _, _, _, _, by go_num, by have := Hlt.out; omega, HS9, Lib.hid (HEND.out _ HsN.out Az nz cz).1, Lib.hid (HEND.out _ HsN.out Az nz cz).2.1, Lib.hid (HEND.out _ HsN.out Az nz cz).2.2⟩
                  case measure => have := Hlt.out; simp [intOf]; omega
                refine AllReadyH.cons (o := { dst := some 156, op := Go.Op.load 3 (Go.Operand.tmp 155), type := 3, pos := "single.go:300", after := #[{ on := 6, ground := Go.Ground.data }], guard := none }) rfl (fun K hK => ?_) AllReadyH.nil
                have c9 := cell_h HSB1.out 3
                go_simp
                clear c9
                refine hK.out _ _ hH0 (fun hH1 => ?_)
                clear hK hH0
                have hH0 := hH1
                clear hH1
                try simp only [Act.put, List.setIfInBounds_toArray, List.set_cons_zero, List.set_cons_succ]
                refine wpAnyH_take (i := 8) (oi := { dst := some 157, op := Go.Op.indexAddr 23 (Go.Operand.tmp 154) (Go.Operand.tmp 156), type := 0, pos := "single.go:300", after := #[{ on := 5, ground := Go.Ground.data }, { on := 7, ground := Go.Ground.data }], guard := none }) rfl (by kernel_rfl) (by kernel_rfl) (by kernel_rfl) (fun _ _ _ h => h) (Or.inl ⟨by rfl, fun w hw => by (go_simp; try with_reducible rfl)⟩) (by assumption) ?_
                try simp only [Act.put, List.setIfInBounds_toArray, List.set_cons_zero, List.set_cons_succ]
                refine wpAnyH_take (i := 9) (oi := { dst := some 158, op := Go.Op.load 3 (Go.Operand.tmp 157), type := 3, pos := "single.go:300", after := #[{ on := 8, ground := Go.Ground.data }], guard := none }) rfl (by kernel_rfl) (by kernel_rfl) (by kernel_rfl) (fun _ _ _ h => h) (Or.inl ⟨by rfl, fun w hw => by (obtain ⟨p0, p1⟩ := hw; go_simp; try with_reducible rfl)⟩) (by assumption) ?_
                try simp only [Act.put, List.setIfInBounds_toArray, List.set_cons_zero, List.set_cons_succ]
                refine wpAnyH_ready (rs := [2]) (by kernel_rfl) (by simp) ?_
                refine AllReadyH.cons (o := { dst := some 151, op := Go.Op.load 3 (Go.Operand.tmp 150), type := 3, pos := "single.go:300", after := #[{ on := 1, ground := Go.Ground.data }], guard := none }) rfl (fun K hK => ?_) AllReadyH.nil
                have c9 := cell_h HSB1.out 2
                go_simp
                clear c9
                refine hK.out _ _ hH0 (fun hH1 => ?_)
                clear hK hH0
                have hH0 := hH1
                clear hH1
                try simp only [Act.put, List.setIfInBounds_toArray, List.set_cons_zero, List.set_cons_succ]
                refine wpAnyH_take (i := 3) (oi := { dst := some 152, op := Go.Op.indexAddr 23 (Go.Operand.tmp 149) (Go.Operand.tmp 151), type := 0, pos := "single.go:300", after := #[{ on := 0, ground := Go.Ground.data }, { on := 2, ground := Go.Ground.data }], guard := none }) rfl (by kernel_rfl) (by kernel_rfl) (by kernel_rfl) (fun _ _ _ h => h) (Or.inl ⟨by rfl, fun w hw => by (go_simp; try with_reducible rfl)⟩) (by assumption) ?_
                try simp only [Act.put, List.setIfInBounds_toArray, List.set_cons_zero, List.set_cons_succ]
                refine wpAnyH_take (i := 4) (oi := { dst := some 153, op := Go.Op.load 3 (Go.Operand.tmp 152), type := 3, pos := "single.go:300", after := #[{ on := 3, ground := Go.Ground.data }], guard := none }) rfl (by kernel_rfl) (by kernel_rfl) (by kernel_rfl) (fun _ _ _ h => h) (Or.inl ⟨by rfl, fun w hw => by (obtain ⟨p0, p1⟩ := hw; go_simp; try with_reducible rfl)⟩) (by assumption) ?_
                try simp only [Act.put, List.setIfInBounds_toArray, List.set_cons_zero, List.set_cons_succ]
                refine wpAnyH_take (i := 10) (oi := { dst := some 159, op := Go.Op.fieldAddr 87 (Go.Operand.tmp 13) 2, type := 0, pos := "single.go:300", after := #[{ on := 0, ground := Go.Ground.phase }, { on := 1, ground := Go.Ground.phase }, { on := 2, ground := Go.Ground.phase }, { on := 3, ground := Go.Ground.phase }, { on := 4, ground := Go.Ground.phase }, { on := 5, ground := Go.Ground.textOnly Go.Departure.lateStores }, { on := 6, ground := Go.Ground.phase }, { on := 7, ground := Go.Ground.phase }, { on := 8, ground := Go.Ground.textOnly Go.Departure.lateStoresUnsure }, { on := 9, ground := Go.Ground.textOnly Go.Departure.lateStoresUnsure }], guard := none }) rfl (by kernel_rfl) (by kernel_rfl) (by kernel_rfl) (fun _ _ _ h => h) (Or.inl ⟨by rfl, fun w hw => by (go_simp; try with_reducible rfl)⟩) (by assumption) ?_
                try simp only [Act.put, List.setIfInBounds_toArray, List.set_cons_zero, List.set_cons_succ]
                refine wpAnyH_ready (rs := [11]) (by kernel_rfl) (by simp) ?_
                refine AllReadyH.cons (o := { dst := none, op := Go.Op.store 3 (Go.Operand.tmp 159) (Go.Operand.tmp 153), type := 0, pos := "single.go:300", after := #[{ on := 10, ground := Go.Ground.data }, { on := 4, ground := Go.Ground.data }, { on := 0, ground := Go.Ground.phase }, { on := 1, ground := Go.Ground.phase }, { on := 2, ground := Go.Ground.phase }, { on := 3, ground := Go.Ground.phase }, { on := 4, ground := Go.Ground.phase }, { on := 5, ground := Go.Ground.textOnly Go.Departure.lateStores }, { on := 6, ground := Go.Ground.phase }, { on := 7, ground := Go.Ground.phase }, { on := 8, ground := Go.Ground.textOnly Go.Departure.lateStoresUnsure }, { on := 9, ground := Go.Ground.textOnly Go.Departure.lateStoresUnsure }], guard := none }) rfl (fun K hK => ?_) AllReadyH.nil
                have c9 := cell_h HSB1.out 2
                have f9 := fz_h HSB1.out 2
                go_simp
                clear c9 f9
                rw [← Hua.out]
                refine hK.out _ _ (HS2.out _ _ _ _ _ HCa.out) (fun hH1 => ?_)
                clear hK hH0
                have hH0 := hH1
                clear hH1
                try simp only [Act.put, List.setIfInBounds_toArray, List.set_cons_zero, List.set_cons_succ]
                refine wpAnyH_take (i := 12) (oi := { dst := some 160, op := Go.Op.fieldAddr 87 (Go.Operand.tmp 13) 3, type := 0, pos := "single.go:300", after := #[{ on := 0, ground := Go.Ground.phase }, { on := 1, ground := Go.Ground.phase }, { on := 2, ground := Go.Ground.phase }, { on := 3, ground := Go.Ground.phase }, { on := 4, ground := Go.Ground.phase }, { on := 5, ground := Go.Ground.phase }, { on := 6, ground := Go.Ground.phase }, { on := 7, ground := Go.Ground.phase }, { on := 8, ground := Go.Ground.phase }, { on := 9, ground := Go.Ground.phase }, { on := 10, ground := Go.Ground.phase }, { on := 11, ground := Go.Ground.phase }], guard := none }) rfl (by kernel_rfl) (by kernel_rfl) (by kernel_rfl) (fun _ _ _ h => h) (Or.inl ⟨by rfl, fun w hw => by (go_simp; try with_reducible rfl)⟩) (by assumption) ?_
                try simp only [Act.put, List.setIfInBounds_toArray, List.set_cons_zero, List.set_cons_succ]
                refine wpAnyH_ready (rs := [13]) (by kernel_rfl) (by simp) ?_
                refine AllReadyH.cons (o := { dst := none, op := Go.Op.store 3 (Go.Operand.tmp 160) (Go.Operand.tmp 158), type := 0, pos := "single.go:300", after := #[{ on := 12, ground := Go.Ground.data }, { on := 9, ground := Go.Ground.data }, { on := 11, ground := Go.Ground.chain }, { on := 0, ground := Go.Ground.phase }, { on := 1, ground := Go.Ground.phase }, { on := 2, ground := Go.Ground.phase }, { on := 3, ground := Go.Ground.phase }, { on := 4, ground := Go.Ground.phase }, { on := 5, ground := Go.Ground.phase }, { on := 6, ground := Go.Ground.phase }, { on := 7, ground := Go.Ground.phase }, { on := 8, ground := Go.Ground.phase }, { on := 9, ground := Go.Ground.phase }, { on := 10, ground := Go.Ground.phase }, { on := 11, ground := Go.Ground.phase }], guard := none }) rfl (fun K hK => ?_) AllReadyH.nil
                have c9 := cell_h HSBa.out 3
                have f9 := fz_h HSBa.out 3
                go_simp
                clear c9 f9
                rw [← Hu2.out]
                refine hK.out _ _ (HS2.out _ _ _ _ _ HC2.out) (fun hH1 => ?_)
                clear hK hH0
                have hH0 := hH1
                clear hH1
                try simp only [Act.put, List.setIfInBounds_toArray, List.set_cons_zero, List.set_cons_succ]
                refine wpAnyH_done (by kernel_rfl) ?_ _
                clear hH0 HK1
                have d1 := cell_h HSB2.out 1
                go_wp2_with fail
                clear d1
                (with_reducible refine (fresh_calls T mk _ (by omega) (HC2.out.t).2.1 ((HC2.out.t).2.2.2.2 5)).mono ?_)
                rintro e u3 ⟨rfl, hu3⟩
                have HC3 := Lib.hid (HC2.out.setM (mk + 1))
                have HSB3 : Hid (u3.heap[SX]? = some (.cells #[.int .i64 op, .int .i64 (tn : Nat), .int .i64 ya, .int .i64 yb, .int .i64 sv] 87 (0, 0))) := Lib.hid (by rw [hu3, Below.heap_setCell _ _ _ _ HST.out]; exact HSB2.out)
                rw [← hu3] at HC3
                clear hu3 HC2 HSB2 HC1 HSB1 Hnames
                have g1 := cell_h HSB3.out 1
                have g2 := fz_h HSB3.out 1
                obtain ⟨n1, n2⟩ := HNL9.out _ _ _ _ _ HC3.out tn Hti
                have HC5 := Lib.hid ((HC3.out.free HoS.out HSB0.out 1 (.int .i64 ((mk : Nat) : Int))).setN (k := tn) (by rw [HnlH.out]; exact Hti) ((mk : Nat) : Int))
                have HSB5 : Hid (((u3.setCell ⟨SX, 1, none⟩ (.int .i64 ((mk : Nat) : Int))).setCell ⟨nb, tn, none⟩ (.int .i64 ((mk : Nat) : Int))).heap[SX]? = some (.cells #[.int .i64 op, .int .i64 ((mk : Nat) : Int), .int .i64 ya, .int .i64 yb, .int .i64 sv] 87 (0, 0))) := Lib.hid (by
                  rw [Below.heap_setCell _ _ _ _ (show SX ≠ nb from hSnb)]
                  exact heapSetCell u3 SX 1 (.int .i64 ((mk : Nat) : Int)) _ _ HSB3.out)
                go_wp2
                obtain ⟨u5, hu5⟩ : ∃ u5, u5 = (u3.setCell ⟨SX, 1, none⟩ (.int .i64 ((mk : Nat) : Int))).setCell ⟨nb, tn, none⟩ (.int .i64 ((mk : Nat) : Int)) := ⟨_, rfl⟩
                rw [← hu5]
                rw [← hu5] at HC5 HSB5
                have HsN : Hid (renS nn mk ⟨op, ((tn : Nat) : Int), ((an:Nat):Int), ((bn:Nat):Int), sv⟩ = ⟨op, ((mk : Nat) : Int), ya, yb, sv⟩) := Lib.hid (by (unfold renS; dsimp only; rw [if_pos hop, if_pos hop, if_neg (by omega), ← Hya.out, ← Hyb.out]))
                have HC5 := Lib.hid HC5.out.drew
                have HSB5 : Hid (u5.drew.heap[SX]? = some (.cells #[.int .i64 op, .int .i64 ((mk : Nat) : Int), .int .i64 ya, .int .i64 yb, .int .i64 sv] 87 (0, 0))) := HSB5
                clear hu5 g1 g2 n1 n2 HC3 HSB3
                have HK5 : Hid (u5.drew.cell? ⟨SX, 0, none⟩ = some (.int .i64 op) ∧ u5.drew.cell? ⟨SX, 1, none⟩ = some (.int .i64 ((mk : Nat) : Int)) ∧ u5.drew.cell? ⟨SX, 2, none⟩ = some (.int .i64 ya) ∧ u5.drew.cell? ⟨SX, 3, none⟩ = some (.int .i64 yb) ∧ u5.drew.cell? ⟨SX, 4, none⟩ = some (.int .i64 sv)) := Lib.hid ⟨cell_h HSB5.out 0, cell_h HSB5.out 1, cell_h HSB5.out 2, cell_h HSB5.out 3, cell_h HSB5.out 4⟩
                refine wp_region_held_drew (S := fun w' => w'.cell? ⟨SX, 0, none⟩ = some (.int .i64 op) ∧ w'.cell? ⟨SX, 1, none⟩ = some (.int .i64 ((mk : Nat) : Int)) ∧ w'.cell? ⟨SX, 2, none⟩ = some (.int .i64 ya) ∧ w'.cell? ⟨SX, 3, none⟩ = some (.int .i64 yb) ∧ w'.cell? ⟨SX, 4, none⟩ = some (.int .i64 sv)) (by kernel_rfl) HK5.out (fun hH0 => ?_)
                refine wpAnyH_take (i := 0) (oi := { dst := some 171, op := Go.Op.move (Go.Operand.tmp 9), type := 172, pos := "single.go:305", after := #[], guard := none }) rfl (by kernel_rfl) (by kernel_rfl) (by kernel_rfl) (fun _ _ _ h => h) (Or.inl ⟨by rfl, fun w hw => by (go_simp; try with_reducible rfl)⟩) (by assumption) ?_
                try simp only [Act.put, List.setIfInBounds_toArray, List.set_cons_zero, List.set_cons_succ]
                refine wpAnyH_take (i := 1) (oi := { dst := some 172, op := Go.Op.move (Go.Operand.tmp 9), type := 172, pos := "single.go:305", after := #[], guard := none }) rfl (by kernel_rfl) (by kernel_rfl) (by kernel_rfl) (fun _ _ _ h => h) (Or.inl ⟨by rfl, fun w hw => by (go_simp; try with_reducible rfl)⟩) (by assumption) ?_
                try simp only [Act.put, List.setIfInBounds_toArray, List.set_cons_zero, List.set_cons_succ]
                refine wpAnyH_take (i := 2) (oi := { dst := some 173, op := Go.Op.nilCheck (Go.Operand.tmp 172), type := 0, pos := "single.go:305", after := #[{ on := 1, ground := Go.Ground.data }], guard := none }) rfl (by kernel_rfl) (by kernel_rfl) (by kernel_rfl) (fun _ _ _ h => h) (Or.inl ⟨by rfl, fun w hw => by (go_simp; try with_reducible rfl)⟩) (by assumption) ?_
                try simp only [Act.put, List.setIfInBounds_toArray, List.set_cons_zero, List.set_cons_succ]
                refine wpAnyH_take (i := 3) (oi := { dst := some 174, op := Go.Op.fieldAddr 114 (Go.Operand.tmp 173) 1, type := 0, pos := "single.go:305", after := #[{ on := 2, ground := Go.Ground.data }], guard := none }) rfl (by kernel_rfl) (by kernel_rfl) (by kernel_rfl) (fun _ _ _ h => h) (Or.inl ⟨by rfl, fun w hw => by (go_simp; try with_reducible rfl)⟩) (by assumption) ?_
                try simp only [Act.put, List.setIfInBounds_toArray, List.set_cons_zero, List.set_cons_succ]
                refine wpAnyH_take (i := 5) (oi := { dst := some 176, op := Go.Op.load 87 (Go.Operand.tmp 13), type := 87, pos := "single.go:305", after := #[], guard := none }) rfl (by kernel_rfl) (by kernel_rfl) (by kernel_rfl) (fun _ _ _ h => h) (Or.inl ⟨by rfl, fun w hw => by (obtain ⟨p0, p1, p2, p3, p4⟩ := hw; exact load_step _ _ _ rfl w SX rfl _ _ _ _ _ p0 p1 p2 p3 p4)⟩) (by assumption) ?_
                try simp only [Act.put, List.setIfInBounds_toArray, List.set_cons_zero, List.set_cons_succ]
                refine wpAnyH_ready (rs := [4, 6]) (by kernel_rfl) (by simp) ?_
                refine AllReadyH.cons (o := { dst := some 175, op := Go.Op.load 48 (Go.Operand.tmp 174), type := 48, pos := "single.go:305", after := #[{ on := 3, ground := Go.Ground.data }], guard := none }) rfl (fun K hK => ?_) ?_
                · have c9 := (HC5.out.g_ HX.out).1.2.1
                  rw [Hejx.out] at c9
                  go_simp
                  clear c9
                  refine hK.out _ _ hH0 (fun hH1 => ?_)
                  clear hK hH0
                  have hH0 := hH1
                  clear hH1
                  try simp only [Act.put, List.setIfInBounds_toArray, List.set_cons_zero, List.set_cons_succ]
                  refine wpAnyH_ready (rs := [6]) (by kernel_rfl) (by simp) ?_
                  refine AllReadyH.cons (o := { dst := some 177, op := Go.Op.buildSlice 48 1 #[(0, Go.Operand.tmp 176)], type := 48, pos := "single.go:305", after := #[{ on := 5, ground := Go.Ground.data }], guard := none }) rfl (fun K hK => ?_) AllReadyH.nil
                  have HC6 := Lib.hid (HC5.out.alloc (.cells #[.int .i64 op, .int .i64 ((mk : Nat) : Int), .int .i64 ya, .int .i64 yb, .int .i64 sv] 87))
                  have HSB6 : Hid ((u5.drew.alloc (.cells #[.int .i64 op, .int .i64 ((mk : Nat) : Int), .int .i64 ya, .int .i64 yb, .int .i64 sv] 87)).heap[SX]? = some (.cells #[.int .i64 op, .int .i64 ((mk : Nat) : Int), .int .i64 ya, .int .i64 yb, .int .i64 sv] 87 (0, 0))) := Lib.hid ((Below.heap_alloc u5.drew (.cells #[.int .i64 op, .int .i64 ((mk : Nat) : Int), .int .i64 ya, .int .i64 yb, .int .i64 sv] 87) SX (lt_h HSB5.out)).trans HSB5.out)
                  have HJx := Lib.hid (heap_alloc_new u5.drew (.cells #[.int .i64 op, .int .i64 ((mk : Nat) : Int), .int .i64 ya, .int .i64 yb, .int .i64 sv] 87))
                  have HsN' : Hid ((#[.int .i64 op, .int .i64 ((mk : Nat) : Int), .int .i64 ya, .int .i64 yb, .int .i64 sv] : Array Value) = (Step.mk op ((mk : Nat) : Int) ya yb sv).cells.toArray) := Lib.hid rfl
                  go_simp
                  obtain ⟨u6, hu⟩ : ∃ x, x = (u5.alloc (.cells #[.int .i64 op, .int .i64 ((mk : Nat) : Int), .int .i64 ya, .int .i64 yb, .int .i64 sv] 87)).drew := ⟨_, rfl⟩
                  obtain ⟨sz, hsz⟩ : ∃ sz, sz = u5.heap.size := ⟨_, rfl⟩
                  rw [← hsz, ← hu]
                  have HC6 : Hid (NmX w0 u6 H T g _ _ _ _ _ _ none) := Lib.hid (by rw [hu]; exact HC6.out)
                  have HSB6 : Hid (u6.heap[SX]? = some (.cells #[.int .i64 op, .int .i64 ((mk : Nat) : Int), .int .i64 ya, .int .i64 yb, .int .i64 sv] 87 (0, 0))) := Lib.hid (by rw [hu]; exact HSB6.out)
                  have HJx : Hid (u6.heap[sz]? = some (.cells #[.int .i64 op, .int .i64 ((mk : Nat) : Int), .int .i64 ya, .int .i64 yb, .int .i64 sv] 87 (0, 0))) := Lib.hid (by rw [hu, hsz]; exact HJx.out)
                  clear hu hsz
                  have HK6 : Hid (u6.cell? ⟨SX, 0, none⟩ = some (.int .i64 op) ∧ u6.cell? ⟨SX, 1, none⟩ = some (.int .i64 ((mk : Nat) : Int)) ∧ u6.cell? ⟨SX, 2, none⟩ = some (.int .i64 ya) ∧ u6.cell? ⟨SX, 3, none⟩ = some (.int .i64 yb) ∧ u6.cell? ⟨SX, 4, none⟩ = some (.int .i64 sv)) := Lib.hid ⟨cell_h HSB6.out 0, cell_h HSB6.out 1, cell_h HSB6.out 2, cell_h HSB6.out 3, cell_h HSB6.out 4⟩
                  refine hK.out _ _ HK6.out (fun hH1 => ?_)
                  clear hK hH0
                  have hH0 := hH1
                  clear hH1
                  try simp only [Act.put, List.setIfInBounds_toArray, List.set_cons_zero, List.set_cons_succ]
                  refine wpAnyH_ready (rs := [7]) (by kernel_rfl) (by simp) ?_
                  refine AllReadyH.cons (o := { dst := some 178, op := Go.Op.call { callee := Go.Callee.builtin Go.Builtin.append, args := #[Go.Operand.tmp 175, Go.Operand.tmp 177], argTypes := #[48, 48] }, type := 48, pos := "single.go:305", after := #[{ on := 4, ground := Go.Ground.data }, { on := 6, ground := Go.Ground.data }], guard := none }) rfl (fun K hK => ?_) AllReadyH.nil
                  obtain ⟨Az, nz, cz, uz, oy, hrun, ⟨cg, fg⟩, ⟨hky, hby⟩, hS9⟩ := HC6.out.step1 HX.out (Step.mk op ((mk : Nat) : Int) ya yb sv) 1 HJx.out Hcl.out
                  rw [Hejx.out] at hrun cg
                  have hSz : uz.heap[SX]? = some (.cells #[.int .i64 op, .int .i64 ((mk : Nat) : Int), .int .i64 ya, .int .i64 yb, .int .i64 sv] 87 (0, 0)) := (hky SX (lt_h HSB6.out) (by rw [HoS.out]; simp)).trans HSB6.out
                  try rw [if_pos (by rfl)]
                  refine wp_app_run 48 _ _ rfl rfl rfl hrun ?_
                  have HK7 : Hid (uz.cell? ⟨SX, 0, none⟩ = some (.int .i64 op) ∧ uz.cell? ⟨SX, 1, none⟩ = some (.int .i64 ((mk : Nat) : Int)) ∧ uz.cell? ⟨SX, 2, none⟩ = some (.int .i64 ya) ∧ uz.cell? ⟨SX, 3, none⟩ = some (.int .i64 yb) ∧ uz.cell? ⟨SX, 4, none⟩ = some (.int .i64 sv)) := Lib.hid ⟨cell_h hSz 0, cell_h hSz 1, cell_h hSz 2, cell_h hSz 3, cell_h hSz 4⟩
                  have HSB9 : Hid ((uz.setCell ⟨g, i * 6 + 1, none⟩ (.slice Az nz cz)).heap[SX]? = some (.cells #[.int .i64 op, .int .i64 ((mk : Nat) : Int), .int .i64 ya, .int .i64 yb, .int .i64 sv] 87 (0, 0))) := Lib.hid ((Below.heap_setCell uz ⟨g, i * 6 + 1, none⟩ _ SX (fun e => by have h1 := HC6.out.tg.2; have h2 := HoS.out; have e : SX = g := e; rw [e] at h2; rw [h2] at h1; cases h1)).trans hSz)
                  have HK9 : Hid ((uz.setCell ⟨g, i * 6 + 1, none⟩ (.slice Az nz cz)).cell? ⟨SX, 0, none⟩ = some (.int .i64 op) ∧ (uz.setCell ⟨g, i * 6 + 1, none⟩ (.slice Az nz cz)).cell? ⟨SX, 1, none⟩ = some (.int .i64 ((mk : Nat) : Int)) ∧ (uz.setCell ⟨g, i * 6 + 1, none⟩ (.slice Az nz cz)).cell? ⟨SX, 2, none⟩ = some (.int .i64 ya) ∧ (uz.setCell ⟨g, i * 6 + 1, none⟩ (.slice Az nz cz)).cell? ⟨SX, 3, none⟩ = some (.int .i64 yb) ∧ (uz.setCell ⟨g, i * 6 + 1, none⟩ (.slice Az nz cz)).cell? ⟨SX, 4, none⟩ = some (.int .i64 sv)) := Lib.hid ⟨cell_h HSB9.out 0, cell_h HSB9.out 1, cell_h HSB9.out 2, cell_h HSB9.out 3, cell_h HSB9.out 4⟩
                  have Hcg := Lib.hid (⟨cg, fg⟩ : _ ∧ _)
                  have HS9 := Lib.hid hS9
                  clear hrun cg fg hky hby hS9 hSz
                  refine hK.out _ _ HK7.out (fun hH1 => ?_)
                  clear hK hH0
                  have hH0 := hH1
                  clear hH1
                  try simp only [Act.put, List.setIfInBounds_toArray, List.set_cons_zero, List.set_cons_succ]
                  refine wpAnyH_take (i := 8) (oi := { dst := some 179, op := Go.Op.nilCheck (Go.Operand.tmp 171), type := 0, pos := "single.go:305", after := #[{ on := 0, ground := Go.Ground.data }, { on := 0, ground := Go.Ground.phase }, { on := 1, ground := Go.Ground.phase }, { on := 2, ground := Go.Ground.phase }, { on := 3, ground := Go.Ground.phase }, { on := 4, ground := Go.Ground.phase }, { on := 5, ground := Go.Ground.phase }, { on := 6, ground := Go.Ground.phase }, { on := 7, ground := Go.Ground.phase }], guard := none }) rfl (by kernel_rfl) (by kernel_rfl) (by kernel_rfl) (fun _ _ _ h => h) (Or.inl ⟨by rfl, fun w hw => by (go_simp; try with_reducible rfl)⟩) (by assumption) ?_
                  try simp only [Act.put, List.setIfInBounds_toArray, List.set_cons_zero, List.set_cons_succ]
                  refine wpAnyH_take (i := 9) (oi := { dst := some 180, op := Go.Op.fieldAddr 114 (Go.Operand.tmp 179) 1, type := 0, pos := "single.go:305", after := #[{ on := 8, ground := Go.Ground.data }, { on := 0, ground := Go.Ground.phase }, { on := 1, ground := Go.Ground.phase }, { on := 2, ground := Go.Ground.phase }, { on := 3, ground := Go.Ground.phase }, { on := 4, ground := Go.Ground.phase }, { on := 5, ground := Go.Ground.phase }, { on := 6, ground := Go.Ground.phase }, { on := 7, ground := Go.Ground.phase }], guard := none }) rfl (by kernel_rfl) (by kernel_rfl) (by kernel_rfl) (fun _ _ _ h => h) (Or.inl ⟨by rfl, fun w hw => by (go_simp; try with_reducible rfl)⟩) (by assumption) ?_
                  try simp only [Act.put, List.setIfInBounds_toArray, List.set_cons_zero, List.set_cons_succ]
                  refine wpAnyH_ready (rs := [10]) (by kernel_rfl) (by simp) ?_
                  refine AllReadyH.cons (o := { dst := none, op := Go.Op.store 48 (Go.Operand.tmp 180) (Go.Operand.tmp 178), type := 0, pos := "single.go:305", after := #[{ on := 9, ground := Go.Ground.data }, { on := 7, ground := Go.Ground.data }, { on := 7, ground := Go.Ground.chain }, { on := 0, ground := Go.Ground.phase }, { on := 1, ground := Go.Ground.phase }, { on := 2, ground := Go.Ground.phase }, { on := 3, ground := Go.Ground.phase }, { on := 4, ground := Go.Ground.phase }, { on := 5, ground := Go.Ground.phase }, { on := 6, ground := Go.Ground.phase }, { on := 7, ground := Go.Ground.phase }], guard := none }) rfl (fun K hK => ?_) AllReadyH.nil
                  obtain ⟨c9, f9⟩ := Hcg.out
                  go_simp
                  clear c9 f9
                  refine hK.out _ _ HK9.out (fun hH1 => ?_)
                  clear hK hH0
                  have hH0 := hH1
                  clear hH1
                  try simp only [Act.put, List.setIfInBounds_toArray, List.set_cons_zero, List.set_cons_succ]
                  refine wpAnyH_done (by kernel_rfl) ?_ _
                  clear hH0
                  have e9 : mk + 1 = MN + (k + 1) := by rw [Hmk.out]; omega
                  rw [e9] at HS9
                  clear e9
                  go_wp2
                  go_roundw
                  case rel => exact ⟨k + 1, _, _, _, _, by go_num, by have := Hlt.out; omega, HS9, Lib.hid (HEND.out _ HsN.out Az nz cz).1, Lib.hid (HEND.out _ HsN.out Az nz cz).2.1, Lib.hid (HEND.out _ HsN.out Az nz cz).2.2⟩
                  case measure => have := Hlt.out; simp [intOf]; omega
                refine AllReadyH.cons (o := { dst := some 177, op := Go.Op.buildSlice 48 1 #[(0, Go.Operand.tmp 176)], type := 48, pos := "single.go:305", after := #[{ on := 5, ground := Go.Ground.data }], guard := none }) rfl (fun K hK => ?_) AllReadyH.nil
                have HC6 := Lib.hid (HC5.out.alloc (.cells #[.int .i64 op, .int .i64 ((mk : Nat) : Int), .int .i64 ya, .int .i64 yb, .int .i64 sv] 87))
                have HSB6 : Hid ((u5.drew.alloc (.cells #[.int .i64 op, .int .i64 ((mk : Nat) : Int), .int .i64 ya, .int .i64 yb, .int .i64 sv] 87)).heap[SX]? = some (.cells #[.int .i64 op, .int .i64 ((mk : Nat) : Int), .int .i64 ya, .int .i64 yb, .int .i64 sv] 87 (0, 0))) := Lib.hid ((Below.heap_alloc u5.drew (.cells #[.int .i64 op, .int .i64 ((mk : Nat) : Int), .int .i64 ya, .int .i64 yb, .int .i64 sv] 87) SX (lt_h HSB5.out)).trans HSB5.out)
                have HJx := Lib.hid (heap_alloc_new u5.drew (.cells #[.int .i64 op, .int .i64 ((mk : Nat) : Int), .int .i64 ya, .int .i64 yb, .int .i64 sv] 87))
                have HsN' : Hid ((#[.int .i64 op, .int .i64 ((mk : Nat) : Int), .int .i64 ya, .int .i64 yb, .int .i64 sv] : Array Value) = (Step.mk op ((mk : Nat) : Int) ya yb sv).cells.toArray) := Lib.hid rfl
                go_simp
                obtain ⟨u6, hu⟩ : ∃ x, x = (u5.alloc (.cells #[.int .i64 op, .int .i64 ((mk : Nat) : Int), .int .i64 ya, .int .i64 yb, .int .i64 sv] 87)).drew := ⟨_, rfl⟩
                obtain ⟨sz, hsz⟩ : ∃ sz, sz = u5.heap.size := ⟨_, rfl⟩
                rw [← hsz, ← hu]
                have HC6 : Hid (NmX w0 u6 H T g _ _ _ _ _ _ none) := Lib.hid (by rw [hu]; exact HC6.out)
                have HSB6 : Hid (u6.heap[SX]? = some (.cells #[.int .i64 op, .int .i64 ((mk : Nat) : Int), .int .i64 ya, .int .i64 yb, .int .i64 sv] 87 (0, 0))) := Lib.hid (by rw [hu]; exact HSB6.out)
                have HJx : Hid (u6.heap[sz]? = some (.cells #[.int .i64 op, .int .i64 ((mk : Nat) : Int), .int .i64 ya, .int .i64 yb, .int .i64 sv] 87 (0, 0))) := Lib.hid (by rw [hu, hsz]; exact HJx.out)
                clear hu hsz
                have HK6 : Hid (u6.cell? ⟨SX, 0, none⟩ = some (.int .i64 op) ∧ u6.cell? ⟨SX, 1, none⟩ = some (.int .i64 ((mk : Nat) : Int)) ∧ u6.cell? ⟨SX, 2, none⟩ = some (.int .i64 ya) ∧ u6.cell? ⟨SX, 3, none⟩ = some (.int .i64 yb) ∧ u6.cell? ⟨SX, 4, none⟩ = some (.int .i64 sv)) := Lib.hid ⟨cell_h HSB6.out 0, cell_h HSB6.out 1, cell_h HSB6.out 2, cell_h HSB6.out 3, cell_h HSB6.out 4⟩
                refine hK.out _ _ HK6.out (fun hH1 => ?_)
                clear hK hH0
                have hH0 := hH1
                clear hH1
                try simp only [Act.put, List.setIfInBounds_toArray, List.set_cons_zero, List.set_cons_succ]
                refine wpAnyH_ready (rs := [4]) (by kernel_rfl) (by simp) ?_
                refine AllReadyH.cons (o := { dst := some 175, op := Go.Op.load 48 (Go.Operand.tmp 174), type := 48, pos := "single.go:305", after := #[{ on := 3, ground := Go.Ground.data }], guard := none }) rfl (fun K hK => ?_) AllReadyH.nil
                have c9 := (HC6.out.g_ HX.out).1.2.1
                rw [Hejx.out] at c9
                go_simp
                clear c9
                refine hK.out _ _ hH0 (fun hH1 => ?_)
                clear hK hH0
                have hH0 := hH1
                clear hH1
                try simp only [Act.put, List.setIfInBounds_toArray, List.set_cons_zero, List.set_cons_succ]
                refine wpAnyH_ready (rs := [7]) (by kernel_rfl) (by simp) ?_
                refine AllReadyH.cons (o := { dst := some 178, op := Go.Op.call { callee := Go.Callee.builtin Go.Builtin.append, args := #[Go.Operand.tmp 175, Go.Operand.tmp 177], argTypes := #[48, 48] }, type := 48, pos := "single.go:305", after := #[{ on := 4, ground := Go.Ground.data }, { on := 6, ground := Go.Ground.data }], guard := none }) rfl (fun K hK => ?_) AllReadyH.nil
                obtain ⟨Az, nz, cz, uz, oy, hrun, ⟨cg, fg⟩, ⟨hky, hby⟩, hS9⟩ := HC6.out.step1 HX.out (Step.mk op ((mk : Nat) : Int) ya yb sv) 1 HJx.out Hcl.out
                rw [Hejx.out] at hrun cg
                have hSz : uz.heap[SX]? = some (.cells #[.int .i64 op, .int .i64 ((mk : Nat) : Int), .int .i64 ya, .int .i64 yb, .int .i64 sv] 87 (0, 0)) := (hky SX (lt_h HSB6.out) (by rw [HoS.out]; simp)).trans HSB6.out
                try rw [if_pos (by rfl)]
                refine wp_app_run 48 _ _ rfl rfl rfl hrun ?_
                have HK7 : Hid (uz.cell? ⟨SX, 0, none⟩ = some (.int .i64 op) ∧ uz.cell? ⟨SX, 1, none⟩ = some (.int .i64 ((mk : Nat) : Int)) ∧ uz.cell? ⟨SX, 2, none⟩ = some (.int .i64 ya) ∧ uz.cell? ⟨SX, 3, none⟩ = some (.int .i64 yb) ∧ uz.cell? ⟨SX, 4, none⟩ = some (.int .i64 sv)) := Lib.hid ⟨cell_h hSz 0, cell_h hSz 1, cell_h hSz 2, cell_h hSz 3, cell_h hSz 4⟩
                have HSB9 : Hid ((uz.setCell ⟨g, i * 6 + 1, none⟩ (.slice Az nz cz)).heap[SX]? = some (.cells #[.int .i64 op, .int .i64 ((mk : Nat) : Int), .int .i64 ya, .int .i64 yb, .int .i64 sv] 87 (0, 0))) := Lib.hid ((Below.heap_setCell uz ⟨g, i * 6 + 1, none⟩ _ SX (fun e => by have h1 := HC6.out.tg.2; have h2 := HoS.out; have e : SX = g := e; rw [e] at h2; rw [h2] at h1; cases h1)).trans hSz)
                have HK9 : Hid ((uz.setCell ⟨g, i * 6 + 1, none⟩ (.slice Az nz cz)).cell? ⟨SX, 0, none⟩ = some (.int .i64 op) ∧ (uz.setCell ⟨g, i * 6 + 1, none⟩ (.slice Az nz cz)).cell? ⟨SX, 1, none⟩ = some (.int .i64 ((mk : Nat) : Int)) ∧ (uz.setCell ⟨g, i * 6 + 1, none⟩ (.slice Az nz cz)).cell? ⟨SX, 2, none⟩ = some (.int .i64 ya) ∧ (uz.setCell ⟨g, i * 6 + 1, none⟩ (.slice Az nz cz)).cell? ⟨SX, 3, none⟩ = some (.int .i64 yb) ∧ (uz.setCell ⟨g, i * 6 + 1, none⟩ (.slice Az nz cz)).cell? ⟨SX, 4, none⟩ = some (.int .i64 sv)) := Lib.hid ⟨cell_h HSB9.out 0, cell_h HSB9.out 1, cell_h HSB9.out 2, cell_h HSB9.out 3, cell_h HSB9.out 4⟩
                have Hcg := Lib.hid (⟨cg, fg⟩ : _ ∧ _)
                have HS9 := Lib.hid hS9
                clear hrun cg fg hky hby hS9 hSz
                refine hK.out _ _ HK7.out (fun hH1 => ?_)
                clear hK hH0
                have hH0 := hH1
                clear hH1
                try simp only [Act.put, List.setIfInBounds_toArray, List.set_cons_zero, List.set_cons_succ]
                refine wpAnyH_take (i := 8) (oi := { dst := some 179, op := Go.Op.nilCheck (Go.Operand.tmp 171), type := 0, pos := "single.go:305", after := #[{ on := 0, ground := Go.Ground.data }, { on := 0, ground := Go.Ground.phase }, { on := 1, ground := Go.Ground.phase }, { on := 2, ground := Go.Ground.phase }, { on := 3, ground := Go.Ground.phase }, { on := 4, ground := Go.Ground.phase }, { on := 5, ground := Go.Ground.phase }, { on := 6, ground := Go.Ground.phase }, { on := 7, ground := Go.Ground.phase }], guard := none }) rfl (by kernel_rfl) (by kernel_rfl) (by kernel_rfl) (fun _ _ _ h => h) (Or.inl ⟨by rfl, fun w hw => by (go_simp; try with_reducible rfl)⟩) (by assumption) ?_
                try simp only [Act.put, List.setIfInBounds_toArray, List.set_cons_zero, List.set_cons_succ]
                refine wpAnyH_take (i := 9) (oi := { dst := some 180, op := Go.Op.fieldAddr 114 (Go.Operand.tmp 179) 1, type := 0, pos := "single.go:305", after := #[{ on := 8, ground := Go.Ground.data }, { on := 0, ground := Go.Ground.phase }, { on := 1, ground := Go.Ground.phase }, { on := 2, ground := Go.Ground.phase }, { on := 3, ground := Go.Ground.phase }, { on := 4, ground := Go.Ground.phase }, { on := 5, ground := Go.Ground.phase }, { on := 6, ground := Go.Ground.phase }, { on := 7, ground := Go.Ground.phase }], guard := none }) rfl (by kernel_rfl) (by kernel_rfl) (by kernel_rfl) (fun _ _ _ h => h) (Or.inl ⟨by rfl, fun w hw => by (go_simp; try with_reducible rfl)⟩) (by assumption) ?_
                try simp only [Act.put, List.setIfInBounds_toArray, List.set_cons_zero, List.set_cons_succ]
                refine wpAnyH_ready (rs := [10]) (by kernel_rfl) (by simp) ?_
                refine AllReadyH.cons (o := { dst := none, op := Go.Op.store 48 (Go.Operand.tmp 180) (Go.Operand.tmp 178), type := 0, pos := "single.go:305", after := #[{ on := 9, ground := Go.Ground.data }, { on := 7, ground := Go.Ground.data }, { on := 7, ground := Go.Ground.chain }, { on := 0, ground := Go.Ground.phase }, { on := 1, ground := Go.Ground.phase }, { on := 2, ground := Go.Ground.phase }, { on := 3, ground := Go.Ground.phase }, { on := 4, ground := Go.Ground.phase }, { on := 5, ground := Go.Ground.phase }, { on := 6, ground := Go.Ground.phase }, { on := 7, ground := Go.Ground.phase }], guard := none }) rfl (fun K hK => ?_) AllReadyH.nil
                obtain ⟨c9, f9⟩ := Hcg.out
                go_simp
                clear c9 f9
                refine hK.out _ _ HK9.out (fun hH1 => ?_)
                clear hK hH0
                have hH0 := hH1
                clear hH1
                try simp only [Act.put, List.setIfInBounds_toArray, List.set_cons_zero, List.set_cons_succ]
                refine wpAnyH_done (by kernel_rfl) ?_ _
                clear hH0
                have e9 : mk + 1 = MN + (k + 1) := by rw [Hmk.out]; omega
                rw [e9] at HS9
                clear e9
                go_wp2
                go_roundw
                case rel => exact ⟨k + 1, _, _, _, _, by go_num, by have := Hlt.out; omega, HS9, Lib.hid (HEND.out _ HsN.out Az nz cz).1, Lib.hid (HEND.out _ HsN.out Az nz cz).2.1, Lib.hid (HEND.out _ HsN.out Az nz cz).2.2⟩
                case measure => have := Hlt.out; simp [intOf]; omega
            · have : k = CO.length := by omega
              subst this
              have HQ := Lib.hid (HP2.out cs nn HF.out)
              obtain ⟨wo3, rfl⟩ : ∃ wo3 : World, wo3 = wr := ⟨_, rfl⟩
              obtain ⟨M2, hM2⟩ : ∃ M2, M2 = MN + CO.length := ⟨_, rfl⟩
              rw [← hM2] at HS HQ
              have HM2 := Lib.hid hM2
              clear hM2
              obtain ⟨x, hx⟩ : ∃ x, rs3[i]? = some x := ⟨_, List.getElem?_eq_getElem (by rw [HS.out.len]; exact Hil.out)⟩
              have hxl : i < rs3.length := (List.getElem?_eq_some_iff.1 hx).1
              have hsl : i < st.out.length := by have := congrArg List.length HR.out; rw [List.length_map, List.length_set] at this; rw [← this]; exact hxl
              have hsg : x.sg = { s0 with joins := js', code := cs } := by rw [(map_sg HR.out hx (x' := x)).1, getS_set hsl, if_pos rfl]
              have q0 : x.js.map RJ.jn = js' := congrArg Sg.joins hsg
              have q1 : x.code = cs := congrArg Sg.code hsg
              have q2 : x.test = (rawSg E i).test := (congrArg Sg.test hsg).trans (by rw [Hs0.out, Hsr.out])
              have q3 : x.thn = (rawSg E i).thn := (congrArg Sg.thn hsg).trans (by rw [Hs0.out, Hsr.out])
              have q4 : x.els = (rawSg E i).els := (congrArg Sg.els hsg).trans (by rw [Hs0.out, Hsr.out])
              have hnl : nn.length = NL := by rw [HF.out.2.1]; exact hns0.out
              have hnd : ¬ d i := by
                rw [← Hdd.out]
                show ¬ st.done.testBit i = true
                rw [Hd.out]
                simp
              -- what hanging gives
              have HH : Hid (∀ (wx : World) (ox : Nat → Nat × Nat) (t : Int), NmX w0 wx H T g ox (rs3.set i { x with test := t }) M2 DN (.slice (some ⟨nb, 0, none⟩) NL cn) nn none → t = (if 0 ≤ (rawSg E i).test then gI nn (E.p.getD i bnul).test else (rawSg E i).test) →
                  ∃ o5 rs5, NmX w0 (wx.setCell ⟨g, i * 6 + 5, none⟩ (.slice (some ⟨nb, 0, none⟩) NL cn)) H T g o5 rs5 st1.many st1.done nulV [] none ∧ rs5.map RS.sg = st1.out ∧ LvF d rs rs5 ∧ (rs5[i]?).map RS.lv = some (.slice (some ⟨nb, 0, none⟩) NL cn)) := Lib.hid (fun wx ox t hN ht => by
                have hx1 : (rs3.set i { x with test := t })[i]? = some { x with test := t } := List.getElem?_set_self hxl
                obtain ⟨o5, h5⟩ := hN.hang hx1
                refine ⟨o5, _, by rw [HQ.out]; exact h5, ?_, (HV.out.set hx (.inr hnd)).set hx1 (.inr hnd), ?_⟩
                · have e := (map_sg HR.out hx (x' := ⟨x.jv, x.js, x.cv, x.code, t, x.thn, x.els, .slice (some ⟨nb, 0, none⟩) NL cn, nn⟩)).2
                  rw [List.set_set]
                  refine e.trans ?_
                  rw [List.set_set, HQ.out]
                  show st.out.set i (Sg.mk (x.js.map RJ.jn) x.code t x.thn x.els nn) = _
                  rw [q0, q1, q3, q4, ht]
                · rw [List.getElem?_set_self (by rw [List.length_set]; exact hxl)]
                  rfl)
              obtain ⟨⟨-, -, cG2, cG5⟩, fG⟩ := HS.out.g_ hx
              rw [q2] at cG2
              obtain ⟨⟨cT0, cT1, -, -⟩, -⟩ := HS.out.t
              rw [epv] at cT0
              rw [enx] at cT1
              have hgT : g ≠ T := fun e => by have h1 := HS.out.tg.1; have h2 := HS.out.tg.2; rw [e, h1] at h2; cases h2
              have hTg : T ≠ g := fun e => hgT e.symm
              have hgx : g ≠ xb := by have := HS.out.lo.2; omega
              have hxg : xb ≠ g := by omega
              have hgp : g ≠ pb := by have := HS.out.lo.2; omega
              have hpg : pb ≠ g := by omega
              have hx1 := (HS.out.bel.cell (p := ⟨xb, xo + i, none⟩) hxb).trans HcX.out
              have hp1 := (HS.out.bel.cell (p := ⟨pb, po + i * 4 + 1, none⟩) hpb).trans HcP.out.2
              have fG2 := fG (i * 6 + 2)
              have fG5 := fG (i * 6 + 5)
              obtain ⟨bt, hbt⟩ : ∃ bt, bt = (E.p.getD i bnul).test := ⟨_, rfl⟩
              have hraw2 : (rawSg E i).test = if 0 ≤ bt then bt else -1 := by rw [hbt]; rfl
              have hb1 : bt < E.vars := by rw [hbt]; exact HB.out.hi
              rw [← hbt] at hp1 HH
              have HXL : Hid (∀ (wx : World) (o5 : Nat → Nat × Nat) (rs5 : List RS), NmX w0 wx H T g o5 rs5 st1.many st1.done nulV [] none → rs5.map RS.sg = st1.out → LvF d rs rs5 → (rs5[i]?).map RS.lv = some (.slice (some ⟨nb, 0, none⟩) NL cn) →
                  ∃ (k : Nat) (st' : NS) (rs' : List RS) (o' : Nat → Nat × Nat), Value.int .i64 0 = .int .i64 (k : Nat) ∧ k ≤ (E.next.getD i []).length ∧ Hid (NmX w0 wx H T g o' rs' st'.many st'.done nulV [] none) ∧ Hid (rs'.map RS.sg = st'.out) ∧ Hid (LvF d rs rs') ∧ Hid ((rs'[i]?).map RS.lv = some (.slice (some ⟨nb, 0, none⟩) NL cn)) ∧ Hid (KidR E R D f i st st1 (E.next.getD i []) k st')) := Lib.hid (fun wx o5 rs5 a1 a2 a3 a4 => by
                obtain ⟨b1, n1, o1, hI1, hE1, hW1, hbit⟩ := HFO.out
                exact ⟨0, st1, rs5, o5, rfl, Nat.zero_le _, a1, a2, a3, a4, ⟨b1, n1, o1, hI1⟩, HU.out.1, (hbit i).2 (.inr rfl), HU.out.2, rfl, fun k hk => hE1.done k hk, rfl⟩)
              have Hlast : Hid ((lastN i st1).length = NL) := Lib.hid (by
                rw [HQ.out]
                show ((st.out.set i _).getD i sgnul).last.length = NL
                rw [getS_set hsl, if_pos rfl]
                exact hnl)
              have HS9 := Lib.hid HS.out
              have Hx9 := Lib.hid hx
              have HnlH := Lib.hid hnl
              have Hq2 := Lib.hid q2
              clear hsg q0 q1 q2 q3 q4 hnl hnd hsl hxl HF HR HV HP2 HP HQ HJL HJT Hjs Hcode hns0 hk hlt HS hx
              by_cases hb : 0 ≤ bt
              · rw [if_pos hb] at hraw2
                rw [hraw2] at cG2 HH Hq2
                obtain ⟨bn, rfl⟩ := Int.eq_ofNat_of_zero_le hb
                have hbn : bn < NL := by have := HL.out; omega
                have hbi : ((bn : Nat) : Int) < ((NL : Nat) : Int) := by omega
                obtain ⟨nb', en', -, -, -, fN, cN⟩ := OwnI.at2 HS9.out.nm (by have := HnlH.out; omega)
                injection en' with en'
                injection en' with en'
                subst en'
                have cNb := cN bn (by have := HnlH.out; omega)
                have HyT : Hid (gI nn ((bn : Nat) : Int) = nn[bn]'(by have := HnlH.out; omega)) := Lib.hid (by unfold gI; rw [Int.toNat_natCast, List.getD_eq_getElem?_getD, List.getElem?_eq_getElem (by have := HnlH.out; omega)]; rfl)
                generalize nn[bn]'(by have := HnlH.out; omega) = yt at *
                have h6 := HS9.out.setTest Hx9.out yt
                obtain ⟨o5, rs5, a1, a2, a3, a4⟩ := HH.out _ _ _ h6 (by rw [if_pos hb, HyT.out])
                have HST := Lib.hid (HXL.out _ _ _ a1 a2 a3 a4)
                clear cN fN h6 a1 a2 a3 a4 hraw2 hbt HXL HH
                generalize hXL : E.next.getD i [] = XL at *
                have HXe := Lib.hid hXL
                clear hXL
                go_wp2
                go_loopw [213] (fun k' wr => ∃ (k : Nat) (st' : NS) (rs' : List RS) (o' : Nat → Nat × Nat), k' = .int .i64 (k : Nat) ∧ k ≤ XL.length ∧ Hid (NmX w0 wr H T g o' rs' st'.many st'.done nulV [] none) ∧ Hid (rs'.map RS.sg = st'.out) ∧ Hid (LvF d rs rs') ∧ Hid ((rs'[i]?).map RS.lv = some (.slice (some ⟨nb, 0, none⟩) NL cn)) ∧ Hid (KidR E R D f i st st1 XL k st')) (fun k' _ => XL.length - (intOf k').toNat)
                case atStart => exact HST.out
                case round =>
                  clear HST cG2 cG5 cT0 cT1 hgT hTg hgx hxg hgp hpg hx1 hp1 fG2 fG5
                  obtain ⟨k, st', rs', o', rfl, hk, HS, HR2, HV, HLv, HK⟩ := hrel
                  by_cases hlt : k < XL.length
                  · obtain ⟨b5, off5, rfl, hb5, c5⟩ := RdI.at1 (Rd.below HRX.out HS.out.bel) hlt
                    have hkx : ((k : Nat) : Int) < ((XL.length : Nat) : Int) := by omega
                    obtain ⟨⟨bs, ni, ow, hI⟩, hU, hdi, hd0, hla, hmono, heq⟩ := HK.out
                    have hj0 := HG.out.nn i _ (by rw [HXe.out]; exact List.getElem_mem hlt)
                    obtain ⟨jn, hjn⟩ := Int.eq_ofNat_of_zero_le hj0
                    rw [hjn] at c5
                    have hed : Ed E i jn := by unfold Ed; rw [HXe.out, ← hjn]; exact List.getElem_mem hlt
                    have hRi := hI.dlt i hdi
                    have hRj := HG.out.rs i _ hRi hed
                    have hmm : ((i : Nat) : Int) ∈ fromAt E jn := (HG.out.frm i jn (HG.out.rlt i hRi) (HG.out.rlt _ hRj)).2 hed
                    have hcc : Come E st' ((i : Nat) : Int) jn := .inr ⟨i, rfl, hdi, hed, hd0⟩
                    obtain ⟨x, hx, hxv⟩ := Option.map_eq_some_iff.1 HLv.out
                    have hSg := HS.out.at_ i x hx (by simp)
                    have hls : x.last = lastN i st' := by
                      have := (map_sg HR2.out hx (x' := x)).1
                      unfold lastN
                      rw [← this]
                      rfl
                    have hO := hSg.ls
                    rw [hxv, hls] at hO
                    have hlen : (lastN i st').length = NL := by rw [hla]; exact Hlast.out
                    obtain ⟨A9, c9, e9, hRd⟩ := OwnI.rd hO
                    have e9' : A9 = some ⟨nb, 0, none⟩ := by injection e9 with e1 e2 e3; exact e1.symm
                    subst e9'
                    have hcall := HIH.out st' bs ni ow ((i : Nat) : Int) jn hI hU hRj hmm hcc wr o' rs' (some ⟨nb, 0, none⟩) cn HS.out HR2.out (by rw [src_nat]; exact hRd)
                    obtain ⟨hPost, hWk⟩ := walk_ok HG.out f st' bs ni ow ((i : Nat) : Int) jn hI hU hRj hmm hcc
                    rw [src_nat] at hcall hPost
                    rw [hlen] at hcall
                    have HCALL := Lib.hid hcall
                    have HST9 : Hid (∀ rs'', LvF (fun k => st'.done.testBit k = true) rs' rs'' → rs''.map RS.sg = (walkN E f ((i : Nat) : Int) jn (lastN i st') st').out → LvF d rs rs'' ∧ (rs''[i]?).map RS.lv = some (.slice (some ⟨nb, 0, none⟩) NL cn) ∧ KidR E R D f i st st1 XL (k + 1) (walkN E f ((i : Nat) : Int) jn (lastN i st') st')) := Lib.hid (fun rs'' hv hr => by
                      obtain ⟨b2, n2, o2, hI2, hE2, -⟩ := hPost
                      refine ⟨HV.out.trans hv (fun q hq => ?_), (hv i hdi).trans HLv.out, ⟨b2, n2, o2, hI2⟩, Nat.lt_of_le_of_lt (und_le hE2.done) hU, hE2.done i hdi, hE2.done 0 hd0, (hE2.last i hdi).trans hla, fun q hq => hE2.done q (hmono q hq), ?_⟩
                      · rw [← Hdd.out] at hq
                        exact hmono q hq
                      · rw [heq, List.drop_eq_getElem_cons hlt, walksN, hjn, Int.toNat_natCast, hla])
                    have Hlt := Lib.hid hlt
                    clear hcall hPost hWk hO hRd hSg hx hxv hls hlen hI hU hdi hd0 hla hmono heq hed hRi hRj hmm hcc hjn hj0 HS HR2 HV HLv HK e9 hlt
                    go_wp2_with fail
                    (with_reducible refine HCALL.out.mono ?_)
                    rintro e w7 ⟨⟨u7, rfl⟩, o7, rs7, a1, a2, a3⟩
                    have A1 := Lib.hid a1
                    have A2 := Lib.hid a2
                    have A3 := Lib.hid (HST9.out rs7 a3 a2)
                    clear a1 a2 a3 HCALL HST9
                    go_wp2
                    go_roundw
                    case rel => exact ⟨k + 1, _, rs7, o7, by go_num, Hlt.out, A1, A2, A3.out.1, A3.out.2.1, A3.out.2.2⟩
                    case measure => have := Hlt.out; simp [intOf]; omega
                  · have : k = XL.length := by omega
                    subst this
                    have hE : walkN E (f + 1) l i ns st = st' := by rw [HWK.out, HK.out.eq, List.drop_length, walksN]
                    have HE := Lib.hid hE
                    clear hE hlt hk
                    go_wp2
                    go_end0
                    rw [HE.out]
                    exact ⟨⟨_, rfl⟩, o', rs', HS.out, HR2.out, HV.out⟩
              · rw [if_neg hb] at hraw2
                rw [hraw2] at cG2 HH Hq2
                have h6 : NmX w0 wo3 H T g o3 (rs3.set i { x with test := -1 }) M2 DN (.slice (some ⟨nb, 0, none⟩) NL cn) nn none := by
                  have e : ({ x with test := -1 } : RS) = x := by rw [← Hq2.out]
                  rw [e]
                  obtain ⟨hl9, he9⟩ := List.getElem?_eq_some_iff.1 Hx9.out
                  rw [← he9, List.set_getElem_self]
                  exact HS9.out
                obtain ⟨o5, rs5, a1, a2, a3, a4⟩ := HH.out _ _ _ h6 (by rw [if_neg (by omega)])
                have HST := Lib.hid (HXL.out _ _ _ a1 a2 a3 a4)
                clear h6 a1 a2 a3 a4 hraw2 hbt HXL HH hb
                generalize hXL : E.next.getD i [] = XL at *
                have HXe := Lib.hid hXL
                clear hXL
                go_wp2
                go_loopw [213] (fun k' wr => ∃ (k : Nat) (st' : NS) (rs' : List RS) (o' : Nat → Nat × Nat), k' = .int .i64 (k : Nat) ∧ k ≤ XL.length ∧ Hid (NmX w0 wr H T g o' rs' st'.many st'.done nulV [] none) ∧ Hid (rs'.map RS.sg = st'.out) ∧ Hid (LvF d rs rs') ∧ Hid ((rs'[i]?).map RS.lv = some (.slice (some ⟨nb, 0, none⟩) NL cn)) ∧ Hid (KidR E R D f i st st1 XL k st')) (fun k' _ => XL.length - (intOf k').toNat)
                case atStart => exact HST.out
                case round =>
                  clear HST cG2 cG5 cT0 cT1 hgT hTg hgx hxg hgp hpg hx1 hp1 fG2 fG5
                  obtain ⟨k, st', rs', o', rfl, hk, HS, HR2, HV, HLv, HK⟩ := hrel
                  by_cases hlt : k < XL.length
                  · obtain ⟨b5, off5, rfl, hb5, c5⟩ := RdI.at1 (Rd.below HRX.out HS.out.bel) hlt
                    have hkx : ((k : Nat) : Int) < ((XL.length : Nat) : Int) := by omega
                    obtain ⟨⟨bs, ni, ow, hI⟩, hU, hdi, hd0, hla, hmono, heq⟩ := HK.out
                    have hj0 := HG.out.nn i _ (by rw [HXe.out]; exact List.getElem_mem hlt)
                    obtain ⟨jn, hjn⟩ := Int.eq_ofNat_of_zero_le hj0
                    rw [hjn] at c5
                    have hed : Ed E i jn := by unfold Ed; rw [HXe.out, ← hjn]; exact List.getElem_mem hlt
                    have hRi := hI.dlt i hdi
                    have hRj := HG.out.rs i _ hRi hed
                    have hmm : ((i : Nat) : Int) ∈ fromAt E jn := (HG.out.frm i jn (HG.out.rlt i hRi) (HG.out.rlt _ hRj)).2 hed
                    have hcc : Come E st' ((i : Nat) : Int) jn := .inr ⟨i, rfl, hdi, hed, hd0⟩
                    obtain ⟨x, hx, hxv⟩ := Option.map_eq_some_iff.1 HLv.out
                    have hSg := HS.out.at_ i x hx (by simp)
                    have hls : x.last = lastN i st' := by
                      have := (map_sg HR2.out hx (x' := x)).1
                      unfold lastN
                      rw [← this]
                      rfl
                    have hO := hSg.ls
                    rw [hxv, hls] at hO
                    have hlen : (lastN i st').length = NL := by rw [hla]; exact Hlast.out
                    obtain ⟨A9, c9, e9, hRd⟩ := OwnI.rd hO
                    have e9' : A9 = some ⟨nb, 0, none⟩ := by injection e9 with e1 e2 e3; exact e1.symm
                    subst e9'
                    have hcall := HIH.out st' bs ni ow ((i : Nat) : Int) jn hI hU hRj hmm hcc wr o' rs' (some ⟨nb, 0, none⟩) cn HS.out HR2.out (by rw [src_nat]; exact hRd)
                    obtain ⟨hPost, hWk⟩ := walk_ok HG.out f st' bs ni ow ((i : Nat) : Int) jn hI hU hRj hmm hcc
                    rw [src_nat] at hcall hPost
                    rw [hlen] at hcall
                    have HCALL := Lib.hid hcall
                    have HST9 : Hid (∀ rs'', LvF (fun k => st'.done.testBit k = true) rs' rs'' → rs''.map RS.sg = (walkN E f ((i : Nat) : Int) jn (lastN i st') st').out → LvF d rs rs'' ∧ (rs''[i]?).map RS.lv = some (.slice (some ⟨nb, 0, none⟩) NL cn) ∧ KidR E R D f i st st1 XL (k + 1) (walkN E f ((i : Nat) : Int) jn (lastN i st') st')) := Lib.hid (fun rs'' hv hr => by
                      obtain ⟨b2, n2, o2, hI2, hE2, -⟩ := hPost
                      refine ⟨HV.out.trans hv (fun q hq => ?_), (hv i hdi).trans HLv.out, ⟨b2, n2, o2, hI2⟩, Nat.lt_of_le_of_lt (und_le hE2.done) hU, hE2.done i hdi, hE2.done 0 hd0, (hE2.last i hdi).trans hla, fun q hq => hE2.done q (hmono q hq), ?_⟩
                      · rw [← Hdd.out] at hq
                        exact hmono q hq
                      · rw [heq, List.drop_eq_getElem_cons hlt, walksN, hjn, Int.toNat_natCast, hla])
                    have Hlt := Lib.hid hlt
                    clear hcall hPost hWk hO hRd hSg hx hxv hls hlen hI hU hdi hd0 hla hmono heq hed hRi hRj hmm hcc hjn hj0 HS HR2 HV HLv HK e9 hlt
                    go_wp2_with fail
                    (with_reducible refine HCALL.out.mono ?_)
                    rintro e w7 ⟨⟨u7, rfl⟩, o7, rs7, a1, a2, a3⟩
                    have A1 := Lib.hid a1
                    have A2 := Lib.hid a2
                    have A3 := Lib.hid (HST9.out rs7 a3 a2)
                    clear a1 a2 a3 HCALL HST9
                    go_wp2
                    go_roundw
                    case rel => exact ⟨k + 1, _, rs7, o7, by go_num, Hlt.out, A1, A2, A3.out.1, A3.out.2.1, A3.out.2.2⟩
                    case measure => have := Hlt.out; simp [intOf]; omega
                  · have : k = XL.length := by omega
                    subst this
                    have hE : walkN E (f + 1) l i ns st = st' := by rw [HWK.out, HK.out.eq, List.drop_length, walksN]
                    have HE := Lib.hid hE
                    clear hE hlt hk
                    go_wp2
                    go_end0
                    rw [HE.out]
                    exact ⟨⟨_, rfl⟩, o', rs', HS.out, HR2.out, HV.out⟩
end Go.Proofs.Ytmgejacndhnikaa
