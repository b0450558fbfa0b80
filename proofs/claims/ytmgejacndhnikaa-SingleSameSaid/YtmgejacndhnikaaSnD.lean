/- SingleSame: the namer's walk to where one has been. -/
import Derived.Test.YtmgejacndhnikaaSnC
namespace Go.Proofs.Ytmgejacndhnikaa
set_option maxRecDepth 100000
open Go.RowKit

set_option maxHeartbeats 16000000 in
theorem again_calls {E : NE} {R : Nat → Prop} {D : Nat → Nat → Prop} (hG : Gr E R D) {st : NS} {base : Nat → Nat} {nin : Nat → List Int} {own : Int → Nat} (h : Inv E R D st base nin own) {i : Nat} {l : Int} (hd : st.done.testBit i = true) (hm : l ∈ fromAt E i) (hc : Come E st l i)
    {w0 w : World} {H : Hdr} (hH : HdX w0 H E) {T g : Nat} {o : Nat → Nat × Nat} {rs : List RS} (hS : NmX w0 w H T g o rs st.many st.done nulV [] none) (hrs : rs.map RS.sg = st.out) {A : Option Addr} {c : Nat} (hA : RdI w A (srcOf E st l)) (d : Nat → Prop) :
    Calls Try.prog 60 #[.pointer (some ⟨T, 0, none⟩), .int .i64 l, .int .i64 (i : Nat), .slice A (srcOf E st l).length c] w (WalkE w0 H T g (againN E l i (srcOf E st l) st) d rs) := by
  have hip := hG.rlt i (h.dlt i hd)
  have hi8 : i < 8 := by have := hG.ok.n8; omega
  have hl := src_len h hc
  have hv1 := hG.ok.v1
  have hv6 := hG.ok.v6
  have hdn := Inv.done_lt hG h
  have hN := h.nd i hd
  have hJ := hG.js i
  have hil : i < rs.length := by rw [hS.len, hH.n]; exact hip
  have hfi : firstIn E i st = (st.out.getD i sgnul).joins := by unfold firstIn; rw [if_pos hd]
  -- what the pure step is
  have HP : Hid (∀ js' ns', FillR ((fromAt E i).idxOf l) (joinsAt E i) (st.out.getD i sgnul).joins (srcOf E st l) (joinsAt E i).length js' ns' → againN E l i (srcOf E st l) st = ⟨st.many, st.done ||| 2 ^ i, st.out.set i { st.out.getD i sgnul with joins := js' }⟩) := Lib.hid (fun js' ns' hF => by
    have := (hF.done hN.jl.symm).1
    unfold againN filled
    rw [hfi, this])
  obtain ⟨JA, jc, ejv, rjv⟩ := hH.jv
  obtain ⟨jb, jo, JA', jc', eJA, hjb, cj, rJ⟩ := row_get rjv (by rw [hH.lj]; exact hip)
  obtain ⟨FA, fc, efm, rfm⟩ := hH.fm
  obtain ⟨fb, fo, FA', fc', eFA, hfb, cf, rF⟩ := row_get rfm (by rw [hH.lf]; exact hip)
  subst eJA eFA
  obtain ⟨x0, hx0⟩ : ∃ x, rs[i]? = some x := ⟨_, List.getElem?_eq_getElem hil⟩
  have hrs0 := (map_sg hrs hx0 (x' := x0)).1
  have hjl := hN.jl
  have hjt := hN.jt
  rw [← hrs0] at hjl hjt HP
  have HO := Lib.hid hrs
  have Hx0 := Lib.hid hx0
  have HNL := Lib.hid (fun v (hv : v ∈ joinsAt E i) => hJ.2 v hv)
  have hFm : Hid (l ∈ fromAt E i) := Lib.hid hm
  have hF100 := hH.f100 i
  have hJ6 := joins_6 hG i
  change w0.cell? ⟨jb, jo + i, none⟩ = some (.slice JA' (joinsAt E i).length jc') at cj
  change w0.cell? ⟨fb, fo + i, none⟩ = some (.slice FA' (fromAt E i).length fc') at cf
  change RdI w0 JA' (joinsAt E i) at rJ
  change RdI w0 FA' (fromAt E i) at rF
  have hwi : ((i : Nat) : Int) < ((H.n : Nat) : Int) := by rw [hH.n]; omega
  have hwp : ((i : Nat) : Int) < ((E.p.length : Nat) : Int) := by omega
  have Hil : Hid (i < H.n) := Lib.hid (by rw [hH.n]; exact hip)
  have hEn := hH.n
  generalize srcOf E st l = ns at *
  generalize joinsAt E i = JR at *
  generalize fromAt E i = FR at *
  -- the names are cloned
  have hn1 : 1 ≤ ns.length := by omega
  have Hcl := Lib.hid (cloneI_calls A ns c w hA hn1 (by omega))
  clear hA
  have HS := Lib.hid hS
  clear hS
  have HcJ := Lib.hid cj
  have HcF := Lib.hid cf
  have HRJ := Lib.hid rJ
  have HRF := Lib.hid rF
  clear cj cf rJ rF
  have t1 := W.test_u32 st.done i (by omega)
  rw [hd] at t1
  have Hd := Lib.hid hd
  have p1 := W.pow_u32 i (by omega)
  have p2 := W.or_u32 st.done (2 ^ i) (by omega) (Nat.lt_of_lt_of_le (Nat.pow_lt_pow_right (by decide) (by omega : i < 32)) (by decide))
  rw [Int.natCast_pow, show ((2 : Nat) : Int) = 2 from rfl] at p1 p2
  have hi32 : i < 32 := by omega
  have HEn := Lib.hid hEn
  have HL := Lib.hid hl
  have HJL := Lib.hid hjl
  have HJT := Lib.hid hjt
  have hl1 : ns.length ≤ 6 := by omega
  clear hG h hd hm hc hN hJ hH hfi hrs hrs0 hip hil hx0 rjv rfm hEn hl hjl hjt hv1 hv6
  go_enter Try.func60, Try.ntmps60
  go_wp2_with fail
  (with_reducible refine Hcl.out.mono ?_)
  rintro e w1 ⟨v1, rfl, hO1, hW1⟩
  obtain ⟨nb, cn, rfl, -, -, -, -, -⟩ := OwnI.at_ hO1 hn1
  obtain ⟨o1, hS1⟩ := HS.out.names hW1 hO1
  clear hO1 Hcl HS
  obtain ⟨⟨-, -, cT2, cT3⟩, cT5, cT6, cT7, fT⟩ := hS1.t
  rw [ejv] at cT3
  rw [efm] at cT2
  have hj1 := (hS1.bel.cell (p := ⟨jb, jo + i, none⟩) hjb).trans HcJ.out
  have hjT : jb ≠ T := by have := hS1.lo.1; omega
  have hTj : T ≠ jb := fun e => hjT e.symm
  have HS1 := Lib.hid hS1
  have f6 := fT 6
  clear hS1 fT
  have hyl := List.idxOf_lt_length_of_mem hFm.out
  have HYX := Lib.hid (idxOf_yes hFm.out)
  generalize FR.idxOf l = yx at *
  have HYL := Lib.hid hyl
  obtain ⟨MN, hMN⟩ : ∃ MN, MN = st.many := ⟨_, rfl⟩
  obtain ⟨DN, hDN⟩ : ∃ DN, DN = st.done ||| 2 ^ i := ⟨_, rfl⟩
  have HSd := Lib.hid (HS1.out.setD DN).drew
  rw [← hMN] at HSd
  rw [← hDN] at p2
  have HMN := Lib.hid hMN
  have HDN := Lib.hid hDN
  clear hMN hDN
  obtain ⟨s0, hs0⟩ : ∃ s0, s0 = x0.sg := ⟨_, rfl⟩
  rw [← hs0] at HJL HJT
  have Hs0 := Lib.hid hs0
  have HP : Hid (∀ js' ns', FillR yx JR s0.joins ns JR.length js' ns' → againN E l i ns st = ⟨MN, DN, st.out.set i { s0 with joins := js' }⟩) := Lib.hid (by rw [hs0, HMN.out, HDN.out]; exact HP.out)
  have HJT : Hid (∀ (k : Nat) (j : Jn), s0.joins[k]? = some j → j.fr.length = FR.length) := Lib.hid (fun k j hj => (HJT.out k j hj).2)
  have H0 : Hid (rs.map RS.sg = st.out.set i { s0 with joins := s0.joins }) := Lib.hid (by rw [hs0]; exact map_self HO.out Hx0.out)
  clear hs0 hyl
  generalize hNL : ns.length = NL at *
  have HNL2 := Lib.hid hNL
  clear hNL
  go_wp2_with fail
  go_still_tail 9, (by kernel_rfl)
  go_wp2
  go_loopw [83] (fun k' wr => ∃ (k : Nat) (js' : List Jn) (ns' : List Int) (rs' : List RS) (o' : Nat → Nat × Nat), k' = .int .i64 (k : Nat) ∧ k ≤ JR.length ∧ Hid (NmX w0 wr H T g o' rs' MN DN (.slice (some ⟨nb, 0, none⟩) NL cn) ns' none) ∧ Hid (FillR yx JR s0.joins ns k js' ns') ∧ Hid (rs'.map RS.sg = st.out.set i { s0 with joins := js' }) ∧ Hid (LvF d rs rs')) (fun k' _ => JR.length - (intOf k').toNat)
  case atStart => exact ⟨0, s0.joins, ns, rs, o1, rfl, Nat.zero_le _, HSd, Lib.hid (FillR.start _ _ _ _), H0, Lib.hid (LvF.refl _ _)⟩
  case round =>
    clear HS1 HSd H0 cT2 cT3 cT5 cT6 cT7 hj1 hjT hTj f6 p1 p2 t1
    obtain ⟨k, js', ns', rs', o', rfl, hk, HS, HF, HR, HV⟩ := hrel
    by_cases hlt : k < JR.length
    · obtain ⟨hvk0, hvk1⟩ := HNL.out _ (List.getElem_mem hlt)
      obtain ⟨vn, hvn⟩ := Int.eq_ofNat_of_zero_le hvk0
      obtain ⟨b5, off5, rfl, hb5, c5⟩ := RdI.at1 (Rd.below HRJ.out HS.out.bel) hlt
      rw [hvn] at c5 hvk1
      have hns' : ns'.length = NL := by obtain ⟨pre, -, -, h0, -⟩ := HF.out; rw [h0]; exact HNL2.out
      have hvl : vn < NL := by have := HL.out; omega
      obtain ⟨x, hx⟩ : ∃ x, rs'[i]? = some x := ⟨_, List.getElem?_eq_getElem (by rw [HS.out.len]; exact Hil.out)⟩
      have hsl : i < st.out.length := by have := congrArg List.length HR.out; rw [List.length_map, List.length_set] at this; rw [← this, HS.out.len]; exact Hil.out
      have hsg : x.sg = { s0 with joins := js' } := by rw [(map_sg HR.out hx (x' := x)).1, getS_set hsl, if_pos rfl]
      have hjs : x.js.map RJ.jn = js' := congrArg Sg.joins hsg
      have hkl : k < s0.joins.length := by rw [HJL.out]; exact hlt
      have hJk := HF.out.get hkl
      rw [← hjs, List.getElem?_map] at hJk
      obtain ⟨j, hj, hjn⟩ := Option.map_eq_some_iff.1 hJk
      have hfl : j.fr.length = FR.length := by have := HJT.out k _ (List.getElem?_eq_getElem hkl); rw [← hjn] at this; exact this
      obtain ⟨jB, jC, ejx, cA, cB, cC, fC⟩ := HS.out.jcell hx hj
      obtain ⟨⟨cG, -, -, -⟩, -⟩ := HS.out.g_ hx
      rw [ejx] at cG
      rw [hfl] at cB
      obtain ⟨nb', en', -, -, -, fN, cN⟩ := OwnI.at2 HS.out.nm (by omega)
      injection en' with en'
      injection en' with en'
      subst en'
      have cNv := cN vn (by omega)
      have hyx : yx < FR.length := HYL.out
      obtain ⟨⟨-, -, cT2, -⟩, -⟩ := HS.out.t
      rw [efm] at cT2
      have cF := (HS.out.bel.cell (p := ⟨fb, fo + i, none⟩) hfb).trans HcF.out
      obtain ⟨yv, hyv⟩ : ∃ yv, yv = ns'[vn]'(by omega) := ⟨_, rfl⟩
      rw [← hyv] at cNv
      have hjl : x.js.length ≤ 1000 := by have : (x.js.map RJ.jn).length = JR.length := by rw [hjs]; obtain ⟨pre, h1, h2, -, -⟩ := HF.out; rw [h2, List.length_append, List.length_drop, HJL.out]; omega
                                          rw [List.length_map] at this; omega
      have hkx : k < x.js.length := (List.getElem?_eq_some_iff.1 hj).1
      -- behind the store
      have h2 := (HS.out.fill hx hj yx yv).drew
      have hx2 : (rs'.set i { x with js := x.js.set k ⟨j.f, j.nm, j.fr.set yx yv⟩ })[i]? = some { x with js := x.js.set k ⟨j.f, j.nm, j.fr.set yx yv⟩ } := List.getElem?_set_self (List.getElem?_eq_some_iff.1 hx).1
      have hj2 : ({ x with js := x.js.set k ⟨j.f, j.nm, j.fr.set yx yv⟩ } : RS).js[k]? = some ⟨j.f, j.nm, j.fr.set yx yv⟩ := List.getElem?_set_self hkx
      obtain ⟨jB', jC', ejx', cA2, cB2, -, -⟩ := h2.jcell hx2 hj2
      have ejx' : x.jv = _ := ejx'
      rw [ejx] at ejx'
      have ejb : jB = jB' := by injection ejx' with e1 e2 e3; injection e1 with e1; injection e1
      subst ejb
      have cB2 : _ = some (Value.slice (some ⟨j.f, 0, none⟩) (j.fr.set yx yv).length (j.fr.set yx yv).length) := cB2
      have cA2 : _ = some (Value.int .i64 j.nm) := cA2
      rw [List.length_set, hfl] at cB2
      obtain ⟨⟨cG2, -, -, -⟩, -⟩ := h2.g_ hx2
      have cG2 : _ = some x.jv := cG2
      rw [ejx] at cG2
      obtain ⟨_, en', -, -, -, fN2, cN2⟩ := OwnI.at2 h2.nm (by omega)
      injection en' with en'
      injection en' with en'
      subst en'
      have cNv2 := cN2 vn (by omega)
      rw [← hyv] at cNv2
      obtain ⟨⟨-, -, cT22, -⟩, -⟩ := h2.t
      rw [efm] at cT22
      have cF2 := (h2.bel.cell (p := ⟨fb, fo + i, none⟩) hfb).trans HcF.out
      have HK1 : Hid (wr.drew.cell? ⟨g, i * 6, none⟩ = some (.slice (some ⟨jB, 0, none⟩) x.js.length jC) ∧ wr.drew.cell? ⟨jB, k * 2 + 1, none⟩ = some (.slice (some ⟨j.f, 0, none⟩) FR.length FR.length) ∧ wr.drew.cell? ⟨T, 2, none⟩ = some (.slice (some ⟨fb, fo, none⟩) E.p.length fc) ∧ wr.drew.cell? ⟨fb, fo + i, none⟩ = some (.slice FA' FR.length fc') ∧ wr.drew.cell? ⟨nb, vn, none⟩ = some (.int .i64 yv)) := Lib.hid ⟨cG, cB, cT2, cF, cNv⟩
      have HK2 := Lib.hid (⟨cG2, cB2, cT22, cF2, cNv2⟩ : _ ∧ _ ∧ _ ∧ _ ∧ _)
      have h3 := h2.setN (k := vn) (by omega) j.nm
      have HI := Lib.hid (fun w' (hb : RdI w' FA' FR) => indexI_calls FA' FR fc' l w' hb (by unfold maxLen; omega))
      have HFR : Hid (RdI wr.drew FA' FR) := Lib.hid (Rd.below HRF.out HS.out.drew.bel)
      have HYx2 : Hid (Lib.idxOf FR l = ((yx : Nat) : Int)) := Lib.hid HYX.out
      have HCS : Hid ((∃ v, wr.drew.cell? ⟨j.f, yx, none⟩ = some v) ∧ wr.drew.frozen? ⟨j.f, yx, none⟩ = false) := Lib.hid ⟨cC yx (by omega), fC yx⟩
      obtain ⟨w2, hw2⟩ : ∃ w2, w2 = (wr.setCell ⟨j.f, yx, none⟩ (.int .i64 yv)).drew := ⟨_, rfl⟩
      rw [← hw2] at h3 cG2 cA2 fN2 cNv2 HK2
      have fN3 := fN2 vn
      have HS3 := Lib.hid h3
      have HF3 : Hid (FillR yx JR s0.joins ns (k + 1) (js'.set k ⟨j.nm, j.fr.set yx (gI ns' ((vn : Nat) : Int))⟩) (ns'.set vn j.nm)) := Lib.hid (by
        have := HF.out.next (k := k) (v := ((vn : Nat) : Int)) (by rw [List.getElem?_eq_getElem hlt, hvn]) (j := j.jn) (by rw [List.getElem?_eq_getElem hkl, hjn])
        rw [Int.toNat_natCast] at this
        exact this)
      have HR3 : Hid ((rs'.set i { x with js := x.js.set k ⟨j.f, j.nm, j.fr.set yx yv⟩ }).map RS.sg = st.out.set i { s0 with joins := js'.set k ⟨j.nm, j.fr.set yx (gI ns' ((vn : Nat) : Int))⟩ }) := Lib.hid (by
        have e1 : gI ns' ((vn : Nat) : Int) = yv := by unfold gI; rw [Int.toNat_natCast, hyv, List.getD_eq_getElem?_getD, List.getElem?_eq_getElem (by omega)]; rfl
        have e2 := (map_sg HR.out hx (x' := { x with js := x.js.set k ⟨j.f, j.nm, j.fr.set yx yv⟩ })).2
        rw [e2, List.set_set, e1]
        congr 1
        show Sg.mk ((x.js.set k ⟨j.f, j.nm, j.fr.set yx yv⟩).map RJ.jn) x.code x.test x.thn x.els x.last = _
        rw [List.map_set, hjs]
        have q1 : x.code = s0.code := congrArg Sg.code hsg
        have q2 : x.test = s0.test := congrArg Sg.test hsg
        have q3 : x.thn = s0.thn := congrArg Sg.thn hsg
        have q4 : x.els = s0.els := congrArg Sg.els hsg
        have q5 : x.last = s0.last := congrArg Sg.last hsg
        rw [q1, q2, q3, q4, q5]
        rfl)
      have HV3 := Lib.hid (HV.out.set hx (x' := { x with js := x.js.set k ⟨j.f, j.nm, j.fr.set yx yv⟩ }) (.inl rfl))
      have hyi : ((yx : Nat) : Int) < ((FR.length : Nat) : Int) := by omega
      have hki : ((k : Nat) : Int) < ((x.js.length : Nat) : Int) := by omega
      have hkj : ((k : Nat) : Int) < ((JR.length : Nat) : Int) := by omega
      have hvi : ((vn : Nat) : Int) < ((NL : Nat) : Int) := by omega
      have Hlt := Lib.hid hlt
      have Hw2 := Lib.hid hw2
      clear h2 h3 hx2 hj2 hw2 cB2 cT22 cF2 cN cN2 fN fN2 cC fC cA cG cB cT2 cF cNv ejx ejx' hx hj hjn hsg hjs hJk hfl hyv hvn hvk0 hvk1 HS HF HR HV hns' hyx hkl hkx hsl
      generalize hjn' : j.f = jf at *
      generalize j.nm = jnm at *
      generalize x.js.length = jsl at *
      clear hjn'
      go_wp2
      refine wp_region_held_drew (S := fun w' => w'.cell? ⟨g, i * 6, none⟩ = some (.slice (some ⟨jB, 0, none⟩) jsl jC) ∧ w'.cell? ⟨jB, k * 2 + 1, none⟩ = some (.slice (some ⟨jf, 0, none⟩) FR.length FR.length) ∧ w'.cell? ⟨T, 2, none⟩ = some (.slice (some ⟨fb, fo, none⟩) E.p.length fc) ∧ w'.cell? ⟨fb, fo + i, none⟩ = some (.slice FA' FR.length fc') ∧ w'.cell? ⟨nb, vn, none⟩ = some (.int .i64 yv)) (by kernel_rfl) HK1.out (fun hH0 => ?_)
      refine wpAnyH_take (i := 0) (oi := { dst := some 88, op := Go.Op.move (Go.Operand.tmp 9), type := 172, pos := "single.go:289", after := #[], guard := none }) rfl (by kernel_rfl) (by kernel_rfl) (by kernel_rfl) (fun _ _ _ h => h) (Or.inl ⟨by rfl, fun w hw => by (go_simp; try with_reducible rfl)⟩) (by assumption) ?_
      try simp only [Act.put, List.setIfInBounds_toArray, List.set_cons_zero, List.set_cons_succ]
      refine wpAnyH_take (i := 1) (oi := { dst := some 89, op := Go.Op.nilCheck (Go.Operand.tmp 88), type := 0, pos := "single.go:289", after := #[{ on := 0, ground := Go.Ground.data }], guard := none }) rfl (by kernel_rfl) (by kernel_rfl) (by kernel_rfl) (fun _ _ _ h => h) (Or.inl ⟨by rfl, fun w hw => by (go_simp; try with_reducible rfl)⟩) (by assumption) ?_
      try simp only [Act.put, List.setIfInBounds_toArray, List.set_cons_zero, List.set_cons_succ]
      refine wpAnyH_take (i := 2) (oi := { dst := some 90, op := Go.Op.fieldAddr 114 (Go.Operand.tmp 89) 0, type := 0, pos := "single.go:289", after := #[{ on := 1, ground := Go.Ground.data }], guard := none }) rfl (by kernel_rfl) (by kernel_rfl) (by kernel_rfl) (fun _ _ _ h => h) (Or.inl ⟨by rfl, fun w hw => by (go_simp; try with_reducible rfl)⟩) (by assumption) ?_
      try simp only [Act.put, List.setIfInBounds_toArray, List.set_cons_zero, List.set_cons_succ]
      refine wpAnyH_take (i := 3) (oi := { dst := some 91, op := Go.Op.load 112 (Go.Operand.tmp 90), type := 112, pos := "single.go:289", after := #[{ on := 2, ground := Go.Ground.data }], guard := none }) rfl (by kernel_rfl) (by kernel_rfl) (by kernel_rfl) (fun _ _ _ h => h) (Or.inl ⟨by rfl, fun w hw => by (obtain ⟨p0, p1, p2, p3, p4⟩ := hw; go_simp; try with_reducible rfl)⟩) (by assumption) ?_
      try simp only [Act.put, List.setIfInBounds_toArray, List.set_cons_zero, List.set_cons_succ]
      refine wpAnyH_take (i := 4) (oi := { dst := some 92, op := Go.Op.move (Go.Operand.tmp 10), type := 3, pos := "single.go:289", after := #[], guard := none }) rfl (by kernel_rfl) (by kernel_rfl) (by kernel_rfl) (fun _ _ _ h => h) (Or.inl ⟨by rfl, fun w hw => by (go_simp; try with_reducible rfl)⟩) (by assumption) ?_
      try simp only [Act.put, List.setIfInBounds_toArray, List.set_cons_zero, List.set_cons_succ]
      refine wpAnyH_take (i := 5) (oi := { dst := some 93, op := Go.Op.indexAddr 112 (Go.Operand.tmp 91) (Go.Operand.tmp 92), type := 0, pos := "single.go:289", after := #[{ on := 3, ground := Go.Ground.data }, { on := 4, ground := Go.Ground.data }], guard := none }) rfl (by kernel_rfl) (by kernel_rfl) (by kernel_rfl) (fun _ _ _ h => h) (Or.inl ⟨by rfl, fun w hw => by (go_simp; try with_reducible rfl)⟩) (by assumption) ?_
      try simp only [Act.put, List.setIfInBounds_toArray, List.set_cons_zero, List.set_cons_succ]
      refine wpAnyH_take (i := 6) (oi := { dst := some 94, op := Go.Op.fieldAddr 128 (Go.Operand.tmp 93) 1, type := 0, pos := "single.go:289", after := #[{ on := 5, ground := Go.Ground.data }], guard := none }) rfl (by kernel_rfl) (by kernel_rfl) (by kernel_rfl) (fun _ _ _ h => h) (Or.inl ⟨by rfl, fun w hw => by (go_simp; try with_reducible rfl)⟩) (by assumption) ?_
      try simp only [Act.put, List.setIfInBounds_toArray, List.set_cons_zero, List.set_cons_succ]
      refine wpAnyH_take (i := 7) (oi := { dst := some 95, op := Go.Op.load 23 (Go.Operand.tmp 94), type := 23, pos := "single.go:289", after := #[{ on := 6, ground := Go.Ground.data }], guard := none }) rfl (by kernel_rfl) (by kernel_rfl) (by kernel_rfl) (fun _ _ _ h => h) (Or.inl ⟨by rfl, fun w hw => by (obtain ⟨p0, p1, p2, p3, p4⟩ := hw; go_simp; try with_reducible rfl)⟩) (by assumption) ?_
      try simp only [Act.put, List.setIfInBounds_toArray, List.set_cons_zero, List.set_cons_succ]
      refine wpAnyH_take (i := 8) (oi := { dst := some 96, op := Go.Op.move (Go.Operand.tmp 0), type := 108, pos := "single.go:289", after := #[], guard := none }) rfl (by kernel_rfl) (by kernel_rfl) (by kernel_rfl) (fun _ _ _ h => h) (Or.inl ⟨by rfl, fun w hw => by (go_simp; try with_reducible rfl)⟩) (by assumption) ?_
      try simp only [Act.put, List.setIfInBounds_toArray, List.set_cons_zero, List.set_cons_succ]
      refine wpAnyH_take (i := 9) (oi := { dst := some 97, op := Go.Op.nilCheck (Go.Operand.tmp 96), type := 0, pos := "single.go:289", after := #[{ on := 8, ground := Go.Ground.data }], guard := none }) rfl (by kernel_rfl) (by kernel_rfl) (by kernel_rfl) (fun _ _ _ h => h) (Or.inl ⟨by rfl, fun w hw => by (go_simp; try with_reducible rfl)⟩) (by assumption) ?_
      try simp only [Act.put, List.setIfInBounds_toArray, List.set_cons_zero, List.set_cons_succ]
      refine wpAnyH_take (i := 10) (oi := { dst := some 98, op := Go.Op.fieldAddr 110 (Go.Operand.tmp 97) 2, type := 0, pos := "single.go:289", after := #[{ on := 9, ground := Go.Ground.data }], guard := none }) rfl (by kernel_rfl) (by kernel_rfl) (by kernel_rfl) (fun _ _ _ h => h) (Or.inl ⟨by rfl, fun w hw => by (go_simp; try with_reducible rfl)⟩) (by assumption) ?_
      try simp only [Act.put, List.setIfInBounds_toArray, List.set_cons_zero, List.set_cons_succ]
      refine wpAnyH_take (i := 11) (oi := { dst := some 99, op := Go.Op.load 97 (Go.Operand.tmp 98), type := 97, pos := "single.go:289", after := #[{ on := 10, ground := Go.Ground.data }], guard := none }) rfl (by kernel_rfl) (by kernel_rfl) (by kernel_rfl) (fun _ _ _ h => h) (Or.inl ⟨by rfl, fun w hw => by (obtain ⟨p0, p1, p2, p3, p4⟩ := hw; go_simp; try with_reducible rfl)⟩) (by assumption) ?_
      try simp only [Act.put, List.setIfInBounds_toArray, List.set_cons_zero, List.set_cons_succ]
      refine wpAnyH_take (i := 12) (oi := { dst := some 100, op := Go.Op.move (Go.Operand.tmp 2), type := 3, pos := "single.go:289", after := #[], guard := none }) rfl (by kernel_rfl) (by kernel_rfl) (by kernel_rfl) (fun _ _ _ h => h) (Or.inl ⟨by rfl, fun w hw => by (go_simp; try with_reducible rfl)⟩) (by assumption) ?_
      try simp only [Act.put, List.setIfInBounds_toArray, List.set_cons_zero, List.set_cons_succ]
      refine wpAnyH_take (i := 13) (oi := { dst := some 101, op := Go.Op.indexAddr 97 (Go.Operand.tmp 99) (Go.Operand.tmp 100), type := 0, pos := "single.go:289", after := #[{ on := 11, ground := Go.Ground.data }, { on := 12, ground := Go.Ground.data }], guard := none }) rfl (by kernel_rfl) (by kernel_rfl) (by kernel_rfl) (fun _ _ _ h => h) (Or.inl ⟨by rfl, fun w hw => by (go_simp; try with_reducible rfl)⟩) (by assumption) ?_
      try simp only [Act.put, List.setIfInBounds_toArray, List.set_cons_zero, List.set_cons_succ]
      refine wpAnyH_take (i := 14) (oi := { dst := some 102, op := Go.Op.load 23 (Go.Operand.tmp 101), type := 23, pos := "single.go:289", after := #[{ on := 13, ground := Go.Ground.data }], guard := none }) rfl (by kernel_rfl) (by kernel_rfl) (by kernel_rfl) (fun _ _ _ h => h) (Or.inl ⟨by rfl, fun w hw => by (obtain ⟨p0, p1, p2, p3, p4⟩ := hw; go_simp; try with_reducible rfl)⟩) (by assumption) ?_
      try simp only [Act.put, List.setIfInBounds_toArray, List.set_cons_zero, List.set_cons_succ]
      refine wpAnyH_take (i := 15) (oi := { dst := some 103, op := Go.Op.move (Go.Operand.tmp 1), type := 3, pos := "single.go:289", after := #[], guard := none }) rfl (by kernel_rfl) (by kernel_rfl) (by kernel_rfl) (fun _ _ _ h => h) (Or.inl ⟨by rfl, fun w hw => by (go_simp; try with_reducible rfl)⟩) (by assumption) ?_
      try simp only [Act.put, List.setIfInBounds_toArray, List.set_cons_zero, List.set_cons_succ]
      refine wpAnyH_take (i := 17) (oi := { dst := some 105, op := Go.Op.move (Go.Operand.tmp 3), type := 23, pos := "single.go:289", after := #[], guard := none }) rfl (by kernel_rfl) (by kernel_rfl) (by kernel_rfl) (fun _ _ _ h => h) (Or.inl ⟨by rfl, fun w hw => by (go_simp; try with_reducible rfl)⟩) (by assumption) ?_
      try simp only [Act.put, List.setIfInBounds_toArray, List.set_cons_zero, List.set_cons_succ]
      refine wpAnyH_take (i := 18) (oi := { dst := some 106, op := Go.Op.move (Go.Operand.tmp 11), type := 3, pos := "single.go:289", after := #[], guard := none }) rfl (by kernel_rfl) (by kernel_rfl) (by kernel_rfl) (fun _ _ _ h => h) (Or.inl ⟨by rfl, fun w hw => by (go_simp; try with_reducible rfl)⟩) (by assumption) ?_
      try simp only [Act.put, List.setIfInBounds_toArray, List.set_cons_zero, List.set_cons_succ]
      refine wpAnyH_take (i := 19) (oi := { dst := some 107, op := Go.Op.indexAddr 23 (Go.Operand.tmp 105) (Go.Operand.tmp 106), type := 0, pos := "single.go:289", after := #[{ on := 17, ground := Go.Ground.data }, { on := 18, ground := Go.Ground.data }], guard := none }) rfl (by kernel_rfl) (by kernel_rfl) (by kernel_rfl) (fun _ _ _ h => h) (Or.inl ⟨by rfl, fun w hw => by (go_simp; try with_reducible rfl)⟩) (by assumption) ?_
      try simp only [Act.put, List.setIfInBounds_toArray, List.set_cons_zero, List.set_cons_succ]
      refine wpAnyH_take (i := 20) (oi := { dst := some 108, op := Go.Op.load 3 (Go.Operand.tmp 107), type := 3, pos := "single.go:289", after := #[{ on := 19, ground := Go.Ground.data }], guard := none }) rfl (by kernel_rfl) (by kernel_rfl) (by kernel_rfl) (fun _ _ _ h => h) (Or.inl ⟨by rfl, fun w hw => by (obtain ⟨p0, p1, p2, p3, p4⟩ := hw; go_simp; try with_reducible rfl)⟩) (by assumption) ?_
      try simp only [Act.put, List.setIfInBounds_toArray, List.set_cons_zero, List.set_cons_succ]
      refine wpAnyH_ready (rs := [16]) (by kernel_rfl) (by simp) ?_
      refine AllReadyH.cons (o := { dst := some 104, op := Go.Op.call { callee := Go.Callee.value (Go.Operand.func 70), args := #[Go.Operand.tmp 102, Go.Operand.tmp 103], argTypes := #[23, 3] }, type := 3, pos := "single.go:289", after := #[{ on := 14, ground := Go.Ground.data }, { on := 15, ground := Go.Ground.data }], guard := none }) rfl (fun K hK => ?_) AllReadyH.nil
      go_simp
      go_at_call 70
      (with_reducible refine (HI.out _ HFR.out).mono ?_)
      rintro e w7 ⟨rfl, rfl⟩
      rw [HYx2.out]
      refine hK.out _ _ hH0 (fun hH1 => ?_)
      clear hK hH0
      have hH0 := hH1
      clear hH1
      try simp only [Act.put, List.setIfInBounds_toArray, List.set_cons_zero, List.set_cons_succ]
      refine wpAnyH_take (i := 21) (oi := { dst := some 109, op := Go.Op.indexAddr 23 (Go.Operand.tmp 95) (Go.Operand.tmp 104), type := 0, pos := "single.go:289", after := #[{ on := 7, ground := Go.Ground.data }, { on := 16, ground := Go.Ground.data }, { on := 0, ground := Go.Ground.phase }, { on := 1, ground := Go.Ground.phase }, { on := 2, ground := Go.Ground.phase }, { on := 3, ground := Go.Ground.phase }, { on := 4, ground := Go.Ground.phase }, { on := 5, ground := Go.Ground.phase }, { on := 6, ground := Go.Ground.phase }, { on := 7, ground := Go.Ground.phase }, { on := 8, ground := Go.Ground.phase }, { on := 9, ground := Go.Ground.phase }, { on := 10, ground := Go.Ground.phase }, { on := 11, ground := Go.Ground.phase }, { on := 12, ground := Go.Ground.phase }, { on := 13, ground := Go.Ground.phase }, { on := 14, ground := Go.Ground.phase }, { on := 15, ground := Go.Ground.phase }, { on := 16, ground := Go.Ground.phase }, { on := 17, ground := Go.Ground.phase }, { on := 18, ground := Go.Ground.phase }, { on := 19, ground := Go.Ground.phase }, { on := 20, ground := Go.Ground.phase }], guard := none }) rfl (by kernel_rfl) (by kernel_rfl) (by kernel_rfl) (fun _ _ _ h => h) (Or.inl ⟨by rfl, fun w hw => by (go_simp; try with_reducible rfl)⟩) (by assumption) ?_
      try simp only [Act.put, List.setIfInBounds_toArray, List.set_cons_zero, List.set_cons_succ]
      refine wpAnyH_ready (rs := [22]) (by kernel_rfl) (by simp) ?_
      refine AllReadyH.cons (o := { dst := none, op := Go.Op.store 3 (Go.Operand.tmp 109) (Go.Operand.tmp 108), type := 0, pos := "single.go:289", after := #[{ on := 21, ground := Go.Ground.data }, { on := 20, ground := Go.Ground.data }, { on := 16, ground := Go.Ground.chain }, { on := 0, ground := Go.Ground.phase }, { on := 1, ground := Go.Ground.phase }, { on := 2, ground := Go.Ground.phase }, { on := 3, ground := Go.Ground.phase }, { on := 4, ground := Go.Ground.phase }, { on := 5, ground := Go.Ground.phase }, { on := 6, ground := Go.Ground.phase }, { on := 7, ground := Go.Ground.phase }, { on := 8, ground := Go.Ground.phase }, { on := 9, ground := Go.Ground.phase }, { on := 10, ground := Go.Ground.phase }, { on := 11, ground := Go.Ground.phase }, { on := 12, ground := Go.Ground.phase }, { on := 13, ground := Go.Ground.phase }, { on := 14, ground := Go.Ground.phase }, { on := 15, ground := Go.Ground.phase }, { on := 16, ground := Go.Ground.phase }, { on := 17, ground := Go.Ground.phase }, { on := 18, ground := Go.Ground.phase }, { on := 19, ground := Go.Ground.phase }, { on := 20, ground := Go.Ground.phase }], guard := none }) rfl (fun K hK => ?_) AllReadyH.nil
      obtain ⟨cc9, c9⟩ := HCS.out.1
      have f9 := HCS.out.2
      go_simp
      clear c9 f9 cc9
      rw [← Hw2.out]
      refine hK.out _ _ HK2.out (fun hH1 => ?_)
      clear hK hH0
      have hH0 := hH1
      clear hH1
      try simp only [Act.put, List.setIfInBounds_toArray, List.set_cons_zero, List.set_cons_succ]
      refine wpAnyH_done (by kernel_rfl) ?_ _
      clear hH0
      go_wp2
      go_roundw
      case rel => exact ⟨k + 1, _, _, _, _, by go_num, by have := Hlt.out; omega, HS3, HF3, HR3, HV3⟩
      case measure => have := Hlt.out; simp [intOf]; omega
    · have : k = JR.length := by omega
      subst this
      have hF := Lib.hid (HP.out _ _ HF.out)
      go_wp2
      refine bodyPost_ret (results_none rfl _ _ _) rfl ?_
      rw [hF.out]
      exact ⟨⟨_, rfl⟩, _, _, HS.out.noname, HR.out, HV.out⟩
end Go.Proofs.Ytmgejacndhnikaa
