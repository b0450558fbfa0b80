/- fact.Along. -/
import Derived.Test.YtljmignfbagomaaFacG
namespace Go.Proofs.Ytljmignfbagomaa
open Go.RowKit

noncomputable def alongTo (L : LawD) (ps : List Nat) : Nat → Nat
  | 0 => L.start
  | k + 1 => beh L (ps.getD k 0) (alongTo L ps k)
structure PathP (ls : List (List Int)) (L : LawD) (ps : List Nat) : Prop where
  pos : 0 < ps.length
  first : FL ls L (ps.getD 0 0)
  step : ∀ k, k + 1 < ps.length → EL ls L (ps.getD k 0) (ps.getD (k + 1) 0)
  lt : ∀ k, k < ps.length → ps.getD k 0 < ls.length
theorem PathP.at_ {ls : List (List Int)} {L : LawD} {ps : List Nat} (h : PathP ls L ps) (ho : FacOk ls L) : ∀ k, k < ps.length → FR (EL ls L) (FL ls L) (ps.getD k 0) ∧ alongTo L ps k < 256 ∧ ∀ b, b < 8 → pb L.all (alongTo L ps k) b = true → FP (EL ls L) (FL ls L) L (ps.getD k 0) b
  | 0, _ => ⟨.first h.first, ho.s8, fun _ _ hp => .start h.first hp⟩
  | k + 1, hk => by
    obtain ⟨h1, h2, h3⟩ := h.at_ ho k (by omega)
    have e := h.step k hk
    refine ⟨.step h1 e, beh_lt h2 (getD_lt256 ho.m8), fun b hb hp => ?_⟩
    unfold alongTo at hp
    rw [beh_pb L _ h2 hb, Bool.or_eq_true, Bool.and_eq_true] at hp
    rcases hp with hp | ⟨hp, hk'⟩
    · exact .gen h1 e hp
    · exact .keep (h3 b hb hp) e hk'
def natL (ps : List Nat) : List Int := ps.map fun a : Nat => (a : Int)
theorem natL_len (ps : List Nat) : (natL ps).length = ps.length := by simp [natL]
theorem natL_get {ps : List Nat} {k : Nat} (h : k < (natL ps).length) : (natL ps)[k] = ((ps.getD k 0 : Nat) : Int) := by
  have hk : k < ps.length := by rwa [natL_len] at h
  rw [getD_at hk]
  simp [natL]
set_option maxHeartbeats 400000 in
theorem index_calls (A : Option Addr) (l : List Int) (cap : Nat) (x : Int) (w : World) (hA : RdI w A l) (hm : l.length ≤ 1000) (hx : x ∈ l) :
    Calls Try.prog 66 #[.slice A l.length cap, .int .i64 x] w fun e w' => (∃ m : Nat, e = .returned (.int .i64 (m : Nat))) ∧ w' = w := by
  have HA := Lib.hid hA; clear hA
  have Hx := Lib.hid hx; clear hx
  go_enter Try.func66, Try.ntmps66
  go_wp2
  go_loop [8] (fun i => ∃ k : Nat, k ≤ l.length ∧ i = .int .i64 k ∧ Hid (x ∉ l.take k)) (fun i => l.length - (intOf i).toNat)
  case atStart => exact ⟨0, Nat.zero_le _, rfl, Lib.hid (by simp)⟩
  case round =>
    obtain ⟨k, hk, rfl, hE⟩ := hrel
    by_cases hlt : k < l.length
    · obtain ⟨b, off, rfl, hb, c0⟩ := RdI.at1 HA.out hlt
      by_cases he : x = l[k]
      · rw [← he] at c0
        clear he hE
        go_wp2
        go_ret
        exact ⟨⟨k, rfl⟩, rfl⟩
      · have Hn : Hid (x ∉ l.take (k + 1)) := by
          rw [List.take_succ_eq_append_getElem hlt]
          intro h
          rcases List.mem_append.1 h with h | h
          · exact hE.out h
          · simp at h; exact he h
        have q1 : (x == l[k]) = false := by simpa using he
        clear he hE
        generalize l[k] = y at *
        go_wp2
        go_round
        case rel => exact ⟨k + 1, by omega, by go_num, Hn⟩
        case measure => simp [intOf]; omega
    · exfalso
      have := hE.out
      rw [List.take_of_length_le (by omega)] at this
      exact this Hx.out
set_option maxHeartbeats 400000 in
theorem contains_yes (A : Option Addr) (l : List Int) (cap : Nat) (x : Int) (w : World) (hA : RdI w A l) (hm : l.length ≤ 1000) (hx : x ∈ l) :
    Calls Try.prog 54 #[.slice A l.length cap, .int .i64 x] w fun e w' => e = .returned (.bool true) ∧ w' = w := by
  have HA := Lib.hid hA; clear hA
  have Hx := Lib.hid hx; clear hx
  go_enter Try.func54, Try.ntmps54
  go_wp2_with (go_at_call 66; refine (index_calls A l cap x w HA.out hm Hx.out).mono ?_; rintro e w' ⟨⟨m, rfl⟩, rfl⟩)
  go_ret
  exact ⟨ret_bool (by simp), rfl⟩
set_option maxRecDepth 100000 in
set_option maxHeartbeats 8000000 in
theorem along_calls (A MA MB PA : Option Addr) (ls : List (List Int)) (L : LawD) (ps : List Nat) (cap ca cb cp : Nat) (w : World) (hA : RdN w A ls) (hm : ls.length ≤ maxLen) (hL : RdL w MA MB L) (hl1 : L.makes.length ≤ maxLen) (hl2 : L.ends.length ≤ maxLen)
    (hP : RdI w PA (natL ps)) (hpl : ps.length ≤ maxLen) (h0 : facErr ls L = 0) (hp : PathP ls L ps) :
    Calls Try.prog 43 #[.slice A ls.length cap, .agg #[.bool L.back, .bool L.all, .slice MA L.makes.length ca, .slice MB L.ends.length cb, .int .u32 (L.start : Nat)], .slice PA ps.length cp] w fun e w' =>
      e = .returned (.tuple #[.int .u32 (alongTo L ps (ps.length - 1) : Nat), .int .i64 0]) ∧ Below w.heap.size w w' := by
  unfold maxLen at hpl
  have hB1 := (Below.refl w.heap.size w).alloc (Nat.le_refl _) (.cells #[.bool L.back, .bool L.all, .slice MA L.makes.length ca, .slice MB L.ends.length cb, .int .u32 (L.start : Nat)] 58)
  have HB1 := Lib.hid hB1
  have hlb := LB.new w MA MB L ca cb
  have HLB := Lib.hid hlb
  have hok := facErr_ok h0
  obtain ⟨h1, h8, hv⟩ := valid_of hok.way
  have HV := Lib.hid hv
  have Hok := Lib.hid hok
  have H0 := Lib.hid h0
  have Hp := Lib.hid hp
  have hpos := hp.pos
  clear h0 hok hv hp
  go_enter Try.func43, Try.ntmps43
  go_upto_region 1 with fail
  have HA := Lib.hid (RdN.below hA hB1)
  have HL := Lib.hid (hL.below hB1)
  have HP := Lib.hid (Rd.below hP hB1)
  clear hA hL hP hB1
  obtain ⟨wa, hwa⟩ : ∃ wa, wa = w.alloc (Obj.cells #[Value.bool L.back, Value.bool L.all, Value.slice MA L.makes.length ca, Value.slice MB L.ends.length cb, Value.int IntKind.u32 (L.start : Nat)] 58) := ⟨_, rfl⟩
  rw [← hwa] at HA HL HP HB1 HLB hlb ⊢
  clear hwa
  have hw0 := HB1.out.size
  obtain ⟨p, hpe⟩ : ∃ p, p = w.heap.size := ⟨_, rfl⟩
  rw [← hpe] at HLB hlb ⊢
  obtain ⟨hpw, c0, c1, c2, c3, c4⟩ := hlb
  clear hpe
  obtain ⟨bk, hbk⟩ : ∃ bk, bk = L.back := ⟨_, rfl⟩
  have Hbk := Lib.hid hbk
  clear hbk
  go_upto_if 19 with (go_at_call 56; refine (factWrong_calls A MA MB ls L cap ca cb _ HA.out hm HL.out hl1 hl2).mono ?_; rintro e w1 ⟨rfl, hW⟩; rw [H0.out]; have HW1 := Lib.hid hW; clear c0 c1 c2 c3 c4; obtain ⟨_, c0, c1, c2, c3, c4⟩ := HLB.out.below hW; rw [← Hbk.out] at c0; have hw1 := hW.size; clear hW)
  have HA1 := Lib.hid (RdN.below HA.out HW1.out)
  go_cut [0] from 18 (fun v0 wx => ∃ (A' : Option Addr) (cap' f : Nat) (g : List (List Int)), v0 = .slice A' ls.length cap' ∧ Hid (RdN wx A' g) ∧ Hid (GO ls L g f) ∧ Hid (Below wa.heap.size wa wx))
  case first =>
    cases bk
    · have Hb := Lib.hid (GO.fwd (L := L) Hbk.out.symm HV.out)
      clear c0
      go_wp2
      go_meet
      case rel => exact ⟨A, cap, 1, ls, rfl, HA1, Hb, HW1⟩
    · have Hb := Lib.hid Hbk.out.symm
      clear c0
      go_wp2_with (go_at_call 57; refine (factTurn_calls A ls cap _ HA1.out h1 h8 HV.out).mono ?_; rintro e w2 ⟨B, g, rfl, hR2, hT2, hW2⟩; have HR2 := Lib.hid hR2; have HG := Lib.hid (GO.bwd Hb.out HV.out hT2 (setN_lt (fun i => ls[i]? = some [])) (fun i => by rw [setN_bit]; exact ⟨fun h => h.2, fun h => ⟨by have := (List.getElem?_eq_some_iff.1 h).1; omega, h⟩⟩)); have HW2 := Lib.hid (HW1.out.trans (hW2.mono hw1)); clear hR2 hT2 hW2)
      go_meet
      case rel => exact ⟨B, _, _, g, rfl, HR2, HG, HW2⟩
  case rest =>
    obtain ⟨A', cap', f, g, rfl, HR, HG, HWc⟩ := hcut
    have HLBc := Lib.hid (HLB.out.below HWc.out)
    have HLc := Lib.hid (HL.out.below HWc.out)
    have HPc := Lib.hid (Rd.below HP.out HWc.out)
    have hpc : p < wc.heap.size := by have := HWc.out.size; omega
    have Hml := Lib.hid Hok.out.ml
    have Hel := Lib.hid Hok.out.el
    have hgl := Lib.hid HG.out.len
    clear c0 c1 c2 c3 c4 HA1 HW1 HA HLB HL HP hw1
    obtain ⟨_, c0, c1, c2, c3, c4⟩ := HLBc.out
    have q0 : ((ps.length : Int) == 0) = false := by rw [beq_eq_false_iff_ne]; omega
    go_wp2_with fail
    clear c0 c1 c2 c3 c4 q0
    go_loopw [29, 9] (fun k s wr => ∃ k' : Nat, k' ≤ ps.length ∧ k = .int .i64 k' ∧ s = .int .u32 (alongTo L ps (k' - 1) : Nat) ∧ Below wc.heap.size wc wr) (fun k _ _ => ps.length - (intOf k).toNat)
    case atStart => exact ⟨0, Nat.zero_le _, rfl, rfl, Below.refl _ _⟩
    case round =>
      obtain ⟨k, hk, rfl, rfl, hW⟩ := hrel
      have HW := Lib.hid hW
      by_cases hlt : k < ps.length
      · have hkl : k < (natL ps).length := by rw [natL_len]; exact hlt
        obtain ⟨b1, off1, rfl, hb1, d1⟩ := RdI.at1 (Rd.below HPc.out hW) hkl
        rw [natL_get] at d1
        have hil := Hp.out.lt k hlt
        rcases Nat.eq_zero_or_pos k with rfl | hkp
        · have q1 : decide (ls.length ≤ ps.getD 0 0) = false := decide_eq_false (by omega)
          clear hW hkl
          rw [Nat.add_zero] at d1
          generalize ps.getD 0 0 = i at *
          go_wp2
          go_roundw
          case rel => exact ⟨1, by omega, by go_num, rfl, HW.out⟩
          case measure => simp [intOf]; omega
        · obtain ⟨k, rfl⟩ : ∃ k', k = k' + 1 := ⟨k - 1, by omega⟩
          obtain ⟨b9, off9, e9, hb9, d0⟩ := RdI.at1 (Rd.below HPc.out hW) (k := k) (by rw [natL_len]; omega)
          injection e9 with e9; injection e9 with e9a e9b
          subst e9a e9b
          rw [natL_get] at d0
          have hil0 := Hp.out.lt k (by omega)
          have hed := (HG.out.edge _ _).2 (Hp.out.step k hlt)
          obtain ⟨b2, off2, A2, cap2, rfl, hb2, d2, hR2⟩ := RdN.at_ (RdN.below HR.out hW) (show ps.getD k 0 < g.length by rw [hgl.out]; exact hil0)
          have hrow := List.getElem?_eq_getElem (show ps.getD k 0 < g.length by rw [hgl.out]; exact hil0)
          have Hmem := Lib.hid ((EdgeG.mem hrow).1 hed)
          have Hsh := Lib.hid (HG.out.short _ (List.getElem_mem (show ps.getD k 0 < g.length by rw [hgl.out]; exact hil0)))
          have HR2 := Lib.hid hR2
          obtain ⟨_, hs8, _⟩ := Hp.out.at_ Hok.out k (by omega)
          have Hst := Lib.hid (show alongTo L ps (k + 1) = beh L (ps.getD k 0) (alongTo L ps k) from rfl)
          rw [show k + 1 - 1 = k by omega]
          have Hbh := Lib.hid (fun w' (h : Below wc.heap.size wc w') => behind_calls MA MB L ca cb (ps.getD k 0) (alongTo L ps k) w' (HLc.out.below h) (by rw [Hml.out]; exact hil0) (by rw [Hel.out]; exact hil0) hs8 Hok.out.m8 Hok.out.e8)
          have hlw := HLBc.out.below hW
          have qi : ((ps.getD k 0 : Nat) : Int) < ((ls.length : Nat) : Int) := by omega
          have hwk : IntKind.i64.wrap (k : Int) = k := by rw [IntKind.wrap_i64]; omega
          have qk : ((k : Nat) : Int) < ((ps.length : Nat) : Int) := by omega
          clear hed hrow hR2 hkl
          generalize beh L (ps.getD k 0) (alongTo L ps k) = y at *
          generalize alongTo L ps k = s at *
          generalize g[ps.getD k 0]'_ = row at *
          generalize ps.getD k 0 = i at *
          generalize ps.getD (k + 1) 0 = j at *
          have Hkp : Hid (∀ w', Below wr.drew.heap.size wr.drew w' → (w'.cell? ⟨b1, off1 + k, none⟩ = some (.int .i64 (i : Nat)) ∧ w'.cell? ⟨p, 0, none⟩ = some (.bool L.back) ∧ w'.cell? ⟨p, 1, none⟩ = some (.bool L.all) ∧ w'.cell? ⟨p, 2, none⟩ = some (.slice MA L.makes.length ca) ∧ w'.cell? ⟨p, 3, none⟩ = some (.slice MB L.ends.length cb) ∧ w'.cell? ⟨p, 4, none⟩ = some (.int .u32 (L.start : Nat)))) := Lib.hid fun w' h => by
            have k := hlw.below (w' := w') ⟨h.os, h.tape, h.output, h.size, h.block⟩
            exact ⟨(h.cell (p := ⟨b1, off1 + _, none⟩) hb1).trans d0, k.2.1, k.2.2.1, k.2.2.2.1, k.2.2.2.2.1, k.2.2.2.2.2⟩
          clear hW hlw
          go_upto_region 15 with (go_at_call 54; refine (contains_yes A2 row cap2 j _ HR2.out (by have := Hsh.out; omega) Hmem.out).mono ?_; rintro e wr ⟨rfl, rfl⟩)
          refine wp_region_held_drew (S := fun w' => w'.cell? ⟨b1, off1 + k, none⟩ = some (.int .i64 (i : Nat)) ∧ w'.cell? ⟨p, 0, none⟩ = some (.bool L.back) ∧ w'.cell? ⟨p, 1, none⟩ = some (.bool L.all) ∧ w'.cell? ⟨p, 2, none⟩ = some (.slice MA L.makes.length ca) ∧ w'.cell? ⟨p, 3, none⟩ = some (.slice MB L.ends.length cb) ∧ w'.cell? ⟨p, 4, none⟩ = some (.int .u32 (L.start : Nat))) (by kernel_rfl) (Hkp.out _ (Below.refl _ _)) (fun hH0 => ?_)
          have Hw0 := Lib.hid HW.out.drew
          generalize wr.drew = w0 at *
          refine wpAnyH_take (i := 0) (oi := { dst := some 61, op := Go.Op.load 58 (Go.Operand.tmp 4), type := 58, pos := "fact.go:104", after := #[], guard := none }) rfl (by kernel_rfl) (by kernel_rfl) (by kernel_rfl) (fun _ _ _ h => h) (Or.inl ⟨by rfl, fun w hw => by (obtain ⟨p0, p1, p2, p3, p4, p5⟩ := hw; exact load_law _ _ _ rfl w p rfl _ _ _ _ _ p1 p2 p3 p4 p5)⟩) (by assumption) ?_
          try simp only [Act.put, List.setIfInBounds_toArray, List.set_cons_zero, List.set_cons_succ]
          refine wpAnyH_take (i := 1) (oi := { dst := some 62, op := Go.Op.move (Go.Operand.tmp 2), type := 32, pos := "fact.go:104", after := #[], guard := none }) rfl (by kernel_rfl) (by kernel_rfl) (by kernel_rfl) (fun _ _ _ h => h) (Or.inl ⟨by rfl, fun w hw => by (go_simp; try with_reducible rfl)⟩) (by assumption) ?_
          try simp only [Act.put, List.setIfInBounds_toArray, List.set_cons_zero, List.set_cons_succ]
          refine wpAnyH_take (i := 2) (oi := { dst := some 63, op := Go.Op.move (Go.Operand.tmp 10), type := 3, pos := "fact.go:104", after := #[], guard := none }) rfl (by kernel_rfl) (by kernel_rfl) (by kernel_rfl) (fun _ _ _ h => h) (Or.inl ⟨by rfl, fun w hw => by (go_simp; try with_reducible rfl)⟩) (by assumption) ?_
          try simp only [Act.put, List.setIfInBounds_toArray, List.set_cons_zero, List.set_cons_succ]
          refine wpAnyH_take (i := 3) (oi := { dst := some 64, op := Go.Op.binOp Go.BinOp.sub 3 (Go.Operand.tmp 63) (Go.Operand.const (Go.Value.int Go.IntKind.i64 1)) 3, type := 3, pos := "fact.go:104", after := #[{ on := 2, ground := Go.Ground.data }], guard := none }) rfl (by kernel_rfl) (by kernel_rfl) (by kernel_rfl) (fun _ _ _ h => h) (Or.inl ⟨by rfl, fun w hw => by (go_simp; try with_reducible rfl)⟩) (by assumption) ?_
          try simp only [Act.put, List.setIfInBounds_toArray, List.set_cons_zero, List.set_cons_succ]
          refine wpAnyH_take (i := 4) (oi := { dst := some 65, op := Go.Op.indexAddr 32 (Go.Operand.tmp 62) (Go.Operand.tmp 64), type := 0, pos := "fact.go:104", after := #[{ on := 1, ground := Go.Ground.data }, { on := 3, ground := Go.Ground.data }], guard := none }) rfl (by kernel_rfl) (by kernel_rfl) (by kernel_rfl) (fun _ _ _ h => h) (Or.inl ⟨by rfl, fun w hw => by (go_simp; try with_reducible rfl)⟩) (by assumption) ?_
          try simp only [Act.put, List.setIfInBounds_toArray, List.set_cons_zero, List.set_cons_succ]
          refine wpAnyH_take (i := 5) (oi := { dst := some 66, op := Go.Op.load 3 (Go.Operand.tmp 65), type := 3, pos := "fact.go:104", after := #[{ on := 4, ground := Go.Ground.data }], guard := none }) rfl (by kernel_rfl) (by kernel_rfl) (by kernel_rfl) (fun _ _ _ h => h) (Or.inl ⟨by rfl, fun w hw => by (obtain ⟨p0, p1, p2, p3, p4, p5⟩ := hw; clear p1 p2 p3 p4 p5; go_simp; try with_reducible rfl)⟩) (by assumption) ?_
          try simp only [Act.put, List.setIfInBounds_toArray, List.set_cons_zero, List.set_cons_succ]
          refine wpAnyH_take (i := 6) (oi := { dst := some 67, op := Go.Op.move (Go.Operand.tmp 9), type := 29, pos := "fact.go:104", after := #[], guard := none }) rfl (by kernel_rfl) (by kernel_rfl) (by kernel_rfl) (fun _ _ _ h => h) (Or.inl ⟨by rfl, fun w hw => by (go_simp; try with_reducible rfl)⟩) (by assumption) ?_
          try simp only [Act.put, List.setIfInBounds_toArray, List.set_cons_zero, List.set_cons_succ]
          refine wpAnyH_ready (rs := [7]) (by kernel_rfl) (by simp) ?_
          refine AllReadyH.cons (o := { dst := some 68, op := Go.Op.call { callee := Go.Callee.value (Go.Operand.func 58), args := #[Go.Operand.tmp 61, Go.Operand.tmp 66, Go.Operand.tmp 67], argTypes := #[58, 3, 29] }, type := 29, pos := "fact.go:104", after := #[{ on := 0, ground := Go.Ground.data }, { on := 5, ground := Go.Ground.data }, { on := 6, ground := Go.Ground.data }], guard := none }) rfl (fun K hK => ?_) AllReadyH.nil
          go_simp
          go_at_call 58
          refine (Hbh.out _ Hw0.out).mono ?_
          rintro e w9 ⟨rfl, hB9⟩
          have HBw9 := Lib.hid hB9
          have Hw9 := Lib.hid (Hw0.out.trans (hB9.mono Hw0.out.size))
          refine hK.out _ _ (Hkp.out _ HBw9.out) (fun hH1 => ?_)
          clear hK hB9
          try simp only [Act.put, List.setIfInBounds_toArray, List.set_cons_zero, List.set_cons_succ]
          refine wpAnyH_take (i := 8) (oi := { dst := some 9, op := Go.Op.assign (Go.Operand.tmp 68), type := 29, pos := "fact.go:104", after := #[{ on := 7, ground := Go.Ground.data }, { on := 7, ground := Go.Ground.chain }, { on := 0, ground := Go.Ground.phase }, { on := 1, ground := Go.Ground.phase }, { on := 2, ground := Go.Ground.phase }, { on := 3, ground := Go.Ground.phase }, { on := 4, ground := Go.Ground.phase }, { on := 5, ground := Go.Ground.phase }, { on := 6, ground := Go.Ground.phase }, { on := 7, ground := Go.Ground.phase }], guard := none }) rfl (by kernel_rfl) (by kernel_rfl) (by kernel_rfl) (fun _ _ _ h => h) (Or.inl ⟨by rfl, fun w hw => by (go_simp; try with_reducible rfl)⟩) (by assumption) ?_
          try simp only [Act.put, List.setIfInBounds_toArray, List.set_cons_zero, List.set_cons_succ]
          refine wpAnyH_done (by kernel_rfl) ?_ _
          clear hH0 hH1
          go_wp2
          go_roundw
          case rel => exact ⟨k + 2, by omega, by go_num, by rw [show k + 2 - 1 = k + 1 by omega, Hst.out], Hw9.out⟩
          case measure => simp [intOf]; omega
      · have : k = ps.length := by omega
        subst this
        clear hW
        go_wp2
        go_ret2
        exact ⟨rfl, HB1.out.trans ((HWc.out.trans (HW.out.mono HWc.out.size)).mono hw0)⟩
end Go.Proofs.Ytljmignfbagomaa
