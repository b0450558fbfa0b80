/- weak.Ahead walked (written by wkahead.py out of wkc_head.txt). -/
import Derived.Test.YtmgejacndhnikaaWkB
namespace Go.Proofs.Ytmgejacndhnikaa
set_option maxRecDepth 100000
open Go.RowKit Go.Maps

section
variable {w w' : World} {T M n : Nat} {v6 : Value} {ks : List Term}
theorem WT.kept {row : Option Nat} (h : WT w T M v6 ks) (hg : w.grownBy w' row) (h1 : row ≠ some T) (h2 : row ≠ some M) (h3 : v6.ownBlock = none ∨ v6.ownBlock ≠ row) : WT w' T M v6 ks :=
  ⟨(hg.block T (lt_of_heap h.hT) (fun e => h1 e.symm)).trans h.hT, h.rt.kept hg h3, h.mp.kept hg (fun e => h2 e.symm), h.tM⟩
theorem WT.grown (h : WT w T M v6 ks) (hg : w.grownBy w' none) : WT w' T M v6 ks := h.kept hg (by simp) (by simp) (by
  rcases e : v6.ownBlock with _ | k
  · exact .inl rfl
  · exact .inr (by simp))
theorem WT.alloc (h : WT w T M v6 ks) (o : Obj) : WT (w.alloc o) T M v6 ks := h.grown (World.grownBy_alloc w o none)
theorem WT.drew (h : WT w T M v6 ks) : WT w.drew T M v6 ks := ⟨h.hT, h.rt, h.mp, h.tM⟩
theorem WT.setI (h : WT w T M v6 ks) {I : Nat} {m c : Nat} {l : List Int} (hI : OwnI w (T + 1) 3 (.slice (some ⟨I, 0, none⟩) m c) l) (j : Nat) (v : Value) : WT (w.setCell ⟨I, j, none⟩ v) T M v6 ks := by
  have hb := own_lt hI I rfl
  have hM := h.tM
  exact h.kept (grown_setCell w I j v) (fun e => by injection e with e; omega) (fun e => by injection e with e; omega) (own_apart h.rt hI (by decide))
theorem WT.at (h : WT w T M v6 ks) : ∃ A cap, v6 = .slice A ks.length cap ∧ RdT w A ks := OwnT.rd h.rt
theorem WT.app (h : WT w T M v6 ks) {v : Value} {l : List Int} {base : Nat} (hA : OwnI w base 3 v l) (hb : T + 1 ≤ base) (hg : w.grownBy w' v.ownBlock) : WT w' T M v6 ks := by
  have hM := h.tM
  exact h.kept hg (fun e => by have := (own_lt hA _ e).1; omega) (fun e => by have := (own_lt hA _ e).1; omega) (own_apart h.rt hA (by decide))
theorem isKeep {I m c b1 base : Nat} {is l : List Int} {v : Value} (hI : OwnI w b1 3 (.slice (some ⟨I, 0, none⟩) m c) is) (hA : OwnI w base 3 v l) (hb : I < base) (hg : w.grownBy w' v.ownBlock) : OwnI w' b1 3 (.slice (some ⟨I, 0, none⟩) m c) is :=
  hI.kept hg (.inr (fun e => by have := (own_lt hA I e.symm).1; omega))
theorem rdT_take {w : World} {A : Option Addr} {l : List Term} (h : RdT w A l) (n : Nat) : RdT w A (l.take n) := fun hn => by
  obtain ⟨b, off, e, hb, hc⟩ := h (by rw [List.length_take] at hn; omega)
  refine ⟨b, off, e, hb, fun k x hx j hj => hc k x ?_ j hj⟩
  rw [List.getElem?_take] at hx
  split at hx
  · exact hx
  · cases hx
theorem wt_start (w : World) : WT ((w.alloc (.map #[] 0)).alloc (.cells #[.slice none 0 0, .map (some w.heap.size)] 136)) (w.heap.size + 1) w.heap.size (.slice none 0 0) [] := by
  refine ⟨?_, Own.nil_ _ _ _, ?_, by omega⟩
  · have h := heap_alloc_new (w.alloc (.map #[] 0)) (.cells #[.slice none 0 0, .map (some w.heap.size)] 136)
    rw [show (w.alloc (.map #[] 0)).heap.size = w.heap.size + 1 by simp] at h
    exact h
  · have e : knownF [] = fun _ => none := by funext x; simp [knownF]
    rw [e]
    exact (OwnM.made Term.agg w 62).alloc _
end
theorem inI_of {o a b v : Int} (h : (-1000 ≤ o ∧ o ≤ 1000) ∧ (-1000 ≤ a ∧ a ≤ 1000) ∧ (-1000 ≤ b ∧ b ≤ 1000) ∧ (-1000 ≤ v ∧ v ≤ 1000)) : (⟨o, a, b, v⟩ : Term).inI := by
  unfold Term.inI i64In; dsimp only; omega
def WkEnd (n : Nat) (code : List Step) (post : List Term) (w : World) (e : Ending) (w' : World) : Prop :=
  ∃ v l, e = .returned (.tuple #[v, .int .i64 0]) ∧ (∃ A cap, v = .slice A l.length cap ∧ RdT w' A l) ∧ 1 ≤ l.length ∧ l.length ≤ 64 ∧ TAll n l ∧ (∀ hv : List Int, hv.length = n → tVal hv l = tVal (dgR hv code) post) ∧ Below w.heap.size w w'
set_option maxHeartbeats 8000000 in
theorem ahead_ok (vars : Int) (A B : Option Addr) (code : List Step) (post : List Term) (cap c2 : Nat) (w : World) (hA : RdSt w A code) (hB : RdT w B post) (hm : code.length ≤ 140737488355328) (hm2 : post.length ≤ maxLen) (h0 : wkErr vars code post = 0) :
    Calls Try.prog 25 #[.int .i64 vars, .slice A code.length cap, .slice B post.length c2] w (WkEnd vars.toNat code post w) := by
  have hE1 : wkE vars code = 0 := Classical.byContradiction fun h => by unfold wkErr at h0; rw [if_neg h] at h0; exact h h0
  have hE2 : tErr vars post = 0 := by unfold wkErr at h0; rwa [if_pos hE1] at h0
  obtain ⟨hv1, hv6, hc20, hsok⟩ := wkE_ok hE1
  obtain ⟨-, -, hp1, hp16, htok⟩ := tErr_ok hE2
  have Hw := Lib.hid (wkWrong_calls vars A code cap w hA hm)
  have Hc := Lib.hid (fun w hB => check_calls vars B post c2 w hB hm2)
  rw [hE1] at Hw
  rw [hE2] at Hc
  obtain ⟨n, rfl⟩ := Int.eq_ofNat_of_zero_le (show 0 ≤ vars by omega)
  have HA := Lib.hid hA
  have HB := Lib.hid hB
  have Hsok := Lib.hid hsok
  have Htok := Lib.hid htok
  have hn1 : 1 ≤ n := by omega
  have hn6 : n ≤ 6 := by omega
  rw [Int.toNat_natCast]
  clear hA hB hm hm2 h0 hE1 hE2 hsok htok hv1 hv6
  have hmm := @run_makeMap Try.prog
  go_enter Try.func25, Try.ntmps25
  go_wp2_with (first
    | (go_at_call 71; refine Hw.out.mono ?_; rintro e w1 ⟨rfl, hW⟩; have HW := Lib.hid hW; have HB1 := Lib.hid (Rd.below HB.out hW); clear hW)
    | (go_at_call 72; refine (Hc.out _ HB1.out).mono ?_; rintro e w2 ⟨rfl, hW⟩; have HW2 := Lib.hid (HW.out.trans (hW.mono HW.out.size)); clear hW)
    | (at_make
       have HT3 := Lib.hid (wt_start w2)
       have HW3 := Lib.hid ((HW2.out.alloc HW2.out.size (.map #[] 0)).alloc (by have := HW2.out.size; simp; omega) (.cells #[.slice none 0 0, .map (some w2.heap.size)] 136))
       have hsz : ((w2.alloc (.map #[] 0)).alloc (.cells #[.slice none 0 0, .map (some w2.heap.size)] 136)).heap.size = w2.heap.size + 1 + 1 := by simp
       have hw2 := HW2.out.size
       refine wpList_makeI rfl _ _ rfl (w2.heap.size + 1 + 1) n rfl rfl (by omega) (by simp) ?_
       intro w4 hown4 hg4
       rw [← isK_zero] at hown4
       have HI4 := Lib.hid hown4
       have HT4 := Lib.hid (HT3.out.grown hg4)
       have HW4 := Lib.hid (HW3.out.grown hg4 (by rw [hsz]; omega) (fun k e => by cases e))
       rw [hsz] at HI4 ⊢
       clear hown4 hg4 HT3 HW3 hsz))
  clear hmm Hw Hc
  generalize w2.heap.size = M at *
  go_loopw [37] (fun i wr => ∃ (k : Nat) (v6 : Value), k ≤ n ∧ i = .int .i64 k ∧ WT wr (M + 1) M v6 (varK k) ∧ OwnI wr (M + 1 + 1) 3 (.slice (some ⟨M + 1 + 1, 0, none⟩) n n) (isK n k) ∧ Below w.heap.size w wr) (fun i _ => n - (intOf i).toNat)
  case atStart => exact ⟨0, _, Nat.zero_le _, rfl, HT4.out, HI4.out, HW4.out⟩
  case round =>
    clear HT4 HI4 HW4
    obtain ⟨k, v6, hk, rfl, hT, hI, hW⟩ := hrel
    have HT := Lib.hid hT
    have HI := Lib.hid hI
    have HW := Lib.hid hW
    clear hT hI hW
    by_cases hlt : k < n
    · have Hlt := Lib.hid hlt
      have q1 : ((k : Nat) : Int) < ((n : Nat) : Int) := by omega
      have Hxi : Hid ((⟨2, 0, 0, (k : Int)⟩ : Term).inI) := Lib.hid (inI_of (by omega))
      clear hlt
      go_wp2_with (go_at_call 73
                   refine (wkput_calls wr (M + 1) M v6 (varK k) ⟨2, 0, 0, (k : Int)⟩ HT.out Hxi.out (by rw [varK_len]; omega)).mono ?_
                   rintro e w5 ⟨v7, rfl, hT5, hK5⟩
                   rw [(varK_ins k).1] at hT5
                   rw [(varK_ins k).2]
                   have hI5 := hK5.ints _ _ _ (Nat.le_refl _) HI.out
                   obtain ⟨g, eg, _, hg, _, hfz, hcell⟩ := OwnI.at2 hI5 (by rw [isK_len]; omega)
                   injection eg with eg; injection eg with eg
                   subst eg
                   have c4 := hcell k (by rw [isK_len]; exact Hlt.out)
                   have f4 := hfz k
                   have HI6 := Lib.hid (OwnI.set_ hI5 (k := k) (by rw [isK_len]; exact Hlt.out) (k : Int))
                   rw [isK_set Hlt.out] at HI6
                   have HT6 := Lib.hid (hT5.setI hI5 k (.int .i64 k))
                   have HW6 := Lib.hid ((hK5.bel w.heap.size w hw2 (by have := HW.out.size; omega) HW.out).setCell (p := ⟨M + 1 + 1, k, none⟩) (by show w.heap.size ≤ M + 1 + 1; omega) (.int .i64 k))
                   clear hI5 hT5 hK5 hcell hfz)
      go_roundw
      case rel => exact ⟨k + 1, v7, by have := Hlt.out; omega, by go_num, HT6.out, HI6.out, HW6.out⟩
      case measure => have := Hlt.out; simp [intOf]; omega
    · have : k = n := by omega
      subst this
      obtain ⟨wo, rfl⟩ : ∃ wo : World, wo = wr := ⟨_, rfl⟩
      have Hen := Lib.hid (envK_start (vars := (k : Int)) (n := k) rfl)
      go_wp2
      go_loopw [50] (fun i wr => ∃ (q : Nat) (v6 : Value) (ks : List Term) (is : List Int), q ≤ code.length ∧ i = .int .i64 q ∧ Hid (EnvK (k : Int) k (code.take q) ks is ∧ ks.length ≤ k + q) ∧ WT wr (M + 1) M v6 ks ∧ OwnI wr (M + 1 + 1) 3 (.slice (some ⟨M + 1 + 1, 0, none⟩) k k) is ∧ Below w.heap.size w wr) (fun i _ => code.length - (intOf i).toNat)
      case atStart => exact ⟨0, v6, _, _, Nat.zero_le _, rfl, Lib.hid ⟨Hen.out, by rw [varK_len]; omega⟩, HT.out, HI.out, HW.out⟩
      case round =>
        clear HT HI HW Hen
        obtain ⟨q, v6, ks, is, hq, rfl, HE, hT, hI, hW⟩ := hrel
        have HT := Lib.hid hT
        have HI := Lib.hid hI
        have HW := Lib.hid hW
        have HEl := Lib.hid (show ks.length ≤ 26 by have := HE.out.2; omega)
        have His := Lib.hid (show is.length = k from HE.out.1.len)
        clear hT hI hW
        by_cases hlt : q < code.length
        · have Hlt := Lib.hid hlt
          have q1 : ((q : Nat) : Int) < ((code.length : Nat) : Int) := by omega
          obtain ⟨b, off, rfl, hb, c0, c1, c2', c3, c4⟩ := RdSt.at5 (Rd.below HA.out HW.out) hlt
          have hs := Hsok.out _ (List.getElem_mem hlt)
          have Htk := Lib.hid (List.take_succ_eq_append_getElem hlt)
          have Hlen := Lib.hid HE.out.2
          have Hnum := Lib.hid (fun h => HE.out.1.num hs rfl h)
          have Hvar := Lib.hid (fun h => HE.out.1.var hs rfl h)
          have Hop := Lib.hid (fun h => HE.out.1.op hs rfl h)
          have Hopx := Lib.hid (fun h => HE.out.1.opx hs rfl h)
          generalize code[q] = s at *
          obtain ⟨op, sto, sa, sb, sv⟩ := s
          obtain ⟨o1, o6, on, ov, ot, ob⟩ := hs
          dsimp only at c0 c1 c2' c3 c4 o1 o6 on ov ot ob Hnum Hvar Hop Hopx
          obtain ⟨t, rfl⟩ := Int.eq_ofNat_of_zero_le ot.1
          rw [Int.toNat_natCast] at Hnum Hvar Hop
          have ht : t < k := by omega
          clear hlt ot HE
          rcases (show op = 1 ∨ op = 2 ∨ (3 ≤ op ∧ op ≤ 6) by omega) with rfl | rfl | ⟨h3, h6⟩
          · have Hn2 := Lib.hid (Hnum.out rfl)
            have Hxi : Hid ((⟨1, 0, 0, sv⟩ : Term).inI) := Lib.hid (inI_of (by have := on rfl; omega))
            have hkt : ((t : Nat) : Int) < (k : Int) := by omega
            clear Hnum Hvar Hop Hopx on ov ob
            go_wp2
            have HTd := Lib.hid (HT.out.alloc (.cells #[.int .i64 1, .int .i64 (t : Nat), .int .i64 sa, .int .i64 sb, .int .i64 sv] 87)).drew
            have HId := Lib.hid (Own.drew (HI.out.alloc (.cells #[.int .i64 1, .int .i64 (t : Nat), .int .i64 sa, .int .i64 sb, .int .i64 sv] 87)))
            have HWd := Lib.hid (HW.out.alloc HW.out.size (.cells #[.int .i64 1, .int .i64 (t : Nat), .int .i64 sa, .int .i64 sb, .int .i64 sv] 87)).drew
            have HG : Hid (wr.heap.size < (wr.alloc (.cells #[.int .i64 1, .int .i64 (t : Nat), .int .i64 sa, .int .i64 sb, .int .i64 sv] 87)).drew.heap.size ∧ wr.heap.size ≠ M + 1 ∧ wr.heap.size ≠ M ∧ v6.ownBlock ≠ some wr.heap.size) := Lib.hid ⟨by simp, by have := lt_of_heap HT.out.hT; omega, by have := lt_of_heap HT.out.hT; omega, fun e => by have := (own_lt HT.out.rt _ e).2; omega⟩
            have HGI : Hid (M + 1 + 1 < wr.heap.size) := Lib.hid (own_lt HI.out (M + 1 + 1) rfl).2
            refine wp_region_held_drew (S := fun w' => w'.cell? ⟨wr.heap.size, 1, none⟩ = some (.int .i64 (t : Nat)) ∧ w'.cell? ⟨wr.heap.size, 4, none⟩ = some (.int .i64 sv)) (by kernel_rfl) ⟨cell_new wr _ _ wr.heap.size rfl 1, cell_new wr _ _ wr.heap.size rfl 4⟩ (fun hH0 => ?_)
            generalize (wr.alloc (.cells #[.int .i64 1, .int .i64 (t : Nat), .int .i64 sa, .int .i64 sb, .int .i64 sv] 87)).drew = w0 at *
            generalize wr.heap.size = G at *
            clear HT HI HW
            refine wpAnyH_take (i := 0) (oi := { dst := some 77, op := Go.Op.move (Go.Operand.tmp 11), type := 23, pos := "weak.go:50", after := #[], guard := none }) rfl (by kernel_rfl) (by kernel_rfl) (by kernel_rfl) (fun _ _ _ h => h) (Or.inl ⟨by rfl, fun w hw => by (go_simp; try with_reducible rfl)⟩) (by assumption) ?_
            try simp only [Act.put, List.setIfInBounds_toArray, List.set_cons_zero, List.set_cons_succ]
            refine wpAnyH_take (i := 1) (oi := { dst := some 78, op := Go.Op.fieldAddr 87 (Go.Operand.tmp 14) 1, type := 0, pos := "weak.go:50", after := #[], guard := none }) rfl (by kernel_rfl) (by kernel_rfl) (by kernel_rfl) (fun _ _ _ h => h) (Or.inl ⟨by rfl, fun w hw => by (go_simp; try with_reducible rfl)⟩) (by assumption) ?_
            try simp only [Act.put, List.setIfInBounds_toArray, List.set_cons_zero, List.set_cons_succ]
            refine wpAnyH_take (i := 2) (oi := { dst := some 79, op := Go.Op.load 3 (Go.Operand.tmp 78), type := 3, pos := "weak.go:50", after := #[{ on := 1, ground := Go.Ground.data }], guard := none }) rfl (by kernel_rfl) (by kernel_rfl) (by kernel_rfl) (fun _ _ _ h => h) (Or.inl ⟨by rfl, fun w hw => by (obtain ⟨p0, p1⟩ := hw; go_simp; try with_reducible rfl)⟩) (by assumption) ?_
            try simp only [Act.put, List.setIfInBounds_toArray, List.set_cons_zero, List.set_cons_succ]
            refine wpAnyH_take (i := 3) (oi := { dst := some 80, op := Go.Op.move (Go.Operand.tmp 10), type := 133, pos := "weak.go:50", after := #[], guard := none }) rfl (by kernel_rfl) (by kernel_rfl) (by kernel_rfl) (fun _ _ _ h => h) (Or.inl ⟨by rfl, fun w hw => by (go_simp; try with_reducible rfl)⟩) (by assumption) ?_
            try simp only [Act.put, List.setIfInBounds_toArray, List.set_cons_zero, List.set_cons_succ]
            refine wpAnyH_take (i := 4) (oi := { dst := some 81, op := Go.Op.fieldAddr 87 (Go.Operand.tmp 14) 4, type := 0, pos := "weak.go:50", after := #[], guard := none }) rfl (by kernel_rfl) (by kernel_rfl) (by kernel_rfl) (fun _ _ _ h => h) (Or.inl ⟨by rfl, fun w hw => by (go_simp; try with_reducible rfl)⟩) (by assumption) ?_
            try simp only [Act.put, List.setIfInBounds_toArray, List.set_cons_zero, List.set_cons_succ]
            refine wpAnyH_take (i := 5) (oi := { dst := some 82, op := Go.Op.load 3 (Go.Operand.tmp 81), type := 3, pos := "weak.go:50", after := #[{ on := 4, ground := Go.Ground.data }], guard := none }) rfl (by kernel_rfl) (by kernel_rfl) (by kernel_rfl) (fun _ _ _ h => h) (Or.inl ⟨by rfl, fun w hw => by (obtain ⟨p0, p1⟩ := hw; go_simp; try with_reducible rfl)⟩) (by assumption) ?_
            try simp only [Act.put, List.setIfInBounds_toArray, List.set_cons_zero, List.set_cons_succ]
            refine wpAnyH_take (i := 6) (oi := { dst := some 83, op := Go.Op.build 62 #[(0, Go.Operand.const (Go.Value.int Go.IntKind.i64 1)), (3, Go.Operand.tmp 82)], type := 62, pos := "weak.go:50", after := #[{ on := 5, ground := Go.Ground.data }], guard := none }) rfl (by kernel_rfl) (by kernel_rfl) (by kernel_rfl) (fun _ _ _ h => h) (Or.inl ⟨by rfl, fun w hw => by (go_simp; try with_reducible rfl)⟩) (by assumption) ?_
            try simp only [Act.put, List.setIfInBounds_toArray, List.set_cons_zero, List.set_cons_succ]
            refine wpAnyH_ready (rs := [7]) (by kernel_rfl) (by simp) ?_
            refine AllReadyH.cons (o := { dst := some 84, op := Go.Op.call { callee := Go.Callee.value (Go.Operand.func 73), args := #[Go.Operand.tmp 80, Go.Operand.tmp 83], argTypes := #[133, 62] }, type := 3, pos := "weak.go:50", after := #[{ on := 3, ground := Go.Ground.data }, { on := 6, ground := Go.Ground.data }], guard := none }) rfl (fun K hK => ?_) AllReadyH.nil
            go_simp
            go_at_call 73
            refine (wkput_calls w0 (M + 1) M v6 ks ⟨1, 0, 0, sv⟩ HTd.out Hxi.out (by have := HEl.out; omega)).mono ?_
            rintro e w5 ⟨v7, rfl, hT5, hK5⟩
            have hI5 := hK5.ints _ _ _ (Nat.le_refl _) HId.out
            have hG5 : ∀ j, w5.cell? ⟨G, j, none⟩ = w0.cell? ⟨G, j, none⟩ := fun j => World.cell?_of_block (hK5.keep G HG.out.1 HG.out.2.1 HG.out.2.2.1 HG.out.2.2.2)
            obtain ⟨g5, eg5, _, hg5, _, hfz5, hcell5⟩ := OwnI.at2 hI5 (by have := His.out; omega)
            injection eg5 with eg5; injection eg5 with eg5
            subst eg5
            have Hc5 := Lib.hid (hcell5 t (by have := His.out; omega))
            have Hf5 := Lib.hid (hfz5 t)
            have HI6 := Lib.hid (OwnI.set_ hI5 (k := t) (by have := His.out; omega) (idxK ks ⟨1, 0, 0, sv⟩ : Nat))
            have HT6 := Lib.hid (hT5.setI hI5 t (.int .i64 (idxK ks ⟨1, 0, 0, sv⟩ : Nat)))
            have HW6 := Lib.hid ((hK5.bel w.heap.size w hw2 (by have := HWd.out.size; omega) HWd.out).setCell (p := ⟨M + 1 + 1, t, none⟩) (by show w.heap.size ≤ M + 1 + 1; omega) (.int .i64 (idxK ks ⟨1, 0, 0, sv⟩ : Nat)))
            refine hK.out _ _ ⟨(hG5 1).trans hH0.1, (hG5 4).trans hH0.2⟩ (fun hH1 => ?_)
            clear hcell5 hfz5 hI5 hT5 hK5 hG5
            clear hK hH0
            have hH0 := hH1
            clear hH1
            try simp only [Act.put, List.setIfInBounds_toArray, List.set_cons_zero, List.set_cons_succ]
            refine wpAnyH_take (i := 8) (oi := { dst := some 85, op := Go.Op.indexAddr 23 (Go.Operand.tmp 77) (Go.Operand.tmp 79), type := 0, pos := "weak.go:50", after := #[{ on := 0, ground := Go.Ground.data }, { on := 2, ground := Go.Ground.data }, { on := 0, ground := Go.Ground.phase }, { on := 1, ground := Go.Ground.phase }, { on := 2, ground := Go.Ground.phase }, { on := 3, ground := Go.Ground.phase }, { on := 4, ground := Go.Ground.phase }, { on := 5, ground := Go.Ground.phase }, { on := 6, ground := Go.Ground.phase }, { on := 7, ground := Go.Ground.phase }], guard := none }) rfl (by kernel_rfl) (by kernel_rfl) (by kernel_rfl) (fun _ _ _ h => h) (Or.inl ⟨by rfl, fun w hw => by (go_simp; try with_reducible rfl)⟩) (by assumption) ?_
            try simp only [Act.put, List.setIfInBounds_toArray, List.set_cons_zero, List.set_cons_succ]
            refine wpAnyH_ready (rs := [9]) (by kernel_rfl) (by simp) ?_
            refine AllReadyH.cons (o := { dst := none, op := Go.Op.store 3 (Go.Operand.tmp 85) (Go.Operand.tmp 84), type := 0, pos := "weak.go:50", after := #[{ on := 8, ground := Go.Ground.data }, { on := 7, ground := Go.Ground.data }, { on := 7, ground := Go.Ground.chain }, { on := 0, ground := Go.Ground.phase }, { on := 1, ground := Go.Ground.phase }, { on := 2, ground := Go.Ground.phase }, { on := 3, ground := Go.Ground.phase }, { on := 4, ground := Go.Ground.phase }, { on := 5, ground := Go.Ground.phase }, { on := 6, ground := Go.Ground.phase }, { on := 7, ground := Go.Ground.phase }], guard := none }) rfl (fun K hK => ?_) AllReadyH.nil
            have c9 := Hc5.out
            have f9 := Hf5.out
            go_simp
            clear c9 f9
            refine hK.out _ _ ⟨(World.cell?_setCell_far _ _ _ _ (by have := HGI.out; show M + 1 + 1 ≠ G; omega)).trans hH0.1, (World.cell?_setCell_far _ _ _ _ (by have := HGI.out; show M + 1 + 1 ≠ G; omega)).trans hH0.2⟩ (fun hH1 => ?_)
            clear hK hH0
            have hH0 := hH1
            clear hH1
            try simp only [Act.put, List.setIfInBounds_toArray, List.set_cons_zero, List.set_cons_succ]
            refine wpAnyH_done (by kernel_rfl) ?_ _
            clear hH0
            go_wp2
            go_roundw
            case rel => exact ⟨q + 1, v7, _, _, by have := Hlt.out; omega, by go_num, Lib.hid ⟨by rw [Htk.out]; exact Hn2.out, by have := (insK_len ks ⟨1, 0, 0, sv⟩).2; have := Hlen.out; omega⟩, HT6.out, HI6.out, HW6.out⟩
            case measure => have := Hlt.out; simp [intOf]; omega
          · have Hn2 := Lib.hid (Hvar.out rfl)
            obtain ⟨vv, rfl⟩ := Int.eq_ofNat_of_zero_le (ov rfl).1
            rw [Int.toNat_natCast] at Hn2
            have hvk : vv < k := by have := ov rfl; omega
            have hkt : ((t : Nat) : Int) < (k : Int) := by omega
            have hkv : ((vv : Nat) : Int) < (k : Int) := by omega
            clear Hnum Hvar Hop Hopx on ov ob
            go_wp2
            obtain ⟨w5, hw5⟩ : ∃ w5, w5 = wr.alloc (.cells #[.int .i64 2, .int .i64 (t : Nat), .int .i64 sa, .int .i64 sb, .int .i64 (vv : Nat)] 87) := ⟨_, rfl⟩
            rw [← hw5]
            have e1 : w5.cell? ⟨wr.heap.size, 1, none⟩ = some (.int .i64 (t : Nat)) := by rw [hw5]; exact cell_new wr _ _ wr.heap.size rfl 1
            have e4 : w5.cell? ⟨wr.heap.size, 4, none⟩ = some (.int .i64 (vv : Nat)) := by rw [hw5]; exact cell_new wr _ _ wr.heap.size rfl 4
            have HI5 := Lib.hid (show OwnI w5 (M + 1 + 1) 3 (.slice (some ⟨M + 1 + 1, 0, none⟩) k k) is by rw [hw5]; exact HI.out.alloc _)
            have HT5 := Lib.hid (show WT w5 (M + 1) M v6 ks by rw [hw5]; exact HT.out.alloc _)
            have HW5 := Lib.hid (show Below w.heap.size w w5 by rw [hw5]; exact HW.out.alloc HW.out.size _)
            obtain ⟨g5, eg5, _, hg5, _, hfz5, hcell5⟩ := OwnI.at2 HI5.out (by have := His.out; omega)
            injection eg5 with eg5; injection eg5 with eg5
            subst eg5
            have ct := hcell5 t (by have := His.out; omega)
            have cv := hcell5 vv (by have := His.out; omega)
            rw [← getI_get] at cv
            have ft := hfz5 t
            have HI6 := Lib.hid (OwnI.set_ HI5.out (k := t) (by have := His.out; omega) (is.getD vv 0))
            have HT6 := Lib.hid (HT5.out.setI HI5.out t (.int .i64 (is.getD vv 0)))
            have HW6 := Lib.hid (HW5.out.setCell (p := ⟨M + 1 + 1, t, none⟩) (by show w.heap.size ≤ M + 1 + 1; omega) (.int .i64 (is.getD vv 0)))
            generalize is.getD vv 0 = y at *
            clear hw5 hfz5 hcell5 HI HT HW
            go_still_tail 9, (by kernel_rfl)
            go_wp2
            go_roundw
            case rel => exact ⟨q + 1, v6, _, _, by have := Hlt.out; omega, by go_num, Lib.hid ⟨by rw [Htk.out]; exact Hn2.out, by have := Hlen.out; omega⟩, HT6.out.drew, HI6.out.drewN 1, HW6.out.drew⟩
            case measure => have := Hlt.out; simp [intOf]; omega
          · have hb3 := ob (by omega)
            have Hn2 := Lib.hid (Hop.out h3)
            have Hx2 := Lib.hid (Hopx.out h3)
            obtain ⟨⟨a0, a1⟩, b0, b1⟩ := hb3
            obtain ⟨na, rfl⟩ := Int.eq_ofNat_of_zero_le a0
            obtain ⟨nb, rfl⟩ := Int.eq_ofNat_of_zero_le b0
            rw [Int.toNat_natCast, Int.toNat_natCast] at Hn2 Hx2
            have hkt : ((t : Nat) : Int) < (k : Int) := by omega
            clear Hnum Hvar Hop Hopx on ov ob
            go_wp2
            have HTd := Lib.hid (HT.out.alloc (.cells #[.int .i64 op, .int .i64 (t : Nat), .int .i64 (na : Nat), .int .i64 (nb : Nat), .int .i64 sv] 87)).drew
            have HId := Lib.hid (Own.drew (HI.out.alloc (.cells #[.int .i64 op, .int .i64 (t : Nat), .int .i64 (na : Nat), .int .i64 (nb : Nat), .int .i64 sv] 87)))
            have HWd := Lib.hid (HW.out.alloc HW.out.size (.cells #[.int .i64 op, .int .i64 (t : Nat), .int .i64 (na : Nat), .int .i64 (nb : Nat), .int .i64 sv] 87)).drew
            have HG : Hid (wr.heap.size < (wr.alloc (.cells #[.int .i64 op, .int .i64 (t : Nat), .int .i64 (na : Nat), .int .i64 (nb : Nat), .int .i64 sv] 87)).drew.heap.size ∧ wr.heap.size ≠ M + 1 ∧ wr.heap.size ≠ M ∧ v6.ownBlock ≠ some wr.heap.size) := Lib.hid ⟨by simp, by have := lt_of_heap HT.out.hT; omega, by have := lt_of_heap HT.out.hT; omega, fun e => by have := (own_lt HT.out.rt _ e).2; omega⟩
            have HGI : Hid (M + 1 + 1 < wr.heap.size) := Lib.hid (own_lt HI.out (M + 1 + 1) rfl).2
            refine wp_region_held_drew (S := fun w' => w'.cell? ⟨wr.heap.size, 0, none⟩ = some (.int .i64 op) ∧ w'.cell? ⟨wr.heap.size, 1, none⟩ = some (.int .i64 (t : Nat)) ∧ w'.cell? ⟨wr.heap.size, 2, none⟩ = some (.int .i64 (na : Nat)) ∧ w'.cell? ⟨wr.heap.size, 3, none⟩ = some (.int .i64 (nb : Nat))) (by kernel_rfl) ⟨cell_new wr _ _ wr.heap.size rfl 0, cell_new wr _ _ wr.heap.size rfl 1, cell_new wr _ _ wr.heap.size rfl 2, cell_new wr _ _ wr.heap.size rfl 3⟩ (fun hH0 => ?_)
            generalize (wr.alloc (.cells #[.int .i64 op, .int .i64 (t : Nat), .int .i64 (na : Nat), .int .i64 (nb : Nat), .int .i64 sv] 87)).drew = w0 at *
            generalize wr.heap.size = G at *
            clear HT HI HW
            obtain ⟨g5, eg5, _, hg5, _, hfz5, hcell5⟩ := OwnI.at2 HId.out (by have := His.out; omega)
            injection eg5 with eg5; injection eg5 with eg5
            subst eg5
            have ca := hcell5 na (by have := His.out; omega)
            have cb := hcell5 nb (by have := His.out; omega)
            rw [← getI_get] at ca cb
            clear hfz5 hcell5
            have hya : Hid (0 ≤ is.getD na 0 ∧ is.getD na 0 < ks.length ∧ 0 ≤ is.getD nb 0 ∧ is.getD nb 0 < ks.length) := Lib.hid (by have := Hx2.out.2.2.2.2 h3; dsimp only at this; omega)
            clear Hx2
            generalize is.getD na 0 = ya at *
            generalize is.getD nb 0 = yb at *
            have Hxi : Hid ((⟨op, ya, yb, 0⟩ : Term).inI) := Lib.hid (inI_of (by have := hya.out; have := HEl.out; omega))
            refine wpAnyH_take (i := 0) (oi := { dst := some 56, op := Go.Op.move (Go.Operand.tmp 11), type := 23, pos := "weak.go:54", after := #[], guard := none }) rfl (by kernel_rfl) (by kernel_rfl) (by kernel_rfl) (fun _ _ _ h => h) (Or.inl ⟨by rfl, fun w hw => by (go_simp; try with_reducible rfl)⟩) (by assumption) ?_
            try simp only [Act.put, List.setIfInBounds_toArray, List.set_cons_zero, List.set_cons_succ]
            refine wpAnyH_take (i := 1) (oi := { dst := some 57, op := Go.Op.fieldAddr 87 (Go.Operand.tmp 14) 1, type := 0, pos := "weak.go:54", after := #[], guard := none }) rfl (by kernel_rfl) (by kernel_rfl) (by kernel_rfl) (fun _ _ _ h => h) (Or.inl ⟨by rfl, fun w hw => by (go_simp; try with_reducible rfl)⟩) (by assumption) ?_
            try simp only [Act.put, List.setIfInBounds_toArray, List.set_cons_zero, List.set_cons_succ]
            refine wpAnyH_take (i := 2) (oi := { dst := some 58, op := Go.Op.load 3 (Go.Operand.tmp 57), type := 3, pos := "weak.go:54", after := #[{ on := 1, ground := Go.Ground.data }], guard := none }) rfl (by kernel_rfl) (by kernel_rfl) (by kernel_rfl) (fun _ _ _ h => h) (Or.inl ⟨by rfl, fun w hw => by (obtain ⟨p0, p1, p2, p3⟩ := hw; go_simp; try with_reducible rfl)⟩) (by assumption) ?_
            try simp only [Act.put, List.setIfInBounds_toArray, List.set_cons_zero, List.set_cons_succ]
            refine wpAnyH_take (i := 3) (oi := { dst := some 59, op := Go.Op.move (Go.Operand.tmp 10), type := 133, pos := "weak.go:54", after := #[], guard := none }) rfl (by kernel_rfl) (by kernel_rfl) (by kernel_rfl) (fun _ _ _ h => h) (Or.inl ⟨by rfl, fun w hw => by (go_simp; try with_reducible rfl)⟩) (by assumption) ?_
            try simp only [Act.put, List.setIfInBounds_toArray, List.set_cons_zero, List.set_cons_succ]
            refine wpAnyH_take (i := 4) (oi := { dst := some 60, op := Go.Op.fieldAddr 87 (Go.Operand.tmp 14) 0, type := 0, pos := "weak.go:54", after := #[], guard := none }) rfl (by kernel_rfl) (by kernel_rfl) (by kernel_rfl) (fun _ _ _ h => h) (Or.inl ⟨by rfl, fun w hw => by (go_simp; try with_reducible rfl)⟩) (by assumption) ?_
            try simp only [Act.put, List.setIfInBounds_toArray, List.set_cons_zero, List.set_cons_succ]
            refine wpAnyH_take (i := 5) (oi := { dst := some 61, op := Go.Op.load 3 (Go.Operand.tmp 60), type := 3, pos := "weak.go:54", after := #[{ on := 4, ground := Go.Ground.data }], guard := none }) rfl (by kernel_rfl) (by kernel_rfl) (by kernel_rfl) (fun _ _ _ h => h) (Or.inl ⟨by rfl, fun w hw => by (obtain ⟨p0, p1, p2, p3⟩ := hw; go_simp; try with_reducible rfl)⟩) (by assumption) ?_
            try simp only [Act.put, List.setIfInBounds_toArray, List.set_cons_zero, List.set_cons_succ]
            refine wpAnyH_take (i := 6) (oi := { dst := some 62, op := Go.Op.move (Go.Operand.tmp 11), type := 23, pos := "weak.go:54", after := #[], guard := none }) rfl (by kernel_rfl) (by kernel_rfl) (by kernel_rfl) (fun _ _ _ h => h) (Or.inl ⟨by rfl, fun w hw => by (go_simp; try with_reducible rfl)⟩) (by assumption) ?_
            try simp only [Act.put, List.setIfInBounds_toArray, List.set_cons_zero, List.set_cons_succ]
            refine wpAnyH_take (i := 7) (oi := { dst := some 63, op := Go.Op.fieldAddr 87 (Go.Operand.tmp 14) 2, type := 0, pos := "weak.go:54", after := #[], guard := none }) rfl (by kernel_rfl) (by kernel_rfl) (by kernel_rfl) (fun _ _ _ h => h) (Or.inl ⟨by rfl, fun w hw => by (go_simp; try with_reducible rfl)⟩) (by assumption) ?_
            try simp only [Act.put, List.setIfInBounds_toArray, List.set_cons_zero, List.set_cons_succ]
            refine wpAnyH_take (i := 8) (oi := { dst := some 64, op := Go.Op.load 3 (Go.Operand.tmp 63), type := 3, pos := "weak.go:54", after := #[{ on := 7, ground := Go.Ground.data }], guard := none }) rfl (by kernel_rfl) (by kernel_rfl) (by kernel_rfl) (fun _ _ _ h => h) (Or.inl ⟨by rfl, fun w hw => by (obtain ⟨p0, p1, p2, p3⟩ := hw; go_simp; try with_reducible rfl)⟩) (by assumption) ?_
            try simp only [Act.put, List.setIfInBounds_toArray, List.set_cons_zero, List.set_cons_succ]
            refine wpAnyH_take (i := 9) (oi := { dst := some 65, op := Go.Op.indexAddr 23 (Go.Operand.tmp 62) (Go.Operand.tmp 64), type := 0, pos := "weak.go:54", after := #[{ on := 6, ground := Go.Ground.data }, { on := 8, ground := Go.Ground.data }], guard := none }) rfl (by kernel_rfl) (by kernel_rfl) (by kernel_rfl) (fun _ _ _ h => h) (Or.inl ⟨by rfl, fun w hw => by (go_simp; try with_reducible rfl)⟩) (by assumption) ?_
            try simp only [Act.put, List.setIfInBounds_toArray, List.set_cons_zero, List.set_cons_succ]
            refine wpAnyH_take (i := 11) (oi := { dst := some 67, op := Go.Op.move (Go.Operand.tmp 11), type := 23, pos := "weak.go:54", after := #[], guard := none }) rfl (by kernel_rfl) (by kernel_rfl) (by kernel_rfl) (fun _ _ _ h => h) (Or.inl ⟨by rfl, fun w hw => by (go_simp; try with_reducible rfl)⟩) (by assumption) ?_
            try simp only [Act.put, List.setIfInBounds_toArray, List.set_cons_zero, List.set_cons_succ]
            refine wpAnyH_take (i := 12) (oi := { dst := some 68, op := Go.Op.fieldAddr 87 (Go.Operand.tmp 14) 3, type := 0, pos := "weak.go:54", after := #[], guard := none }) rfl (by kernel_rfl) (by kernel_rfl) (by kernel_rfl) (fun _ _ _ h => h) (Or.inl ⟨by rfl, fun w hw => by (go_simp; try with_reducible rfl)⟩) (by assumption) ?_
            try simp only [Act.put, List.setIfInBounds_toArray, List.set_cons_zero, List.set_cons_succ]
            refine wpAnyH_take (i := 13) (oi := { dst := some 69, op := Go.Op.load 3 (Go.Operand.tmp 68), type := 3, pos := "weak.go:54", after := #[{ on := 12, ground := Go.Ground.data }], guard := none }) rfl (by kernel_rfl) (by kernel_rfl) (by kernel_rfl) (fun _ _ _ h => h) (Or.inl ⟨by rfl, fun w hw => by (obtain ⟨p0, p1, p2, p3⟩ := hw; go_simp; try with_reducible rfl)⟩) (by assumption) ?_
            try simp only [Act.put, List.setIfInBounds_toArray, List.set_cons_zero, List.set_cons_succ]
            refine wpAnyH_take (i := 14) (oi := { dst := some 70, op := Go.Op.indexAddr 23 (Go.Operand.tmp 67) (Go.Operand.tmp 69), type := 0, pos := "weak.go:54", after := #[{ on := 11, ground := Go.Ground.data }, { on := 13, ground := Go.Ground.data }], guard := none }) rfl (by kernel_rfl) (by kernel_rfl) (by kernel_rfl) (fun _ _ _ h => h) (Or.inl ⟨by rfl, fun w hw => by (go_simp; try with_reducible rfl)⟩) (by assumption) ?_
            try simp only [Act.put, List.setIfInBounds_toArray, List.set_cons_zero, List.set_cons_succ]
            refine wpAnyH_ready (rs := [10, 15]) (by kernel_rfl) (by simp) ?_
            refine AllReadyH.cons (o := { dst := some 66, op := Go.Op.load 3 (Go.Operand.tmp 65), type := 3, pos := "weak.go:54", after := #[{ on := 9, ground := Go.Ground.data }], guard := none }) rfl (fun K hK => ?_) ?_
            · have c9 := ca
              go_simp
              clear c9
              refine hK.out _ _ hH0 (fun hH1 => ?_)
              clear hK hH0
              have hH0 := hH1
              clear hH1
              try simp only [Act.put, List.setIfInBounds_toArray, List.set_cons_zero, List.set_cons_succ]
              refine wpAnyH_ready (rs := [15]) (by kernel_rfl) (by simp) ?_
              refine AllReadyH.cons (o := { dst := some 71, op := Go.Op.load 3 (Go.Operand.tmp 70), type := 3, pos := "weak.go:54", after := #[{ on := 14, ground := Go.Ground.data }], guard := none }) rfl (fun K hK => ?_) AllReadyH.nil
              have c9 := cb
              go_simp
              clear c9
              refine hK.out _ _ hH0 (fun hH1 => ?_)
              clear hK hH0
              have hH0 := hH1
              clear hH1
              try simp only [Act.put, List.setIfInBounds_toArray, List.set_cons_zero, List.set_cons_succ]
              refine wpAnyH_take (i := 16) (oi := { dst := some 72, op := Go.Op.build 62 #[(0, Go.Operand.tmp 61), (1, Go.Operand.tmp 66), (2, Go.Operand.tmp 71)], type := 62, pos := "weak.go:54", after := #[{ on := 5, ground := Go.Ground.data }, { on := 10, ground := Go.Ground.data }, { on := 15, ground := Go.Ground.data }], guard := none }) rfl (by kernel_rfl) (by kernel_rfl) (by kernel_rfl) (fun _ _ _ h => h) (Or.inl ⟨by rfl, fun w hw => by (go_simp; try with_reducible rfl)⟩) (by assumption) ?_
              try simp only [Act.put, List.setIfInBounds_toArray, List.set_cons_zero, List.set_cons_succ]
              refine wpAnyH_ready (rs := [17]) (by kernel_rfl) (by simp) ?_
              refine AllReadyH.cons (o := { dst := some 73, op := Go.Op.call { callee := Go.Callee.value (Go.Operand.func 73), args := #[Go.Operand.tmp 59, Go.Operand.tmp 72], argTypes := #[133, 62] }, type := 3, pos := "weak.go:54", after := #[{ on := 3, ground := Go.Ground.data }, { on := 16, ground := Go.Ground.data }], guard := none }) rfl (fun K hK => ?_) AllReadyH.nil
              go_simp
              go_at_call 73
              refine (wkput_calls w0 (M + 1) M v6 ks ⟨op, ya, yb, 0⟩ HTd.out Hxi.out (by have := HEl.out; omega)).mono ?_
              rintro e w5 ⟨v7, rfl, hT5, hK5⟩
              have hI5 := hK5.ints _ _ _ (Nat.le_refl _) HId.out
              have hG5 : ∀ j, w5.cell? ⟨G, j, none⟩ = w0.cell? ⟨G, j, none⟩ := fun j => World.cell?_of_block (hK5.keep G HG.out.1 HG.out.2.1 HG.out.2.2.1 HG.out.2.2.2)
              obtain ⟨g5, eg5, _, hg5, _, hfz5, hcell5⟩ := OwnI.at2 hI5 (by have := His.out; omega)
              injection eg5 with eg5; injection eg5 with eg5
              subst eg5
              have Hc5 := Lib.hid (hcell5 t (by have := His.out; omega))
              have Hf5 := Lib.hid (hfz5 t)
              have HI6 := Lib.hid (OwnI.set_ hI5 (k := t) (by have := His.out; omega) (idxK ks ⟨op, ya, yb, 0⟩ : Nat))
              have HT6 := Lib.hid (hT5.setI hI5 t (.int .i64 (idxK ks ⟨op, ya, yb, 0⟩ : Nat)))
              have HW6 := Lib.hid ((hK5.bel w.heap.size w hw2 (by have := HWd.out.size; omega) HWd.out).setCell (p := ⟨M + 1 + 1, t, none⟩) (by show w.heap.size ≤ M + 1 + 1; omega) (.int .i64 (idxK ks ⟨op, ya, yb, 0⟩ : Nat)))
              refine hK.out _ _ ⟨(hG5 0).trans hH0.1, (hG5 1).trans hH0.2.1, (hG5 2).trans hH0.2.2.1, (hG5 3).trans hH0.2.2.2⟩ (fun hH1 => ?_)
              clear hcell5 hfz5 hI5 hT5 hK5 hG5
              clear hK hH0
              have hH0 := hH1
              clear hH1
              try simp only [Act.put, List.setIfInBounds_toArray, List.set_cons_zero, List.set_cons_succ]
              refine wpAnyH_take (i := 18) (oi := { dst := some 74, op := Go.Op.indexAddr 23 (Go.Operand.tmp 56) (Go.Operand.tmp 58), type := 0, pos := "weak.go:54", after := #[{ on := 0, ground := Go.Ground.data }, { on := 2, ground := Go.Ground.data }, { on := 0, ground := Go.Ground.phase }, { on := 1, ground := Go.Ground.phase }, { on := 2, ground := Go.Ground.phase }, { on := 3, ground := Go.Ground.phase }, { on := 4, ground := Go.Ground.phase }, { on := 5, ground := Go.Ground.phase }, { on := 6, ground := Go.Ground.phase }, { on := 7, ground := Go.Ground.phase }, { on := 8, ground := Go.Ground.phase }, { on := 9, ground := Go.Ground.phase }, { on := 10, ground := Go.Ground.phase }, { on := 11, ground := Go.Ground.phase }, { on := 12, ground := Go.Ground.phase }, { on := 13, ground := Go.Ground.phase }, { on := 14, ground := Go.Ground.phase }, { on := 15, ground := Go.Ground.phase }, { on := 16, ground := Go.Ground.phase }, { on := 17, ground := Go.Ground.phase }], guard := none }) rfl (by kernel_rfl) (by kernel_rfl) (by kernel_rfl) (fun _ _ _ h => h) (Or.inl ⟨by rfl, fun w hw => by (go_simp; try with_reducible rfl)⟩) (by assumption) ?_
              try simp only [Act.put, List.setIfInBounds_toArray, List.set_cons_zero, List.set_cons_succ]
              refine wpAnyH_ready (rs := [19]) (by kernel_rfl) (by simp) ?_
              refine AllReadyH.cons (o := { dst := none, op := Go.Op.store 3 (Go.Operand.tmp 74) (Go.Operand.tmp 73), type := 0, pos := "weak.go:54", after := #[{ on := 18, ground := Go.Ground.data }, { on := 17, ground := Go.Ground.data }, { on := 17, ground := Go.Ground.chain }, { on := 0, ground := Go.Ground.phase }, { on := 1, ground := Go.Ground.phase }, { on := 2, ground := Go.Ground.phase }, { on := 3, ground := Go.Ground.phase }, { on := 4, ground := Go.Ground.phase }, { on := 5, ground := Go.Ground.phase }, { on := 6, ground := Go.Ground.phase }, { on := 7, ground := Go.Ground.phase }, { on := 8, ground := Go.Ground.phase }, { on := 9, ground := Go.Ground.phase }, { on := 10, ground := Go.Ground.phase }, { on := 11, ground := Go.Ground.phase }, { on := 12, ground := Go.Ground.phase }, { on := 13, ground := Go.Ground.phase }, { on := 14, ground := Go.Ground.phase }, { on := 15, ground := Go.Ground.phase }, { on := 16, ground := Go.Ground.phase }, { on := 17, ground := Go.Ground.phase }], guard := none }) rfl (fun K hK => ?_) AllReadyH.nil
              have c9 := Hc5.out
              have f9 := Hf5.out
              go_simp
              clear c9 f9
              refine hK.out _ _ ⟨(World.cell?_setCell_far _ _ _ _ (by have := HGI.out; show M + 1 + 1 ≠ G; omega)).trans hH0.1, (World.cell?_setCell_far _ _ _ _ (by have := HGI.out; show M + 1 + 1 ≠ G; omega)).trans hH0.2.1, (World.cell?_setCell_far _ _ _ _ (by have := HGI.out; show M + 1 + 1 ≠ G; omega)).trans hH0.2.2.1, (World.cell?_setCell_far _ _ _ _ (by have := HGI.out; show M + 1 + 1 ≠ G; omega)).trans hH0.2.2.2⟩ (fun hH1 => ?_)
              clear hK hH0
              have hH0 := hH1
              clear hH1
              try simp only [Act.put, List.setIfInBounds_toArray, List.set_cons_zero, List.set_cons_succ]
              refine wpAnyH_done (by kernel_rfl) ?_ _
              clear hH0
              go_wp2
              go_roundw
              case rel => exact ⟨q + 1, v7, _, _, by have := Hlt.out; omega, by go_num, Lib.hid ⟨by rw [Htk.out]; exact Hn2.out, by have := (insK_len ks ⟨op, ya, yb, 0⟩).2; have := Hlen.out; omega⟩, HT6.out, HI6.out, HW6.out⟩
              case measure => have := Hlt.out; simp [intOf]; omega
            refine AllReadyH.cons (o := { dst := some 71, op := Go.Op.load 3 (Go.Operand.tmp 70), type := 3, pos := "weak.go:54", after := #[{ on := 14, ground := Go.Ground.data }], guard := none }) rfl (fun K hK => ?_) AllReadyH.nil
            have c9 := cb
            go_simp
            clear c9
            refine hK.out _ _ hH0 (fun hH1 => ?_)
            clear hK hH0
            have hH0 := hH1
            clear hH1
            try simp only [Act.put, List.setIfInBounds_toArray, List.set_cons_zero, List.set_cons_succ]
            refine wpAnyH_ready (rs := [10]) (by kernel_rfl) (by simp) ?_
            refine AllReadyH.cons (o := { dst := some 66, op := Go.Op.load 3 (Go.Operand.tmp 65), type := 3, pos := "weak.go:54", after := #[{ on := 9, ground := Go.Ground.data }], guard := none }) rfl (fun K hK => ?_) AllReadyH.nil
            have c9 := ca
            go_simp
            clear c9
            refine hK.out _ _ hH0 (fun hH1 => ?_)
            clear hK hH0
            have hH0 := hH1
            clear hH1
            try simp only [Act.put, List.setIfInBounds_toArray, List.set_cons_zero, List.set_cons_succ]
            refine wpAnyH_take (i := 16) (oi := { dst := some 72, op := Go.Op.build 62 #[(0, Go.Operand.tmp 61), (1, Go.Operand.tmp 66), (2, Go.Operand.tmp 71)], type := 62, pos := "weak.go:54", after := #[{ on := 5, ground := Go.Ground.data }, { on := 10, ground := Go.Ground.data }, { on := 15, ground := Go.Ground.data }], guard := none }) rfl (by kernel_rfl) (by kernel_rfl) (by kernel_rfl) (fun _ _ _ h => h) (Or.inl ⟨by rfl, fun w hw => by (go_simp; try with_reducible rfl)⟩) (by assumption) ?_
            try simp only [Act.put, List.setIfInBounds_toArray, List.set_cons_zero, List.set_cons_succ]
            refine wpAnyH_ready (rs := [17]) (by kernel_rfl) (by simp) ?_
            refine AllReadyH.cons (o := { dst := some 73, op := Go.Op.call { callee := Go.Callee.value (Go.Operand.func 73), args := #[Go.Operand.tmp 59, Go.Operand.tmp 72], argTypes := #[133, 62] }, type := 3, pos := "weak.go:54", after := #[{ on := 3, ground := Go.Ground.data }, { on := 16, ground := Go.Ground.data }], guard := none }) rfl (fun K hK => ?_) AllReadyH.nil
            go_simp
            go_at_call 73
            refine (wkput_calls w0 (M + 1) M v6 ks ⟨op, ya, yb, 0⟩ HTd.out Hxi.out (by have := HEl.out; omega)).mono ?_
            rintro e w5 ⟨v7, rfl, hT5, hK5⟩
            have hI5 := hK5.ints _ _ _ (Nat.le_refl _) HId.out
            have hG5 : ∀ j, w5.cell? ⟨G, j, none⟩ = w0.cell? ⟨G, j, none⟩ := fun j => World.cell?_of_block (hK5.keep G HG.out.1 HG.out.2.1 HG.out.2.2.1 HG.out.2.2.2)
            obtain ⟨g5, eg5, _, hg5, _, hfz5, hcell5⟩ := OwnI.at2 hI5 (by have := His.out; omega)
            injection eg5 with eg5; injection eg5 with eg5
            subst eg5
            have Hc5 := Lib.hid (hcell5 t (by have := His.out; omega))
            have Hf5 := Lib.hid (hfz5 t)
            have HI6 := Lib.hid (OwnI.set_ hI5 (k := t) (by have := His.out; omega) (idxK ks ⟨op, ya, yb, 0⟩ : Nat))
            have HT6 := Lib.hid (hT5.setI hI5 t (.int .i64 (idxK ks ⟨op, ya, yb, 0⟩ : Nat)))
            have HW6 := Lib.hid ((hK5.bel w.heap.size w hw2 (by have := HWd.out.size; omega) HWd.out).setCell (p := ⟨M + 1 + 1, t, none⟩) (by show w.heap.size ≤ M + 1 + 1; omega) (.int .i64 (idxK ks ⟨op, ya, yb, 0⟩ : Nat)))
            refine hK.out _ _ ⟨(hG5 0).trans hH0.1, (hG5 1).trans hH0.2.1, (hG5 2).trans hH0.2.2.1, (hG5 3).trans hH0.2.2.2⟩ (fun hH1 => ?_)
            clear hcell5 hfz5 hI5 hT5 hK5 hG5
            clear hK hH0
            have hH0 := hH1
            clear hH1
            try simp only [Act.put, List.setIfInBounds_toArray, List.set_cons_zero, List.set_cons_succ]
            refine wpAnyH_take (i := 18) (oi := { dst := some 74, op := Go.Op.indexAddr 23 (Go.Operand.tmp 56) (Go.Operand.tmp 58), type := 0, pos := "weak.go:54", after := #[{ on := 0, ground := Go.Ground.data }, { on := 2, ground := Go.Ground.data }, { on := 0, ground := Go.Ground.phase }, { on := 1, ground := Go.Ground.phase }, { on := 2, ground := Go.Ground.phase }, { on := 3, ground := Go.Ground.phase }, { on := 4, ground := Go.Ground.phase }, { on := 5, ground := Go.Ground.phase }, { on := 6, ground := Go.Ground.phase }, { on := 7, ground := Go.Ground.phase }, { on := 8, ground := Go.Ground.phase }, { on := 9, ground := Go.Ground.phase }, { on := 10, ground := Go.Ground.phase }, { on := 11, ground := Go.Ground.phase }, { on := 12, ground := Go.Ground.phase }, { on := 13, ground := Go.Ground.phase }, { on := 14, ground := Go.Ground.phase }, { on := 15, ground := Go.Ground.phase }, { on := 16, ground := Go.Ground.phase }, { on := 17, ground := Go.Ground.phase }], guard := none }) rfl (by kernel_rfl) (by kernel_rfl) (by kernel_rfl) (fun _ _ _ h => h) (Or.inl ⟨by rfl, fun w hw => by (go_simp; try with_reducible rfl)⟩) (by assumption) ?_
            try simp only [Act.put, List.setIfInBounds_toArray, List.set_cons_zero, List.set_cons_succ]
            refine wpAnyH_ready (rs := [19]) (by kernel_rfl) (by simp) ?_
            refine AllReadyH.cons (o := { dst := none, op := Go.Op.store 3 (Go.Operand.tmp 74) (Go.Operand.tmp 73), type := 0, pos := "weak.go:54", after := #[{ on := 18, ground := Go.Ground.data }, { on := 17, ground := Go.Ground.data }, { on := 17, ground := Go.Ground.chain }, { on := 0, ground := Go.Ground.phase }, { on := 1, ground := Go.Ground.phase }, { on := 2, ground := Go.Ground.phase }, { on := 3, ground := Go.Ground.phase }, { on := 4, ground := Go.Ground.phase }, { on := 5, ground := Go.Ground.phase }, { on := 6, ground := Go.Ground.phase }, { on := 7, ground := Go.Ground.phase }, { on := 8, ground := Go.Ground.phase }, { on := 9, ground := Go.Ground.phase }, { on := 10, ground := Go.Ground.phase }, { on := 11, ground := Go.Ground.phase }, { on := 12, ground := Go.Ground.phase }, { on := 13, ground := Go.Ground.phase }, { on := 14, ground := Go.Ground.phase }, { on := 15, ground := Go.Ground.phase }, { on := 16, ground := Go.Ground.phase }, { on := 17, ground := Go.Ground.phase }], guard := none }) rfl (fun K hK => ?_) AllReadyH.nil
            have c9 := Hc5.out
            have f9 := Hf5.out
            go_simp
            clear c9 f9
            refine hK.out _ _ ⟨(World.cell?_setCell_far _ _ _ _ (by have := HGI.out; show M + 1 + 1 ≠ G; omega)).trans hH0.1, (World.cell?_setCell_far _ _ _ _ (by have := HGI.out; show M + 1 + 1 ≠ G; omega)).trans hH0.2.1, (World.cell?_setCell_far _ _ _ _ (by have := HGI.out; show M + 1 + 1 ≠ G; omega)).trans hH0.2.2.1, (World.cell?_setCell_far _ _ _ _ (by have := HGI.out; show M + 1 + 1 ≠ G; omega)).trans hH0.2.2.2⟩ (fun hH1 => ?_)
            clear hK hH0
            have hH0 := hH1
            clear hH1
            try simp only [Act.put, List.setIfInBounds_toArray, List.set_cons_zero, List.set_cons_succ]
            refine wpAnyH_done (by kernel_rfl) ?_ _
            clear hH0
            go_wp2
            go_roundw
            case rel => exact ⟨q + 1, v7, _, _, by have := Hlt.out; omega, by go_num, Lib.hid ⟨by rw [Htk.out]; exact Hn2.out, by have := (insK_len ks ⟨op, ya, yb, 0⟩).2; have := Hlen.out; omega⟩, HT6.out, HI6.out, HW6.out⟩
            case measure => have := Hlt.out; simp [intOf]; omega
        · have : q = code.length := by omega
          subst this
          have Hen := Lib.hid HE.out
          rw [List.take_length] at Hen
          obtain ⟨wo, rfl⟩ : ∃ wo : World, wo = wr := ⟨_, rfl⟩
          clear HE
          go_wp2
          go_loopw [15, 100] (fun v i wr => ∃ (q : Nat) (v6 : Value) (ks : List Term) (at_ : List Int), q ≤ post.length ∧ i = .int .i64 q ∧ Hid (AtK (k : Int) k code post q ks is at_ ∧ ks.length ≤ k + 20 + q) ∧ WT wr (M + 1) M v6 ks ∧ OwnI wr (M + 1 + 1) 3 (.slice (some ⟨M + 1 + 1, 0, none⟩) k k) is ∧ OwnI wr (M + 1 + 1 + 1) 3 v at_ ∧ Below w.heap.size w wr) (fun _ i _ => post.length - (intOf i).toNat)
          case atStart => exact ⟨0, v6, ks, [], Nat.zero_le _, rfl, Lib.hid ⟨AtK.start Hen.out.1, by have := Hen.out.2; omega⟩, HT.out, HI.out, Own.nil_ _ _ _, HW.out⟩
          case round =>
            clear HT HI HW Hen HEl
            obtain ⟨q, v6, ks, at_, hq, rfl, HE, hT, hI, hAt, hW⟩ := hrel
            obtain ⟨Av, cv, rfl, -⟩ := OwnI.rd hAt
            have hal : at_.length = q := HE.out.1.len
            rw [hal] at hAt ⊢
            have HT := Lib.hid hT
            have HI := Lib.hid hI
            have HAt := Lib.hid hAt
            have HW := Lib.hid hW
            have hws := hW.size
            have Hal := Lib.hid hal
            have hl6 : at_.length < 1000000 := by omega
            have HEl := Lib.hid (show ks.length ≤ 45 by have := HE.out.2; omega)
            have hIs := (own_lt hI (M + 1 + 1) rfl).2
            clear hT hI hAt hW hal
            by_cases hlt : q < post.length
            · have Hlt := Lib.hid hlt
              have q1 : ((q : Nat) : Int) < ((post.length : Nat) : Int) := by omega
              obtain ⟨b, off, rfl, hb, c0, c1, c2', c3⟩ := RdT.at4 (Rd.below HB.out HW.out) hlt
              have hs := Htok.out q hlt
              have Hlen := Lib.hid HE.out.2
              have Hnum := Lib.hid (fun h => HE.out.1.num hlt hs h)
              have Hvar := Lib.hid (fun h => HE.out.1.var hlt hs rfl h)
              have Hop := Lib.hid (fun h => HE.out.1.op hlt hs h)
              have Hopx := Lib.hid (fun h => HE.out.1.opx hlt hs h)
              generalize post[q] = s at *
              obtain ⟨op, ta, tb, tv⟩ := s
              obtain ⟨o1, o6, on, ov, ob⟩ := hs
              dsimp only at c0 c1 c2' c3 o1 o6 on ov ob Hnum Hvar Hop Hopx
              clear hlt HE
              rcases (show op = 1 ∨ op = 2 ∨ (3 ≤ op ∧ op ≤ 6) by omega) with rfl | rfl | ⟨h3, h6⟩
              · have Hn2 := Lib.hid (Hnum.out rfl)
                have Hxi : Hid ((⟨1, 0, 0, tv⟩ : Term).inI) := Lib.hid (inI_of (by have := on rfl; omega))
                clear Hnum Hvar Hop Hopx on ov ob
                go_wp2_with (first
                | (go_at_call 73
                   refine (wkput_calls _ (M + 1) M v6 ks ⟨1, 0, 0, tv⟩ (HT.out.alloc _) Hxi.out (by have := HEl.out; omega)).mono ?_
                   rintro e w5 ⟨v7, rfl, hT5, hK5⟩
                   have HT5 := Lib.hid hT5
                   have HI5 := Lib.hid (hK5.ints _ _ _ (Nat.le_refl _) (HI.out.alloc _))
                   have HA5 := Lib.hid (hK5.ints _ _ _ (by omega) (HAt.out.alloc _))
                   have HA5s : Hid (M + 1 + 1 < w5.heap.size) := Lib.hid (by have := (own_lt HI5.out (M + 1 + 1) rfl).2; omega)
                   have HW5 := Lib.hid (hK5.bel w.heap.size w hw2 (by have := HW.out.size; simp; omega) (HW.out.alloc HW.out.size _))
                   clear hT5 hK5)
                | (at_builtin
                   refine wpList_appI rfl _ _ rfl (M + 1 + 1 + 1) _ _ (idxK ks ⟨1, 0, 0, tv⟩ : Nat) rfl (HA5.out.alloc _) _ _ rfl (cell_new _ _ _ _ (by simp) _) hl6 (by have := HA5s.out; simp; omega) ?_
                   intro v8 w8 hA8 hg8
                   have HA8 := Lib.hid hA8
                   have HT8 := Lib.hid ((HT5.out.alloc _).app (HA5.out.alloc _) (by omega) hg8)
                   have HI8 := Lib.hid (isKeep (HI5.out.alloc _) (HA5.out.alloc _) (by omega) hg8)
                   have HW8 := Lib.hid (below_own (HW5.out.alloc HW5.out.size _) hg8 (HA5.out.alloc _) (by omega) (by have := HW5.out.size; simp; omega))
                   clear hA8 hg8))
                go_roundw
                case rel => exact ⟨q + 1, v7, _, _, by have := Hlt.out; omega, by go_num, Lib.hid ⟨Hn2.out, by have := (insK_len ks ⟨1, 0, 0, tv⟩).2; have := Hlen.out; omega⟩, HT8.out, HI8.out, HA8.out, HW8.out⟩
                case measure => have := Hlt.out; simp [intOf]; omega
              · have Hn2 := Lib.hid (Hvar.out rfl)
                obtain ⟨vv, rfl⟩ := Int.eq_ofNat_of_zero_le (ov rfl).1
                rw [Int.toNat_natCast] at Hn2
                have hvk : vv < k := by have := ov rfl; omega
                have hkv : ((vv : Nat) : Int) < (k : Int) := by omega
                clear Hnum Hvar Hop Hopx on ov ob
                obtain ⟨g5, eg5, _, hg5, _, hfz5, hcell5⟩ := OwnI.at2 HI.out (by have := His.out; omega)
                injection eg5 with eg5; injection eg5 with eg5
                subst eg5
                have cv0 := hcell5 vv (by have := His.out; omega)
                rw [← getI_get] at cv0
                clear hfz5 hcell5
                have cvx : (wr.alloc (.cells #[.int .i64 2, .int .i64 ta, .int .i64 tb, .int .i64 (vv : Nat)] 62)).cell? ⟨M + 1 + 1, vv, none⟩ = some (.int .i64 (is.getD vv 0)) := (cell_grown (World.grownBy_alloc wr _ none) _ vv hIs (by simp)).trans cv0
                generalize is.getD vv 0 = y at *
                have HT5 := Lib.hid (HT.out.alloc (.cells #[.int .i64 2, .int .i64 ta, .int .i64 tb, .int .i64 (vv : Nat)] 62))
                have HI5 := Lib.hid (HI.out.alloc (.cells #[.int .i64 2, .int .i64 ta, .int .i64 tb, .int .i64 (vv : Nat)] 62))
                have HA5 := Lib.hid (HAt.out.alloc (.cells #[.int .i64 2, .int .i64 ta, .int .i64 tb, .int .i64 (vv : Nat)] 62))
                have HW5 := Lib.hid (HW.out.alloc HW.out.size (.cells #[.int .i64 2, .int .i64 ta, .int .i64 tb, .int .i64 (vv : Nat)] 62))
                have HA5s : Hid (M + 1 + 1 < (wr.alloc (.cells #[.int .i64 2, .int .i64 ta, .int .i64 tb, .int .i64 (vv : Nat)] 62)).heap.size) := Lib.hid (by simp; omega)
                clear cv0
                go_wp2_with (first
                | (at_builtin
                   refine wpList_appI rfl _ _ rfl (M + 1 + 1 + 1) _ _ y rfl (HA5.out.alloc _) _ _ rfl (cell_new _ _ _ _ (by simp) _) hl6 (by have := HA5s.out; simp; omega) ?_
                   intro v8 w8 hA8 hg8
                   have HA8 := Lib.hid hA8
                   have HT8 := Lib.hid ((HT5.out.alloc _).app (HA5.out.alloc _) (by omega) hg8)
                   have HI8 := Lib.hid (isKeep (HI5.out.alloc _) (HA5.out.alloc _) (by omega) hg8)
                   have HW8 := Lib.hid (below_own (HW5.out.alloc HW5.out.size _) hg8 (HA5.out.alloc _) (by omega) (by have := HW5.out.size; simp; omega))
                   clear hA8 hg8)
                | fail)
                go_roundw
                case rel => exact ⟨q + 1, v6, _, _, by have := Hlt.out; omega, by go_num, Lib.hid ⟨Hn2.out, by have := Hlen.out; omega⟩, HT8.out, HI8.out, HA8.out, HW8.out⟩
                case measure => have := Hlt.out; simp [intOf]; omega
              · have hb3 := ob (by omega)
                have Hn2 := Lib.hid (Hop.out h3)
                have Hx2 := Lib.hid (Hopx.out h3)
                obtain ⟨a0, a1, b0, b1⟩ := hb3
                obtain ⟨na, rfl⟩ := Int.eq_ofNat_of_zero_le a0
                obtain ⟨nb, rfl⟩ := Int.eq_ofNat_of_zero_le b0
                rw [Int.toNat_natCast, Int.toNat_natCast] at Hn2 Hx2
                clear Hnum Hvar Hop Hopx on ov ob
                obtain ⟨g5, rfl, _, hg5, _, hfz5, hcell5⟩ := OwnI.at2 HAt.out (by have := Hal.out; omega)
                clear hfz5 hcell5 hg5
                go_wp2
                have HTd := Lib.hid (HT.out.alloc (.cells #[.int .i64 op, .int .i64 (na : Nat), .int .i64 (nb : Nat), .int .i64 tv] 62)).drew
                have HId := Lib.hid (Own.drew (HI.out.alloc (.cells #[.int .i64 op, .int .i64 (na : Nat), .int .i64 (nb : Nat), .int .i64 tv] 62)))
                have HAd := Lib.hid (Own.drew (HAt.out.alloc (.cells #[.int .i64 op, .int .i64 (na : Nat), .int .i64 (nb : Nat), .int .i64 tv] 62)))
                have HWd := Lib.hid (HW.out.alloc HW.out.size (.cells #[.int .i64 op, .int .i64 (na : Nat), .int .i64 (nb : Nat), .int .i64 tv] 62)).drew
                have HG : Hid (wr.heap.size < (wr.alloc (.cells #[.int .i64 op, .int .i64 (na : Nat), .int .i64 (nb : Nat), .int .i64 tv] 62)).drew.heap.size ∧ wr.heap.size ≠ M + 1 ∧ wr.heap.size ≠ M ∧ v6.ownBlock ≠ some wr.heap.size) := Lib.hid ⟨by simp, by have := lt_of_heap HT.out.hT; omega, by have := lt_of_heap HT.out.hT; omega, fun e => by have := (own_lt HT.out.rt _ e).2; omega⟩
                have HAG : Hid (∀ g, (Value.slice (some ⟨g5, 0, none⟩) q cv).ownBlock = some g → g ≠ wr.heap.size) := Lib.hid (fun g e => by have := (own_lt HAt.out g e).2; omega)
                refine wp_region_held_drew (S := fun w' => w'.cell? ⟨wr.heap.size, 0, none⟩ = some (.int .i64 op) ∧ w'.cell? ⟨wr.heap.size, 1, none⟩ = some (.int .i64 (na : Nat)) ∧ w'.cell? ⟨wr.heap.size, 2, none⟩ = some (.int .i64 (nb : Nat))) (by kernel_rfl) ⟨cell_new wr _ _ wr.heap.size rfl 0, cell_new wr _ _ wr.heap.size rfl 1, cell_new wr _ _ wr.heap.size rfl 2⟩ (fun hH0 => ?_)
                generalize (wr.alloc (.cells #[.int .i64 op, .int .i64 (na : Nat), .int .i64 (nb : Nat), .int .i64 tv] 62)).drew = w0 at *
                generalize wr.heap.size = G at *
                clear HT HI HAt HW
                obtain ⟨g7, eg7, _, hg7, _, hfz7, hcell7⟩ := OwnI.at2 HAd.out (by have := Hal.out; omega)
                injection eg7 with eg7; injection eg7 with eg7
                subst eg7
                have ca := hcell7 na (by have := Hal.out; omega)
                have cb := hcell7 nb (by have := Hal.out; omega)
                rw [← getI_get] at ca cb
                clear hfz7 hcell7
                have hya : Hid (0 ≤ at_.getD na 0 ∧ at_.getD na 0 < ks.length ∧ 0 ≤ at_.getD nb 0 ∧ at_.getD nb 0 < ks.length) := Lib.hid (by have := Hx2.out.2.2.2.2 h3; dsimp only at this; omega)
                clear Hx2
                generalize at_.getD na 0 = ya at *
                generalize at_.getD nb 0 = yb at *
                have Hxi : Hid ((⟨op, ya, yb, 0⟩ : Term).inI) := Lib.hid (inI_of (by have := hya.out; have := HEl.out; omega))
                refine wpAnyH_take (i := 0) (oi := { dst := some 106, op := Go.Op.move (Go.Operand.tmp 15), type := 23, pos := "weak.go:65", after := #[], guard := none }) rfl (by kernel_rfl) (by kernel_rfl) (by kernel_rfl) (fun _ _ _ h => h) (Or.inl ⟨by rfl, fun w hw => by (go_simp; try with_reducible rfl)⟩) (by assumption) ?_
                try simp only [Act.put, List.setIfInBounds_toArray, List.set_cons_zero, List.set_cons_succ]
                refine wpAnyH_take (i := 1) (oi := { dst := some 107, op := Go.Op.move (Go.Operand.tmp 10), type := 133, pos := "weak.go:65", after := #[], guard := none }) rfl (by kernel_rfl) (by kernel_rfl) (by kernel_rfl) (fun _ _ _ h => h) (Or.inl ⟨by rfl, fun w hw => by (go_simp; try with_reducible rfl)⟩) (by assumption) ?_
                try simp only [Act.put, List.setIfInBounds_toArray, List.set_cons_zero, List.set_cons_succ]
                refine wpAnyH_take (i := 2) (oi := { dst := some 108, op := Go.Op.fieldAddr 62 (Go.Operand.tmp 17) 0, type := 0, pos := "weak.go:65", after := #[], guard := none }) rfl (by kernel_rfl) (by kernel_rfl) (by kernel_rfl) (fun _ _ _ h => h) (Or.inl ⟨by rfl, fun w hw => by (go_simp; try with_reducible rfl)⟩) (by assumption) ?_
                try simp only [Act.put, List.setIfInBounds_toArray, List.set_cons_zero, List.set_cons_succ]
                refine wpAnyH_take (i := 3) (oi := { dst := some 109, op := Go.Op.load 3 (Go.Operand.tmp 108), type := 3, pos := "weak.go:65", after := #[{ on := 2, ground := Go.Ground.data }], guard := none }) rfl (by kernel_rfl) (by kernel_rfl) (by kernel_rfl) (fun _ _ _ h => h) (Or.inl ⟨by rfl, fun w hw => by (obtain ⟨p0, p1, p2⟩ := hw; go_simp; try with_reducible rfl)⟩) (by assumption) ?_
                try simp only [Act.put, List.setIfInBounds_toArray, List.set_cons_zero, List.set_cons_succ]
                refine wpAnyH_take (i := 4) (oi := { dst := some 110, op := Go.Op.move (Go.Operand.tmp 15), type := 23, pos := "weak.go:65", after := #[], guard := none }) rfl (by kernel_rfl) (by kernel_rfl) (by kernel_rfl) (fun _ _ _ h => h) (Or.inl ⟨by rfl, fun w hw => by (go_simp; try with_reducible rfl)⟩) (by assumption) ?_
                try simp only [Act.put, List.setIfInBounds_toArray, List.set_cons_zero, List.set_cons_succ]
                refine wpAnyH_take (i := 5) (oi := { dst := some 111, op := Go.Op.fieldAddr 62 (Go.Operand.tmp 17) 1, type := 0, pos := "weak.go:65", after := #[], guard := none }) rfl (by kernel_rfl) (by kernel_rfl) (by kernel_rfl) (fun _ _ _ h => h) (Or.inl ⟨by rfl, fun w hw => by (go_simp; try with_reducible rfl)⟩) (by assumption) ?_
                try simp only [Act.put, List.setIfInBounds_toArray, List.set_cons_zero, List.set_cons_succ]
                refine wpAnyH_take (i := 6) (oi := { dst := some 112, op := Go.Op.load 3 (Go.Operand.tmp 111), type := 3, pos := "weak.go:65", after := #[{ on := 5, ground := Go.Ground.data }], guard := none }) rfl (by kernel_rfl) (by kernel_rfl) (by kernel_rfl) (fun _ _ _ h => h) (Or.inl ⟨by rfl, fun w hw => by (obtain ⟨p0, p1, p2⟩ := hw; go_simp; try with_reducible rfl)⟩) (by assumption) ?_
                try simp only [Act.put, List.setIfInBounds_toArray, List.set_cons_zero, List.set_cons_succ]
                refine wpAnyH_take (i := 7) (oi := { dst := some 113, op := Go.Op.indexAddr 23 (Go.Operand.tmp 110) (Go.Operand.tmp 112), type := 0, pos := "weak.go:65", after := #[{ on := 4, ground := Go.Ground.data }, { on := 6, ground := Go.Ground.data }], guard := none }) rfl (by kernel_rfl) (by kernel_rfl) (by kernel_rfl) (fun _ _ _ h => h) (Or.inl ⟨by rfl, fun w hw => by (go_simp; try with_reducible rfl)⟩) (by assumption) ?_
                try simp only [Act.put, List.setIfInBounds_toArray, List.set_cons_zero, List.set_cons_succ]
                refine wpAnyH_take (i := 9) (oi := { dst := some 115, op := Go.Op.move (Go.Operand.tmp 15), type := 23, pos := "weak.go:65", after := #[], guard := none }) rfl (by kernel_rfl) (by kernel_rfl) (by kernel_rfl) (fun _ _ _ h => h) (Or.inl ⟨by rfl, fun w hw => by (go_simp; try with_reducible rfl)⟩) (by assumption) ?_
                try simp only [Act.put, List.setIfInBounds_toArray, List.set_cons_zero, List.set_cons_succ]
                refine wpAnyH_take (i := 10) (oi := { dst := some 116, op := Go.Op.fieldAddr 62 (Go.Operand.tmp 17) 2, type := 0, pos := "weak.go:65", after := #[], guard := none }) rfl (by kernel_rfl) (by kernel_rfl) (by kernel_rfl) (fun _ _ _ h => h) (Or.inl ⟨by rfl, fun w hw => by (go_simp; try with_reducible rfl)⟩) (by assumption) ?_
                try simp only [Act.put, List.setIfInBounds_toArray, List.set_cons_zero, List.set_cons_succ]
                refine wpAnyH_take (i := 11) (oi := { dst := some 117, op := Go.Op.load 3 (Go.Operand.tmp 116), type := 3, pos := "weak.go:65", after := #[{ on := 10, ground := Go.Ground.data }], guard := none }) rfl (by kernel_rfl) (by kernel_rfl) (by kernel_rfl) (fun _ _ _ h => h) (Or.inl ⟨by rfl, fun w hw => by (obtain ⟨p0, p1, p2⟩ := hw; go_simp; try with_reducible rfl)⟩) (by assumption) ?_
                try simp only [Act.put, List.setIfInBounds_toArray, List.set_cons_zero, List.set_cons_succ]
                refine wpAnyH_take (i := 12) (oi := { dst := some 118, op := Go.Op.indexAddr 23 (Go.Operand.tmp 115) (Go.Operand.tmp 117), type := 0, pos := "weak.go:65", after := #[{ on := 9, ground := Go.Ground.data }, { on := 11, ground := Go.Ground.data }], guard := none }) rfl (by kernel_rfl) (by kernel_rfl) (by kernel_rfl) (fun _ _ _ h => h) (Or.inl ⟨by rfl, fun w hw => by (go_simp; try with_reducible rfl)⟩) (by assumption) ?_
                try simp only [Act.put, List.setIfInBounds_toArray, List.set_cons_zero, List.set_cons_succ]
                refine wpAnyH_ready (rs := [8, 13]) (by kernel_rfl) (by simp) ?_
                refine AllReadyH.cons (o := { dst := some 114, op := Go.Op.load 3 (Go.Operand.tmp 113), type := 3, pos := "weak.go:65", after := #[{ on := 7, ground := Go.Ground.data }], guard := none }) rfl (fun K hK => ?_) ?_
                · have c9 := ca
                  go_simp
                  clear c9
                  refine hK.out _ _ hH0 (fun hH1 => ?_)
                  clear hK hH0
                  have hH0 := hH1
                  clear hH1
                  try simp only [Act.put, List.setIfInBounds_toArray, List.set_cons_zero, List.set_cons_succ]
                  refine wpAnyH_ready (rs := [13]) (by kernel_rfl) (by simp) ?_
                  refine AllReadyH.cons (o := { dst := some 119, op := Go.Op.load 3 (Go.Operand.tmp 118), type := 3, pos := "weak.go:65", after := #[{ on := 12, ground := Go.Ground.data }], guard := none }) rfl (fun K hK => ?_) AllReadyH.nil
                  have c9 := cb
                  go_simp
                  clear c9
                  refine hK.out _ _ hH0 (fun hH1 => ?_)
                  clear hK hH0
                  have hH0 := hH1
                  clear hH1
                  try simp only [Act.put, List.setIfInBounds_toArray, List.set_cons_zero, List.set_cons_succ]
                  refine wpAnyH_take (i := 14) (oi := { dst := some 120, op := Go.Op.build 62 #[(0, Go.Operand.tmp 109), (1, Go.Operand.tmp 114), (2, Go.Operand.tmp 119)], type := 62, pos := "weak.go:65", after := #[{ on := 3, ground := Go.Ground.data }, { on := 8, ground := Go.Ground.data }, { on := 13, ground := Go.Ground.data }], guard := none }) rfl (by kernel_rfl) (by kernel_rfl) (by kernel_rfl) (fun _ _ _ h => h) (Or.inl ⟨by rfl, fun w hw => by (go_simp; try with_reducible rfl)⟩) (by assumption) ?_
                  try simp only [Act.put, List.setIfInBounds_toArray, List.set_cons_zero, List.set_cons_succ]
                  refine wpAnyH_ready (rs := [15]) (by kernel_rfl) (by simp) ?_
                  refine AllReadyH.cons (o := { dst := some 121, op := Go.Op.call { callee := Go.Callee.value (Go.Operand.func 73), args := #[Go.Operand.tmp 107, Go.Operand.tmp 120], argTypes := #[133, 62] }, type := 3, pos := "weak.go:65", after := #[{ on := 1, ground := Go.Ground.data }, { on := 14, ground := Go.Ground.data }], guard := none }) rfl (fun K hK => ?_) AllReadyH.nil
                  go_simp
                  go_at_call 73
                  refine (wkput_calls w0 (M + 1) M v6 ks ⟨op, ya, yb, 0⟩ HTd.out Hxi.out (by have := HEl.out; omega)).mono ?_
                  rintro e w5 ⟨v7, rfl, hT5, hK5⟩
                  have HT5 := Lib.hid hT5
                  have HI5 := Lib.hid (hK5.ints _ _ _ (Nat.le_refl _) HId.out)
                  have HA5 := Lib.hid (hK5.ints _ _ _ (by omega) HAd.out)
                  have HW5 := Lib.hid (hK5.bel w.heap.size w hw2 (by have := HWd.out.size; omega) HWd.out)
                  have hG5 : ∀ j, w5.cell? ⟨G, j, none⟩ = w0.cell? ⟨G, j, none⟩ := fun j => World.cell?_of_block (hK5.keep G HG.out.1 HG.out.2.1 HG.out.2.2.1 HG.out.2.2.2)
                  have HG5 : Hid (G < w5.heap.size) := Lib.hid (Nat.lt_of_lt_of_le HG.out.1 hK5.size)
                  refine hK.out _ _ ⟨(hG5 0).trans hH0.1, (hG5 1).trans hH0.2.1, (hG5 2).trans hH0.2.2⟩ (fun hH1 => ?_)
                  clear hT5 hK5 hG5
                  clear hK hH0
                  have hH0 := hH1
                  clear hH1
                  try simp only [Act.put, List.setIfInBounds_toArray, List.set_cons_zero, List.set_cons_succ]
                  refine wpAnyH_ready (rs := [16]) (by kernel_rfl) (by simp) ?_
                  refine AllReadyH.cons (o := { dst := some 122, op := Go.Op.buildSlice 23 1 #[(0, Go.Operand.tmp 121)], type := 23, pos := "weak.go:65", after := #[{ on := 15, ground := Go.Ground.data }], guard := none }) rfl (fun K hK => ?_) AllReadyH.nil
                  go_simp
                  refine hK.out _ _ ⟨(cell_grown (World.grownBy_alloc w5 (.cells #[.int .i64 (idxK ks ⟨op, ya, yb, 0⟩ : Nat)] 3) none) G 0 HG5.out (by simp)).trans hH0.1, (cell_grown (World.grownBy_alloc w5 (.cells #[.int .i64 (idxK ks ⟨op, ya, yb, 0⟩ : Nat)] 3) none) G 1 HG5.out (by simp)).trans hH0.2.1, (cell_grown (World.grownBy_alloc w5 (.cells #[.int .i64 (idxK ks ⟨op, ya, yb, 0⟩ : Nat)] 3) none) G 2 HG5.out (by simp)).trans hH0.2.2⟩ (fun hH1 => ?_)
                  clear hK hH0
                  have hH0 := hH1
                  clear hH1
                  have HT6 := Lib.hid (HT5.out.alloc (.cells #[.int .i64 (idxK ks ⟨op, ya, yb, 0⟩ : Nat)] 3))
                  have HI6 := Lib.hid (HI5.out.alloc (.cells #[.int .i64 (idxK ks ⟨op, ya, yb, 0⟩ : Nat)] 3))
                  have HA6 := Lib.hid (HA5.out.alloc (.cells #[.int .i64 (idxK ks ⟨op, ya, yb, 0⟩ : Nat)] 3))
                  have HW6 := Lib.hid (HW5.out.alloc HW5.out.size (.cells #[.int .i64 (idxK ks ⟨op, ya, yb, 0⟩ : Nat)] 3))
                  have HG6 : Hid (G < (w5.alloc (.cells #[.int .i64 (idxK ks ⟨op, ya, yb, 0⟩ : Nat)] 3)).heap.size) := Lib.hid (by have := HG5.out; simp; omega)
                  have HN6 : Hid (∀ j, j < 1 → (w5.alloc (.cells #[.int .i64 (idxK ks ⟨op, ya, yb, 0⟩ : Nat)] 3)).cell? ⟨w5.heap.size, j, none⟩ = (intCells (idxK ks ⟨op, ya, yb, 0⟩ : Nat))[j]?) := Lib.hid (fun j hj => by (obtain rfl : j = 0 := by omega); exact cell_new w5 _ _ w5.heap.size rfl 0)
                  generalize w5.alloc (.cells #[.int .i64 (idxK ks ⟨op, ya, yb, 0⟩ : Nat)] 3) = w6 at *
                  generalize w5.heap.size = s6 at *
                  try simp only [Act.put, List.setIfInBounds_toArray, List.set_cons_zero, List.set_cons_succ]
                  refine wpAnyH_ready (rs := [17]) (by kernel_rfl) (by simp) ?_
                  refine AllReadyH.cons (o := { dst := some 123, op := Go.Op.call { callee := Go.Callee.builtin Go.Builtin.append, args := #[Go.Operand.tmp 106, Go.Operand.tmp 122], argTypes := #[23, 23] }, type := 23, pos := "weak.go:65", after := #[{ on := 0, ground := Go.Ground.data }, { on := 16, ground := Go.Ground.data }, { on := 15, ground := Go.Ground.chain }], guard := none }) rfl (fun K hK => ?_) AllReadyH.nil
                  obtain ⟨v8, w8, hrun, hown, hgrow, hat⟩ := run_app1 (P := Try.prog) (w := w6) 23 23 intCells 1 8 3 (.int .i64 0) Try.underlying23 infoInt rfl (by decide) intCells_len intCells_one (M + 1 + 1 + 1) _ at_ (idxK ks ⟨op, ya, yb, 0⟩ : Nat) HA6.out s6 1 HN6.out (by unfold maxLen; omega) (by omega) (by have := (own_lt HI6.out (M + 1 + 1) rfl).2; omega)
                  rw [if_pos (by rfl)]
                  refine wp_app_run 23 _ _ rfl rfl rfl hrun ?_
                  have HA8 := Lib.hid hown
                  have HT8 := Lib.hid (HT6.out.app HA6.out (by omega) hgrow)
                  have HI8 := Lib.hid (isKeep HI6.out HA6.out (by omega) hgrow)
                  have HW8 := Lib.hid (below_own HW6.out hgrow HA6.out (by omega) HW6.out.size)
                  refine hK.out _ _ ⟨(cell_grown hgrow G 0 HG6.out (fun e => HAG.out _ e.symm rfl)).trans hH0.1, (cell_grown hgrow G 1 HG6.out (fun e => HAG.out _ e.symm rfl)).trans hH0.2.1, (cell_grown hgrow G 2 HG6.out (fun e => HAG.out _ e.symm rfl)).trans hH0.2.2⟩ (fun hH1 => ?_)
                  clear hrun hown hgrow hat
                  clear hK hH0
                  have hH0 := hH1
                  clear hH1
                  try simp only [Act.put, List.setIfInBounds_toArray, List.set_cons_zero, List.set_cons_succ]
                  refine wpAnyH_take (i := 18) (oi := { dst := some 15, op := Go.Op.assign (Go.Operand.tmp 123), type := 23, pos := "weak.go:65", after := #[{ on := 17, ground := Go.Ground.data }, { on := 17, ground := Go.Ground.chain }, { on := 0, ground := Go.Ground.phase }, { on := 1, ground := Go.Ground.phase }, { on := 2, ground := Go.Ground.phase }, { on := 3, ground := Go.Ground.phase }, { on := 4, ground := Go.Ground.phase }, { on := 5, ground := Go.Ground.phase }, { on := 6, ground := Go.Ground.phase }, { on := 7, ground := Go.Ground.phase }, { on := 8, ground := Go.Ground.phase }, { on := 9, ground := Go.Ground.phase }, { on := 10, ground := Go.Ground.phase }, { on := 11, ground := Go.Ground.phase }, { on := 12, ground := Go.Ground.phase }, { on := 13, ground := Go.Ground.phase }, { on := 14, ground := Go.Ground.phase }, { on := 15, ground := Go.Ground.phase }, { on := 16, ground := Go.Ground.phase }, { on := 17, ground := Go.Ground.phase }], guard := none }) rfl (by kernel_rfl) (by kernel_rfl) (by kernel_rfl) (fun _ _ _ h => h) (Or.inl ⟨by rfl, fun w hw => by (go_simp; try with_reducible rfl)⟩) (by assumption) ?_
                  try simp only [Act.put, List.setIfInBounds_toArray, List.set_cons_zero, List.set_cons_succ]
                  refine wpAnyH_done (by kernel_rfl) ?_ _
                  clear hH0
                  go_wp2
                  go_roundw
                  case rel => exact ⟨q + 1, v7, _, _, by have := Hlt.out; omega, by go_num, Lib.hid ⟨Hn2.out, by have := (insK_len ks ⟨op, ya, yb, 0⟩).2; have := Hlen.out; omega⟩, HT8.out, HI8.out, HA8.out, HW8.out⟩
                  case measure => have := Hlt.out; simp [intOf]; omega
                refine AllReadyH.cons (o := { dst := some 119, op := Go.Op.load 3 (Go.Operand.tmp 118), type := 3, pos := "weak.go:65", after := #[{ on := 12, ground := Go.Ground.data }], guard := none }) rfl (fun K hK => ?_) AllReadyH.nil
                have c9 := cb
                go_simp
                clear c9
                refine hK.out _ _ hH0 (fun hH1 => ?_)
                clear hK hH0
                have hH0 := hH1
                clear hH1
                try simp only [Act.put, List.setIfInBounds_toArray, List.set_cons_zero, List.set_cons_succ]
                refine wpAnyH_ready (rs := [8]) (by kernel_rfl) (by simp) ?_
                refine AllReadyH.cons (o := { dst := some 114, op := Go.Op.load 3 (Go.Operand.tmp 113), type := 3, pos := "weak.go:65", after := #[{ on := 7, ground := Go.Ground.data }], guard := none }) rfl (fun K hK => ?_) AllReadyH.nil
                have c9 := ca
                go_simp
                clear c9
                refine hK.out _ _ hH0 (fun hH1 => ?_)
                clear hK hH0
                have hH0 := hH1
                clear hH1
                try simp only [Act.put, List.setIfInBounds_toArray, List.set_cons_zero, List.set_cons_succ]
                refine wpAnyH_take (i := 14) (oi := { dst := some 120, op := Go.Op.build 62 #[(0, Go.Operand.tmp 109), (1, Go.Operand.tmp 114), (2, Go.Operand.tmp 119)], type := 62, pos := "weak.go:65", after := #[{ on := 3, ground := Go.Ground.data }, { on := 8, ground := Go.Ground.data }, { on := 13, ground := Go.Ground.data }], guard := none }) rfl (by kernel_rfl) (by kernel_rfl) (by kernel_rfl) (fun _ _ _ h => h) (Or.inl ⟨by rfl, fun w hw => by (go_simp; try with_reducible rfl)⟩) (by assumption) ?_
                try simp only [Act.put, List.setIfInBounds_toArray, List.set_cons_zero, List.set_cons_succ]
                refine wpAnyH_ready (rs := [15]) (by kernel_rfl) (by simp) ?_
                refine AllReadyH.cons (o := { dst := some 121, op := Go.Op.call { callee := Go.Callee.value (Go.Operand.func 73), args := #[Go.Operand.tmp 107, Go.Operand.tmp 120], argTypes := #[133, 62] }, type := 3, pos := "weak.go:65", after := #[{ on := 1, ground := Go.Ground.data }, { on := 14, ground := Go.Ground.data }], guard := none }) rfl (fun K hK => ?_) AllReadyH.nil
                go_simp
                go_at_call 73
                refine (wkput_calls w0 (M + 1) M v6 ks ⟨op, ya, yb, 0⟩ HTd.out Hxi.out (by have := HEl.out; omega)).mono ?_
                rintro e w5 ⟨v7, rfl, hT5, hK5⟩
                have HT5 := Lib.hid hT5
                have HI5 := Lib.hid (hK5.ints _ _ _ (Nat.le_refl _) HId.out)
                have HA5 := Lib.hid (hK5.ints _ _ _ (by omega) HAd.out)
                have HW5 := Lib.hid (hK5.bel w.heap.size w hw2 (by have := HWd.out.size; omega) HWd.out)
                have hG5 : ∀ j, w5.cell? ⟨G, j, none⟩ = w0.cell? ⟨G, j, none⟩ := fun j => World.cell?_of_block (hK5.keep G HG.out.1 HG.out.2.1 HG.out.2.2.1 HG.out.2.2.2)
                have HG5 : Hid (G < w5.heap.size) := Lib.hid (Nat.lt_of_lt_of_le HG.out.1 hK5.size)
                refine hK.out _ _ ⟨(hG5 0).trans hH0.1, (hG5 1).trans hH0.2.1, (hG5 2).trans hH0.2.2⟩ (fun hH1 => ?_)
                clear hT5 hK5 hG5
                clear hK hH0
                have hH0 := hH1
                clear hH1
                try simp only [Act.put, List.setIfInBounds_toArray, List.set_cons_zero, List.set_cons_succ]
                refine wpAnyH_ready (rs := [16]) (by kernel_rfl) (by simp) ?_
                refine AllReadyH.cons (o := { dst := some 122, op := Go.Op.buildSlice 23 1 #[(0, Go.Operand.tmp 121)], type := 23, pos := "weak.go:65", after := #[{ on := 15, ground := Go.Ground.data }], guard := none }) rfl (fun K hK => ?_) AllReadyH.nil
                go_simp
                refine hK.out _ _ ⟨(cell_grown (World.grownBy_alloc w5 (.cells #[.int .i64 (idxK ks ⟨op, ya, yb, 0⟩ : Nat)] 3) none) G 0 HG5.out (by simp)).trans hH0.1, (cell_grown (World.grownBy_alloc w5 (.cells #[.int .i64 (idxK ks ⟨op, ya, yb, 0⟩ : Nat)] 3) none) G 1 HG5.out (by simp)).trans hH0.2.1, (cell_grown (World.grownBy_alloc w5 (.cells #[.int .i64 (idxK ks ⟨op, ya, yb, 0⟩ : Nat)] 3) none) G 2 HG5.out (by simp)).trans hH0.2.2⟩ (fun hH1 => ?_)
                clear hK hH0
                have hH0 := hH1
                clear hH1
                have HT6 := Lib.hid (HT5.out.alloc (.cells #[.int .i64 (idxK ks ⟨op, ya, yb, 0⟩ : Nat)] 3))
                have HI6 := Lib.hid (HI5.out.alloc (.cells #[.int .i64 (idxK ks ⟨op, ya, yb, 0⟩ : Nat)] 3))
                have HA6 := Lib.hid (HA5.out.alloc (.cells #[.int .i64 (idxK ks ⟨op, ya, yb, 0⟩ : Nat)] 3))
                have HW6 := Lib.hid (HW5.out.alloc HW5.out.size (.cells #[.int .i64 (idxK ks ⟨op, ya, yb, 0⟩ : Nat)] 3))
                have HG6 : Hid (G < (w5.alloc (.cells #[.int .i64 (idxK ks ⟨op, ya, yb, 0⟩ : Nat)] 3)).heap.size) := Lib.hid (by have := HG5.out; simp; omega)
                have HN6 : Hid (∀ j, j < 1 → (w5.alloc (.cells #[.int .i64 (idxK ks ⟨op, ya, yb, 0⟩ : Nat)] 3)).cell? ⟨w5.heap.size, j, none⟩ = (intCells (idxK ks ⟨op, ya, yb, 0⟩ : Nat))[j]?) := Lib.hid (fun j hj => by (obtain rfl : j = 0 := by omega); exact cell_new w5 _ _ w5.heap.size rfl 0)
                generalize w5.alloc (.cells #[.int .i64 (idxK ks ⟨op, ya, yb, 0⟩ : Nat)] 3) = w6 at *
                generalize w5.heap.size = s6 at *
                try simp only [Act.put, List.setIfInBounds_toArray, List.set_cons_zero, List.set_cons_succ]
                refine wpAnyH_ready (rs := [17]) (by kernel_rfl) (by simp) ?_
                refine AllReadyH.cons (o := { dst := some 123, op := Go.Op.call { callee := Go.Callee.builtin Go.Builtin.append, args := #[Go.Operand.tmp 106, Go.Operand.tmp 122], argTypes := #[23, 23] }, type := 23, pos := "weak.go:65", after := #[{ on := 0, ground := Go.Ground.data }, { on := 16, ground := Go.Ground.data }, { on := 15, ground := Go.Ground.chain }], guard := none }) rfl (fun K hK => ?_) AllReadyH.nil
                obtain ⟨v8, w8, hrun, hown, hgrow, hat⟩ := run_app1 (P := Try.prog) (w := w6) 23 23 intCells 1 8 3 (.int .i64 0) Try.underlying23 infoInt rfl (by decide) intCells_len intCells_one (M + 1 + 1 + 1) _ at_ (idxK ks ⟨op, ya, yb, 0⟩ : Nat) HA6.out s6 1 HN6.out (by unfold maxLen; omega) (by omega) (by have := (own_lt HI6.out (M + 1 + 1) rfl).2; omega)
                rw [if_pos (by rfl)]
                refine wp_app_run 23 _ _ rfl rfl rfl hrun ?_
                have HA8 := Lib.hid hown
                have HT8 := Lib.hid (HT6.out.app HA6.out (by omega) hgrow)
                have HI8 := Lib.hid (isKeep HI6.out HA6.out (by omega) hgrow)
                have HW8 := Lib.hid (below_own HW6.out hgrow HA6.out (by omega) HW6.out.size)
                refine hK.out _ _ ⟨(cell_grown hgrow G 0 HG6.out (fun e => HAG.out _ e.symm rfl)).trans hH0.1, (cell_grown hgrow G 1 HG6.out (fun e => HAG.out _ e.symm rfl)).trans hH0.2.1, (cell_grown hgrow G 2 HG6.out (fun e => HAG.out _ e.symm rfl)).trans hH0.2.2⟩ (fun hH1 => ?_)
                clear hrun hown hgrow hat
                clear hK hH0
                have hH0 := hH1
                clear hH1
                try simp only [Act.put, List.setIfInBounds_toArray, List.set_cons_zero, List.set_cons_succ]
                refine wpAnyH_take (i := 18) (oi := { dst := some 15, op := Go.Op.assign (Go.Operand.tmp 123), type := 23, pos := "weak.go:65", after := #[{ on := 17, ground := Go.Ground.data }, { on := 17, ground := Go.Ground.chain }, { on := 0, ground := Go.Ground.phase }, { on := 1, ground := Go.Ground.phase }, { on := 2, ground := Go.Ground.phase }, { on := 3, ground := Go.Ground.phase }, { on := 4, ground := Go.Ground.phase }, { on := 5, ground := Go.Ground.phase }, { on := 6, ground := Go.Ground.phase }, { on := 7, ground := Go.Ground.phase }, { on := 8, ground := Go.Ground.phase }, { on := 9, ground := Go.Ground.phase }, { on := 10, ground := Go.Ground.phase }, { on := 11, ground := Go.Ground.phase }, { on := 12, ground := Go.Ground.phase }, { on := 13, ground := Go.Ground.phase }, { on := 14, ground := Go.Ground.phase }, { on := 15, ground := Go.Ground.phase }, { on := 16, ground := Go.Ground.phase }, { on := 17, ground := Go.Ground.phase }], guard := none }) rfl (by kernel_rfl) (by kernel_rfl) (by kernel_rfl) (fun _ _ _ h => h) (Or.inl ⟨by rfl, fun w hw => by (go_simp; try with_reducible rfl)⟩) (by assumption) ?_
                try simp only [Act.put, List.setIfInBounds_toArray, List.set_cons_zero, List.set_cons_succ]
                refine wpAnyH_done (by kernel_rfl) ?_ _
                clear hH0
                go_wp2
                go_roundw
                case rel => exact ⟨q + 1, v7, _, _, by have := Hlt.out; omega, by go_num, Lib.hid ⟨Hn2.out, by have := (insK_len ks ⟨op, ya, yb, 0⟩).2; have := Hlen.out; omega⟩, HT8.out, HI8.out, HA8.out, HW8.out⟩
                case measure => have := Hlt.out; simp [intOf]; omega
            · have : q = post.length := by omega
              subst this
              obtain ⟨p, hp⟩ : ∃ p, at_.length = p + 1 := ⟨at_.length - 1, by have := Hal.out; omega⟩
              have hpx : at_.getD (post.length - 1) 0 = at_.getD p 0 := by rw [show post.length - 1 = p by have := Hal.out; omega]
              have hin := HE.out.1.in_ _ (getD_in (l := at_) (i := p) (by omega))
              obtain ⟨m, hmv⟩ := Int.eq_ofNat_of_zero_le hin.1
              obtain ⟨d1, d2, d3⟩ := HE.out.1.done hp1 (m := m) (by rw [hpx, hmv])
              have HD := Lib.hid (And.intro d1 (And.intro d2 d3))
              obtain ⟨g5, rfl, _, hg5, _, _, hcell5⟩ := OwnI.at2 HAt.out (by omega)
              have cl := hcell5 p (by omega)
              rw [← getI_get, hmv] at cl
              obtain ⟨g6, c6, e6, _, _, hle, _⟩ := Own.some_ HT.out.rt (by omega)
              have hR6 : RdT wr (some ⟨g6, 0, none⟩) ks := by
                obtain ⟨A', c', e', h'⟩ := OwnT.rd HT.out.rt
                rw [e6] at e'
                injection e' with e1 e2 e3
                rw [e1]; exact h'
              have HR6 := Lib.hid hR6
              subst e6
              have cT : wr.cell? ⟨M + 1, 0, none⟩ = some (.slice (some ⟨g6, 0, none⟩) ks.length c6) := by rw [cell_of_row wr (M + 1) 0 _ _ _ HT.out.hT]; rfl
              have hT' := lt_of_heap HT.out.hT
              have hpq : ((post.length : Nat) : Int) - 1 = (p : Int) := by have := Hal.out; omega
              have hpp : ((p : Nat) : Int) < ((post.length : Nat) : Int) := by omega
              have hkl := HEl.out
              have hwp : IntKind.i64.wrap (p : Int) = (p : Int) := by rw [IntKind.wrap_i64]; omega
              have hwm : IntKind.i64.wrap ((m : Int) + 1) = (m : Int) + 1 := by rw [IntKind.wrap_i64]; omega
              clear HE hcell5 hpx hmv hin hp hR6 d1 d2 d3
              have hmc : m + 1 ≤ c6 := by have := HD.out.1; omega
              have hm0 : 0 ≤ ((m : Nat) : Int) + 1 := by omega
              have hmc2 : ((m : Nat) : Int) + 1 ≤ (c6 : Int) := by omega
              go_wp2
              refine wp_region_held_drew (S := fun w' => w'.cell? ⟨M + 1, 0, none⟩ = some (.slice (some ⟨g6, 0, none⟩) ks.length c6) ∧ w'.cell? ⟨g5, p, none⟩ = some (.int .i64 (m : Nat))) (by kernel_rfl) ⟨cT, cl⟩ (fun hH0 => ?_)
              have HW0 := Lib.hid HW.out.drew
              have HR0 := Lib.hid (Rd.drewN HR6.out 1)
              change Hid (RdT wr.drew _ ks) at HR0
              generalize wr.drew = w0 at *
              refine wpAnyH_take (i := 0) (oi := { dst := some 145, op := Go.Op.move (Go.Operand.tmp 10), type := 133, pos := "weak.go:68", after := #[], guard := none }) rfl (by kernel_rfl) (by kernel_rfl) (by kernel_rfl) (fun _ _ _ h => h) (Or.inl ⟨by rfl, fun w hw => by (go_simp; try with_reducible rfl)⟩) (by assumption) ?_
              try simp only [Act.put, List.setIfInBounds_toArray, List.set_cons_zero, List.set_cons_succ]
              refine wpAnyH_take (i := 1) (oi := { dst := some 146, op := Go.Op.nilCheck (Go.Operand.tmp 145), type := 0, pos := "weak.go:68", after := #[{ on := 0, ground := Go.Ground.data }], guard := none }) rfl (by kernel_rfl) (by kernel_rfl) (by kernel_rfl) (fun _ _ _ h => h) (Or.inl ⟨by rfl, fun w hw => by (go_simp; try with_reducible rfl)⟩) (by assumption) ?_
              try simp only [Act.put, List.setIfInBounds_toArray, List.set_cons_zero, List.set_cons_succ]
              refine wpAnyH_take (i := 2) (oi := { dst := some 147, op := Go.Op.fieldAddr 136 (Go.Operand.tmp 146) 0, type := 0, pos := "weak.go:68", after := #[{ on := 1, ground := Go.Ground.data }], guard := none }) rfl (by kernel_rfl) (by kernel_rfl) (by kernel_rfl) (fun _ _ _ h => h) (Or.inl ⟨by rfl, fun w hw => by (go_simp; try with_reducible rfl)⟩) (by assumption) ?_
              try simp only [Act.put, List.setIfInBounds_toArray, List.set_cons_zero, List.set_cons_succ]
              refine wpAnyH_take (i := 3) (oi := { dst := some 148, op := Go.Op.load 49 (Go.Operand.tmp 147), type := 49, pos := "weak.go:68", after := #[{ on := 2, ground := Go.Ground.data }], guard := none }) rfl (by kernel_rfl) (by kernel_rfl) (by kernel_rfl) (fun _ _ _ h => h) (Or.inl ⟨by rfl, fun w hw => by (obtain ⟨p0, p1⟩ := hw; go_simp; try with_reducible rfl)⟩) (by assumption) ?_
              try simp only [Act.put, List.setIfInBounds_toArray, List.set_cons_zero, List.set_cons_succ]
              refine wpAnyH_take (i := 4) (oi := { dst := some 149, op := Go.Op.move (Go.Operand.tmp 15), type := 23, pos := "weak.go:68", after := #[], guard := none }) rfl (by kernel_rfl) (by kernel_rfl) (by kernel_rfl) (fun _ _ _ h => h) (Or.inl ⟨by rfl, fun w hw => by (go_simp; try with_reducible rfl)⟩) (by assumption) ?_
              try simp only [Act.put, List.setIfInBounds_toArray, List.set_cons_zero, List.set_cons_succ]
              refine wpAnyH_take (i := 5) (oi := { dst := some 150, op := Go.Op.move (Go.Operand.tmp 15), type := 23, pos := "weak.go:68", after := #[], guard := none }) rfl (by kernel_rfl) (by kernel_rfl) (by kernel_rfl) (fun _ _ _ h => h) (Or.inl ⟨by rfl, fun w hw => by (go_simp; try with_reducible rfl)⟩) (by assumption) ?_
              try simp only [Act.put, List.setIfInBounds_toArray, List.set_cons_zero, List.set_cons_succ]
              refine wpAnyH_take (i := 6) (oi := { dst := some 151, op := Go.Op.call { callee := Go.Callee.builtin Go.Builtin.len, args := #[Go.Operand.tmp 150], argTypes := #[23] }, type := 3, pos := "weak.go:68", after := #[{ on := 5, ground := Go.Ground.data }], guard := none }) rfl (by kernel_rfl) (by kernel_rfl) (by kernel_rfl) (fun _ _ _ h => h) (Or.inl ⟨by rfl, fun w hw => by (go_simp; try with_reducible rfl)⟩) (by assumption) ?_
              try simp only [Act.put, List.setIfInBounds_toArray, List.set_cons_zero, List.set_cons_succ]
              refine wpAnyH_take (i := 7) (oi := { dst := some 152, op := Go.Op.binOp Go.BinOp.sub 3 (Go.Operand.tmp 151) (Go.Operand.const (Go.Value.int Go.IntKind.i64 1)) 3, type := 3, pos := "weak.go:68", after := #[{ on := 6, ground := Go.Ground.data }], guard := none }) rfl (by kernel_rfl) (by kernel_rfl) (by kernel_rfl) (fun _ _ _ h => h) (Or.inl ⟨by rfl, fun w hw => by (go_simp; try with_reducible rfl)⟩) (by assumption) ?_
              try simp only [Act.put, List.setIfInBounds_toArray, List.set_cons_zero, List.set_cons_succ]
              refine wpAnyH_take (i := 8) (oi := { dst := some 153, op := Go.Op.indexAddr 23 (Go.Operand.tmp 149) (Go.Operand.tmp 152), type := 0, pos := "weak.go:68", after := #[{ on := 4, ground := Go.Ground.data }, { on := 7, ground := Go.Ground.data }], guard := none }) rfl (by kernel_rfl) (by kernel_rfl) (by kernel_rfl) (fun _ _ _ h => h) (Or.inl ⟨by rfl, fun w hw => by (go_simp; try with_reducible rfl)⟩) (by assumption) ?_
              try simp only [Act.put, List.setIfInBounds_toArray, List.set_cons_zero, List.set_cons_succ]
              refine wpAnyH_take (i := 9) (oi := { dst := some 154, op := Go.Op.load 3 (Go.Operand.tmp 153), type := 3, pos := "weak.go:68", after := #[{ on := 8, ground := Go.Ground.data }], guard := none }) rfl (by kernel_rfl) (by kernel_rfl) (by kernel_rfl) (fun _ _ _ h => h) (Or.inl ⟨by rfl, fun w hw => by (obtain ⟨p0, p1⟩ := hw; go_simp; try with_reducible rfl)⟩) (by assumption) ?_
              try simp only [Act.put, List.setIfInBounds_toArray, List.set_cons_zero, List.set_cons_succ]
              refine wpAnyH_take (i := 10) (oi := { dst := some 155, op := Go.Op.binOp Go.BinOp.add 3 (Go.Operand.tmp 154) (Go.Operand.const (Go.Value.int Go.IntKind.i64 1)) 3, type := 3, pos := "weak.go:68", after := #[{ on := 9, ground := Go.Ground.data }], guard := none }) rfl (by kernel_rfl) (by kernel_rfl) (by kernel_rfl) (fun _ _ _ h => h) (Or.inl ⟨by rfl, fun w hw => by (go_simp; try with_reducible rfl)⟩) (by assumption) ?_
              try simp only [Act.put, List.setIfInBounds_toArray, List.set_cons_zero, List.set_cons_succ]
              refine wpAnyH_take (i := 11) (oi := { dst := some 156, op := Go.Op.move (Go.Operand.tmp 15), type := 23, pos := "weak.go:68", after := #[], guard := none }) rfl (by kernel_rfl) (by kernel_rfl) (by kernel_rfl) (fun _ _ _ h => h) (Or.inl ⟨by rfl, fun w hw => by (go_simp; try with_reducible rfl)⟩) (by assumption) ?_
              try simp only [Act.put, List.setIfInBounds_toArray, List.set_cons_zero, List.set_cons_succ]
              refine wpAnyH_take (i := 12) (oi := { dst := some 157, op := Go.Op.move (Go.Operand.tmp 15), type := 23, pos := "weak.go:68", after := #[], guard := none }) rfl (by kernel_rfl) (by kernel_rfl) (by kernel_rfl) (fun _ _ _ h => h) (Or.inl ⟨by rfl, fun w hw => by (go_simp; try with_reducible rfl)⟩) (by assumption) ?_
              try simp only [Act.put, List.setIfInBounds_toArray, List.set_cons_zero, List.set_cons_succ]
              refine wpAnyH_take (i := 13) (oi := { dst := some 158, op := Go.Op.call { callee := Go.Callee.builtin Go.Builtin.len, args := #[Go.Operand.tmp 157], argTypes := #[23] }, type := 3, pos := "weak.go:68", after := #[{ on := 12, ground := Go.Ground.data }], guard := none }) rfl (by kernel_rfl) (by kernel_rfl) (by kernel_rfl) (fun _ _ _ h => h) (Or.inl ⟨by rfl, fun w hw => by (go_simp; try with_reducible rfl)⟩) (by assumption) ?_
              try simp only [Act.put, List.setIfInBounds_toArray, List.set_cons_zero, List.set_cons_succ]
              refine wpAnyH_take (i := 14) (oi := { dst := some 159, op := Go.Op.binOp Go.BinOp.sub 3 (Go.Operand.tmp 158) (Go.Operand.const (Go.Value.int Go.IntKind.i64 1)) 3, type := 3, pos := "weak.go:68", after := #[{ on := 13, ground := Go.Ground.data }], guard := none }) rfl (by kernel_rfl) (by kernel_rfl) (by kernel_rfl) (fun _ _ _ h => h) (Or.inl ⟨by rfl, fun w hw => by (go_simp; try with_reducible rfl)⟩) (by assumption) ?_
              try simp only [Act.put, List.setIfInBounds_toArray, List.set_cons_zero, List.set_cons_succ]
              refine wpAnyH_take (i := 15) (oi := { dst := some 160, op := Go.Op.indexAddr 23 (Go.Operand.tmp 156) (Go.Operand.tmp 159), type := 0, pos := "weak.go:68", after := #[{ on := 11, ground := Go.Ground.data }, { on := 14, ground := Go.Ground.data }], guard := none }) rfl (by kernel_rfl) (by kernel_rfl) (by kernel_rfl) (fun _ _ _ h => h) (Or.inl ⟨by rfl, fun w hw => by (go_simp; try with_reducible rfl)⟩) (by assumption) ?_
              try simp only [Act.put, List.setIfInBounds_toArray, List.set_cons_zero, List.set_cons_succ]
              refine wpAnyH_take (i := 16) (oi := { dst := some 161, op := Go.Op.load 3 (Go.Operand.tmp 160), type := 3, pos := "weak.go:68", after := #[{ on := 15, ground := Go.Ground.data }], guard := none }) rfl (by kernel_rfl) (by kernel_rfl) (by kernel_rfl) (fun _ _ _ h => h) (Or.inl ⟨by rfl, fun w hw => by (obtain ⟨p0, p1⟩ := hw; go_simp; try with_reducible rfl)⟩) (by assumption) ?_
              try simp only [Act.put, List.setIfInBounds_toArray, List.set_cons_zero, List.set_cons_succ]
              refine wpAnyH_take (i := 17) (oi := { dst := some 162, op := Go.Op.binOp Go.BinOp.add 3 (Go.Operand.tmp 161) (Go.Operand.const (Go.Value.int Go.IntKind.i64 1)) 3, type := 3, pos := "weak.go:68", after := #[{ on := 16, ground := Go.Ground.data }], guard := none }) rfl (by kernel_rfl) (by kernel_rfl) (by kernel_rfl) (fun _ _ _ h => h) (Or.inl ⟨by rfl, fun w hw => by (go_simp; try with_reducible rfl)⟩) (by assumption) ?_
              try simp only [Act.put, List.setIfInBounds_toArray, List.set_cons_zero, List.set_cons_succ]
              refine wpAnyH_take (i := 18) (oi := { dst := some 163, op := Go.Op.slice 49 (Go.Operand.tmp 148) none (some (Go.Operand.tmp 155)) (some (Go.Operand.tmp 162)), type := 49, pos := "weak.go:68", after := #[{ on := 3, ground := Go.Ground.data }, { on := 10, ground := Go.Ground.data }, { on := 17, ground := Go.Ground.data }], guard := none }) rfl (by kernel_rfl) (by kernel_rfl) (by kernel_rfl) (fun _ _ _ h => h) (Or.inl ⟨by rfl, fun w hw => by (go_simp; try with_reducible rfl)⟩) (by assumption) ?_
              try simp only [Act.put, List.setIfInBounds_toArray, List.set_cons_zero, List.set_cons_succ]
              refine wpAnyH_take (i := 19) (oi := { dst := some 6, op := Go.Op.assign (Go.Operand.tmp 163), type := 49, pos := "weak.go:68", after := #[{ on := 18, ground := Go.Ground.data }, { on := 0, ground := Go.Ground.phase }, { on := 1, ground := Go.Ground.phase }, { on := 2, ground := Go.Ground.phase }, { on := 3, ground := Go.Ground.phase }, { on := 4, ground := Go.Ground.phase }, { on := 5, ground := Go.Ground.phase }, { on := 6, ground := Go.Ground.phase }, { on := 7, ground := Go.Ground.phase }, { on := 8, ground := Go.Ground.phase }, { on := 9, ground := Go.Ground.phase }, { on := 10, ground := Go.Ground.phase }, { on := 11, ground := Go.Ground.phase }, { on := 12, ground := Go.Ground.phase }, { on := 13, ground := Go.Ground.phase }, { on := 14, ground := Go.Ground.phase }, { on := 15, ground := Go.Ground.phase }, { on := 16, ground := Go.Ground.phase }, { on := 17, ground := Go.Ground.phase }, { on := 18, ground := Go.Ground.phase }], guard := none }) rfl (by kernel_rfl) (by kernel_rfl) (by kernel_rfl) (fun _ _ _ h => h) (Or.inl ⟨by rfl, fun w hw => by (go_simp; try with_reducible rfl)⟩) (by assumption) ?_
              try simp only [Act.put, List.setIfInBounds_toArray, List.set_cons_zero, List.set_cons_succ]
              refine wpAnyH_take (i := 20) (oi := { dst := some 7, op := Go.Op.assign (Go.Operand.const (Go.Value.int Go.IntKind.i64 0)), type := 26, pos := "weak.go:68", after := #[{ on := 19, ground := Go.Ground.chain }, { on := 0, ground := Go.Ground.phase }, { on := 1, ground := Go.Ground.phase }, { on := 2, ground := Go.Ground.phase }, { on := 3, ground := Go.Ground.phase }, { on := 4, ground := Go.Ground.phase }, { on := 5, ground := Go.Ground.phase }, { on := 6, ground := Go.Ground.phase }, { on := 7, ground := Go.Ground.phase }, { on := 8, ground := Go.Ground.phase }, { on := 9, ground := Go.Ground.phase }, { on := 10, ground := Go.Ground.phase }, { on := 11, ground := Go.Ground.phase }, { on := 12, ground := Go.Ground.phase }, { on := 13, ground := Go.Ground.phase }, { on := 14, ground := Go.Ground.phase }, { on := 15, ground := Go.Ground.phase }, { on := 16, ground := Go.Ground.phase }, { on := 17, ground := Go.Ground.phase }, { on := 18, ground := Go.Ground.phase }, { on := 19, ground := Go.Ground.phase }], guard := none }) rfl (by kernel_rfl) (by kernel_rfl) (by kernel_rfl) (fun _ _ _ h => h) (Or.inl ⟨by rfl, fun w hw => by (go_simp; try with_reducible rfl)⟩) (by assumption) ?_
              try simp only [Act.put, List.setIfInBounds_toArray, List.set_cons_zero, List.set_cons_succ]
              refine wpAnyH_done (by kernel_rfl) ?_ _
              clear hH0
              go_wp2
              go_ret2
              have hl : (ks.take (m + 1)).length = m + 1 := by rw [List.length_take]; have := HD.out.1; omega
              exact ⟨_, ks.take (m + 1), rfl, ⟨some ⟨g6, 0, none⟩, m + 1, by rw [hl]; rfl, (rdT_take HR0.out _)⟩, by omega, by have := HEl.out; have := HD.out.1; omega, HD.out.2.1, HD.out.2.2, HW0.out⟩
end Go.Proofs.Ytmgejacndhnikaa
