/- SingleSame: single.Once walked at a named program that sets each name once (written by sno.py out of sno.txt). -/
import Derived.Test.YtmgejacndhnikaaSnN
import Derived.Test.YtmgejacndhnikaaSnG
import Derived.BigQuiet
namespace Go.Proofs.Ytmgejacndhnikaa
set_option maxRecDepth 100000
open Go.RowKit Go.Maps

/-- What Once's closure has: the map's box (M), that of the rules (R). -/
structure StO (ls : List (List Int)) (w : World) (M R Wb gR cR B n : Nat) (L : List (Int × Int × Int)) (f : Int → Option Value) : Prop where
  hM : w.heap[M]? = some (.cells #[.map (some Wb)] 119 (0, 0))
  hR : w.heap[R]? = some (.cells #[.slice (some ⟨gR, 0, none⟩) ls.length cR] 100 (0, 0))
  mp : OwnM encI w 3 Wb n f
  ml : MapL L f
  ru : W.OwnU w B 24 (.slice (some ⟨gR, 0, none⟩) ls.length cR) (W.rulesL ls)
section
variable {ls : List (List Int)} {w w' : World} {M R Wb gR cR B n : Nat} {L : List (Int × Int × Int)} {f : Int → Option Value}
theorem StO.below (h : StO ls w M R Wb gR cR B n L f) (hb : Below w.heap.size w w') : StO ls w' M R Wb gR cR B n L f :=
  ⟨(hb.block M (lt_h h.hM)).trans h.hM, (hb.block R (lt_h h.hR)).trans h.hR, h.mp.kept (row := none) ⟨hb.os, hb.tape, hb.output, hb.size, fun i hi _ => hb.block i hi⟩ (by simp), h.ml, Own.below h.ru hb⟩
theorem StO.rule (h : StO ls w M R Wb gR cR B n L f) {i : Nat} (hi : i < ls.length) : w.cell? ⟨gR, i, none⟩ = some (.int .u32 (W.domS ls i : Nat)) := by
  obtain ⟨g', e, -, -, -, -, hc⟩ := W.OwnU.at2 h.ru (by rw [W.rulesL_len]; omega)
  injection e with e
  injection e with e
  subst e
  have := hc i (by rw [W.rulesL_len]; exact hi)
  rw [W.rulesL_get] at this
  exact this
end
set_option maxHeartbeats 8000000 in
theorem onceC_calls {ls : List (List Int)} {w : World} {M R Wb gR cR B n : Nat} {L : List (Int × Int × Int)} {f : Int → Option Value} (h : StO ls w M R Wb gR cR B n L f) (h1 : 1 ≤ ls.length) (h8 : ls.length ≤ 8) (hv : W.Valid ls) {x i k : Int} (hx : in64 x) (hi : i < ls.length) (hs : SetA (W.Dom ls) L x i k) :
    Calls Try.prog 68 #[.int .i64 x, .int .i64 i, .int .i64 k, .pointer (some ⟨M, 0, none⟩), .pointer (some ⟨R, 0, none⟩)] w fun e w' => e = .returned (.bool true) ∧ Below w.heap.size w w' := by
  obtain ⟨⟨q1, q2, q3⟩, hq, hqx, hq2⟩ := hs
  dsimp only at hqx hq2
  subst hqx
  have Hlk := Lib.hid (OwnM.look_ok h.mp keyedI Try.underlying119 (zero_pair _) (a := q1) (keyI hx))
  rw [h.ml.1 _ hq] at Hlk
  have Hlk : Hid ((Instr.lookup 119 (.map (some Wb)) (.int .i64 q1) true).run Try.prog w = .ok (.tuple #[.agg #[.int .i64 q2, .int .i64 q3], .bool true]) w) := Hlk
  have cM := cell_h h.hM 0
  have hMl := lt_h h.hM
  have hRl := lt_h h.hR
  have cR' := cell_h h.hR 0
  have HB := Lib.hid ((Below.refl w.heap.size w).alloc (Nat.le_refl _) (.cells #[.int .i64 q2, .int .i64 q3] 124))
  have hlk := Hlk.out
  by_cases hn : q2 < 0
  · clear hq2 hq
    go_enter Try.func68, Try.ntmps68
    go_wp2
    all_goals (try (exfalso; omega))
    go_ret
    exact ⟨rfl, HB.out⟩
  · rcases hq2 with h0 | ⟨rfl, hk⟩ | ⟨hne, hi0, hD⟩
    · omega
    · clear hq
      go_enter Try.func68, Try.ntmps68
      go_wp2
      all_goals (try (exfalso; omega))
      go_ret
      exact ⟨ret_bool (by simp; try omega), HB.out⟩
    · obtain ⟨i, rfl⟩ := Int.eq_ofNat_of_zero_le hi0
      obtain ⟨p0, rfl⟩ := Int.eq_ofNat_of_zero_le (show 0 ≤ q2 by omega)
      rw [Int.toNat_natCast, Int.toNat_natCast] at hD
      have hbit := (W.domS_bit h1 h8 hv i p0).2 hD
      have hil : i < ls.length := by omega
      have hp8 : p0 < ls.length := W.Rch.lt h1 hv (W.Dom.reached hD)
      have cU := h.rule hil
      have hgl : gR < w.heap.size := (own_lt' h.ru gR rfl).2
      have t1 := W.test1_u32 (W.domS ls i) p0 (Nat.lt_trans (W.domS_lt ls i) (by decide))
      rw [hbit] at t1
      have hp32 : p0 < 32 := by omega
      have qe : (((p0 : Nat) : Int) == ((i : Nat) : Int)) = false := by rw [beq_eq_false_iff_ne]; exact hne
      generalize W.domS ls i = DS at *
      clear hq hbit hD hne h
      go_enter Try.func68, Try.ntmps68
      go_wp2
      go_quiet (fail)
      go_wp2
      all_goals (try (exfalso; omega))
      go_ret
      exact ⟨rfl, below_dN HB.out _⟩
/-- What Once asks of a named program. -/
structure OnceP (ls frm : List (List Int)) (L : List (Int × Int × Int)) (l : List Sg) : Prop where
  jn : ∀ i, i < l.length → W.Rch ls i → ∀ j ∈ (l.getD i sgnul).joins, ∀ k, k < j.fr.length → (0 ≤ gI (frm.getD i []) (k : Nat) ∧ gI (frm.getD i []) (k : Nat) < ls.length ∧ ¬ W.Rch ls (gI (frm.getD i []) (k : Nat)).toNat) ∨ (gI (frm.getD i []) (k : Nat) < ls.length ∧ (0 ≤ gI (frm.getD i []) (k : Nat) → W.Rch ls (gI (frm.getD i []) (k : Nat)).toNat) ∧ SetA (W.Dom ls) L (j.fr.getD k 0) (gI (frm.getD i []) (k : Nat)) 20)
  st : ∀ i, i < l.length → W.Rch ls i → ∀ (k : Nat) (s : Step), (l.getD i sgnul).code[k]? = some s → ∀ n ∈ usesL s, SetA (W.Dom ls) L n (i : Int) (k : Int)
  ls : ∀ i, i < l.length → W.Rch ls i → ∀ n ∈ (l.getD i sgnul).last ++ [(l.getD i sgnul).test], n < 0 ∨ SetA (W.Dom ls) L n (i : Int) 20
theorem own_base_le {α : Type} {f : α → List Value} {size base E : Nat} {w : World} {v : Value} {l : List α} (h : Own f size w base E v l) (hl : 0 < l.length) : base ≤ w.heap.size := by
  obtain ⟨g, cap, -, h1, h2, -⟩ := Own.some_ h hl
  omega
theorem off_tyO {α : Type} {f : α → List Value} {size base E E' : Nat} {w : World} {v : Value} {l : List α} (h : Own f size w base E v l) {T : Nat} {cs : Array Value} (hT : w.heap[T]? = some (.cells cs E' (0, 0))) (hE : E ≠ E') : v.ownBlock ≠ some T := by
  rcases h.2 with ⟨rfl, _⟩ | ⟨g, cap, cur, rfl, _, hh, _⟩
  · intro e; cases e
  · intro e
    have e : some g = some T := e
    injection e with e
    subst e
    rw [hh] at hT
    injection hT with hT
    injection hT with _ h2 _
    exact hE h2
theorem rd_keep6 {α : Type} {f : α → List Value} {size : Nat} {w w' : World} {A : Option Addr} {l : List α} (h : Rd f size w A l) (hb : Below w.heap.size w w') : Rd f size w' A l := Rd.below h hb
set_option maxHeartbeats 64000000 in
theorem once_calls (vars : Nat) (A : Option Addr) (l : List Sg) (frm : List (List Int)) (cap : Nat) (w : World) (hA : RdSg w A l) (hok : SgOk vars l frm) (hf100 : ∀ i, (frm.getD i []).length ≤ 100) (hnd : ((preE vars l l.length).map (·.1)).Nodup) {ls : List (List Int)} (hls : nexts (l.map bareB) = ls) (hO : OnceP ls frm (preE vars l l.length) l) :
    Calls Try.prog 22 #[.int .i64 (vars : Nat), .slice A l.length cap] w fun e w' => e = .returned (.tuple #[.bool true, .int .i64 0]) ∧ Below w.heap.size w w' := by
  have hn1 := hok.n1
  have hn8 := hok.n8
  have hv6 := hok.v6
  have hvx := nexts_fit hok
  rw [hls] at hvx
  have hll : ls.length = l.length := by rw [← hls]; simp [nexts]
  have HA := Lib.hid hA
  have HOK := Lib.hid hok
  have Hf := Lib.hid hf100
  have HOP := Lib.hid hO
  have HV := Lib.hid hvx
  have Hll := Lib.hid hll
  have Hls := Lib.hid hls
  have Hck := Lib.hid (checkS_calls vars A l frm cap w hA hok hf100)
  have Hst := Lib.hid (fun w' (hb : Below w.heap.size w w') => sets_calls vars A l frm cap w' (hA.below hb) hok hnd)
  have Hnr := Lib.hid (nexts_nodup (l.map bareB))
  rw [hls] at Hnr
  have Hfe : Hid (fromX ls = frm) := Lib.hid (by rw [hok.fe, hls])
  have Hfl : Hid (frm.length = l.length) := Lib.hid (by rw [← Hfe.out]; unfold fromX turnX; simp [hll])
  clear hA hok hO hvx hll hnd hf100 hls
  generalize hLL : preE vars l l.length = LL at *
  have HLL := Lib.hid hLL
  clear hLL
  go_enter Try.func22, Try.ntmps22
  go_wp2_with fail
  (with_reducible refine Hck.out.mono ?_)
  rintro e w1 ⟨rfl, hW1⟩
  have HW1 := Lib.hid hW1
  have Hst1 := Lib.hid (Hst.out w1 hW1)
  unfold SetsE at Hst1
  rw [HLL.out] at Hst1
  clear hW1 Hck Hst
  go_wp2_with fail
  (with_reducible refine Hst1.out.mono ?_)
  rintro e w2 ⟨⟨Wb, nM, f, rfl, hM2, hL2, hWb⟩, hB2⟩
  have HW2 := Lib.hid (HW1.out.trans (hB2.mono HW1.out.size))
  have HL2 := Lib.hid hL2
  -- the map's box
  have HM3 := Lib.hid (hM2.alloc (.cells #[.map (some Wb)] 119))
  have HN3 := Lib.hid (heap_alloc_new w2 (.cells #[.map (some Wb)] 119))
  have HW3 := Lib.hid (HW2.out.alloc HW2.out.size (.cells #[.map (some Wb)] 119))
  obtain ⟨M, hM⟩ : ∃ M, M = w2.heap.size := ⟨_, rfl⟩
  obtain ⟨w3, hw3⟩ : ∃ w3, w3 = w2.alloc (.cells #[.map (some Wb)] 119) := ⟨_, rfl⟩
  rw [← hw3] at HM3 HN3 HW3
  rw [← hM] at HN3
  have Hba := Lib.hid (bare_calls A l cap w3 (HA.out.below HW3.out) hn8)
  have Hw3 := Lib.hid hw3
  have HMe := Lib.hid hM
  clear hM2 hL2 hB2 hw3 hM Hst1 hWb
  go_wp2_with fail
  rw [← HMe.out, ← Hw3.out]
  (with_reducible refine Hba.out.mono ?_)
  rintro e w4 ⟨⟨A4, c4, rfl, hR4⟩, hB4⟩
  have HB4 := Lib.hid hB4
  have hn := next_calls A4 (l.map bareB) c4 w4 hR4 (by simp; omega) (by simp; omega)
  rw [List.length_map, Hls.out] at hn
  have Hn := Lib.hid hn
  clear hR4 hB4 hn Hba
  go_wp2_with fail
  (with_reducible refine Hn.out.mono ?_)
  rintro e w5 ⟨b5, rfl, hR5, hB5⟩
  have HB5 := Lib.hid (HB4.out.trans (hB5.mono HB4.out.size))
  have HR5 := Lib.hid hR5
  have hr := W.rules_calls (some ⟨b5, 0, none⟩) ls l.length w5 hR5 (by
    have h1 : ∀ {n : Nat} {l : List (List Int)}, (∀ r ∈ l, r.length ≤ 3 ∧ ∀ x ∈ r, 0 ≤ x ∧ x < (n : Int)) → W.wErrs n l = 0 := by
      intro n l
      induction l with
      | nil => intro _; rfl
      | cons r l ih =>
        intro h
        obtain ⟨h1, h2⟩ := h r (by simp)
        have e : W.wErr1 n r = 0 := W.wErr1_0 (by omega) (by
          unfold insideB
          rw [List.all_eq_true]
          intro x hx
          have := h2 x hx
          simp
          omega)
        show (if W.wErr1 n r = 0 then W.wErrs n l else W.wErr1 n r) = 0
        rw [if_pos e]
        exact ih (fun r' hr => h r' (by simp [hr]))
    unfold W.wayErr
    rw [if_neg (by rw [Hll.out]; omega)]
    exact h1 HV.out)
  rw [Hll.out] at hr
  have Hr := Lib.hid hr
  clear hR5 hB5 hr Hn
  go_wp2_with fail
  (with_reducible refine Hr.out.mono ?_)
  rintro e w6 ⟨v6, rfl, hU6, hB6⟩
  obtain ⟨gR, cR, rfl, -, -, -, -, -⟩ := W.OwnU.at_ hU6 (by rw [W.rulesL_len, Hll.out]; omega)
  rw [W.rulesL_len] at hU6
  rw [W.rulesL_len, Hll.out]
  have HU6 := Lib.hid hU6
  have HB6 := Lib.hid (HB5.out.trans (hB6.mono HB5.out.size))
  have hfm := fromS_ok (some ⟨b5, 0, none⟩) ls l.length w6 (HR5.out.below hB6) (by rw [Hll.out]; omega) (by rw [Hll.out]; omega) HV.out Hnr.out
  rw [Hll.out, Hfe.out] at hfm
  have Hfm := Lib.hid hfm
  clear hU6 hB6 hfm Hr
  go_wp2_with fail
  (with_reducible refine Hfm.out.mono ?_)
  rintro e w7 ⟨B7, rfl, hR7, hB7⟩
  have HB7 := Lib.hid (HB6.out.trans (hB7.mono HB6.out.size))
  have hU7 := Own.below HU6.out hB7
  have HNR := heap_alloc_new w7 (.cells #[.slice (some ⟨gR, 0, none⟩) l.length cR] 100)
  have hBb := HB7.out.alloc HB7.out.size (.cells #[.slice (some ⟨gR, 0, none⟩) l.length cR] 100)
  have hR8 := hR7.below ((Below.refl w7.heap.size w7).alloc (Nat.le_refl _) (.cells #[.slice (some ⟨gR, 0, none⟩) l.length cR] 100))
  obtain ⟨R, hR⟩ : ∃ R, R = w7.heap.size := ⟨_, rfl⟩
  obtain ⟨wb, hwb⟩ : ∃ wb, wb = w7.alloc (.cells #[.slice (some ⟨gR, 0, none⟩) l.length cR] 100) := ⟨_, rfl⟩
  have hUb := hU7.alloc (.cells #[.slice (some ⟨gR, 0, none⟩) l.length cR] 100)
  rw [← hwb] at HNR hBb hR8 hUb
  rw [← hR] at HNR
  have HSO : Hid (StO ls wb M R Wb gR cR w5.heap.size nM LL f) := Lib.hid ⟨(hBb.block M (lt_h HN3.out)).trans HN3.out, by rw [Hll.out]; exact HNR, HM3.out.kept (row := none) ⟨hBb.os, hBb.tape, hBb.output, hBb.size, fun i hi _ => hBb.block i hi⟩ (by simp), HL2.out, hUb⟩
  have HR8 := Lib.hid hR8
  have HWb := Lib.hid (HW3.out.trans (hBb.mono HW3.out.size))
  have Hwb := Lib.hid hwb
  have HRe := Lib.hid hR
  clear hR7 hB7 hU7 hBb hR8 hUb hwb hR HNR HU6 HB7 HB6 HB5 HB4 HR5 HM3 HN3 HW3 HW2 HW1 HL2 Hfm
  go_wp2
  rw [← HRe.out, ← Hwb.out]
  go_loopw [8, 48] (fun o i wr => ∃ I : Nat, i = .int .i64 (I : Nat) ∧ I ≤ l.length ∧ o = .bool true ∧ Hid (Below wb.heap.size wb wr)) (fun _ i _ => l.length - (intOf i).toNat)
  case atStart => exact ⟨0, rfl, Nat.zero_le _, rfl, Below.refl _ _⟩
  case round =>
    obtain ⟨I, rfl, hI, rfl, hB⟩ := hrel
    by_cases hlt : I < l.length
    · have hIl : ((I : Nat) : Int) < ((l.length : Nat) : Int) := by omega
      have HWr := Lib.hid (HWb.out.trans (hB.out.mono HWb.out.size))
      obtain ⟨b, off, A1, c1, A2, c2, A3, c3, rfl, hb, e0, e1, e2, e3, e4, e5, r1, r2, r3⟩ := HA.out.at_ hlt
      rw [← HWr.out.cell hb] at e0 e1 e2 e3 e4 e5
      obtain ⟨fb, fo, FA, fc, rfl, hfb, f0, fR⟩ := row_get' HR8.out (i := I) (by rw [Hfl.out]; exact hlt)
      have Hf0 := Lib.hid f0
      clear f0
      have hgd : l.getD I sgnul = l[I] := by rw [List.getD_eq_getElem?_getD, List.getElem?_eq_getElem hlt]; rfl
      have hins := HOK.out.ins I hlt
      have hj := HOP.out.jn I hlt
      have hs := HOP.out.st I hlt
      have hl := HOP.out.ls I hlt
      have hs20 : l[I].code.length ≤ 20 := by
        have := sum_take (f := fun b => b.code.length) hlt
        have h2 := sum_take_le (f := fun b => b.code.length) (l := l) (I + 1)
        have h3 := HOK.out.steps
        unfold sumS at h3
        omega
      have hj64 : l[I].joins.length ≤ 64 := by
        have := sum_take (f := fun b => b.joins.length) hlt
        have h2 := sum_take_le (f := fun b => b.joins.length) (l := l) (I + 1)
        have h3 := HOK.out.joins
        unfold sumJ at h3
        omega
      have hlst := HOK.out.last _ (List.getElem_mem hlt)
      have hfx := Hf.out I
      rw [hgd] at hins hj hs hl
      have Hin := Lib.hid hins
      have HJ := Lib.hid hj
      have HSt := Lib.hid hs
      have HLs := Lib.hid hl
      have H1 := Lib.hid r1
      have H2 := Lib.hid r2
      have H3 := Lib.hid r3
      have HfR := Lib.hid fR
      have hIls : I < ls.length := by rw [Hll.out]; exact hlt
      have HIls := Lib.hid hIls
      clear hins hj hs hl r1 r2 r3 fR hgd
      generalize l[I] = sg at *
      generalize frm.getD I [] = FR at *
      obtain ⟨js, cd, ts, th, el, lst⟩ := sg
      dsimp only at e0 e1 e2 e3 e4 e5 hs20 hj64 hlst Hin HJ HSt HLs H1 H2 H3
      have Hlst := Lib.hid hlst
      have hlst6 : lst.length ≤ 6 := by omega
      have hlst1 : 1 ≤ lst.length := by have := HOK.out.v1; omega
      have hBa := hB.out.alloc hB.out.size (.cells #[.slice A1 js.length c1, .slice A2 cd.length c2, .int .i64 ts, .int .i64 th, .int .i64 el, .slice A3 lst.length c3] 114)
      have HNB := Lib.hid (heap_alloc_new wr (.cells #[.slice A1 js.length c1, .slice A2 cd.length c2, .int .i64 ts, .int .i64 th, .int .i64 el, .slice A3 lst.length c3] 114))
      obtain ⟨PB, hPB⟩ : ∃ PB, PB = wr.heap.size := ⟨_, rfl⟩
      obtain ⟨ua, hua⟩ : ∃ ua, ua = wr.alloc (.cells #[.slice A1 js.length c1, .slice A2 cd.length c2, .int .i64 ts, .int .i64 th, .int .i64 el, .slice A3 lst.length c3] 114) := ⟨_, rfl⟩
      have hSr := HSO.out.below hB.out
      have cRb := cell_h hSr.hR 0
      rw [Hll.out] at cRb
      have hRl := lt_h hSr.hR
      have cRi := hSr.rule hIls
      have hgRl : gR < wr.heap.size := (own_lt' hSr.ru gR rfl).2
      rw [← hua] at hBa HNB
      rw [← hPB] at HNB
      have HBa := Lib.hid hBa
      have Hua := Lib.hid hua
      have HPB := Lib.hid hPB
      clear hlst hBa hua hPB hSr hB
      by_cases hR : W.Rch ls I
      · have hne := W.domS_some (by rw [Hll.out]; omega) (by rw [Hll.out]; omega) HV.out hR
        have q0 : (((W.domS ls I : Nat) : Int) == 0) = false := by rw [beq_eq_false_iff_ne]; omega
        have HRc := Lib.hid hR
        generalize W.domS ls I = DI at *
        clear hne hR hIls
        go_wp2
        rw [← HPB.out, ← Hua.out]
        clear e0 e1 e2 e3 e4 e5 cRb cRi q0 hRl hgRl
        -- what comes into the Joins
        go_loopw [8, 61] (fun o i wr => ∃ k : Nat, i = .int .i64 (k : Nat) ∧ k ≤ js.length ∧ o = .bool true ∧ Hid (Below ua.heap.size ua wr)) (fun _ i _ => js.length - (intOf i).toNat)
        case atStart => exact ⟨0, rfl, Nat.zero_le _, rfl, Below.refl _ _⟩
        case round =>
          obtain ⟨k, rfl, hk, rfl, hB⟩ := hrel
          by_cases hltk : k < js.length
          · have HBk := Lib.hid (HBa.out.trans (hB.out.mono HBa.out.size))
            have HWk := Lib.hid (HWb.out.trans (HBk.out.mono HWb.out.size))
            obtain ⟨b6, off6, A6, c6, rfl, hb6, g0, g1, hR6⟩ := H1.out.at_ hltk
            rw [← HWk.out.cell hb6] at g0 g1
            have hkl : ((k : Nat) : Int) < ((js.length : Nat) : Int) := by omega
            have hjn := Hin.out.jn _ (List.getElem_mem hltk)
            have hjj := HJ.out HRc.out _ (List.getElem_mem hltk)
            have HR6 := Lib.hid hR6
            generalize js[k] = j at *
            obtain ⟨jt, jf⟩ := j
            dsimp only at g0 g1 hjn hjj HR6
            obtain ⟨hjl, -, hjf⟩ := hjn
            have HJF := Lib.hid hjf
            have HJJ := Lib.hid hjj
            have HJLn := Lib.hid hjl
            have hjl2 : jf.length ≤ 100 := by omega
            have HBj := Lib.hid (hB.out.alloc hB.out.size (.cells #[.int .i64 jt, .slice A6 jf.length c6] 128))
            obtain ⟨PJ, hPJ⟩ : ∃ PJ, PJ = wr.heap.size := ⟨_, rfl⟩
            obtain ⟨uj, huj⟩ : ∃ uj, uj = wr.alloc (.cells #[.int .i64 jt, .slice A6 jf.length c6] 128) := ⟨_, rfl⟩
            rw [← huj] at HBj
            have Huj := Lib.hid huj
            have HPJ := Lib.hid hPJ
            have Hltk := Lib.hid hltk
            clear hR6 hjl hjf hjj huj hPJ hB hltk
            go_wp2
            rw [← HPJ.out, ← Huj.out]
            clear g0 g1
            go_loopw [8, 68] (fun o i wr => ∃ m : Nat, i = .int .i64 (m : Nat) ∧ m ≤ jf.length ∧ o = .bool true ∧ Hid (Below ua.heap.size ua wr)) (fun _ i _ => jf.length - (intOf i).toNat)
            case atStart => exact ⟨0, rfl, Nat.zero_le _, rfl, HBj⟩
            case round =>
              obtain ⟨m, rfl, hm, rfl, hB⟩ := hrel
              by_cases hltm : m < jf.length
              · have HBm := Lib.hid (HBa.out.trans (hB.out.mono HBa.out.size))
                have HWm := Lib.hid (HWb.out.trans (HBm.out.mono HWb.out.size))
                obtain ⟨b7, off7, rfl, hb7, g2⟩ := RdI.at1 HR6.out hltm
                rw [← HWm.out.cell hb7] at g2
                have hml : ((m : Nat) : Int) < ((jf.length : Nat) : Int) := by omega
                have hmf : m < FR.length := by rw [← HJLn.out]; exact hltm
                have f0 := (HBm.out.cell (p := ⟨fb, fo + I, none⟩) hfb).trans Hf0.out
                obtain ⟨b8, off8, rfl, hb8, g3⟩ := RdI.at1 HfR.out hmf
                rw [← HBm.out.cell hb8] at g3
                have hgf : gI FR ((m : Nat) : Int) = FR[m] := by unfold gI; rw [Int.toNat_natCast, List.getD_eq_getElem?_getD, List.getElem?_eq_getElem hmf]; rfl
                have hgj : jf.getD m 0 = jf[m] := by rw [List.getD_eq_getElem?_getD, List.getElem?_eq_getElem hltm]; rfl
                have hcs := HJJ.out m hltm
                rw [hgf, hgj] at hcs
                have hnok := HJF.out _ (List.getElem_mem hltm)
                have hn64 : in64 jf[m] := ⟨by have := hnok.1; omega, by have := hnok.2; omega⟩
                have hmfi : ((m : Nat) : Int) < ((FR.length : Nat) : Int) := by omega
                have hSr := HSO.out.below HBm.out
                have cRb := cell_h hSr.hR 0
                rw [Hll.out] at cRb
                have Hltm := Lib.hid hltm
                clear hgf hgj hnok
                generalize FR[m] = fv at *
                generalize jf[m] = nv at *
                clear hltm hmf
                rcases hcs with ⟨h0, h1, h2⟩ | ⟨h1, h2, hset⟩
                · obtain ⟨fn, rfl⟩ := Int.eq_ofNat_of_zero_le h0
                  rw [Int.toNat_natCast] at h2
                  have hfl : fn < ls.length := by omega
                  have cRi := hSr.rule hfl
                  rw [W.domS_none (by rw [Hll.out]; omega) (by rw [Hll.out]; omega) HV.out h2] at cRi
                  have hfi : ((fn : Nat) : Int) < ((l.length : Nat) : Int) := by rw [← Hll.out]; omega
                  clear h2 hfl hSr
                  go_wp2
                  all_goals (try (exfalso; omega))
                  go_roundw
                  case rel => exact ⟨m + 1, by go_num, by have := Hltm.out; omega, rfl, hB⟩
                  case measure => have := Hltm.out; simp [intOf]; omega
                · have Hsc := Lib.hid (onceC_calls hSr (by rw [Hll.out]; omega) (by rw [Hll.out]; omega) HV.out (x := nv) (i := fv) (k := 20) hn64 h1 hset)
                  by_cases h0 : 0 ≤ fv
                  · obtain ⟨fn, rfl⟩ := Int.eq_ofNat_of_zero_le h0
                    have hRf := h2 h0
                    rw [Int.toNat_natCast] at hRf
                    have hfl : fn < ls.length := by omega
                    have cRi := hSr.rule hfl
                    have hne := W.domS_some (by rw [Hll.out]; omega) (by rw [Hll.out]; omega) HV.out hRf
                    have q0 : (((W.domS ls fn : Nat) : Int) == 0) = false := by rw [beq_eq_false_iff_ne]; omega
                    have hfi : ((fn : Nat) : Int) < ((l.length : Nat) : Int) := by rw [← Hll.out]; omega
                    generalize W.domS ls fn = DF at *
                    clear h2 hRf hne hset hSr
                    go_wp2_with (go_at_call 68; (with_reducible refine Hsc.out.mono ?_); rintro e w' ⟨rfl, hBs⟩)
                    all_goals (try (exfalso; omega))
                    have HBs := Lib.hid (hB.out.trans (hBs.mono hB.out.size))
                    go_roundw
                    case rel => exact ⟨m + 1, by go_num, by have := Hltm.out; omega, rfl, HBs⟩
                    case measure => have := Hltm.out; simp [intOf]; omega
                  · clear h2 hset hSr
                    go_wp2_with (go_at_call 68; (with_reducible refine Hsc.out.mono ?_); rintro e w' ⟨rfl, hBs⟩)
                    all_goals (try (exfalso; omega))
                    have HBs := Lib.hid (hB.out.trans (hBs.mono hB.out.size))
                    go_roundw
                    case rel => exact ⟨m + 1, by go_num, by have := Hltm.out; omega, rfl, HBs⟩
                    case measure => have := Hltm.out; simp [intOf]; omega
              · have : m = jf.length := by omega
                subst this
                go_wp2
                go_roundw
                case rel => exact ⟨k + 1, by go_num, by have := Hltk.out; omega, rfl, hB⟩
                case measure => have := Hltk.out; simp [intOf]; omega
          · have : k = js.length := by omega
            subst this
            have d1 := cell_h ((hB.out.block PB (lt_h HNB.out)).trans HNB.out) 1
            obtain ⟨wo, rfl⟩ : ∃ wo : World, wo = wr := ⟨_, rfl⟩
            have HBo := hB
            clear hB hltk hk
            go_wp2
            go_loopw [8, 103] (fun o i wr => ∃ k : Nat, i = .int .i64 (k : Nat) ∧ k ≤ cd.length ∧ o = .bool true ∧ Hid (Below ua.heap.size ua wr)) (fun _ i _ => cd.length - (intOf i).toNat)
            case atStart => exact ⟨0, rfl, Nat.zero_le _, rfl, HBo⟩
            case round =>
              clear HBo d1
              obtain ⟨k, rfl, hk, rfl, hB⟩ := hrel
              by_cases hltk : k < cd.length
              · have HBk := Lib.hid (HBa.out.trans (hB.out.mono HBa.out.size))
                have HWk := Lib.hid (HWb.out.trans (HBk.out.mono HWb.out.size))
                obtain ⟨b6, off6, rfl, hb6, g0, g1, g2, g3, g4⟩ := RdSt.at5 H2.out hltk
                rw [← HWk.out.cell hb6] at g0 g1 g2 g3 g4
                have hkl : ((k : Nat) : Int) < ((cd.length : Nat) : Int) := by omega
                have hin := Hin.out.st _ (List.getElem_mem hltk)
                have hsc := HSt.out HRc.out k _ (List.getElem?_eq_getElem hltk)
                have Hltk := Lib.hid hltk
                generalize cd[k] = sc at *
                obtain ⟨op, tg, sa, sb, sv⟩ := sc
                dsimp only at g0 g1 g2 g3 g4
                have HUS := Lib.hid (fun w' => uses_calls ⟨op, tg, sa, sb, sv⟩ w')
                unfold Step.agg at HUS
                dsimp only at HUS
                have Hul := usesL_len ⟨op, tg, sa, sb, sv⟩
                have HUN := Lib.hid hin.2.2.2.2
                have HSC := Lib.hid hsc
                clear hin hsc
                generalize usesL ⟨op, tg, sa, sb, sv⟩ = UL at *
                have HBs := Lib.hid (hB.out.alloc hB.out.size (.cells #[.int .i64 op, .int .i64 tg, .int .i64 sa, .int .i64 sb, .int .i64 sv] 87))
                clear hB hltk
                go_wp2_with fail
                (with_reducible refine (HUS.out _).mono ?_)
                rintro e w9 ⟨⟨A9, c9, rfl, hR9⟩, hB9⟩
                have HR9 := Lib.hid hR9
                have HB9 := Lib.hid (HBs.out.trans (hB9.mono HBs.out.size))
                clear hR9 hB9 HBs
                go_wp2
                go_loopw [8, 111] (fun o i wr => ∃ m : Nat, i = .int .i64 (m : Nat) ∧ m ≤ UL.length ∧ o = .bool true ∧ Hid (Below w9.heap.size w9 wr)) (fun _ i _ => UL.length - (intOf i).toNat)
                case atStart => exact ⟨0, rfl, Nat.zero_le _, rfl, Below.refl _ _⟩
                case round =>
                  obtain ⟨m, rfl, hm, rfl, hB⟩ := hrel
                  by_cases hltm : m < UL.length
                  · obtain ⟨b7, off7, rfl, hb7, z0⟩ := RdI.at1 (Rd.below HR9.out hB.out) hltm
                    have hml : ((m : Nat) : Int) < ((UL.length : Nat) : Int) := by omega
                    have hset := HSC.out _ (List.getElem_mem hltm)
                    have hnok := HUN.out _ (List.getElem_mem hltm)
                    have Hltm := Lib.hid hltm
                    generalize UL[m] = nv at *
                    have hSr := HSO.out.below (HBa.out.trans ((HB9.out.trans (hB.out.mono HB9.out.size)).mono HBa.out.size))
                    have Hsc := Lib.hid (onceC_calls hSr (by rw [Hll.out]; omega) (by rw [Hll.out]; omega) HV.out (x := nv) (i := ((I : Nat) : Int)) (k := ((k : Nat) : Int)) ⟨by have := hnok.1; omega, by have := hnok.2; omega⟩ (by have := HIls.out; omega) hset)
                    clear hset hnok hSr hltm
                    go_wp2_with (go_at_call 68; (with_reducible refine Hsc.out.mono ?_); rintro e w' ⟨rfl, hBs⟩)
                    have HBs := Lib.hid (hB.out.trans (hBs.mono hB.out.size))
                    go_roundw
                    case rel => exact ⟨m + 1, by go_num, by have := Hltm.out; omega, rfl, HBs⟩
                    case measure => have := Hltm.out; simp [intOf]; omega
                  · have : m = UL.length := by omega
                    subst this
                    have HBe := Lib.hid (HB9.out.trans (hB.out.mono HB9.out.size))
                    go_wp2
                    go_roundw
                    case rel => exact ⟨k + 1, by go_num, by have := Hltk.out; omega, rfl, HBe⟩
                    case measure => have := Hltk.out; simp [intOf]; omega
              · have : k = cd.length := by omega
                subst this
                obtain ⟨wc, rfl⟩ : ∃ wc : World, wc = wr := ⟨_, rfl⟩
                have HBc := hB
                have HPl : Hid (PB < ua.heap.size) := Lib.hid (lt_h HNB.out)
                have hNc := (hB.out.block PB (lt_h HNB.out)).trans HNB.out
                have HRl := Lib.hid (rd_keep6 H3.out (HWb.out.trans ((HBa.out.trans (hB.out.mono HBa.out.size)).mono HWb.out.size)))
                have HK0 : Hid (wc.drew.cell? ⟨PB, 5, none⟩ = some (.slice A3 lst.length c3) ∧ wc.drew.cell? ⟨PB, 2, none⟩ = some (.int .i64 ts)) := Lib.hid ⟨cell_h hNc 5, cell_h hNc 2⟩
                have HN0 : Hid (wc.drew.heap[PB]? = some (.cells #[.slice A1 js.length c1, .slice A2 cd.length c2, .int .i64 ts, .int .i64 th, .int .i64 el, .slice A3 lst.length c3] 114 (0, 0))) := Lib.hid hNc
                have HW0 : Hid (Below wc.heap.size wc wc.drew) := Lib.hid (Below.refl _ _).drew
                clear hNc hltk hk hB
                go_wp2
                refine wp_region_held_drew (S := fun w' => w'.cell? ⟨PB, 5, none⟩ = some (.slice A3 lst.length c3) ∧ w'.cell? ⟨PB, 2, none⟩ = some (.int .i64 ts)) (by kernel_rfl) HK0.out (fun hH0 => ?_)
                refine wpAnyH_take (i := 0) (oi := { dst := some 125, op := Go.Op.fieldAddr 114 (Go.Operand.tmp 14) 5, type := 0, pos := "single.go:197", after := #[], guard := none }) rfl (by kernel_rfl) (by kernel_rfl) (by kernel_rfl) (fun _ _ _ h => h) (Or.inl ⟨by rfl, fun w hw => by (go_simp; try with_reducible rfl)⟩) (by assumption) ?_
                try simp only [Act.put, List.setIfInBounds_toArray, List.set_cons_zero, List.set_cons_succ]
                refine wpAnyH_take (i := 1) (oi := { dst := some 126, op := Go.Op.load 23 (Go.Operand.tmp 125), type := 23, pos := "single.go:197", after := #[{ on := 0, ground := Go.Ground.data }], guard := none }) rfl (by kernel_rfl) (by kernel_rfl) (by kernel_rfl) (fun _ _ _ h => h) (Or.inl ⟨by rfl, fun w hw => by (obtain ⟨p0, p1⟩ := hw; go_simp; try with_reducible rfl)⟩) (by assumption) ?_
                try simp only [Act.put, List.setIfInBounds_toArray, List.set_cons_zero, List.set_cons_succ]
                refine wpAnyH_take (i := 3) (oi := { dst := some 128, op := Go.Op.fieldAddr 114 (Go.Operand.tmp 14) 2, type := 0, pos := "single.go:197", after := #[], guard := none }) rfl (by kernel_rfl) (by kernel_rfl) (by kernel_rfl) (fun _ _ _ h => h) (Or.inl ⟨by rfl, fun w hw => by (go_simp; try with_reducible rfl)⟩) (by assumption) ?_
                try simp only [Act.put, List.setIfInBounds_toArray, List.set_cons_zero, List.set_cons_succ]
                refine wpAnyH_take (i := 4) (oi := { dst := some 129, op := Go.Op.load 3 (Go.Operand.tmp 128), type := 3, pos := "single.go:197", after := #[{ on := 3, ground := Go.Ground.data }], guard := none }) rfl (by kernel_rfl) (by kernel_rfl) (by kernel_rfl) (fun _ _ _ h => h) (Or.inl ⟨by rfl, fun w hw => by (obtain ⟨p0, p1⟩ := hw; go_simp; try with_reducible rfl)⟩) (by assumption) ?_
                try simp only [Act.put, List.setIfInBounds_toArray, List.set_cons_zero, List.set_cons_succ]
                refine wpAnyH_take (i := 8) (oi := { dst := some 133, op := Go.Op.move (Go.Operand.const (Go.Value.int Go.IntKind.i64 0)), type := 3, pos := "single.go:197", after := #[], guard := none }) rfl (by kernel_rfl) (by kernel_rfl) (by kernel_rfl) (fun _ _ _ h => h) (Or.inl ⟨by rfl, fun w hw => by (go_simp; try with_reducible rfl)⟩) (by assumption) ?_
                try simp only [Act.put, List.setIfInBounds_toArray, List.set_cons_zero, List.set_cons_succ]
                refine wpAnyH_ready (rs := [2, 5]) (by kernel_rfl) (by simp) ?_
                refine AllReadyH.cons (o := { dst := some 127, op := Go.Op.call { callee := Go.Callee.value (Go.Operand.func 59), args := #[Go.Operand.tmp 126], argTypes := #[23] }, type := 23, pos := "single.go:197", after := #[{ on := 1, ground := Go.Ground.data }], guard := none }) rfl (fun K hK => ?_) ?_
                · go_simp
                  go_at_call 59
                  (with_reducible refine (cloneI_calls A3 lst c3 _ (rd_keep6 HRl.out HW0.out) (by omega) (by omega)).mono ?_)
                  rintro e u1 ⟨v9, rfl, hO9, hB9⟩
                  obtain ⟨A9, c9, e9, -⟩ := OwnI.rd hO9
                  subst e9
                  have HW1 : Hid (Below wc.heap.size wc u1) := Lib.hid (HW0.out.trans (hB9.mono HW0.out.size))
                  have HN1 := Lib.hid ((hB9.block PB (lt_h HN0.out)).trans HN0.out)
                  have HO9 := Lib.hid hO9
                  clear hB9 hO9
                  refine hK.out _ _ ⟨cell_h HN1.out 5, cell_h HN1.out 2⟩ (fun hH1 => ?_)
                  clear hK hH0
                  have hH0 := hH1
                  clear hH1
                  try simp only [Act.put, List.setIfInBounds_toArray, List.set_cons_zero, List.set_cons_succ]
                  refine wpAnyH_ready (rs := [5]) (by kernel_rfl) (by simp) ?_
                  refine AllReadyH.cons (o := { dst := some 130, op := Go.Op.buildSlice 23 1 #[(0, Go.Operand.tmp 129)], type := 23, pos := "single.go:197", after := #[{ on := 4, ground := Go.Ground.data }], guard := none }) rfl (fun K hK => ?_) AllReadyH.nil
                  go_simp
                  obtain ⟨u2, hu⟩ : ∃ x, x = u1.alloc (.cells #[.int .i64 ts] 3) := ⟨_, rfl⟩
                  obtain ⟨sz, hsz⟩ : ∃ sz, sz = u1.heap.size := ⟨_, rfl⟩
                  rw [← hsz, ← hu]
                  have HSz2 : Hid (u2.heap[sz]? = some (.cells #[.int .i64 ts] 3 (0, 0))) := Lib.hid (by rw [hu, hsz]; exact heap_alloc_new u1 _)
                  have HN2 : Hid (u2.heap[PB]? = some (.cells #[.slice A1 js.length c1, .slice A2 cd.length c2, .int .i64 ts, .int .i64 th, .int .i64 el, .slice A3 lst.length c3] 114 (0, 0))) := Lib.hid (by rw [hu]; exact (Below.heap_alloc u1 _ PB (lt_h HN1.out)).trans HN1.out)
                  have HW2 : Hid (Below wc.heap.size wc u2) := Lib.hid (by rw [hu]; exact HW1.out.alloc HW1.out.size _)
                  have HO9 := Lib.hid (show OwnI u2 _ 3 _ _ from by rw [hu]; exact HO9.out.alloc _)
                  clear hu hsz
                  refine hK.out _ _ ⟨cell_h HN2.out 5, cell_h HN2.out 2⟩ (fun hH1 => ?_)
                  clear hK hH0
                  have hH0 := hH1
                  clear hH1
                  try simp only [Act.put, List.setIfInBounds_toArray, List.set_cons_zero, List.set_cons_succ]
                  refine wpAnyH_ready (rs := [6]) (by kernel_rfl) (by simp) ?_
                  refine AllReadyH.cons (o := { dst := some 131, op := Go.Op.call { callee := Go.Callee.builtin Go.Builtin.append, args := #[Go.Operand.tmp 127, Go.Operand.tmp 130], argTypes := #[23, 23] }, type := 23, pos := "single.go:197", after := #[{ on := 2, ground := Go.Ground.data }, { on := 5, ground := Go.Ground.data }, { on := 2, ground := Go.Ground.chain }], guard := none }) rfl (fun K hK => ?_) AllReadyH.nil
                  obtain ⟨v8, u8, hrun, hown, hgrow, -⟩ := run_app1 (P := Try.prog) (w := u2) 23 23 intCells 1 8 3 (.int .i64 0) Try.underlying23 infoInt rfl (by decide) intCells_len intCells_one _ _ lst ts HO9.out sz 1 (fun j hj => by (obtain rfl : j = 0 := by omega); rw [cell_h HSz2.out]; rfl) (by unfold maxLen; omega) (by omega) (by have := own_base_le HO9.out (by omega); omega)
                  obtain ⟨A8, c8, e8, -⟩ := OwnI.rd hown
                  subst e8
                  try rw [if_pos (by rfl)]
                  refine wp_app_run 23 _ _ rfl rfl rfl hrun ?_
                  have hN8 := (hgrow.block PB (lt_h HN2.out) (fun e => off_tyO HO9.out HN2.out (by decide) e.symm)).trans HN2.out
                  have HW8 : Hid (Below wc.heap.size wc u8) := Lib.hid (HW2.out.grown hgrow HW2.out.size (fun q e => by have := (own_lt' HO9.out q e).1; have := HW0.out.size; omega))
                  have HO8 := Lib.hid hown
                  have HK8 : Hid (u8.cell? ⟨PB, 5, none⟩ = some (.slice A3 lst.length c3) ∧ u8.cell? ⟨PB, 2, none⟩ = some (.int .i64 ts)) := Lib.hid ⟨cell_h hN8 5, cell_h hN8 2⟩
                  clear hrun hown hgrow hN8
                  refine hK.out _ _ HK8.out (fun hH1 => ?_)
                  clear hK hH0
                  have hH0 := hH1
                  clear hH1
                  try simp only [Act.put, List.setIfInBounds_toArray, List.set_cons_zero, List.set_cons_succ]
                  refine wpAnyH_take (i := 7) (oi := { dst := some 132, op := Go.Op.call { callee := Go.Callee.builtin Go.Builtin.len, args := #[Go.Operand.tmp 131], argTypes := #[23] }, type := 3, pos := "single.go:197", after := #[{ on := 6, ground := Go.Ground.data }], guard := none }) rfl (by kernel_rfl) (by kernel_rfl) (by kernel_rfl) (fun _ _ _ h => h) (Or.inl ⟨by rfl, fun w hw => by (go_simp; try with_reducible rfl)⟩) (by assumption) ?_
                  try simp only [Act.put, List.setIfInBounds_toArray, List.set_cons_zero, List.set_cons_succ]
                  refine wpAnyH_done (by kernel_rfl) ?_ _
                  clear hH0
                  have HLE : Hid ((lst ++ [ts]).length = lst.length + 1) := Lib.hid (by simp)
                  have hnl7 : (lst ++ [ts]).length ≤ 7 := by simp; omega
                  have HNN : Hid (∀ n ∈ lst ++ [ts], n < 0 ∨ (in64 n ∧ SetA (W.Dom ls) LL n ((I : Nat) : Int) 20)) := Lib.hid (fun n hn => by
                    rcases HLs.out HRc.out n hn with h | h
                    · exact .inl h
                    · by_cases h0 : n < 0
                      · exact .inl h0
                      · refine .inr ⟨?_, h⟩
                        rcases List.mem_append.1 hn with hn | hn
                        · have := Hin.out.ls n hn
                          exact ⟨by have := this.1; omega, by have := this.2; omega⟩
                        · simp at hn
                          subst hn
                          have := Hin.out.ts (by dsimp only; omega)
                          dsimp only at this
                          exact ⟨by omega, by omega⟩)
                  generalize lst ++ [ts] = NL at *
                  obtain ⟨wd, rfl⟩ : ∃ wd : World, wd = u8 := ⟨_, rfl⟩
                  obtain ⟨Ar, cr, er, hRr⟩ := OwnI.rd HO8.out
                  have er' : Ar = A8 := by injection er with e1 e2 e3; exact e1.symm
                  subst er'
                  have HRr := Lib.hid hRr
                  clear hRr er
                  go_wp2
                  go_loopw [8, 133] (fun o i wr => ∃ m : Nat, i = .int .i64 (m : Nat) ∧ m ≤ NL.length ∧ o = .bool true ∧ Hid (Below wd.heap.size wd wr)) (fun _ i _ => NL.length - (intOf i).toNat)
                  case atStart => exact ⟨0, rfl, Nat.zero_le _, rfl, Below.refl _ _⟩
                  case round =>
                    obtain ⟨m, rfl, hm, rfl, hB⟩ := hrel
                    have HBw := Lib.hid ((HBa.out.trans (HBc.out.mono HBa.out.size)).trans ((HW8.out.trans (hB.out.mono HW8.out.size)).mono (by have := HBa.out.size; have := HBc.out.size; omega)))
                    by_cases hltm : m < NL.length
                    · obtain ⟨b7, off7, rfl, hb7, z0⟩ := RdI.at1 (Rd.below HRr.out hB.out) hltm
                      have hml : ((m : Nat) : Int) < ((NL.length : Nat) : Int) := by omega
                      have hcs := HNN.out _ (List.getElem_mem hltm)
                      have Hltm := Lib.hid hltm
                      generalize NL[m] = nv at *
                      clear hltm
                      by_cases hneg : nv < 0
                      · clear hcs
                        go_wp2
                        all_goals (try (exfalso; have := HLE.out; omega))
                        go_roundw
                        case rel => exact ⟨m + 1, by go_num, by have := Hltm.out; omega, rfl, hB⟩
                        case measure => have := Hltm.out; simp [intOf]; omega
                      · obtain ⟨h64, hset⟩ : in64 nv ∧ SetA (W.Dom ls) LL nv ((I : Nat) : Int) 20 := hcs.resolve_left hneg
                        have hSr := HSO.out.below HBw.out
                        have Hsc := Lib.hid (onceC_calls hSr (by rw [Hll.out]; omega) (by rw [Hll.out]; omega) HV.out (x := nv) (i := ((I : Nat) : Int)) (k := 20) h64 (by have := HIls.out; omega) hset)
                        clear hset h64 hSr hcs
                        go_wp2_with (go_at_call 68; (with_reducible refine Hsc.out.mono ?_); rintro e w' ⟨rfl, hBs⟩)
                        all_goals (try (exfalso; have := HLE.out; omega))
                        have HBs := Lib.hid (hB.out.trans (hBs.mono hB.out.size))
                        go_roundw
                        case rel => exact ⟨m + 1, by go_num, by have := Hltm.out; omega, rfl, HBs⟩
                        case measure => have := Hltm.out; simp [intOf]; omega
                    · have : m = NL.length := by omega
                      subst this
                      go_wp2
                      all_goals (try (exfalso; have := HLE.out; omega))
                      go_roundw
                      case rel => exact ⟨I + 1, by go_num, by omega, rfl, HBw⟩
                      case measure => simp [intOf]; omega
                refine AllReadyH.cons (o := { dst := some 130, op := Go.Op.buildSlice 23 1 #[(0, Go.Operand.tmp 129)], type := 23, pos := "single.go:197", after := #[{ on := 4, ground := Go.Ground.data }], guard := none }) rfl (fun K hK => ?_) AllReadyH.nil
                go_simp
                obtain ⟨u1, hu⟩ : ∃ x, x = (wc.alloc (.cells #[.int .i64 ts] 3)).drew := ⟨_, rfl⟩
                obtain ⟨sz, hsz⟩ : ∃ sz, sz = wc.heap.size := ⟨_, rfl⟩
                rw [← hsz, ← hu]
                have HSz1 : Hid (u1.heap[sz]? = some (.cells #[.int .i64 ts] 3 (0, 0))) := Lib.hid (by rw [hu, hsz]; exact heap_alloc_new wc _)
                have HN1 : Hid (u1.heap[PB]? = some (.cells #[.slice A1 js.length c1, .slice A2 cd.length c2, .int .i64 ts, .int .i64 th, .int .i64 el, .slice A3 lst.length c3] 114 (0, 0))) := Lib.hid (by rw [hu]; exact (Below.heap_alloc wc _ PB (lt_h HN0.out)).trans HN0.out)
                have HW1 : Hid (Below wc.heap.size wc u1) := Lib.hid (by rw [hu]; exact ((Below.refl _ _).alloc (Nat.le_refl _) _).drew)
                clear hu hsz
                refine hK.out _ _ ⟨cell_h HN1.out 5, cell_h HN1.out 2⟩ (fun hH1 => ?_)
                clear hK hH0
                have hH0 := hH1
                clear hH1
                try simp only [Act.put, List.setIfInBounds_toArray, List.set_cons_zero, List.set_cons_succ]
                refine wpAnyH_ready (rs := [2]) (by kernel_rfl) (by simp) ?_
                refine AllReadyH.cons (o := { dst := some 127, op := Go.Op.call { callee := Go.Callee.value (Go.Operand.func 59), args := #[Go.Operand.tmp 126], argTypes := #[23] }, type := 23, pos := "single.go:197", after := #[{ on := 1, ground := Go.Ground.data }], guard := none }) rfl (fun K hK => ?_) AllReadyH.nil
                go_simp
                go_at_call 59
                (with_reducible refine (cloneI_calls A3 lst c3 _ (rd_keep6 HRl.out HW1.out) (by omega) (by omega)).mono ?_)
                rintro e u2 ⟨v9, rfl, hO9, hB9⟩
                obtain ⟨A9, c9, e9, -⟩ := OwnI.rd hO9
                subst e9
                have HW2 : Hid (Below wc.heap.size wc u2) := Lib.hid (HW1.out.trans (hB9.mono HW1.out.size))
                have HN2 := Lib.hid ((hB9.block PB (lt_h HN1.out)).trans HN1.out)
                have HO9 := Lib.hid hO9
                have HSz2 := Lib.hid ((hB9.block sz (lt_h HSz1.out)).trans HSz1.out)
                clear hB9 hO9
                refine hK.out _ _ ⟨cell_h HN2.out 5, cell_h HN2.out 2⟩ (fun hH1 => ?_)
                clear hK hH0
                have hH0 := hH1
                clear hH1
                try simp only [Act.put, List.setIfInBounds_toArray, List.set_cons_zero, List.set_cons_succ]
                refine wpAnyH_ready (rs := [6]) (by kernel_rfl) (by simp) ?_
                refine AllReadyH.cons (o := { dst := some 131, op := Go.Op.call { callee := Go.Callee.builtin Go.Builtin.append, args := #[Go.Operand.tmp 127, Go.Operand.tmp 130], argTypes := #[23, 23] }, type := 23, pos := "single.go:197", after := #[{ on := 2, ground := Go.Ground.data }, { on := 5, ground := Go.Ground.data }, { on := 2, ground := Go.Ground.chain }], guard := none }) rfl (fun K hK => ?_) AllReadyH.nil
                obtain ⟨v8, u8, hrun, hown, hgrow, -⟩ := run_app1 (P := Try.prog) (w := u2) 23 23 intCells 1 8 3 (.int .i64 0) Try.underlying23 infoInt rfl (by decide) intCells_len intCells_one _ _ lst ts HO9.out sz 1 (fun j hj => by (obtain rfl : j = 0 := by omega); rw [cell_h HSz2.out]; rfl) (by unfold maxLen; omega) (by omega) (by have := own_base_le HO9.out (by omega); omega)
                obtain ⟨A8, c8, e8, -⟩ := OwnI.rd hown
                subst e8
                try rw [if_pos (by rfl)]
                refine wp_app_run 23 _ _ rfl rfl rfl hrun ?_
                have hN8 := (hgrow.block PB (lt_h HN2.out) (fun e => off_tyO HO9.out HN2.out (by decide) e.symm)).trans HN2.out
                have HW8 : Hid (Below wc.heap.size wc u8) := Lib.hid (HW2.out.grown hgrow HW2.out.size (fun q e => by have := (own_lt' HO9.out q e).1; have := HW1.out.size; omega))
                have HO8 := Lib.hid hown
                have HK8 : Hid (u8.cell? ⟨PB, 5, none⟩ = some (.slice A3 lst.length c3) ∧ u8.cell? ⟨PB, 2, none⟩ = some (.int .i64 ts)) := Lib.hid ⟨cell_h hN8 5, cell_h hN8 2⟩
                clear hrun hown hgrow hN8
                refine hK.out _ _ HK8.out (fun hH1 => ?_)
                clear hK hH0
                have hH0 := hH1
                clear hH1
                try simp only [Act.put, List.setIfInBounds_toArray, List.set_cons_zero, List.set_cons_succ]
                refine wpAnyH_take (i := 7) (oi := { dst := some 132, op := Go.Op.call { callee := Go.Callee.builtin Go.Builtin.len, args := #[Go.Operand.tmp 131], argTypes := #[23] }, type := 3, pos := "single.go:197", after := #[{ on := 6, ground := Go.Ground.data }], guard := none }) rfl (by kernel_rfl) (by kernel_rfl) (by kernel_rfl) (fun _ _ _ h => h) (Or.inl ⟨by rfl, fun w hw => by (go_simp; try with_reducible rfl)⟩) (by assumption) ?_
                try simp only [Act.put, List.setIfInBounds_toArray, List.set_cons_zero, List.set_cons_succ]
                refine wpAnyH_done (by kernel_rfl) ?_ _
                clear hH0
                have HLE : Hid ((lst ++ [ts]).length = lst.length + 1) := Lib.hid (by simp)
                have hnl7 : (lst ++ [ts]).length ≤ 7 := by simp; omega
                have HNN : Hid (∀ n ∈ lst ++ [ts], n < 0 ∨ (in64 n ∧ SetA (W.Dom ls) LL n ((I : Nat) : Int) 20)) := Lib.hid (fun n hn => by
                  rcases HLs.out HRc.out n hn with h | h
                  · exact .inl h
                  · by_cases h0 : n < 0
                    · exact .inl h0
                    · refine .inr ⟨?_, h⟩
                      rcases List.mem_append.1 hn with hn | hn
                      · have := Hin.out.ls n hn
                        exact ⟨by have := this.1; omega, by have := this.2; omega⟩
                      · simp at hn
                        subst hn
                        have := Hin.out.ts (by dsimp only; omega)
                        dsimp only at this
                        exact ⟨by omega, by omega⟩)
                generalize lst ++ [ts] = NL at *
                obtain ⟨wd, rfl⟩ : ∃ wd : World, wd = u8 := ⟨_, rfl⟩
                obtain ⟨Ar, cr, er, hRr⟩ := OwnI.rd HO8.out
                have er' : Ar = A8 := by injection er with e1 e2 e3; exact e1.symm
                subst er'
                have HRr := Lib.hid hRr
                clear hRr er
                go_wp2
                go_loopw [8, 133] (fun o i wr => ∃ m : Nat, i = .int .i64 (m : Nat) ∧ m ≤ NL.length ∧ o = .bool true ∧ Hid (Below wd.heap.size wd wr)) (fun _ i _ => NL.length - (intOf i).toNat)
                case atStart => exact ⟨0, rfl, Nat.zero_le _, rfl, Below.refl _ _⟩
                case round =>
                  obtain ⟨m, rfl, hm, rfl, hB⟩ := hrel
                  have HBw := Lib.hid ((HBa.out.trans (HBc.out.mono HBa.out.size)).trans ((HW8.out.trans (hB.out.mono HW8.out.size)).mono (by have := HBa.out.size; have := HBc.out.size; omega)))
                  by_cases hltm : m < NL.length
                  · obtain ⟨b7, off7, rfl, hb7, z0⟩ := RdI.at1 (Rd.below HRr.out hB.out) hltm
                    have hml : ((m : Nat) : Int) < ((NL.length : Nat) : Int) := by omega
                    have hcs := HNN.out _ (List.getElem_mem hltm)
                    have Hltm := Lib.hid hltm
                    generalize NL[m] = nv at *
                    clear hltm
                    by_cases hneg : nv < 0
                    · clear hcs
                      go_wp2
                      all_goals (try (exfalso; have := HLE.out; omega))
                      go_roundw
                      case rel => exact ⟨m + 1, by go_num, by have := Hltm.out; omega, rfl, hB⟩
                      case measure => have := Hltm.out; simp [intOf]; omega
                    · obtain ⟨h64, hset⟩ : in64 nv ∧ SetA (W.Dom ls) LL nv ((I : Nat) : Int) 20 := hcs.resolve_left hneg
                      have hSr := HSO.out.below HBw.out
                      have Hsc := Lib.hid (onceC_calls hSr (by rw [Hll.out]; omega) (by rw [Hll.out]; omega) HV.out (x := nv) (i := ((I : Nat) : Int)) (k := 20) h64 (by have := HIls.out; omega) hset)
                      clear hset h64 hSr hcs
                      go_wp2_with (go_at_call 68; (with_reducible refine Hsc.out.mono ?_); rintro e w' ⟨rfl, hBs⟩)
                      all_goals (try (exfalso; have := HLE.out; omega))
                      have HBs := Lib.hid (hB.out.trans (hBs.mono hB.out.size))
                      go_roundw
                      case rel => exact ⟨m + 1, by go_num, by have := Hltm.out; omega, rfl, HBs⟩
                      case measure => have := Hltm.out; simp [intOf]; omega
                  · have : m = NL.length := by omega
                    subst this
                    go_wp2
                    all_goals (try (exfalso; have := HLE.out; omega))
                    go_roundw
                    case rel => exact ⟨I + 1, by go_num, by omega, rfl, HBw⟩
                    case measure => simp [intOf]; omega
      · have h0 := W.domS_none (by rw [Hll.out]; omega) (by rw [Hll.out]; omega) HV.out hR
        rw [h0] at cRi
        clear h0 hR hIls
        go_wp2
        rw [← Hua.out]
        go_roundw
        case rel => exact ⟨I + 1, by go_num, by omega, rfl, HBa⟩
        case measure => simp [intOf]; omega
    · have : I = l.length := by omega
      subst this
      have HWz := Lib.hid (HWb.out.trans (hB.out.mono HWb.out.size))
      go_wp2
      go_ret2
      exact ⟨rfl, HWz.out⟩
end Go.Proofs.Ytmgejacndhnikaa
