/- SingleSame: single.Run walked at a named program that Build gave. -/
import Derived.Test.YtmgejacndhnikaaSnG
import Derived.Test.YtmgejacndhnikaaIdxA
import Derived.Test.YtmgejacndhnikaaCopyI
import Derived.Test.YtmgejacndhnikaaBlkGn
import Derived.StillTailTactics
namespace Go.Proofs.Ytmgejacndhnikaa
set_option maxRecDepth 100000
open Go.RowKit

theorem jnR_len (V : List Int) (k : Nat) : ∀ (js : List Jn) (W : List Int), (jnR V k js W).length = W.length
  | [], W => rfl
  | j :: js, W => by
    show (jnR V k js (W.set j.to.toNat (V.getD (j.fr.getD k 0).toNat 0))).length = _
    rw [jnR_len V k js, List.length_set]
theorem jnR_bd {V : List Int} (hV : ∀ x ∈ V, 0 ≤ x ∧ x ≤ 255) (k : Nat) : ∀ (js : List Jn) (W : List Int), (∀ x ∈ W, 0 ≤ x ∧ x ≤ 255) → ∀ x ∈ jnR V k js W, 0 ≤ x ∧ x ≤ 255
  | [], W, h => h
  | j :: js, W, h => jnR_bd hV k js _ (fun x hx => by
    rcases List.mem_or_eq_of_mem_set hx with hx | rfl
    · exact h x hx
    · exact getI_bd hV _)
theorem jnR_succ {V : List Int} {k : Nat} {js : List Jn} {m : Nat} {W : List Int} (hm : m < js.length) : jnR V k (js.take (m + 1)) W = (jnR V k (js.take m) W).set js[m].to.toNat (V.getD (js[m].fr.getD k 0).toNat 0) := by
  unfold jnR
  rw [List.take_succ_eq_append_getElem hm, List.foldl_append]
  rfl
/-- How a run of the named program ends. -/
def RunSE (p : List Blk) (hv : List Int) (w : World) (e : Ending) (w' : World) : Prop :=
  Below w.heap.size w w' ∧ ((∃ (k : Nat) (x : Value), 1 ≤ k ∧ k ≤ 200 ∧ runsB p hv k ∧ (stB p hv k).1 < 0 ∧ e = .returned (.tuple #[x, .int .i64 0]) ∧ OwnI w' w.heap.size 3 x (stB p hv k).2)
    ∨ (runsB p hv 201 ∧ e = .returned (.tuple #[.slice none 0 0, .int .i64 7])))
theorem runS_bad (vars : Int) (A B : Option Addr) (l : List Sg) (frm : List (List Int)) (hv : List Int) (cap capB : Nat) (w : World) (hA : RdSg w A l) (hB : RdI w B hv) (hok : SgOk vars l frm) (hf : ∀ i, (frm.getD i []).length ≤ 100) (hm' : hv.length ≤ maxLen) (h1 : haveErr vars hv ≠ 0) :
    Calls Try.prog 23 #[.int .i64 vars, .slice A l.length cap, .slice B hv.length capB] w fun e w' => e = .returned (.tuple #[.slice none 0 0, .int .i64 (haveErr vars hv)]) ∧ Below w.heap.size w w' := by
  have Hc := Lib.hid (checkS_calls vars A l frm cap w hA hok hf)
  have Hh := Lib.hid (fun w' (hb : Below w.heap.size w w') => have_calls vars B hv capB w' (Rd.below hB hb) hm')
  clear hA hB
  generalize haveErr vars hv = er at *
  have q : (er != 0) = true := by rw [bne_iff_ne]; exact h1
  go_enter Try.func23, Try.ntmps23
  go_wp2_with fail
  (with_reducible refine Hc.out.mono ?_)
  rintro e w1 ⟨rfl, hW⟩
  have HW := Lib.hid hW
  have Hh2 := Lib.hid (Hh.out w1 hW)
  clear hW
  go_wp2_with fail
  (with_reducible refine Hh2.out.mono ?_)
  rintro e w2 ⟨rfl, rfl⟩
  go_wp2
  go_ret2
  exact ⟨rfl, HW.out⟩
/-- What a turn of the named program wants. -/
structure TurnOk (E : NE) (out : List Sg) (l i : Int) (V : List Int) : Prop where
  i0 : 0 ≤ i
  il : i < out.length
  lm : l ∈ fromAt E i.toNat
  vl : V.length = 128
  vb : ∀ x ∈ V, 0 ≤ x ∧ x ≤ 255
theorem turn_bd {E : NE} {out : List Sg} {l i : Int} {V : List Int} (h : TurnOk E out l i V) (hc : ∀ s ∈ (out.getD i.toNat sgnul).code, SOk 128 s) : (goS E out l i V).2.length = 128 ∧ ∀ x ∈ (goS E out l i V).2, 0 ≤ x ∧ x ≤ 255 := by
  unfold goS
  dsimp only
  exact ⟨by rw [dgR_len, jnR_len, h.vl], dgR_bd hc (jnR_bd h.vb _ _ _ h.vb)⟩
theorem ins_sok {b : Sg} {n : Nat} (h : InsOk b n) : ∀ s ∈ b.code, SOk 128 s := fun s hs => by
  obtain ⟨h1, h6, hv, ⟨t0, t1⟩, hu⟩ := h.st s hs
  refine ⟨h1, h6, hv, fun e => ?_, ⟨t0, t1⟩, fun e => ?_⟩
  · have := hu s.val (by unfold usesL; rw [if_neg (by omega), if_pos e]; simp)
    exact this
  · have ha := hu s.a (by unfold usesL; rw [if_neg (by omega), if_neg (by omega)]; simp)
    have hb := hu s.b (by unfold usesL; rw [if_neg (by omega), if_neg (by omega)]; simp)
    exact ⟨ha, hb⟩
theorem rd_keep5 {α : Type} {f : α → List Value} {size : Nat} {w w' : World} {A : Option Addr} {l : List α} (h : Rd f size w A l) (hb : Below w.heap.size w w') : Rd f size w' A l := Rd.below h hb
set_option maxHeartbeats 64000000 in
theorem runS_ok {vars : Nat} {p : List Blk} (hp : POk vars p) (A B : Option Addr) (hv : List Int) (cap capB : Nat) (w : World) (hA : RdSg w A (endN (envX vars p)).out) (hB : RdI w B hv) (hm' : hv.length ≤ maxLen) (hhe : haveErr vars hv = 0)
    {V : List Int} (hV : V = hv ++ (List.replicate 128 0).drop hv.length)
    (HT : ∀ k, runsB p hv k → 0 ≤ (stB p hv k).1 → TurnOk (envX vars p) (endN (envX vars p)).out (stS (envX vars p) (endN (envX vars p)).out V k).1 (stS (envX vars p) (endN (envX vars p)).out V k).2.1 (stS (envX vars p) (endN (envX vars p)).out V k).2.2)
    (HS : ∀ k, runsB p hv k → (stS (envX vars p) (endN (envX vars p)).out V k).2.1 = (stB p hv k).1)
    (HE : ∀ k, runsB p hv (k + 1) → ((endN (envX vars p)).out.getD (stB p hv k).1.toNat sgnul).last.map (fun n => (stS (envX vars p) (endN (envX vars p)).out V (k + 1)).2.2.getD n.toNat 0) = (stB p hv (k + 1)).2) :
    Calls Try.prog 23 #[.int .i64 (vars : Nat), .slice A (endN (envX vars p)).out.length cap, .slice B hv.length capB] w (RunSE p hv w) := by
  obtain ⟨hok, hnx, hlen⟩ := end_ok hp
  obtain ⟨hl, hh⟩ := haveErr_ok hhe
  have hfr : ∀ i, fromAt (envX vars p) i = (fromX (nexts p)).getD i [] := fun _ => rfl
  have hn1 := hok.n1
  have hn8 := hok.n8
  have hv1 := hok.v1
  have hv6 := hok.v6
  have hf100 : ∀ i, ((fromX (nexts p)).getD i []).length ≤ 100 := fun i => by
    have hlx : (nexts p).length = p.length := by simp [nexts]
    have h1 : ∀ j, (turnRow (nexts p) j).length ≤ 8 := fun j => by
      unfold turnRow
      rw [List.length_map]
      have := List.length_filter_le (fun a => decide ((j : Int) ∈ (nexts p).getD a [])) (List.range (nexts p).length)
      rw [List.length_range, hlx] at this
      have := hp.n8
      rw [hlx]
      omega
    unfold fromX turnX
    rw [List.getD_eq_getElem?_getD, List.getElem?_set]
    split
    · split
      · show (-1 :: turnRow (nexts p) 0).length ≤ 100
        have := h1 0
        rw [List.length_cons]; omega
      · exact Nat.zero_le _
    · rw [List.getElem?_map]
      cases hq : (List.range (nexts p).length)[i]? with
      | none => exact Nat.zero_le _
      | some j => have := h1 j; show (turnRow (nexts p) j).length ≤ 100; omega
  have HOK := Lib.hid hok
  have Hfr := Lib.hid hfr
  have Hf100 := Lib.hid hf100
  have Hc := Lib.hid (checkS_calls vars A _ _ cap w hA hok hf100)
  have HA := Lib.hid hA
  have HB := Lib.hid hB
  have HTk := Lib.hid HT
  have HSk := Lib.hid HS
  have HEk := Lib.hid HE
  have HV := Lib.hid hV
  have Hnx := Lib.hid hnx
  have Hhh := Lib.hid hh
  have Hhe := Lib.hid hhe
  have Hst0 : Hid (∀ k, stS (envX vars p) (endN (envX vars p)).out V (k + 1) = ((stS (envX vars p) (endN (envX vars p)).out V k).2.1, goS (envX vars p) (endN (envX vars p)).out (stS (envX vars p) (endN (envX vars p)).out V k).1 (stS (envX vars p) (endN (envX vars p)).out V k).2.1 (stS (envX vars p) (endN (envX vars p)).out V k).2.2)) := Lib.hid (fun _ => rfl)
  have Hz : Hid (stS (envX vars p) (endN (envX vars p)).out V 0 = (-1, 0, V)) := Lib.hid rfl
  have Hflen : Hid ((fromX (nexts p)).length = (endN (envX vars p)).out.length) := Lib.hid (by rw [hlen]; unfold fromX turnX; simp [nexts])
  have Hvx : Hid (W.Valid (nexts p)) := Lib.hid (nexts_valid hp)
  have Hpl : Hid ((nexts p).length = (endN (envX vars p)).out.length ∧ 1 ≤ (nexts p).length ∧ (nexts p).length ≤ 8) := Lib.hid (by rw [hlen]; have := hp.n1; have := hp.n8; simp [nexts]; omega)
  clear hA hB HT HS HE hV hnx hh hhe hlen hok hf100 hp hfr
  generalize hout : (endN (envX vars p)).out = out at *
  generalize hst : stS (envX vars p) out V = st at *
  generalize hFR : fromX (nexts p) = frm at *
  go_enter Try.func23, Try.ntmps23
  go_wp2_with fail
  (with_reducible refine Hc.out.mono ?_)
  rintro e w1 ⟨rfl, hW1⟩
  have HW1 := Lib.hid hW1
  have Hha := Lib.hid (have_calls vars B hv capB w1 (Rd.below HB.out hW1) hm')
  rw [Hhe.out] at Hha
  clear hW1
  go_wp2_with fail
  (with_reducible refine Hha.out.mono ?_)
  rintro e w2 ⟨rfl, rfl⟩
  have Hba := Lib.hid (bare_calls A out cap w2 (HA.out.below HW1.out) hn8)
  clear Hha
  go_wp2_with fail
  (with_reducible refine Hba.out.mono ?_)
  rintro e w3 ⟨⟨A3, c3, rfl, hR3⟩, hW3⟩
  have HW3 := Lib.hid (HW1.out.trans (hW3.mono HW1.out.size))
  have Hn0 := next_calls A3 (out.map bareB) c3 w3 hR3 (by simp; omega) (by simp; omega)
  rw [List.length_map, Hnx.out] at Hn0
  have Hne := Lib.hid Hn0
  clear Hn0 hR3 hW3 Hba
  go_wp2_with fail
  (with_reducible refine Hne.out.mono ?_)
  rintro e w4 ⟨b4, rfl, hR4, hW4⟩
  have HW4 := Lib.hid (HW3.out.trans (hW4.mono HW3.out.size))
  have Hf0 := fromS_ok (some ⟨b4, 0, none⟩) (nexts p) out.length w4 hR4 Hpl.out.2.1 Hpl.out.2.2 Hvx.out (nexts_nodup _)
  rw [Hpl.out.1, hFR] at Hf0
  have Hfo := Lib.hid Hf0
  clear Hf0 hR4 hW4 Hne
  go_wp2_with fail
  (with_reducible refine Hfo.out.mono ?_)
  rintro e w5 ⟨B5, rfl, hR5, hW5⟩
  have HW5 := Lib.hid (HW4.out.trans (hW5.mono HW4.out.size))
  have HR5 := Lib.hid hR5
  have Hw5 := Lib.hid HW5.out.size
  clear hR5 hW5 Hfo
  have hlv : hv.length ≤ 128 := by omega
  go_wp2_with (first
    | (at_make; refine wpList_makeI rfl _ _ rfl w5.heap.size 128 rfl rfl (by omega) (Nat.le_refl _) ?_; intro w6 hown6 hgrow6
       have hW6 := (Below.refl w5.heap.size w5).grown hgrow6 (Nat.le_refl _) (fun k hk => by cases hk)
       have HW6 := Lib.hid hW6
       have HO6 := Lib.hid hown6
       clear hown6 hgrow6 hW6)
    | (with_reducible refine wpList_copyI rfl (.tmp 39) (.tmp 40) rfl w5.heap.size _ 128 _ rfl HO6.out B hv capB rfl (Rd.below HB.out (HW5.out.trans (HW6.out.mono Hw5.out))) hlv w5.heap.size w5 HW6.out (Nat.le_refl _) ?_; intro w7 hO7 hW7
       have HO7 := Lib.hid hO7
       have HW7 := Lib.hid hW7
       clear hO7 hW7))
  rw [← HV.out] at HO7
  obtain ⟨gV, hgV⟩ : ∃ gV, gV = w5.heap.size := ⟨_, rfl⟩
  have HO8 : Hid (OwnI w7 w5.heap.size 3 (.slice (some ⟨gV, 0, none⟩) 128 128) V) := Lib.hid (by rw [hgV]; exact HO7.out)
  rw [← hgV]
  have HgV := Lib.hid hgV
  clear hgV HO6 HO7 HW6
  go_loopw [12, 13, 42] (fun a l' i wr => ∃ t : Nat, i = .int .i64 (t : Nat) ∧ t ≤ 200 ∧ a = .int .i64 (st t).2.1 ∧ l' = .int .i64 (st t).1 ∧ Hid (runsB p hv (t + 1)) ∧ Hid (OwnI wr w5.heap.size 3 (.slice (some ⟨gV, 0, none⟩) 128 128) (st t).2.2) ∧ Hid (Below w5.heap.size w5 wr)) (fun _ _ i _ => 200 - (intOf i).toNat)
  case atStart => exact ⟨0, rfl, by omega, by rw [Hz.out], by rw [Hz.out], Lib.hid (fun j hj => by
    have : j = 0 := by omega
    subst this
    exact Int.le_refl _), by rw [Hz.out]; exact HO8, HW7⟩
  case round =>
    clear HO8 HW7
    obtain ⟨t, rfl, ht, rfl, rfl, HRn, HO, HW⟩ := hrel
    by_cases h200 : t = 200
    · subst h200
      have HWe := Lib.hid (HW5.out.trans (HW.out.mono HW5.out.size))
      go_wp2
      go_ret2
      exact ⟨HWe.out, .inr ⟨HRn.out, rfl⟩⟩
    · have ht2 : t < 200 := by omega
      have htl : ((t : Nat) : Int) < 200 := by omega
      have hTk := HTk.out t (fun j hj => HRn.out j (by omega)) (HRn.out t (by omega))
      have hi0 := HSk.out t (fun j hj => HRn.out j (by omega))
      have hEk := HEk.out t HRn.out
      have hS1 := HSk.out (t + 1) HRn.out
      have hnx := Hst0.out t
      rw [← hi0] at hEk
      have HEE := Lib.hid hEk
      have HS1 := Lib.hid hS1
      have Hnx1 := Lib.hid hnx
      clear hi0 hEk hS1 hnx h200
      generalize hstt : st t = stt at *
      obtain ⟨la, ai, VV⟩ := stt
      have Hstt := Lib.hid hstt
      clear hstt
      dsimp only at *
      obtain ⟨i0, il, lm, vl, vb⟩ := hTk
      obtain ⟨i, rfl⟩ := Int.eq_ofNat_of_zero_le i0
      have hin : i < out.length := by omega
      rw [Int.toNat_natCast] at lm HEE
      obtain ⟨bo, oo, A1, c1, A2, c2, A3', c3', rfl, hbo, e0, e1, e2, e3, e4, e5, r1, r2, r3⟩ := (HA.out.below HW5.out).at_ hin
      obtain ⟨fb, fo, FA, fc, rfl, hfb, f0, fR⟩ := row_get' HR5.out (i := i) (by rw [Hflen.out]; exact hin)
      rw [Hfr.out i] at lm
      rw [← HW.out.cell hbo] at e0 e1 e2 e3 e4 e5
      rw [← HW.out.cell hfb] at f0
      have hins := HOK.out.ins i hin
      have hgd : out.getD i sgnul = out[i] := by rw [List.getD_eq_getElem?_getD, List.getElem?_eq_getElem hin]; rfl
      rw [hgd] at hins HEE
      have hsh2 := HOK.out.two _ (List.getElem_mem hin)
      have hsh1 := HOK.out.one _ (List.getElem_mem hin)
      have hlo := HOK.out.lo _ (List.getElem_mem hin)
      have hst1 := HOK.out.steps
      have hst2 := HOK.out.last _ (List.getElem_mem hin)
      have hc20 : out[i].code.length ≤ 20 := by
        have := sum_take (f := fun b => b.code.length) hin
        have h2 := sum_take_le (f := fun b => b.code.length) (l := out) (i + 1)
        unfold sumS at hst1
        omega
      have hj64 : out[i].joins.length ≤ 64 := by
        have := sum_take (f := fun b => b.joins.length) hin
        have h2 := sum_take_le (f := fun b => b.joins.length) (l := out) (i + 1)
        have h3 := HOK.out.joins
        unfold sumJ at h3
        omega
      have hsok := ins_sok hins
      have hgo : goS (envX vars p) out la (i : Int) VV = (if 0 ≤ out[i].test ∧ (dgR (jnR VV ((frm.getD i []).idxOf la) out[i].joins VV) out[i].code).getD out[i].test.toNat 0 = 0 then out[i].els else out[i].thn, dgR (jnR VV ((frm.getD i []).idxOf la) out[i].joins VV) out[i].code) := by
        unfold goS
        rw [Int.toNat_natCast, hgd, Hfr.out i]
      rw [hgo] at Hnx1
      have hFl := Hf100.out i
      have hmem := List.idxOf_lt_length_of_mem lm
      have hidx := idxOf_yes lm
      have hil : ((i : Nat) : Int) < ((out.length : Nat) : Int) := by omega
      have Hins := Lib.hid hins
      have Hsok := Lib.hid hsok
      have Hvb := Lib.hid vb
      have Hvl := Lib.hid vl
      have Hs2 := Lib.hid hsh2
      have Hs1 := Lib.hid hsh1
      have Hlast := Lib.hid hst2
      have H2 := Lib.hid r2
      have H1 := Lib.hid r1
      have H3 := Lib.hid r3
      have HfR := Lib.hid fR
      clear hgd hgo hst1 hst2 hins hsok hsh2 hsh1 vb vl i0 il r1 r2 r3 fR
      generalize out[i] = b at *
      generalize frm.getD i [] = FR at *
      generalize hkx : FR.idxOf la = kx at *
      obtain ⟨js, cd, ts, th, el, ls⟩ := b
      dsimp only at e0 e1 e2 e3 e4 e5 hlo hc20 hj64 Hins Hsok Hs2 Hs1 Hlast H1 H2 H3 HEE Hnx1
      -- behind the block's copy, and what Index gives
      have hBa := (Below.refl wr.heap.size wr).alloc (Nat.le_refl _) (.cells #[.slice A1 js.length c1, .slice A2 cd.length c2, .int .i64 ts, .int .i64 th, .int .i64 el, .slice A3' ls.length c3'] 114)
      have HWa0 := Lib.hid (HW.out.alloc HW.out.size (.cells #[.slice A1 js.length c1, .slice A2 cd.length c2, .int .i64 ts, .int .i64 th, .int .i64 el, .slice A3' ls.length c3'] 114))
      have HNB := Lib.hid (heap_alloc_new wr (.cells #[.slice A1 js.length c1, .slice A2 cd.length c2, .int .i64 ts, .int .i64 th, .int .i64 el, .slice A3' ls.length c3'] 114))
      have Hix := Lib.hid (indexI_calls FA FR fc la _ (rd_keep5 HfR.out (HWa0.out)) (by unfold maxLen; omega))
      rw [hidx] at Hix
      have hf1 := (hBa.cell (p := ⟨fb, fo + i, none⟩) (by have := HW.out.size; show fb < wr.heap.size; omega)).trans f0
      have HOa := Lib.hid (HO.out.alloc (.cells #[.slice A1 js.length c1, .slice A2 cd.length c2, .int .i64 ts, .int .i64 th, .int .i64 el, .slice A3' ls.length c3'] 114))
      have HWa := Lib.hid (HW.out.alloc HW.out.size (.cells #[.slice A1 js.length c1, .slice A2 cd.length c2, .int .i64 ts, .int .i64 th, .int .i64 el, .slice A3' ls.length c3'] 114))
      have HBa := Lib.hid hBa
      have hwl := lt_h HNB.out
      obtain ⟨Av, cv', ev, hRV⟩ := OwnI.rd HOa.out
      have ev' : Av = some ⟨gV, 0, none⟩ := by injection ev with e1 e2 e3; exact e1.symm
      subst ev'
      have hcl0 := cloneI_calls (some ⟨gV, 0, none⟩) VV 128 _ hRV (by rw [Hvl.out]; omega) (by rw [Hvl.out]; omega)
      rw [Hvl.out] at hcl0
      have Hcl := Lib.hid hcl0
      have Hkx : Hid (kx < FR.length) := Lib.hid hmem
      clear hidx hBa hcl0 hRV ev hmem
      obtain ⟨PB, hPB⟩ : ∃ PB, PB = wr.heap.size := ⟨_, rfl⟩
      have hgP : gV < PB := by rw [hPB]; exact (own_lt' HO.out gV rfl).2
      obtain ⟨ua, hua⟩ : ∃ ua, ua = wr.alloc (.cells #[.slice A1 js.length c1, .slice A2 cd.length c2, .int .i64 ts, .int .i64 th, .int .i64 el, .slice A3' ls.length c3'] 114) := ⟨_, rfl⟩
      rw [← hua] at HNB Hix HOa HWa Hcl HBa hwl
      rw [← hPB] at HNB hwl
      have Hua := Lib.hid hua
      have HPB := Lib.hid hPB
      clear hua hPB
      go_wp2_with fail
      rw [← Hua.out]
      (with_reducible refine Hix.out.mono ?_)
      rintro e w8 ⟨rfl, rfl⟩
      go_wp2_with fail
      (with_reducible refine Hcl.out.mono ?_)
      rintro e w9 ⟨v9, rfl, hO9, hW9⟩
      obtain ⟨gQ, cQ, rfl, hgQ, -, -, -, -⟩ := OwnI.at_ hO9 (by rw [Hvl.out]; omega)
      rw [Hvl.out] at hO9
      rw [Hvl.out]
      have HO9 := Lib.hid hO9
      have HOv := Lib.hid (Own.below HOa.out hW9)
      have HNB9 := Lib.hid ((hW9.block PB hwl).trans HNB.out)
      have HW9 := Lib.hid (HWa.out.trans (hW9.mono HWa.out.size))
      have hgVl : gV < w8.heap.size := (own_lt' HOa.out gV rfl).2
      have hQV : gQ ≠ gV := by omega
      have hVQ : gV ≠ gQ := fun e => hQV e.symm
      have d0 := cell_h HNB9.out 0
      have hPBQ : PB < gQ := by omega
      rw [← HPB.out]
      clear hO9 hW9 Hcl Hix f0 hf1 e0 e1 e2 e3 e4 e5 hbo hfb HO HW HOa
      go_wp2
      -- Joins at once
      go_loopw [59] (fun m wr => ∃ k : Nat, m = .int .i64 (k : Nat) ∧ k ≤ js.length ∧ Hid (OwnI wr w5.heap.size 3 (.slice (some ⟨gV, 0, none⟩) 128 128) (jnR VV kx (js.take k) VV)) ∧ Hid (OwnI wr w5.heap.size 3 (.slice (some ⟨gQ, 0, none⟩) 128 cQ) VV) ∧ Hid (Bel1 gV w9 wr)) (fun m _ => js.length - (intOf m).toNat)
      case atStart => exact ⟨0, rfl, Nat.zero_le _, HOv, Lib.hid (Own.base_ HO9.out (by have := HWa.out.size; omega)), Bel1.refl _ _⟩
      case round =>
        clear HOv HO9 d0
        obtain ⟨k, rfl, hk, HO, HQ, HK⟩ := hrel
        have HWr : Hid (Below w5.heap.size w5 wr) := Lib.hid (HW9.out.trans (HK.out.below (by have := HgV.out; omega) HW9.out.size))
        by_cases hlt : k < js.length
        · have hjs := Hins.out.jn _ (List.getElem_mem hlt)
          have hsucc := jnR_succ (V := VV) (k := kx) (W := VV) hlt
          obtain ⟨b6, off6, A6, c6, rfl, hb6, g0, g1, hR6⟩ := H1.out.at_ hlt
          rw [← HWr.out.cell hb6] at g0 g1
          have Hjl := jnR_len VV kx (js.take k) VV
          rw [Hvl.out] at Hjl
          have hkl : ((k : Nat) : Int) < ((js.length : Nat) : Int) := by omega
          generalize jnR VV kx (js.take k) VV = U at *
          generalize js[k] = j at *
          obtain ⟨jt, jf⟩ := j
          obtain ⟨hjl, ⟨jt0, jt1⟩, hjf⟩ := hjs
          dsimp only at g0 g1 hjl jt0 jt1 hjf hR6 hsucc
          obtain ⟨tn, rfl⟩ := Int.eq_ofNat_of_zero_le jt0
          obtain ⟨b7, off7, rfl, hb7, g2⟩ := RdI.at1 hR6 (k := kx) (by rw [hjl]; exact Hkx.out)
          rw [← HWr.out.cell hb7] at g2
          have hnk := hjf _ (List.getElem_mem (show kx < jf.length by rw [hjl]; exact Hkx.out))
          have hgetf : jf.getD kx 0 = jf[kx]'(by rw [hjl]; exact Hkx.out) := by rw [List.getD_eq_getElem?_getD, List.getElem?_eq_getElem (by rw [hjl]; exact Hkx.out)]; rfl
          rw [hgetf] at hsucc
          generalize jf[kx]'(by rw [hjl]; exact Hkx.out) = nk at *
          obtain ⟨nk0, nk1⟩ := hnk
          obtain ⟨nn, rfl⟩ := Int.eq_ofNat_of_zero_le nk0
          rw [Int.toNat_natCast, Int.toNat_natCast] at hsucc
          have htn : tn < 128 := by omega
          have hnn : nn < 128 := by omega
          -- was[nn]
          obtain ⟨q', eq', -, -, -, -, cQc⟩ := OwnI.at2 HQ.out (by rw [Hvl.out]; omega)
          injection eq' with eq'
          injection eq' with eq'
          subst eq'
          have q1 := cQc nn (by rw [Hvl.out]; exact hnn)
          have hgq : VV.getD nn 0 = VV[nn]'(by rw [Hvl.out]; exact hnn) := by rw [List.getD_eq_getElem?_getD, List.getElem?_eq_getElem (by rw [Hvl.out]; exact hnn)]; rfl
          rw [hgq] at hsucc
          generalize VV[nn]'(by rw [Hvl.out]; exact hnn) = yv at *
          obtain ⟨g', eg', -, hgVw, -, fV, cVc⟩ := OwnI.at2 HO.out (by rw [Hjl]; omega)
          injection eg' with eg'
          injection eg' with eg'
          subst eg'
          obtain ⟨ov, q2⟩ : ∃ ov, wr.cell? ⟨gV, tn, none⟩ = some ov := ⟨_, cVc tn (by rw [Hjl]; exact htn)⟩
          have f2 := fV tn
          have hkf : ((kx : Nat) : Int) < ((jf.length : Nat) : Int) := by have := Hkx.out; omega
          have hti : ((tn : Nat) : Int) < 128 := by omega
          have hni : ((nn : Nat) : Int) < 128 := by omega
          have HN := Lib.hid (OwnI.set_ (HO.out.alloc (.cells #[.int .i64 (tn : Nat), .slice (some ⟨b7, off7, none⟩) jf.length c6] 128)) (k := tn) (by rw [Hjl]; exact htn) yv)
          rw [← hsucc] at HN
          have HQN := Lib.hid (Own.far (p := ⟨gV, tn, none⟩) (HQ.out.alloc (.cells #[.int .i64 (tn : Nat), .slice (some ⟨b7, off7, none⟩) jf.length c6] 128)) (fun e => hQV (by have e : some gQ = some gV := e; injection e)) (.int .i64 yv))
          have HKN := Lib.hid ((HK.out.alloc (.cells #[.int .i64 (tn : Nat), .slice (some ⟨b7, off7, none⟩) jf.length c6] 128)).set_ (p := ⟨gV, tn, none⟩) rfl (.int .i64 yv))
          have HNJ := heap_alloc_new wr (.cells #[.int .i64 (tn : Nat), .slice (some ⟨b7, off7, none⟩) jf.length c6] 128)
          have hbx : ∀ b o, b < wr.heap.size → (wr.alloc (.cells #[.int .i64 (tn : Nat), .slice (some ⟨b7, off7, none⟩) jf.length c6] 128)).cell? ⟨b, o, none⟩ = wr.cell? ⟨b, o, none⟩ := fun b o hb => World.cell?_of_block (Below.heap_alloc wr _ b hb)
          have hfx : (wr.alloc (.cells #[.int .i64 (tn : Nat), .slice (some ⟨b7, off7, none⟩) jf.length c6] 128)).frozen? ⟨gV, tn, none⟩ = wr.frozen? ⟨gV, tn, none⟩ := World.frozen?_of_block (Below.heap_alloc wr _ gV hgVw)
          have hws := HWr.out.size
          have hQw : gQ < wr.heap.size := (own_lt' HQ.out gQ rfl).2
          rw [← hbx b7 _ (by omega)] at g2
          rw [← hbx gQ _ hQw] at q1
          rw [← hbx gV _ hgVw] at q2
          rw [← hfx] at f2
          have j0 := cell_h HNJ 0
          have j1 := cell_h HNJ 1
          obtain ⟨PJ, hPJ⟩ : ∃ PJ, PJ = wr.heap.size := ⟨_, rfl⟩
          obtain ⟨uj, huj⟩ : ∃ uj, uj = wr.alloc (.cells #[.int .i64 (tn : Nat), .slice (some ⟨b7, off7, none⟩) jf.length c6] 128) := ⟨_, rfl⟩
          rw [← huj] at g2 q1 q2 f2 j0 j1 HN HQN HKN
          rw [← hPJ] at j0 j1
          have Huj := Lib.hid huj
          have HPJ := Lib.hid hPJ
          have Hlt := Lib.hid hlt
          clear huj hPJ hsucc hgetf hgq cQc cVc fV Hjl hjl hjf hR6 HNJ hbx hfx hws hQw hgVw HO HQ HK HWr nk0 nk1 jt0 jt1 hlt
          go_wp2
          rw [← HPJ.out, ← Huj.out]
          clear g0 g1
          go_still_tail 12, (by kernel_rfl)
          go_wp2
          go_roundw
          case rel => exact ⟨k + 1, by go_num, by have := Hlt.out; omega, HN.out.drew, HQN.out.drew, HKN.out.drew⟩
          case measure => have := Hlt.out; simp [intOf]; omega
        · have : k = js.length := by omega
          subst this
          obtain ⟨wo, rfl⟩ : ∃ wo : World, wo = wr := ⟨_, rfl⟩
          have hO := HO.out
          rw [List.take_length] at hO
          have HDo := Lib.hid (blkDoN_calls A2 cd c2 w5.heap.size gV 128 128 (jnR VV kx js VV) w5 wo H2.out HWr.out (Nat.le_refl _) hO (by decide) (by decide) (by omega) (fun s hs => Hsok.out s hs) (jnR_bd Hvb.out _ _ _ Hvb.out) (by rw [jnR_len]; exact Hvl.out))
          have HRl : Hid ((dgR (jnR VV kx js VV) cd).length = 128) := Lib.hid (by rw [dgR_len, jnR_len, Hvl.out])
          generalize dgR (jnR VV kx js VV) cd = RR at *
          have hPg : PB ≠ gV := by omega
          have HNBo := Lib.hid ((HK.out.block PB (lt_h HNB9.out) hPg).trans HNB9.out)
          have d1 := cell_h HNBo.out 1
          clear hO HO HQ HK hlt hk
          go_wp2_with fail
          (with_reducible refine HDo.out.mono ?_)
          rintro e wd ⟨⟨u9, rfl⟩, hOd, hBd⟩
          have HOd := Lib.hid hOd
          have HWd : Hid (Below w5.heap.size w5 wd) := Lib.hid (HWr.out.trans (hBd.below (by have := HgV.out; omega) HWr.out.size))
          have hNd := (hBd.block PB (lt_h HNBo.out) hPg).trans HNBo.out
          have d2 := cell_h hNd 2
          have d3 := cell_h hNd 3
          have d4 := cell_h hNd 4
          have d5 := cell_h hNd 5
          obtain ⟨g', eg', -, hgd, -, -, cR⟩ := OwnI.at2 hOd (by rw [HRl.out]; omega)
          injection eg' with eg'
          injection eg' with eg'
          subst eg'
          have HcR : Hid (∀ n : Nat, n < 128 → wd.cell? ⟨gV, n, none⟩ = some (.int .i64 (RR.getD n 0))) := Lib.hid (fun n hn => by
            have := cR n (by rw [HRl.out]; exact hn)
            rw [this, List.getD_eq_getElem?_getD, List.getElem?_eq_getElem (by rw [HRl.out]; exact hn)]
            rfl)
          clear cR hOd hBd hNd d1 HDo HNBo HWr
          by_cases hts : 0 ≤ ts
          · obtain ⟨tn, rfl⟩ := Int.eq_ofNat_of_zero_le hts
            have htn : tn < 128 := by have := Hins.out.ts hts; dsimp only at this; omega
            have hti : ((tn : Nat) : Int) < 128 := by omega
            have cT := HcR.out tn htn
            rw [Int.toNat_natCast] at Hnx1
            by_cases hz : RR.getD tn 0 = 0
            · rw [if_pos ⟨hts, hz⟩] at Hnx1
              rw [hz] at cT
              clear hz
              by_cases hneg : el < 0
              · have hls6 : ls.length ≤ 6 := by have := Hlast.out; omega
                have HN : Hid ((stB p hv (t + 1)).1 < 0 ∧ ls.map (fun n => RR.getD n.toNat 0) = (stB p hv (t + 1)).2) := Lib.hid ⟨by rw [← HS1.out, Hnx1.out]; exact hneg, by rw [← HEE.out, Hnx1.out]⟩
                go_wp2
                go_quiet (fail)
                go_wp2
                go_loopw [19, 101] (fun o m wr => ∃ k : Nat, m = .int .i64 (k : Nat) ∧ k ≤ ls.length ∧ Hid (OwnI wr wd.heap.size 3 o ((ls.take k).map (fun n => RR.getD n.toNat 0))) ∧ Hid (Below wd.heap.size wd wr)) (fun _ m _ => ls.length - (intOf m).toNat)
                case atStart => exact ⟨0, rfl, Nat.zero_le _, Own.nil_ _ _ _, below_dN (Below.refl _ _) _⟩
                case round =>
                  clear d2 d3 d4 d5 cT
                  obtain ⟨k, rfl, hk, HO, HB⟩ := hrel
                  have HWf : Hid (Below w5.heap.size w5 wr) := Lib.hid (HWd.out.trans (HB.out.mono HWd.out.size))
                  by_cases hlt : k < ls.length
                  · obtain ⟨b8, off8, rfl, hb8, z0⟩ := RdI.at1 H3.out hlt
                    rw [← HWf.out.cell hb8] at z0
                    have hnk := Hins.out.ls _ (List.getElem_mem hlt)
                    have hsucc : (ls.take (k + 1)).map (fun n => RR.getD n.toNat 0) = (ls.take k).map (fun n => RR.getD n.toNat 0) ++ [RR.getD ls[k].toNat 0] := by rw [List.take_succ_eq_append_getElem hlt, List.map_append]; rfl
                    generalize ls[k] = nk at *
                    obtain ⟨nk0, nk1⟩ := hnk
                    obtain ⟨nn, rfl⟩ := Int.eq_ofNat_of_zero_le nk0
                    rw [Int.toNat_natCast] at hsucc
                    have hnn : nn < 128 := by omega
                    have hni : ((nn : Nat) : Int) < 128 := by omega
                    have z1 := (HB.out.cell (p := ⟨gV, nn, none⟩) hgd).trans (HcR.out nn hnn)
                    have hkl : ((k : Nat) : Int) < ((ls.length : Nat) : Int) := by omega
                    have Hsu := Lib.hid hsucc
                    have hll : ((ls.take k).map (fun n => RR.getD n.toNat 0)).length ≤ 6 := by rw [List.length_map, List.length_take]; have := Hlast.out; omega
                    generalize (ls.take k).map (fun n => RR.getD n.toNat 0) = LL at *
                    generalize RR.getD nn 0 = zv at *
                    obtain ⟨Ao, co, rfl, -⟩ := OwnI.rd HO.out
                    have hBs := HB.out.size
                    clear hsucc nk0 nk1
                    go_wp2_with (first
                      | (at_builtin; refine wpList_appI rfl _ _ rfl wd.heap.size _ _ zv rfl (HO.out.alloc _) _ _ rfl (cell_new _ _ _ _ (by simp) _) (by omega) (by simp; omega) ?_; intro v5 w50 hY5 hg5
                         rw [← Hsu.out] at hY5
                         have HY5 := Lib.hid hY5
                         have HB5 := Lib.hid (below_own (HB.out.alloc hBs (.cells #[.int .i64 zv] 3)) hg5 (HO.out.alloc _) (Nat.le_refl _) (by simp; omega))
                         clear hY5 hg5))
                    go_roundw
                    case rel => exact ⟨k + 1, by go_num, by omega, HY5, HB5⟩
                    case measure => simp [intOf]; omega
                  · have : k = ls.length := by omega
                    subst this
                    have hO := HO.out
                    rw [List.take_length, HN.out.2] at hO
                    have HOf := Lib.hid hO
                    have HWz := Lib.hid (HW5.out.trans (HWf.out.mono Hw5.out))
                    have hlz : w.heap.size ≤ wd.heap.size := by have := HWd.out.size; have := Hw5.out; omega
                    clear hO
                    go_wp2
                    go_ret2
                    exact ⟨HWz.out, .inl ⟨t + 1, _, by omega, by omega, HRn.out, HN.out.1, rfl, Own.base_ HOf.out hlz⟩⟩
              · have HR2 : Hid (runsB p hv (t + 1 + 1)) := Lib.hid (fun j hj => by
                  by_cases e : j = t + 1
                  · subst e
                    rw [← HS1.out, Hnx1.out]
                    show 0 ≤ el
                    omega
                  · exact HRn.out j (by omega))
                go_wp2
                go_quiet (fail)
                go_wp2
                all_goals (try (exfalso; omega))
                go_roundw
                case rel => exact ⟨t + 1, by go_num, by omega, by rw [Hnx1.out], by rw [Hnx1.out], HR2, by rw [Hnx1.out]; exact (Own.drewN HOd.out _), below_dN HWd.out _⟩
                case measure => simp [intOf]; omega
            · rw [if_neg (fun h => hz h.2)] at Hnx1
              have qz : (RR.getD tn 0 == 0) = false := by rw [beq_eq_false_iff_ne]; exact hz
              generalize RR.getD tn 0 = rz at *
              clear hz
              by_cases hneg : th < 0
              · have hls6 : ls.length ≤ 6 := by have := Hlast.out; omega
                have HN : Hid ((stB p hv (t + 1)).1 < 0 ∧ ls.map (fun n => RR.getD n.toNat 0) = (stB p hv (t + 1)).2) := Lib.hid ⟨by rw [← HS1.out, Hnx1.out]; exact hneg, by rw [← HEE.out, Hnx1.out]⟩
                go_wp2
                go_quiet (fail)
                go_wp2
                go_loopw [19, 101] (fun o m wr => ∃ k : Nat, m = .int .i64 (k : Nat) ∧ k ≤ ls.length ∧ Hid (OwnI wr wd.heap.size 3 o ((ls.take k).map (fun n => RR.getD n.toNat 0))) ∧ Hid (Below wd.heap.size wd wr)) (fun _ m _ => ls.length - (intOf m).toNat)
                case atStart => exact ⟨0, rfl, Nat.zero_le _, Own.nil_ _ _ _, below_dN (Below.refl _ _) _⟩
                case round =>
                  clear d2 d3 d4 d5 cT
                  obtain ⟨k, rfl, hk, HO, HB⟩ := hrel
                  have HWf : Hid (Below w5.heap.size w5 wr) := Lib.hid (HWd.out.trans (HB.out.mono HWd.out.size))
                  by_cases hlt : k < ls.length
                  · obtain ⟨b8, off8, rfl, hb8, z0⟩ := RdI.at1 H3.out hlt
                    rw [← HWf.out.cell hb8] at z0
                    have hnk := Hins.out.ls _ (List.getElem_mem hlt)
                    have hsucc : (ls.take (k + 1)).map (fun n => RR.getD n.toNat 0) = (ls.take k).map (fun n => RR.getD n.toNat 0) ++ [RR.getD ls[k].toNat 0] := by rw [List.take_succ_eq_append_getElem hlt, List.map_append]; rfl
                    generalize ls[k] = nk at *
                    obtain ⟨nk0, nk1⟩ := hnk
                    obtain ⟨nn, rfl⟩ := Int.eq_ofNat_of_zero_le nk0
                    rw [Int.toNat_natCast] at hsucc
                    have hnn : nn < 128 := by omega
                    have hni : ((nn : Nat) : Int) < 128 := by omega
                    have z1 := (HB.out.cell (p := ⟨gV, nn, none⟩) hgd).trans (HcR.out nn hnn)
                    have hkl : ((k : Nat) : Int) < ((ls.length : Nat) : Int) := by omega
                    have Hsu := Lib.hid hsucc
                    have hll : ((ls.take k).map (fun n => RR.getD n.toNat 0)).length ≤ 6 := by rw [List.length_map, List.length_take]; have := Hlast.out; omega
                    generalize (ls.take k).map (fun n => RR.getD n.toNat 0) = LL at *
                    generalize RR.getD nn 0 = zv at *
                    obtain ⟨Ao, co, rfl, -⟩ := OwnI.rd HO.out
                    have hBs := HB.out.size
                    clear hsucc nk0 nk1
                    go_wp2_with (first
                      | (at_builtin; refine wpList_appI rfl _ _ rfl wd.heap.size _ _ zv rfl (HO.out.alloc _) _ _ rfl (cell_new _ _ _ _ (by simp) _) (by omega) (by simp; omega) ?_; intro v5 w50 hY5 hg5
                         rw [← Hsu.out] at hY5
                         have HY5 := Lib.hid hY5
                         have HB5 := Lib.hid (below_own (HB.out.alloc hBs (.cells #[.int .i64 zv] 3)) hg5 (HO.out.alloc _) (Nat.le_refl _) (by simp; omega))
                         clear hY5 hg5))
                    go_roundw
                    case rel => exact ⟨k + 1, by go_num, by omega, HY5, HB5⟩
                    case measure => simp [intOf]; omega
                  · have : k = ls.length := by omega
                    subst this
                    have hO := HO.out
                    rw [List.take_length, HN.out.2] at hO
                    have HOf := Lib.hid hO
                    have HWz := Lib.hid (HW5.out.trans (HWf.out.mono Hw5.out))
                    have hlz : w.heap.size ≤ wd.heap.size := by have := HWd.out.size; have := Hw5.out; omega
                    clear hO
                    go_wp2
                    go_ret2
                    exact ⟨HWz.out, .inl ⟨t + 1, _, by omega, by omega, HRn.out, HN.out.1, rfl, Own.base_ HOf.out hlz⟩⟩
              · have HR2 : Hid (runsB p hv (t + 1 + 1)) := Lib.hid (fun j hj => by
                  by_cases e : j = t + 1
                  · subst e
                    rw [← HS1.out, Hnx1.out]
                    show 0 ≤ th
                    omega
                  · exact HRn.out j (by omega))
                go_wp2
                go_quiet (fail)
                go_wp2
                all_goals (try (exfalso; omega))
                go_roundw
                case rel => exact ⟨t + 1, by go_num, by omega, by rw [Hnx1.out], by rw [Hnx1.out], HR2, by rw [Hnx1.out]; exact (Own.drewN HOd.out _), below_dN HWd.out _⟩
                case measure => simp [intOf]; omega
          · rw [if_neg (fun h => hts h.1)] at Hnx1
            by_cases hneg : th < 0
            · have hls6 : ls.length ≤ 6 := by have := Hlast.out; omega
              have HN : Hid ((stB p hv (t + 1)).1 < 0 ∧ ls.map (fun n => RR.getD n.toNat 0) = (stB p hv (t + 1)).2) := Lib.hid ⟨by rw [← HS1.out, Hnx1.out]; exact hneg, by rw [← HEE.out, Hnx1.out]⟩
              go_wp2
              go_quiet (fail)
              go_wp2
              go_loopw [19, 101] (fun o m wr => ∃ k : Nat, m = .int .i64 (k : Nat) ∧ k ≤ ls.length ∧ Hid (OwnI wr wd.heap.size 3 o ((ls.take k).map (fun n => RR.getD n.toNat 0))) ∧ Hid (Below wd.heap.size wd wr)) (fun _ m _ => ls.length - (intOf m).toNat)
              case atStart => exact ⟨0, rfl, Nat.zero_le _, Own.nil_ _ _ _, below_dN (Below.refl _ _) _⟩
              case round =>
                clear d2 d3 d4 d5
                obtain ⟨k, rfl, hk, HO, HB⟩ := hrel
                have HWf : Hid (Below w5.heap.size w5 wr) := Lib.hid (HWd.out.trans (HB.out.mono HWd.out.size))
                by_cases hlt : k < ls.length
                · obtain ⟨b8, off8, rfl, hb8, z0⟩ := RdI.at1 H3.out hlt
                  rw [← HWf.out.cell hb8] at z0
                  have hnk := Hins.out.ls _ (List.getElem_mem hlt)
                  have hsucc : (ls.take (k + 1)).map (fun n => RR.getD n.toNat 0) = (ls.take k).map (fun n => RR.getD n.toNat 0) ++ [RR.getD ls[k].toNat 0] := by rw [List.take_succ_eq_append_getElem hlt, List.map_append]; rfl
                  generalize ls[k] = nk at *
                  obtain ⟨nk0, nk1⟩ := hnk
                  obtain ⟨nn, rfl⟩ := Int.eq_ofNat_of_zero_le nk0
                  rw [Int.toNat_natCast] at hsucc
                  have hnn : nn < 128 := by omega
                  have hni : ((nn : Nat) : Int) < 128 := by omega
                  have z1 := (HB.out.cell (p := ⟨gV, nn, none⟩) hgd).trans (HcR.out nn hnn)
                  have hkl : ((k : Nat) : Int) < ((ls.length : Nat) : Int) := by omega
                  have Hsu := Lib.hid hsucc
                  have hll : ((ls.take k).map (fun n => RR.getD n.toNat 0)).length ≤ 6 := by rw [List.length_map, List.length_take]; have := Hlast.out; omega
                  generalize (ls.take k).map (fun n => RR.getD n.toNat 0) = LL at *
                  generalize RR.getD nn 0 = zv at *
                  obtain ⟨Ao, co, rfl, -⟩ := OwnI.rd HO.out
                  have hBs := HB.out.size
                  clear hsucc nk0 nk1
                  go_wp2_with (first
                    | (at_builtin; refine wpList_appI rfl _ _ rfl wd.heap.size _ _ zv rfl (HO.out.alloc _) _ _ rfl (cell_new _ _ _ _ (by simp) _) (by omega) (by simp; omega) ?_; intro v5 w50 hY5 hg5
                       rw [← Hsu.out] at hY5
                       have HY5 := Lib.hid hY5
                       have HB5 := Lib.hid (below_own (HB.out.alloc hBs (.cells #[.int .i64 zv] 3)) hg5 (HO.out.alloc _) (Nat.le_refl _) (by simp; omega))
                       clear hY5 hg5))
                  go_roundw
                  case rel => exact ⟨k + 1, by go_num, by omega, HY5, HB5⟩
                  case measure => simp [intOf]; omega
                · have : k = ls.length := by omega
                  subst this
                  have hO := HO.out
                  rw [List.take_length, HN.out.2] at hO
                  have HOf := Lib.hid hO
                  have HWz := Lib.hid (HW5.out.trans (HWf.out.mono Hw5.out))
                  have hlz : w.heap.size ≤ wd.heap.size := by have := HWd.out.size; have := Hw5.out; omega
                  clear hO
                  go_wp2
                  go_ret2
                  exact ⟨HWz.out, .inl ⟨t + 1, _, by omega, by omega, HRn.out, HN.out.1, rfl, Own.base_ HOf.out hlz⟩⟩
            · have HR2 : Hid (runsB p hv (t + 1 + 1)) := Lib.hid (fun j hj => by
                by_cases e : j = t + 1
                · subst e
                  rw [← HS1.out, Hnx1.out]
                  show 0 ≤ th
                  omega
                · exact HRn.out j (by omega))
              go_wp2
              go_quiet (fail)
              go_wp2
              all_goals (try (exfalso; omega))
              go_roundw
              case rel => exact ⟨t + 1, by go_num, by omega, by rw [Hnx1.out], by rw [Hnx1.out], HR2, by rw [Hnx1.out]; exact (Own.drewN HOd.out _), below_dN HWd.out _⟩
              case measure => simp [intOf]; omega
end Go.Proofs.Ytmgejacndhnikaa
