/- cut.Slice walked. -/
import Derived.Test.YtadmmciiahdmcaaCutI
namespace Go.Proofs.Ytadmmciiahdmcaa
set_option maxRecDepth 100000
open Go.RowKit

section
variable {w w' : World} {base : Nat} {v v' : Value} {es : List Ent} {l : List Blk}
theorem kept_ty {α β : Type} {f : α → List Value} {g : β → List Value} {size size' b b' E E' : Nat} {u u' : Value} {x : List α} {y : List β} (h : Own f size w b E u x) (h' : Own g size' w b' E' u' y) (hne : E ≠ E') (hg : w.grownBy w' u'.ownBlock) : Own f size w' b E u x := by
  refine h.kept hg ?_
  rcases e : u.ownBlock with _ | k
  · exact .inl rfl
  · refine .inr fun e' => ?_
    obtain ⟨c, hc⟩ := own_ty h e
    obtain ⟨c', hc'⟩ := own_ty h' e'.symm
    rw [hc] at hc'
    injection hc' with hc'
    injection hc' with _ hc'
    exact hne hc'
theorem BkRow.nil (w : World) (base : Nat) : BkRow w base (.slice none 0 0) [] [] := ⟨Own.nil_ _ _ _, rfl, fun i e b h => by simp at h⟩
theorem BkRow.below (h : BkRow w base v es l) (hb : Below w.heap.size w w') : BkRow w' base v es l :=
  ⟨Own.below h.own hb, h.len, fun i e b h1 h2 => let ⟨a1, a2, a3, a4, a5⟩ := h.ent i e b h1 h2; ⟨a1, a2, a3, a4, Own.below a5 hb⟩⟩
theorem BkRow.push (h : BkRow w base v es l) {e : Ent} {b : Blk} (he : e.n = b.code.length ∧ e.test = b.test ∧ e.thn = b.thn ∧ e.els = b.els) (hc : OwnSt w base 78 (.slice e.A e.n e.cap) b.code)
    (hown : Own Ent.cells 4 w' base 25 v' (es ++ [e])) (hg : w.grownBy w' v.ownBlock) : BkRow w' base v' (es ++ [e]) (l ++ [b]) := by
  refine ⟨hown, by simp [h.len], fun i e' b' h1 h2 => ?_⟩
  rcases Nat.lt_or_ge i es.length with hi | hi
  · rw [List.getElem?_append_left hi] at h1
    rw [List.getElem?_append_left (by rw [← h.len]; exact hi)] at h2
    obtain ⟨a1, a2, a3, a4, a5⟩ := h.ent i e' b' h1 h2
    exact ⟨a1, a2, a3, a4, kept_ty a5 h.own (by decide) hg⟩
  · rw [List.getElem?_append_right hi] at h1
    rw [List.getElem?_append_right (by rw [← h.len]; exact hi)] at h2
    have h0 : i - es.length = 0 := by
      have := (List.getElem?_eq_some_iff.1 h1).1
      simp at this; omega
    rw [h0] at h1
    rw [← h.len, h0] at h2
    injection h1 with h1
    injection h2 with h2
    subst h1 h2
    exact ⟨he.1, he.2.1, he.2.2.1, he.2.2.2, kept_ty hc h.own (by decide) hg⟩
end
theorem selB_snoc : ∀ {c : List Step} {b : List Bool} {j : Nat} (hj : j < c.length) (hb : j < b.length), selB (c.take (j + 1)) (b.take (j + 1)) = selB (c.take j) (b.take j) ++ (if b[j] = true then [c[j]] else [])
  | s :: c, x :: b, 0, _, _ => by cases x <;> simp [selB]
  | s :: c, x :: b, j + 1, hj, hb => by
    have ih := selB_snoc (c := c) (b := b) (j := j) (by simpa using hj) (by simpa using hb)
    cases x
    · show selB (c.take (j + 1)) (b.take (j + 1)) = selB (c.take j) (b.take j) ++ _
      rw [ih]; rfl
    · show s :: selB (c.take (j + 1)) (b.take (j + 1)) = s :: selB (c.take j) (b.take j) ++ _
      rw [ih]; rfl
theorem selB_len : ∀ (c : List Step) (b : List Bool), (selB c b).length ≤ c.length
  | [], _ => by simp [selB]
  | _ :: _, [] => by simp [selB]
  | s :: c, true :: b => by simp only [selB, List.length_cons]; have := selB_len c b; omega
  | s :: c, false :: b => by simp only [selB, List.length_cons]; have := selB_len c b; omega
/-- The blocks that are left, of the first k. -/
def PreQ (p : List Blk) (want : Nat) (F : List Nat) (t k : Nat) (l : List Blk) : Prop := l.length = k ∧ ∀ (i : Nat) (b : Blk), i < k → p[i]? = some b → ∃ r, NearTo (W.lastL (nexts p)) i p.length r ∧ l[i]? = some (slB want F t (fun _ => r) i b)
theorem PreQ.snoc {p : List Blk} {want : Nat} {F : List Nat} {t k : Nat} {l : List Blk} (h : PreQ p want F t k l) {b : Blk} (hb : p[k]? = some b) {r : Int} (hr : NearTo (W.lastL (nexts p)) k p.length r) : PreQ p want F t (k + 1) (l ++ [slB want F t (fun _ => r) k b]) := by
  refine ⟨by rw [List.length_append, h.1]; rfl, fun i c hi hc => ?_⟩
  rcases Nat.lt_or_ge i k with h1 | h1
  · obtain ⟨r', h2, h3⟩ := h.2 i c h1 hc
    exact ⟨r', h2, by rw [List.getElem?_append_left (by rw [h.1]; exact h1)]; exact h3⟩
  · have : i = k := by omega
    subst this
    rw [hb] at hc
    injection hc with hc
    subst hc
    exact ⟨r, hr, by rw [List.getElem?_append_right (by rw [h.1]; exact Nat.le_refl _), h.1, Nat.sub_self]; rfl⟩
theorem PreQ.done {p : List Blk} {want : Nat} {F : List Nat} {t : Nat} {l : List Blk} (h : PreQ p want F t p.length l) : ∃ f : Nat → Int, (∀ i, i < p.length → NearTo (W.lastL (nexts p)) i p.length (f i)) ∧ SlQ p want F t f l := by
  have key : ∀ i, ∃ r : Int, i < p.length → NearTo (W.lastL (nexts p)) i p.length r ∧ ∀ b, p[i]? = some b → l[i]? = some (slB want F t (fun _ => r) i b) := fun i => by
    by_cases hi : i < p.length
    · obtain ⟨r, h1, h2⟩ := h.2 i _ hi (List.getElem?_eq_getElem hi)
      exact ⟨r, fun _ => ⟨h1, fun b hb => by rw [List.getElem?_eq_getElem hi] at hb; injection hb with hb; rw [← hb]; exact h2⟩⟩
    · exact ⟨0, fun h => absurd h hi⟩
  refine ⟨fun i => (key i).choose, fun i hi => ((key i).choose_spec hi).1, h.1, fun i b hb => ?_⟩
  exact ((key i).choose_spec (List.getElem?_eq_some_iff.1 hb).1).2 b hb
theorem near_ex (ls : List Nat) (i : Nat) : ∀ k, ∃ r, NearTo ls i k r
  | 0 => ⟨-1, NearTo.first ls i⟩
  | k + 1 => by
    obtain ⟨r, hr⟩ := near_ex ls i k
    by_cases h1 : k = i
    · exact ⟨r, hr.skip (.inl h1)⟩
    cases hb : (getU ls i).testBit k
    · exact ⟨r, hr.skip (.inr hb)⟩
    rcases hr.val with h2 | ⟨m, rfl, hm⟩
    · exact ⟨_, hr.take h1 hb (.inl (by omega))⟩
    · by_cases hc : cnt8 (getU ls m) < cnt8 (getU ls k)
      · exact ⟨_, hr.take h1 hb (.inr ⟨m, rfl, hc⟩)⟩
      · exact ⟨_, hr.stay (by omega)⟩
def SliceE (n : Nat) (p : List Blk) (want : Nat) (w : World) (e : Ending) (w' : World) : Prop :=
  ((∃ x, x ≠ 0 ∧ e = .returned (.tuple #[.slice none 0 0, .int .i64 x])) ∨
    (pkErr (n : Int) p = 0 ∧ want < 2 ^ n ∧ ∃ (A' : Option Addr) (c' : Nat) (q : List Blk) (T : Tri) (f : Nat → Int), e = .returned (.tuple #[.slice A' p.length c', .int .i64 0]) ∧ RdBk w' A' q ∧ Wz n p want T f q)) ∧ Below w.heap.size w w'
set_option maxHeartbeats 1000000 in
theorem slice_bad (vars : Int) (A : Option Addr) (p : List Blk) (cap want : Nat) (w : World) (hA : RdBk w A p) (hm : p.length ≤ maxLen) (hmc : smallB p) (h0 : pkErr vars p ≠ 0) :
    Calls Try.prog 37 #[.int .i64 vars, .slice A p.length cap, .int .u32 want] w fun e w' => (∃ x, x ≠ 0 ∧ e = .returned (.tuple #[.slice none 0 0, .int .i64 x])) ∧ Below w.heap.size w w' := by
  have Hb := Lib.hid (build_bad vars A p cap want w hA hm hmc h0)
  clear hA h0
  go_enter Try.func37, Try.ntmps37
  go_upto_region 2 with (go_at_call 64; refine Hb.out.mono ?_; rintro e w1 ⟨x, hx, rfl, hW⟩; have HW1 := Lib.hid hW; clear hW)
  have q : (x != 0) = true := by rw [bne_iff_ne]; exact hx
  have Hx := Lib.hid hx
  clear hx
  go_wp2
  go_ret2
  exact ⟨⟨x, Hx.out, rfl⟩, HW1.out⟩
set_option maxHeartbeats 4000000 in
theorem slice_calls (n : Nat) (A : Option Addr) (p : List Blk) (cap want : Nat) (w : World) (hA : RdBk w A p) (hm : p.length ≤ maxLen) (hmc : smallB p) :
    Calls Try.prog 37 #[.int .i64 (n : Nat), .slice A p.length cap, .int .u32 want] w (SliceE n p want w) := by
  have Hb := Lib.hid (build_calls n A p cap want w hA hm hmc)
  have HA := Lib.hid hA
  clear hA
  go_enter Try.func37, Try.ntmps37
  go_wp2_with (go_at_call 64; refine Hb.out.mono ?_; clear Hb; rintro e w1 (⟨x, hx, rfl, hW⟩ | ⟨h0, h1, T, SB, FB, R, b, cS, t, F, B, vs, rfl, hX, hC, hO⟩))
  · have q : (x != 0) = true := by rw [bne_iff_ne]; exact hx
    have Hx := Lib.hid hx
    have HW1 := Lib.hid hW
    clear hx hW
    go_wp2
    go_ret2
    exact ⟨.inl ⟨x, Hx.out, rfl⟩, HW1.out⟩
  have H0 := Lib.hid h0
  have H1 := Lib.hid h1
  have HP := Lib.hid (pok_of h0)
  have hn8 := HP.out.n8
  have hn1 := HP.out.n1
  have HX := Lib.hid hX
  have HC := Lib.hid hC
  have Hll : Hid ((W.lastL (nexts p)).length = p.length) := Lib.hid (by rw [W.lastL_len]; simp [nexts])
  obtain ⟨As, cs, rfl, hRs⟩ := OwnU.rd hO
  rw [Hll.out]
  have HRs := Lib.hid hRs
  have Hlv : Hid (∀ x ∈ W.lastL (nexts p), x < 256) := Lib.hid fun x hx => by
    unfold W.lastL at hx
    obtain ⟨i, _, rfl⟩ := List.mem_map.1 hx
    exact W.lastS_lt _ _
  have HA1 := Lib.hid (HA.out.below hX.bel)
  clear h0 h1 hX hC hO hRs HA
  go_wp2
  go_loopw [30, 11] (fun i v wr => ∃ (k : Nat) (vq : Value) (es : List Ent) (l : List Blk), k ≤ p.length ∧ i = .int .i64 k ∧ v = vq ∧ Hid (BkRow wr w1.heap.size vq es l) ∧ Hid (PreQ p want F t k l) ∧ Hid (Below w1.heap.size w1 wr)) (fun i _ _ => p.length - (intOf i).toNat)
  case atStart => exact ⟨0, _, [], [], Nat.zero_le _, rfl, rfl, Lib.hid (BkRow.nil _ _), Lib.hid ⟨rfl, fun i b hi => by omega⟩, Lib.hid (Below.refl _ _)⟩
  case round =>
    obtain ⟨k, vq, es, l, hk, rfl, hv, HBk, HPq, HW⟩ := hrel
    obtain rfl := hv.symm
    obtain ⟨wo, rfl⟩ : ∃ wo : World, wo = wr := ⟨_, rfl⟩
    by_cases hlt : k < p.length
    · have Hlt := Lib.hid hlt
      have q1 : ((k : Nat) : Int) < ((p.length : Nat) : Int) := by omega
      have Hb := Lib.hid (List.getElem?_eq_getElem hlt)
      obtain ⟨pb, off, A', cap', rfl, hpb, d0, d1, d2, d3, hSt⟩ := RdBk.at_ (HA1.out.below HW.out) hlt
      have hcl : p[k].code.length ≤ 20 := by have := manyB_mem (List.getElem_mem hlt); have := HP.out.many; omega
      have hbo := HP.out.bs _ (List.getElem_mem hlt)
      have Hbl := Lib.hid (HX.out.len k _ Hb.out)
      have Hrow := Lib.hid (HX.out.ct.hB k hlt)
      have HcS := Lib.hid (HX.out.ct.atS hlt)
      have Hex := Lib.hid fun j => low_exact HX.out.low HC.out Hb.out (k := j)
      have Htlo := Lib.hid hbo.lo
      generalize p[k] = bk at *
      obtain ⟨code, test, thn, els⟩ := bk
      dsimp only at d0 d1 d2 d3 hcl hSt Hbl Htlo
      have HSt := Lib.hid hSt
      clear hSt hbo
      go_upto_region 8 with fail
      obtain ⟨NB, hNB⟩ : ∃ NB, NB = wo.heap.size := ⟨_, rfl⟩
      have hw1s := HW.out.size
      have HW5 := Lib.hid ((Below.refl wo.heap.size wo).alloc (Nat.le_refl _) (.cells #[.slice A' code.length cap', .int .i64 test, .int .i64 thn, .int .i64 els] 25))
      have HN5 : Hid ((wo.alloc (.cells #[.slice A' code.length cap', .int .i64 test, .int .i64 thn, .int .i64 els] 25)).heap[NB]? = some (.cells #[.slice A' code.length cap', .int .i64 test, .int .i64 thn, .int .i64 els] 25 (0, 0))) := Lib.hid (by rw [hNB]; exact heap_alloc_new wo _)
      have hn0 : (wo.alloc (.cells #[.slice A' code.length cap', .int .i64 test, .int .i64 thn, .int .i64 els] 25)).cell? ⟨NB, 0, none⟩ = some (.slice A' code.length cap') := by rw [cell_of_row _ NB _ _ _ _ HN5.out]; rfl
      rw [← hNB]
      have HNB := Lib.hid hNB
      clear hNB d0 d1 d2 d3 hpb
      generalize wo.alloc (.cells #[.slice A' code.length cap', .int .i64 test, .int .i64 thn, .int .i64 els] 25) = w5 at *
      go_wp2
      go_loopw [38, 14] (fun i v wx => ∃ (j : Nat) (vc : Value), j ≤ code.length ∧ i = .int .i64 j ∧ v = vc ∧ Hid (Below wo.heap.size wo wx) ∧ Hid (wx.heap[NB]? = some (.cells #[.slice A' code.length cap', .int .i64 test, .int .i64 thn, .int .i64 els] 25 (0, 0))) ∧ Hid (OwnSt wx (NB + 1) 78 vc (selB (code.take j) ((B k).take j)))) (fun i _ _ => code.length - (intOf i).toNat)
      case atStart => exact ⟨0, _, Nat.zero_le _, rfl, rfl, HW5, HN5, Lib.hid (by rw [List.take_zero]; exact Own.nil_ _ _ _)⟩
      case round =>
        clear hn0 HW5 HN5
        obtain ⟨j, vc, hj, rfl, hv, HWx, HNx, HOc⟩ := hrel
        obtain rfl := hv.symm
        by_cases hjl : j < code.length
        · have Hjl := Lib.hid hjl
          have q2 : ((j : Nat) : Int) < ((code.length : Nat) : Int) := by omega
          have HSx := Lib.hid (Rd.below (HSt.out) HWx.out)
          obtain ⟨b2, off2, rfl, hb2, c0, c1, c2, c3, c4⟩ := RdSt.at5 HSx.out hjl
          have hbj : j < (B k).length := by rw [Hbl.out]; exact hjl
          have HSX := Lib.hid ((HX.out.keep HW.out).keep HWx.out)
          have t3 := HSX.out.ct.at_.2.2.2.1
          have s1 := HSX.out.ct.atS Hlt.out
          have mB : wr.cell? ⟨R k, j, none⟩ = some (.bool (B k)[j]) := by rw [cell_of_row wr (R k) j _ _ _ (HSX.out.ct.hB k Hlt.out)]; simp [hbj]
          have qB : ((j : Nat) : Int) < (((B k).length : Nat) : Int) := by omega
          have Hsn := Lib.hid (selB_snoc hjl hbj)
          have hsl : (selB (code.take j) ((B k).take j)).length < 1000000 := by have := selB_len (code.take j) ((B k).take j); rw [List.length_take] at this; omega
          have hNz := lt_cells HNx.out
          generalize code[j] = st at *
          generalize (B k)[j] = y at *
          go_upto_region 12 with fail
          obtain ⟨op, tg, sa, sb, sv⟩ := st
          have HW6 := Lib.hid (HWx.out.alloc HWx.out.size (.cells #[.int .i64 op, .int .i64 tg, .int .i64 sa, .int .i64 sb, .int .i64 sv] 78))
          have HN6 := Lib.hid ((Below.heap_alloc wr (.cells #[.int .i64 op, .int .i64 tg, .int .i64 sa, .int .i64 sb, .int .i64 sv] 78) NB hNz).trans HNx.out)
          have HO6 := Lib.hid (Own.alloc HOc.out (.cells #[.int .i64 op, .int .i64 tg, .int .i64 sa, .int .i64 sb, .int .i64 sv] 78))
          have hb6 := (Below.refl wr.heap.size wr).alloc (Nat.le_refl _) (.cells #[.int .i64 op, .int .i64 tg, .int .i64 sa, .int .i64 sb, .int .i64 sv] 78)
          have g3 := (HSX.out.keep hb6).ct.at_.2.2.2.1
          have g1 := (HSX.out.keep hb6).ct.atS Hlt.out
          have gB := (hb6.cell (p := ⟨R k, j, none⟩) (lt_cells (HSX.out.ct.hB k Hlt.out))).trans mB
          have m0 : (wr.alloc (.cells #[.int .i64 op, .int .i64 tg, .int .i64 sa, .int .i64 sb, .int .i64 sv] 78)).cell? ⟨wr.heap.size, 0, none⟩ = some (.int .i64 op) := cell_new wr _ _ _ rfl _
          have m1 : (wr.alloc (.cells #[.int .i64 op, .int .i64 tg, .int .i64 sa, .int .i64 sb, .int .i64 sv] 78)).cell? ⟨wr.heap.size, 1, none⟩ = some (.int .i64 tg) := cell_new wr _ _ _ rfl _
          have m2 : (wr.alloc (.cells #[.int .i64 op, .int .i64 tg, .int .i64 sa, .int .i64 sb, .int .i64 sv] 78)).cell? ⟨wr.heap.size, 2, none⟩ = some (.int .i64 sa) := cell_new wr _ _ _ rfl _
          have m3 : (wr.alloc (.cells #[.int .i64 op, .int .i64 tg, .int .i64 sa, .int .i64 sb, .int .i64 sv] 78)).cell? ⟨wr.heap.size, 3, none⟩ = some (.int .i64 sb) := cell_new wr _ _ _ rfl _
          have m4 : (wr.alloc (.cells #[.int .i64 op, .int .i64 tg, .int .i64 sa, .int .i64 sb, .int .i64 sv] 78)).cell? ⟨wr.heap.size, 4, none⟩ = some (.int .i64 sv) := cell_new wr _ _ _ rfl _
          have hz6 : NB + 1 ≤ (wr.alloc (.cells #[.int .i64 op, .int .i64 tg, .int .i64 sa, .int .i64 sb, .int .i64 sv] 78)).heap.size := by simp; omega
          clear HWx HNx HOc HSX HSx hb6 c0 c1 c2 c3 c4 t3 s1 mB hb2 hNz
          generalize wr.alloc (.cells #[.int .i64 op, .int .i64 tg, .int .i64 sa, .int .i64 sb, .int .i64 sv] 78) = w6 at *
          generalize wr.heap.size = MB at *
          cases y
          · have HO7 : Hid (OwnSt w6 (NB + 1) 78 vc (selB (code.take (j + 1)) ((B k).take (j + 1)))) := Lib.hid (by rw [Hsn.out]; simpa using HO6.out)
            go_wp2
            go_roundw
            case rel => exact ⟨j + 1, _, by have := Hjl.out; omega, by go_num, rfl, HW6, HN6, HO7⟩
            case measure => simp [intOf]; omega
          · have HO7 := Lib.hid (Own.alloc HO6.out (.cells #[.int .i64 op, .int .i64 tg, .int .i64 sa, .int .i64 sb, .int .i64 sv] 78))
            go_wp2_with (at_builtin; refine wpList_appSt rfl _ _ rfl (NB + 1) _ _ ⟨op, tg, sa, sb, sv⟩ rfl HO7.out _ _ rfl (cellSt_new _ _ _ _ _ rfl rfl) hsl (by simp; omega) ?_; intro v' w7 hown7 hgrow7)
            have HW7 := Lib.hid (below_own (HW6.out.alloc HW6.out.size (.cells #[.int .i64 op, .int .i64 tg, .int .i64 sa, .int .i64 sb, .int .i64 sv] 78)) hgrow7 HO7.out (by have := HNB.out; omega) (by have := HW6.out.size; simp; omega))
            have HN7 := Lib.hid ((hgrow7.block NB (Nat.lt_of_lt_of_le (lt_cells HN6.out) (by simp)) (fun e => by have := (World.ownsRow.lt HO7.out _ e.symm).1; omega)).trans ((Below.heap_alloc w6 (.cells #[.int .i64 op, .int .i64 tg, .int .i64 sa, .int .i64 sb, .int .i64 sv] 78) NB (lt_cells HN6.out)).trans HN6.out))
            have HO8 : Hid (OwnSt w7 (NB + 1) 78 v' (selB (code.take (j + 1)) ((B k).take (j + 1)))) := Lib.hid (by rw [Hsn.out]; simpa using hown7)
            clear hown7 hgrow7
            go_roundw
            case rel => exact ⟨j + 1, _, by have := Hjl.out; omega, by go_num, rfl, HW7, HN7, HO8⟩
            case measure => simp [intOf]; omega
        · have hje : j = code.length := by omega
          subst hje
          have hll : ¬ ((code.length : Int) < (code.length : Int)) := by omega
          have hoc := HOc.out
          rw [List.take_length, ← Hbl.out, List.take_length] at hoc
          have Hkp : Hid (selB code (B k) = kpC code (beC want F t k ⟨code, test, thn, els⟩)) := Lib.hid (sel_kp Hbl.out fun j => ⟨fun h => (Hex.out j).1 ⟨Hlt.out, h⟩, fun h => ((Hex.out j).2 h).2⟩)
          generalize hkc : selB code (B k) = kc at *
          clear hkc
          obtain ⟨Ac, cc, rfl, hRc, -⟩ := Own.form stepCells_len hoc
          have hNl := lt_cells HNx.out
          have HO8 := Lib.hid (hoc.kept (grown_set wr NB 0 (.slice Ac kc.length cc)) (Or.inr (fun e => by have := (World.ownsRow.lt hoc _ e).1; omega)))
          have HW8 := Lib.hid (HWx.out.setCell (p := ⟨NB, 0, none⟩) (show wo.heap.size ≤ NB by have := HNB.out; omega) (.slice Ac kc.length cc))
          have HN8 : Hid ((wr.setCell ⟨NB, 0, none⟩ (.slice Ac kc.length cc)).heap[NB]? = some (.cells #[.slice Ac kc.length cc, .int .i64 test, .int .i64 thn, .int .i64 els] 25 (0, 0))) := Lib.hid (by rw [heap_setC wr NB 0 _ _ _ HNx.out]; rfl)
          have c0 : wr.cell? ⟨NB, 0, none⟩ = some (.slice A' code.length cap') := by rw [cell_of_row wr NB _ _ _ _ HNx.out]; rfl
          have f0 : wr.frozen? ⟨NB, 0, none⟩ = false := frozen_of HNx.out
          clear hoc hRc HOc hjl hj
          go_upto_region 16 with fail
          clear HWx HNx c0 f0 hNl
          generalize wr.setCell ⟨NB, 0, none⟩ (.slice Ac kc.length cc) = w8 at *
          have n1 : w8.cell? ⟨NB, 1, none⟩ = some (.int .i64 test) := by rw [cell_of_row w8 NB _ _ _ _ HN8.out]; rfl
          have t4 := (((HX.out.keep HW.out).keep HW8.out).ct.at_).2.2.2.2.1
          have ht8 := HX.out.t8
          have rt := test_u32 t k (by omega)
          have rd : ∀ j (hj : j < 4), w8.cell? ⟨NB, j, none⟩ = (#[Value.slice Ac kc.length cc, .int .i64 test, .int .i64 thn, .int .i64 els])[j]? := fun j hj => cell_of_row w8 NB j _ _ _ HN8.out
          have n0 : w8.cell? ⟨NB, 0, none⟩ = some (.slice Ac kc.length cc) := rd 0 (by omega)
          have n2 : w8.cell? ⟨NB, 2, none⟩ = some (.int .i64 thn) := rd 2 (by omega)
          have n3 : w8.cell? ⟨NB, 3, none⟩ = some (.int .i64 els) := rd 3 (by omega)
          clear rd
          by_cases h0 : 0 ≤ test
          · have d0 : decide (test ≥ 0) = true := decide_eq_true h0
            have d0' : decide (0 ≤ test) = true := decide_eq_true h0
            cases hb : t.testBit k
            · rw [hb] at rt
              have Hnr0 := nearest_calls As (W.lastL (nexts p)) cs k w8 (Rd.below HRs.out (HW.out.trans (HW8.out.mono HW.out.size))) (by rw [Hll.out]; exact Hlt.out) (by rw [Hll.out]; omega) Hlv.out
              rw [Hll.out] at Hnr0
              have Hnr := Lib.hid Hnr0
              have f8 : ∀ j, w8.frozen? ⟨NB, j, none⟩ = false := fun j => frozen_of HN8.out
              have f81 := f8 1
              have f82 := f8 2
              have f83 := f8 3
              have HN9 : Hid (∀ (nq : Nat) (r : Int), ((((w8.drewN nq).setCell ⟨NB, 1, none⟩ (.int .i64 (-1))).setCell ⟨NB, 2, none⟩ (.int .i64 r)).setCell ⟨NB, 3, none⟩ (.int .i64 0)).heap[NB]? = some (.cells #[.slice Ac kc.length cc, .int .i64 (-1), .int .i64 r, .int .i64 0] 25 (0, 0))) := Lib.hid fun nq r => by
                rw [heap_setC _ NB 3 _ _ _ (heap_setC _ NB 2 _ _ _ (heap_setC (w8.drewN nq) NB 1 _ _ _ HN8.out))]; rfl
              have hNo := HNB.out
              have HW9f : Hid (∀ (nq : Nat) (r : Int), Below wo.heap.size wo ((((w8.drewN nq).setCell ⟨NB, 1, none⟩ (.int .i64 (-1))).setCell ⟨NB, 2, none⟩ (.int .i64 r)).setCell ⟨NB, 3, none⟩ (.int .i64 0))) := Lib.hid fun nq r =>
                (((below_dN HW8.out nq).setCell (p := ⟨NB, 1, none⟩) (show wo.heap.size ≤ NB by omega) _).setCell (p := ⟨NB, 2, none⟩) (show wo.heap.size ≤ NB by omega) _).setCell (p := ⟨NB, 3, none⟩) (show wo.heap.size ≤ NB by omega) _
              have HO9f : Hid (∀ (nq : Nat) (r : Int), OwnSt ((((w8.drewN nq).setCell ⟨NB, 1, none⟩ (.int .i64 (-1))).setCell ⟨NB, 2, none⟩ (.int .i64 r)).setCell ⟨NB, 3, none⟩ (.int .i64 0)) (NB + 1) 78 (.slice Ac kc.length cc) kc) := Lib.hid fun nq r => by
                have hne : ∀ {wq : World}, OwnSt wq (NB + 1) 78 (.slice Ac kc.length cc) kc → (Value.slice Ac kc.length cc).ownBlock ≠ some NB := fun h e => by have := (World.ownsRow.lt h _ e).1; omega
                have h1 := (Own.drewN HO8.out nq).kept (grown_set (w8.drewN nq) NB 1 (.int .i64 (-1))) (Or.inr (hne HO8.out))
                have h2 := h1.kept (grown_set _ NB 2 (.int .i64 r)) (Or.inr (hne HO8.out))
                exact h2.kept (grown_set _ NB 3 (.int .i64 0)) (Or.inr (hne HO8.out))
              clear f8 hNo Hnr0
              go_upto_region 18 with (go_at_call 65; refine Hnr.out.mono ?_; rintro e w9 ⟨⟨r, rfl, hr⟩, nq, rfl⟩; have Hr := Lib.hid hr; clear hr)
              have HN9' := Lib.hid (HN9.out nq r)
              have HW9 := Lib.hid (HW9f.out nq r)
              have HO9 := Lib.hid (HO9f.out nq r)
              clear HN9 HW9f HO9f f81 f82 f83 n0 n1 n2 n3 t4 rt HN8 HO8 HW8
              generalize (((w8.drewN nq).setCell ⟨NB, 1, none⟩ (.int .i64 (-1))).setCell ⟨NB, 2, none⟩ (.int .i64 r)).setCell ⟨NB, 3, none⟩ (.int .i64 0) = w9 at *
              have rd : ∀ j (hj : j < 4), w9.cell? ⟨NB, j, none⟩ = (#[Value.slice Ac kc.length cc, .int .i64 (-1), .int .i64 r, .int .i64 0])[j]? := fun j hj => cell_of_row w9 NB j _ _ _ HN9'.out
              have n0 : w9.cell? ⟨NB, 0, none⟩ = some (.slice Ac kc.length cc) := rd 0 (by omega)
              have n1 : w9.cell? ⟨NB, 1, none⟩ = some (.int .i64 (-1)) := rd 1 (by omega)
              have n2 : w9.cell? ⟨NB, 2, none⟩ = some (.int .i64 r) := rd 2 (by omega)
              have n3 : w9.cell? ⟨NB, 3, none⟩ = some (.int .i64 0) := rd 3 (by omega)
              clear rd
              have HBk9 := Lib.hid (HBk.out.below HW9.out)
              have HWW9 := Lib.hid (HW.out.trans (HW9.out.mono HW.out.size))
              have HSLB : Hid (∃ rz, NearTo (W.lastL (nexts p)) k p.length rz ∧ slB want F t (fun _ => rz) k ⟨code, test, thn, els⟩ = ⟨kc, -1, r, 0⟩) := Lib.hid (by exact ⟨r, Hr.out, by unfold slB; rw [if_pos ⟨h0, hb⟩, ← Hkp.out]⟩)
              have hlq : es.length < 1000000 := by rw [HBk.out.len, HPq.out.1]; omega
              go_wp2_with (at_builtin; refine wpList_appBk rfl _ _ rfl w1.heap.size _ _ ⟨Ac, kc.length, cc, -1, r, 0⟩ rfl (Own.alloc HBk9.out.own _) _ _ rfl (fun j _ => by rw [cell_new _ _ _ _ rfl]; simp [Ent.cells]) hlq (by have := HWW9.out.size; simp; omega) ?_; intro v' w10 hown10 hgrow10)
              have HBk10 := Lib.hid ((HBk9.out.below ((Below.refl _ _).alloc (Nat.le_refl _) _)).push (e := ⟨Ac, kc.length, cc, -1, r, 0⟩) (b := ⟨kc, -1, r, 0⟩) ⟨rfl, rfl, rfl, rfl⟩ ((Own.below HO9.out ((Below.refl _ _).alloc (Nat.le_refl _) _)).base_ (by have := HNB.out; omega)) hown10 hgrow10)
              have HW10 := Lib.hid (below_own (HWW9.out.alloc HWW9.out.size _) hgrow10 (Own.alloc HBk9.out.own _) (Nat.le_refl _) (by have := HWW9.out.size; simp; omega))
              obtain ⟨rr, hr1, hr2⟩ := HSLB.out
              have HPq' := Lib.hid (HPq.out.snoc Hb.out hr1)
              rw [hr2] at HPq'
              clear hown10 hgrow10 hr1 hr2
              go_roundw
              case rel => exact ⟨k + 1, _, _, _, by have := Hlt.out; omega, by go_num, rfl, HBk10, HPq', HW10⟩
              case measure => simp [intOf]; omega
            · rw [hb] at rt
              have HO9 := HO8
              have HW9 := HW8
              have HBk9 := Lib.hid (HBk.out.below HW9.out)
              have HWW9 := Lib.hid (HW.out.trans (HW9.out.mono HW.out.size))
              have HSLB : Hid (∃ rz, NearTo (W.lastL (nexts p)) k p.length rz ∧ slB want F t (fun _ => rz) k ⟨code, test, thn, els⟩ = ⟨kc, test, thn, els⟩) := Lib.hid (by obtain ⟨r, hr⟩ := near_ex (W.lastL (nexts p)) k p.length; exact ⟨r, hr, by unfold slB; rw [if_neg (by dsimp only; simp [hb]), ← Hkp.out]⟩)
              have hlq : es.length < 1000000 := by rw [HBk.out.len, HPq.out.1]; omega
              go_wp2_with (at_builtin; refine wpList_appBk rfl _ _ rfl w1.heap.size _ _ ⟨Ac, kc.length, cc, test, thn, els⟩ rfl (Own.alloc HBk9.out.own _) _ _ rfl (fun j _ => by rw [cell_new _ _ _ _ rfl]; simp [Ent.cells]) hlq (by have := HWW9.out.size; simp; omega) ?_; intro v' w10 hown10 hgrow10)
              have HBk10 := Lib.hid ((HBk9.out.below ((Below.refl _ _).alloc (Nat.le_refl _) _)).push (e := ⟨Ac, kc.length, cc, test, thn, els⟩) (b := ⟨kc, test, thn, els⟩) ⟨rfl, rfl, rfl, rfl⟩ ((Own.below HO9.out ((Below.refl _ _).alloc (Nat.le_refl _) _)).base_ (by have := HNB.out; omega)) hown10 hgrow10)
              have HW10 := Lib.hid (below_own (HWW9.out.alloc HWW9.out.size _) hgrow10 (Own.alloc HBk9.out.own _) (Nat.le_refl _) (by have := HWW9.out.size; simp; omega))
              obtain ⟨rr, hr1, hr2⟩ := HSLB.out
              have HPq' := Lib.hid (HPq.out.snoc Hb.out hr1)
              rw [hr2] at HPq'
              clear hown10 hgrow10 hr1 hr2
              go_roundw
              case rel => exact ⟨k + 1, _, _, _, by have := Hlt.out; omega, by go_num, rfl, HBk10, HPq', HW10⟩
              case measure => simp [intOf]; omega
          · have d0 : decide (test ≥ 0) = false := decide_eq_false h0
            have d0' : decide (0 ≤ test) = false := decide_eq_false h0
            have HO9 := HO8
            have HW9 := HW8
            have HBk9 := Lib.hid (HBk.out.below HW9.out)
            have HWW9 := Lib.hid (HW.out.trans (HW9.out.mono HW.out.size))
            have HSLB : Hid (∃ rz, NearTo (W.lastL (nexts p)) k p.length rz ∧ slB want F t (fun _ => rz) k ⟨code, test, thn, els⟩ = ⟨kc, test, thn, els⟩) := Lib.hid (by obtain ⟨r, hr⟩ := near_ex (W.lastL (nexts p)) k p.length; exact ⟨r, hr, by unfold slB; rw [if_neg (by dsimp only; simp [h0]), ← Hkp.out]⟩)
            have hlq : es.length < 1000000 := by rw [HBk.out.len, HPq.out.1]; omega
            go_wp2_with (at_builtin; refine wpList_appBk rfl _ _ rfl w1.heap.size _ _ ⟨Ac, kc.length, cc, test, thn, els⟩ rfl (Own.alloc HBk9.out.own _) _ _ rfl (fun j _ => by rw [cell_new _ _ _ _ rfl]; simp [Ent.cells]) hlq (by have := HWW9.out.size; simp; omega) ?_; intro v' w10 hown10 hgrow10)
            have HBk10 := Lib.hid ((HBk9.out.below ((Below.refl _ _).alloc (Nat.le_refl _) _)).push (e := ⟨Ac, kc.length, cc, test, thn, els⟩) (b := ⟨kc, test, thn, els⟩) ⟨rfl, rfl, rfl, rfl⟩ ((Own.below HO9.out ((Below.refl _ _).alloc (Nat.le_refl _) _)).base_ (by have := HNB.out; omega)) hown10 hgrow10)
            have HW10 := Lib.hid (below_own (HWW9.out.alloc HWW9.out.size _) hgrow10 (Own.alloc HBk9.out.own _) (Nat.le_refl _) (by have := HWW9.out.size; simp; omega))
            obtain ⟨rr, hr1, hr2⟩ := HSLB.out
            have HPq' := Lib.hid (HPq.out.snoc Hb.out hr1)
            rw [hr2] at HPq'
            clear hown10 hgrow10 hr1 hr2
            go_roundw
            case rel => exact ⟨k + 1, _, _, _, by have := Hlt.out; omega, by go_num, rfl, HBk10, HPq', HW10⟩
            case measure => simp [intOf]; omega
    · have hkp : k = p.length := by omega
      subst hkp
      have hll : ¬ ((p.length : Int) < (p.length : Int)) := by omega
      obtain ⟨Aq, cq, rfl, hRq⟩ := HBk.out.rd
      have HRq := Lib.hid hRq
      obtain ⟨f, hf1, hf2⟩ := HPq.out.done
      have HZ := Lib.hid (show Wz n p want ⟨F, MB p.length B, t⟩ f l from ⟨HP.out, H1.out, HX.out.low, HC.out, HX.out.lt, HX.out.tt, hf1, hf2⟩)
      have hlen := HPq.out.1
      rw [hlen]
      clear hlt hk hRq hf1 hf2 HPq
      go_wp2
      go_ret2
      exact ⟨.inr ⟨H0.out, H1.out, Aq, cq, l, _, f, rfl, HRq.out, HZ.out⟩, HX.out.bel.trans (HW.out.mono HX.out.bel.size)⟩
end Go.Proofs.Ytadmmciiahdmcaa
