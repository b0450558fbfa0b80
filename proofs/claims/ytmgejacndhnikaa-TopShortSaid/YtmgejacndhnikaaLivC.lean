/- live.solve walked (written by livsolve.py). -/
import Derived.Test.YtmgejacndhnikaaLivB
import Derived.Test.YtmgejacndhnikaaBackS
import Derived.Test.YtmgejacndhnikaaHeapC
import Derived.Test.YtmgejacndhnikaaEqualU
import Derived.StillTailTactics
namespace Go.Proofs.Ytmgejacndhnikaa
open Go.RowKit Go.Shelf
attribute [local go_sem] Oper.semAt_some

/-- Of the first k blocks what is ahead, of the others what is behind. -/
noncomputable def mixL (p : List Blk) (want : Nat) (F : List Nat) (k : Nat) : List Nat := (phL p want F).take k ++ (bhF p want F).drop k
theorem mixL_zero (p : List Blk) (want : Nat) (F : List Nat) : mixL p want F 0 = bhF p want F := by simp [mixL]
theorem mixL_all (p : List Blk) (want : Nat) (F : List Nat) : mixL p want F p.length = phL p want F := by
  unfold mixL; rw [List.take_of_length_le (by rw [phL_len]; exact Nat.le_refl _), List.drop_of_length_le (by rw [bhF_len]; exact Nat.le_refl _), List.append_nil]
theorem mixL_len {p : List Blk} {want : Nat} {F : List Nat} {k : Nat} (hk : k ≤ p.length) : (mixL p want F k).length = p.length := by
  unfold mixL; rw [List.length_append, List.length_take, List.length_drop, phL_len, bhF_len]; omega
theorem mixL_at {p : List Blk} {want : Nat} {F : List Nat} {k : Nat} (hk : k < p.length) : (mixL p want F k).set k (bhL want F p[k]) = mixL p want F k := by
  have h : (mixL p want F k)[k]'(by rw [mixL_len (by omega)]; exact hk) = bhL want F p[k] := by
    unfold mixL
    rw [List.getElem_append_right (by rw [List.length_take, phL_len]; omega)]
    simp [bhF, phL_len, Nat.min_eq_left (Nat.le_of_lt hk)]
  have := @List.set_getElem_self _ (mixL p want F k) k (by rw [mixL_len (by omega)]; exact hk)
  rw [h] at this
  exact this
theorem mixL_set {p : List Blk} {want : Nat} {F : List Nat} {k : Nat} (hk : k < p.length) : (mixL p want F k).set k (ahC p[k].code (bhL want F p[k])) = mixL p want F (k + 1) := by
  have hl : ((phL p want F).take k).length = k := by rw [List.length_take, phL_len]; omega
  unfold mixL
  rw [List.set_append_right _ _ (by omega), hl, Nat.sub_self, List.drop_eq_getElem_cons (by rw [bhF_len]; exact hk), List.set_cons_zero, List.take_succ_eq_append_getElem (by rw [phL_len]; exact hk), List.append_assoc]
  congr 2
  simp [phL]
theorem ahC_drop {c : List Step} {j : Nat} (hj : j < c.length) (l : Nat) : ahC (c.drop j) l = ahL c[j] (ahC (c.drop (j + 1)) l) := by
  rw [List.drop_eq_getElem_cons hj]; rfl
theorem ahC_lt32 {c : List Step} : ∀ {l : Nat}, l < 4294967296 → (∀ s ∈ c, (0 ≤ s.val ∧ s.val < 32 ∨ s.op ≠ 2) ∧ ((s.op = 1 ∨ s.op = 2) ∨ (0 ≤ s.a ∧ s.a < 32 ∧ 0 ≤ s.b ∧ s.b < 32))) → ahC c l < 4294967296 := by
  induction c with
  | nil => intro l h _; exact h
  | cons s c ih =>
    intro l h hs
    have h1 := ih h fun t ht => hs t (by simp [ht])
    have h2 := hs s (by simp)
    show ahL s (ahC c l) < 4294967296
    exact lt_pow_of_bits (n := 32) fun k hk => by
      rw [ahL_bit h1] at hk
      rcases hk with ⟨h, _⟩ | ⟨e, rfl⟩ | ⟨n1, n2, rfl | rfl⟩
      · exact bit_lt (n := 32) h1 h
      · have := h2.1; omega
      · have := h2.2; omega
      · have := h2.2; omega
theorem own_set_self {w : World} {base : Nat} {v : Value} {l l' : List Nat} (h : OwnU w base 24 v l) (e : l = l') : OwnU w base 24 v l' := e ▸ h
theorem keepsN (w : World) (n : Nat) : KeepsOthers w (w.drewN n) := ⟨Nat.le_refl _, fun _ _ h _ => h⟩
def SolLE (p : List Blk) (want n : Nat) (w : World) (e : Ending) (w' : World) : Prop :=
  ∃ v F, e = .returned v ∧ SolL p want F ∧ ltU F (2 ^ n) ∧ OwnU w' w.heap.size 24 v F ∧ Below w.heap.size w w'
set_option maxRecDepth 100000 in
set_option maxHeartbeats 1000000 in
theorem solveN_calls (n : Nat) (A : Option Addr) (p : List Blk) (cap want : Nat) (w : World) (hA : RdBk w A p) (hp : POk (n : Int) p) (hw : want < 2 ^ n) :
    Calls Try.prog 94 #[.slice A p.length cap, .int .u32 want] w (SolLE p want n w) := by
  have HA := Lib.hid hA
  have HP := Lib.hid hp
  have hn8 := hp.n8
  have hn1 := hp.n1
  have h6 : n ≤ 6 := by have := hp.v6; omega
  have h64 : 2 ^ n ≤ 64 := Nat.pow_le_pow_right (by decide) h6
  have Hw := Lib.hid hw
  have H64 := Lib.hid h64
  have hw32 : want < 4294967296 := by omega
  clear hA hp hw h64
  refine calls_of_marks Try.func94 rfl ?_
  simp only [Try.ntmps94, List.size_toArray, List.length_cons, List.length_nil, Nat.reduceAdd, Nat.reduceSub, Array.replicate_succ, Array.replicate_zero, List.push_toArray, List.append_toArray, List.nil_append, List.cons_append]
  go_wp2_with (first
    | (at_make; refine wpList_makeU rfl _ _ rfl w.heap.size p.length rfl rfl (by omega) (Nat.le_refl _) ?_; intro w3 hown3 hgrow3
       have HW3 := Lib.hid ((Below.refl w.heap.size w).grown hgrow3 (Nat.le_refl _) (fun k hk => by cases hk))
       have HO3 := Lib.hid hown3
       clear hown3 hgrow3))
  refine wp_loop_slots 4 (fun k f ds wr => ∃ F v, f 5 = v ∧ OwnU wr w.heap.size 24 v F ∧ (∃ j, F = lvK p want j) ∧ Below w.heap.size w wr ∧ Marks w.heap.size ds wr ∧ k + wgU F = 64) 64 ⟨List.replicate p.length 0, _, rfl, HO3.out, ⟨0, rfl⟩, HW3.out, Marks.nil _ _, by
    have : ∀ m, wgU (List.replicate m 0) = 0 := fun m => by
      induction m with
      | zero => rfl
      | succ m ih => rw [List.replicate_succ]; show (List.map cnt8 (0 :: List.replicate m 0)).sum = 0; rw [List.map_cons, List.sum_cons]; unfold wgU at ih; rw [ih]; decide
    rw [this]⟩ ?_
  clear HW3 HO3
  intro gk f ds wr hrel J K hJ hK
  obtain ⟨F, v, h5, hO, hj, hW, hM, hgk⟩ := hrel
  have Hj := Lib.hid hj
  have hFl : F.length = p.length := by obtain ⟨j, rfl⟩ := hj; exact lvK_len _ _ _
  have HFlt : Hid (ltU F (2 ^ n)) := Lib.hid (by obtain ⟨j, rfl⟩ := Hj.out; exact lvK_lt HP.out rfl Hw.out j)
  obtain ⟨g, c, rfl, hg1, hg2, -, -, -⟩ := OwnU.at_ hO (by omega)
  have HO := Lib.hid hO
  have HW := Lib.hid hW
  have HM := Lib.hid hM
  have HJ := Lib.hid hJ
  have Hgk := Lib.hid hgk
  have hws := hW.size
  have HFl := Lib.hid hFl
  have HRF := Lib.hid (show RdU wr (some ⟨g, 0, none⟩) F by obtain ⟨A9, c9, e9, h9⟩ := OwnU.rd hO; injection e9 with e9; rw [e9]; exact h9)
  have Hbe := Lib.hid (behindL_calls (n : Int) A (some ⟨g, 0, none⟩) p F cap c want wr (HA.out.below HW.out) HRF.out HP.out hFl (fun i => Nat.lt_of_lt_of_le (HFlt.out i) (Nat.le_trans H64.out (by decide))) hw32)
  clear hO hW hM hJ hj hFl hgk
  simp only [frm, List.size_toArray, List.length_cons, List.length_nil, Nat.reduceAdd, Nat.reduceSub, List.take_succ_cons, List.take_zero, List.range'_succ, List.range'_zero, List.map_cons, List.map_nil, List.cons_append, List.nil_append]
  rw [h5]
  clear h5
  go_wp2_with (first
    | (go_at_call 93; refine Hbe.out.mono ?_; rintro e w4 ⟨v4, rfl, hO4, hW4⟩
       have HW4 := Lib.hid hW4
       have hz4 := hW4.size
       obtain ⟨g4, c4, rfl, hg41, hg42, -, -, -⟩ := OwnU.at_ hO4 (by rw [bhF_len]; omega)
       rw [bhF_len] at hO4 ⊢
       have HO4 := Lib.hid hO4
       clear hO4 hW4 Hbe))
  obtain ⟨X, hX⟩ : ∃ X, X = w4.heap.size := ⟨_, rfl⟩
  rw [← hX]
  have hX5 : Hid ((w4.alloc (.cells #[.slice (some ⟨g4, 0, none⟩) p.length c4] 100)).heap[X]? = some (.cells #[.slice (some ⟨g4, 0, none⟩) p.length c4] 100 (0, 0))) := Lib.hid (by rw [hX]; exact heap_alloc_new w4 _)
  have HO5 := Lib.hid (HO4.out.alloc (.cells #[.slice (some ⟨g4, 0, none⟩) p.length c4] 100))
  have HW5 := Lib.hid (HW4.out.alloc hz4 (.cells #[.slice (some ⟨g4, 0, none⟩) p.length c4] 100))
  have HM5 := Lib.hid ((HM.out.below HW4.out).others (KeepsOthers.alloc w4 (.cells #[.slice (some ⟨g4, 0, none⟩) p.length c4] 100)))
  have hs5 : (w4.alloc (.cells #[.slice (some ⟨g4, 0, none⟩) p.length c4] 100)).heap.size = X + 1 := by rw [hX]; simp
  have hg4X : g4 < X := by omega
  have hwX : wr.heap.size ≤ X := by omega
  generalize w4.alloc (.cells #[.slice (some ⟨g4, 0, none⟩) p.length c4] 100) = w5 at *
  clear HO4 HW4 hX
  refine wp_loop_slots 7 (fun k2 f2 ds2 wr2 => ∃ i : Nat, (f2 18 = .slice A p.length cap ∧ f2 19 = .int .i64 (p.length : Nat) ∧ f2 20 = .int .i64 i) ∧ i ≤ p.length ∧ OwnU wr2 wr.heap.size 24 (.slice (some ⟨g4, 0, none⟩) p.length c4) (mixL p want F i) ∧ wr2.heap[X]? = some (.cells #[.slice (some ⟨g4, 0, none⟩) p.length c4] 100 (0, 0)) ∧ Below wr.heap.size wr wr2 ∧ Marks w.heap.size ds2 wr2 ∧ k2 + i = p.length) p.length ⟨0, ⟨rfl, rfl, rfl⟩, Nat.zero_le _, by rw [mixL_zero]; exact HO5.out, hX5.out, HW5.out, HM5.out, rfl⟩ ?_
  clear HO5 hX5 HW5 HM5 hs5
  intro gk2 f2 ds2 wr2 hrel2 J2 K2 hJ2 hK2
  obtain ⟨i, ⟨h18, h19, h20⟩, hi, hO2, hX2, hW2, hM2, hgk2⟩ := hrel2
  have HO2 := Lib.hid hO2
  have HX2 := Lib.hid hX2
  have HW2 := Lib.hid hW2
  have HM2 := Lib.hid hM2
  have HJ2 := Lib.hid hJ2
  have Hgk2 := Lib.hid hgk2
  have hz2 := hW2.size
  have hXl2 : X < wr2.heap.size := (Array.getElem?_eq_some_iff.1 hX2).1
  clear hO2 hX2 hW2 hM2 hJ2 hgk2
  simp only [frm, List.size_toArray, List.length_cons, List.length_nil, Nat.reduceAdd, Nat.reduceSub, List.take_succ_cons, List.take_zero, List.range'_succ, List.range'_zero, List.map_cons, List.map_nil, List.cons_append, List.nil_append]
  rw [h18, h19, h20]
  clear h18 h19 h20
  by_cases hlt : i < p.length
  · have HWw := Lib.hid (HW.out.trans (HW2.out.mono hws))
    obtain ⟨pb, off, A', cap', rfl, hpb, d0, d1, d2, d3, hSt⟩ := RdBk.at_ HA.out hlt
    have c0 := (HWw.out.cell (p := ⟨pb, off + i * 4, none⟩) hpb).trans d0
    have c1 := (HWw.out.cell (p := ⟨pb, off + i * 4 + 1, none⟩) hpb).trans d1
    have c2 := (HWw.out.cell (p := ⟨pb, off + i * 4 + 2, none⟩) hpb).trans d2
    have c3 := (HWw.out.cell (p := ⟨pb, off + i * 4 + 3, none⟩) hpb).trans d3
    clear d0 d1 d2 d3
    have HSt := Lib.hid hSt
    have Hlt := Lib.hid hlt
    have hbo := HP.out.bs _ (List.getElem_mem hlt)
    have Hbo := Lib.hid hbo
    have hmb := manyB_mem (List.getElem_mem hlt)
    have hm20 := HP.out.many
    have Hat := Lib.hid (mixL_at (want := want) (F := F) hlt)
    have Hset := Lib.hid (mixL_set (want := want) (F := F) hlt)
    have Hs0 := Lib.hid (bhL_lt hbo rfl Hw.out HFlt.out)
    have hlt : ((i : Nat) : Int) < ((p.length : Nat) : Int) := by omega
    clear hSt hbo
    generalize p[i] = bk at *
    obtain ⟨code, test, thn, els⟩ := bk
    dsimp only at c0 c1 c2 c3 HSt hmb Hset
    have Hcode := Lib.hid Hbo.out.code
    dsimp only at Hcode
    have hcl : code.length ≤ 20 := by omega
    clear hmb Hbo
    generalize hs0 : bhL want F ⟨code, test, thn, els⟩ = s0 at *
    clear hs0
    go_wp2_with (go_at_call 95; refine (backS_calls _ _ _ _).mono ?_; rintro e w' ⟨rfl, rfl⟩)
    obtain ⟨N2, hN2⟩ : ∃ N2, N2 = wr2.heap.size := ⟨_, rfl⟩
    rw [← hN2]
    have HWa := Lib.hid ((((Below.refl wr2.heap.size wr2).alloc (Nat.le_refl _) (.cells #[.int .i64 i] 3)).alloc (by simp) (.cells #[.slice A' code.length cap', .int .i64 test, .int .i64 thn, .int .i64 els] 85)).alloc (by simp; omega) (.cells #[.slice A' code.length cap'] 48))
    have HKa := Lib.hid (((KeepsOthers.alloc wr2 (.cells #[.int .i64 i] 3)).trans (KeepsOthers.alloc _ (.cells #[.slice A' code.length cap', .int .i64 test, .int .i64 thn, .int .i64 els] 85))).trans (KeepsOthers.alloc _ (.cells #[.slice A' code.length cap'] 48)))
    have hN0 : (((wr2.alloc (.cells #[.int .i64 i] 3)).alloc (.cells #[.slice A' code.length cap', .int .i64 test, .int .i64 thn, .int .i64 els] 85)).alloc (.cells #[.slice A' code.length cap'] 48)).heap[N2]? = some (.cells #[.int .i64 i] 3 (0, 0)) := by
      rw [hN2]
      refine (Below.heap_alloc _ _ _ (by simp; omega)).trans ((Below.heap_alloc _ _ _ (by simp)).trans ?_)
      exact heap_alloc_new wr2 _
    have hBc : (((wr2.alloc (.cells #[.int .i64 i] 3)).alloc (.cells #[.slice A' code.length cap', .int .i64 test, .int .i64 thn, .int .i64 els] 85)).alloc (.cells #[.slice A' code.length cap'] 48)).cell? ⟨N2 + 1 + 1, 0, none⟩ = some (.slice A' code.length cap') := by
      rw [cell_new _ _ _ (N2 + 1 + 1) (by rw [hN2]; simp)]; rfl
    have hsz : (((wr2.alloc (.cells #[.int .i64 i] 3)).alloc (.cells #[.slice A' code.length cap', .int .i64 test, .int .i64 thn, .int .i64 els] 85)).alloc (.cells #[.slice A' code.length cap'] 48)).heap.size = N2 + 1 + 1 + 1 := by rw [hN2]; simp
    generalize ((wr2.alloc (.cells #[.int .i64 i] 3)).alloc (.cells #[.slice A' code.length cap', .int .i64 test, .int .i64 thn, .int .i64 els] 85)).alloc (.cells #[.slice A' code.length cap'] 48) = W0 at *
    have HO0 := Lib.hid (HO2.out.below HWa.out)
    have HX0 := Lib.hid ((HWa.out.block X hXl2).trans HX2.out)
    have HW0 := Lib.hid (HW2.out.trans (HWa.out.mono hz2))
    have HM0 := Lib.hid (HM2.out.others HKa.out)
    have HN0 := Lib.hid hN0
    have hR0 : RdB w.heap.size Step.cells 5 W0 A' code := (RdB.of HSt.out).below (HW.out.trans (HW0.out.mono hws))
    clear HO2 HX2 HM2 HKa hN0 c0 c1 c2 c3
    have hBs : N2 + 1 + 1 < W0.heap.size := by omega
    have hNX : X < N2 := by omega
    have hNz : wr2.heap.size ≤ N2 := by omega
    clear hN2
    refine wp_rangeFuncT (n₀ := w.heap.size) (Bs := N2 + 1 + 1) (gf := 118) (lb := #[.pointer (some ⟨N2 + 1 + 1, 0, none⟩)]) rfl (enters_of Try.func118 (by kernel_rfl) rfl)
      (backS_stops (N2 + 1 + 1) w.heap.size A' cap' code (by omega) W0 hBs (by omega) hBc hR0) (by omega) (fun _ => rfl)
      (fun pre W => ∃ s : Nat, OwnU W wr.heap.size 24 (.slice (some ⟨g4, 0, none⟩) p.length c4) ((mixL p want F i).set i s) ∧ s < 2 ^ n ∧ Hid (pre.map (·.1) = backN code.length pre.length → s = ahC (code.drop (code.length - pre.length)) s0) ∧ W.heap[X]? = some (.cells #[.slice (some ⟨g4, 0, none⟩) p.length c4] 100 (0, 0)) ∧ W.heap[N2]? = some (.cells #[.int .i64 i] 3 (0, 0)) ∧ Below wr.heap.size wr W ∧ KeepsFrom 0 W0 W)
      ?hI ⟨s0, own_set_self HO0.out Hat.out.symm, Hs0.out, Lib.hid (fun _ => by simp [ahC]), HX0.out, HN0.out, HW0.out, KeepsFrom.refl _ _⟩
      (fun T x a' W => ∃ Bx, N2 + 1 + 1 < Bx ∧ W.heap[Bx]? = some (.cells (code[x.1]'x.2).cells.toArray 87 (0, 0)) ∧ a' = { tmps := ((T.setIfInBounds 28 (.int .i64 (x.1 : Int))).setIfInBounds 29 (code[x.1]'x.2).agg).setIfInBounds 10 (.pointer (some ⟨Bx, 0, none⟩)), defers := [] })
      ?hAx ?assign ?body ?done
    case hI =>
      rintro s W W' row ⟨s, hO, hs, hpre, hXX, hNN, hW, hk⟩ hg hr
      exact ⟨s, own_from hO hg (fun k e => (hr k e).2), hs, hpre, (grownBy_keeps_cells hg (fun k e => (hr k e).2) hXX rfl).trans hXX, (grownBy_keeps_cells hg (fun k e => (hr k e).2) hNN rfl).trans hNN, hW.grown hg hW.size (fun k e => by have := (hr k e).1; omega), ownFrom_keepsFrom (β := Unit) (Nat.le_refl _) () W W' row hk hg hr⟩
    case hAx =>
      rintro x a' _ W W' row ⟨Bx, h1, h2, h3⟩ hg hr
      exact ⟨Bx, h1, (grownBy_keeps_cells hg (fun k e => (hr k e).2) h2 rfl).trans h2, h3⟩
    case assign =>
      rintro l' pre x W K ⟨s, hO, hs, hpre, hXX, hNN, hW, hk⟩ hK
      have hlX : X < W.heap.size := (Array.getElem?_eq_some_iff.1 hXX).1
      have hlN : N2 < W.heap.size := (Array.getElem?_eq_some_iff.1 hNN).1
      have hk0 := hk.size
      have hagg : (code[x.1]'x.2).agg = .agg #[.int .i64 (code[x.1]'x.2).op, .int .i64 (code[x.1]'x.2).to, .int .i64 (code[x.1]'x.2).a, .int .i64 (code[x.1]'x.2).b, .int .i64 (code[x.1]'x.2).val] := rfl
      rw [hagg] at hK ⊢
      gi_wp2
      exact hK _ _ ((KeepsOthers.alloc _ _).from _) ⟨(Below.refl w.heap.size W).alloc (by omega) _, fun v hv => by rw [World.cell?_alloc_some _ _ _ (by rw [hv]; rfl)]; exact hv⟩ ⟨s, hO.alloc _, hs, hpre, (Below.heap_alloc W _ X hlX).trans hXX, (Below.heap_alloc W _ N2 hlN).trans hNN, hW.alloc hW.size _, hk.trans ((KeepsOthers.alloc _ _).from _)⟩ ⟨W.heap.size, by omega, heap_alloc_new W _, rfl⟩
    case body =>
      rintro l' pre x a' W hl ⟨s, hO, hs, hpre, hXX, hNN, hW, hk⟩ ⟨Bx, hBx, hhx, rfl⟩ hlt2
      obtain ⟨x, hx⟩ := x
      dsimp only at hhx ⊢
      have HO := Lib.hid hO
      have HWb := Lib.hid hW
      have Hk := Lib.hid hk
      have hwl := hW.size
      have hXl : X < W.heap.size := (Array.getElem?_eq_some_iff.1 hXX).1
      have hNl : N2 < W.heap.size := (Array.getElem?_eq_some_iff.1 hNN).1
      have hBl : Bx < W.heap.size := (Array.getElem?_eq_some_iff.1 hhx).1
      have HXX := Lib.hid hXX
      have HNN := Lib.hid hNN
      have hml := mixL_len (want := want) (F := F) (Nat.le_of_lt Hlt.out)
      obtain ⟨g9, eg9, _, hg9', _, hfz, hcell⟩ := OwnU.at2 hO (by rw [List.length_set, hml]; omega)
      injection eg9 with eg9; injection eg9 with eg9
      subst eg9
      have c6 : W.cell? ⟨g4, i, none⟩ = some (.int .u32 (s : Nat)) := by
        have := hcell i (by rw [List.length_set, hml]; exact Hlt.out)
        rwa [List.getElem_set_self] at this
      have Hfz : Hid (W.drew.frozen? ⟨g4, i, none⟩ = false) := Lib.hid (hfz i)
      have cX : W.cell? ⟨X, 0, none⟩ = some (.slice (some ⟨g4, 0, none⟩) p.length c4) := by rw [cell_of_row W X 0 _ _ _ hXX]; rfl
      have cN : W.cell? ⟨N2, 0, none⟩ = some (.int .i64 (i : Nat)) := by rw [cell_of_row W N2 0 _ _ _ hNN]; rfl
      have b0 : W.cell? ⟨Bx, 0, none⟩ = some (.int .i64 code[x].op) := by rw [cell_of_row W Bx 0 _ _ _ hhx]; rfl
      have b1 : W.cell? ⟨Bx, 1, none⟩ = some (.int .i64 code[x].to) := by rw [cell_of_row W Bx 1 _ _ _ hhx]; rfl
      have b2 : W.cell? ⟨Bx, 2, none⟩ = some (.int .i64 code[x].a) := by rw [cell_of_row W Bx 2 _ _ _ hhx]; rfl
      have b3 : W.cell? ⟨Bx, 3, none⟩ = some (.int .i64 code[x].b) := by rw [cell_of_row W Bx 3 _ _ _ hhx]; rfl
      have b4 : W.cell? ⟨Bx, 4, none⟩ = some (.int .i64 code[x].val) := by rw [cell_of_row W Bx 4 _ _ _ hhx]; rfl
      have Hsok := Lib.hid (Hcode.out _ (List.getElem_mem hx))
      have s32 : s < 4294967296 := by have := H64.out; omega
      have Hpre : Hid ((pre ++ [(⟨x, hx⟩ : Ix code.length)]).map (·.1) = backN code.length (pre ++ [(⟨x, hx⟩ : Ix code.length)]).length → ahL code[x] s = ahC (code.drop (code.length - (pre ++ [(⟨x, hx⟩ : Ix code.length)]).length)) s0) := Lib.hid fun h => by
        obtain ⟨h1, h2⟩ := back_snoc h
        have h2 : x = code.length - 1 - pre.length := h2
        have := hpre.out h1
        rw [List.length_append, List.length_singleton, show code.length - (pre.length + 1) = x by omega, ahC_drop hx, this, show code.length - pre.length = x + 1 by omega]
      have Hlt32 := Lib.hid (ahL_lt Hsok.out rfl h6 hs)
      have Hcl := Lib.hid (ahead_calls (n : Int) code[x] Hsok.out (by omega) s s32 W.drew)
      generalize code[x] = st at *
      obtain ⟨op, to, sa, sb, sv⟩ := st
      dsimp only at b0 b1 b2 b3 b4
      unfold Step.agg at Hcl
      dsimp only at Hcl
      generalize ahL ⟨op, to, sa, sb, sv⟩ s = s' at *
      have HXl := Lib.hid (show X < W.drew.heap.size from hXl)
      have HNl := Lib.hid (show N2 < W.drew.heap.size from hNl)
      have HBl := Lib.hid (show Bx < W.drew.heap.size from hBl)
      have Hgl := Lib.hid (show g4 < W.drew.heap.size from hg9')
      have Hfin : Hid (∀ wm : World, Below W.drew.heap.size W.drew wm → ∃ s : Nat, OwnU (wm.setCell ⟨g4, i, none⟩ (.int .u32 (s' : Nat))) wr.heap.size 24 (.slice (some ⟨g4, 0, none⟩) p.length c4) ((mixL p want F i).set i s) ∧ s < 2 ^ n ∧ Hid ((pre ++ [(⟨x, hx⟩ : Ix code.length)]).map (·.1) = backN code.length (pre ++ [(⟨x, hx⟩ : Ix code.length)]).length → s = ahC (code.drop (code.length - (pre ++ [(⟨x, hx⟩ : Ix code.length)]).length)) s0) ∧ (wm.setCell ⟨g4, i, none⟩ (.int .u32 (s' : Nat))).heap[X]? = some (.cells #[.slice (some ⟨g4, 0, none⟩) p.length c4] 100 (0, 0)) ∧ (wm.setCell ⟨g4, i, none⟩ (.int .u32 (s' : Nat))).heap[N2]? = some (.cells #[.int .i64 i] 3 (0, 0)) ∧ Below wr.heap.size wr (wm.setCell ⟨g4, i, none⟩ (.int .u32 (s' : Nat))) ∧ KeepsFrom 0 W0 (wm.setCell ⟨g4, i, none⟩ (.int .u32 (s' : Nat)))) := Lib.hid fun wm hm => by
        refine ⟨s', ?_, Hlt32.out, Hpre, ?_, ?_, ?_, ?_⟩
        · have := OwnU.set_ ((HO.out.drew).below hm) (k := i) (by rw [List.length_set, hml]; exact Hlt.out) s'
          rwa [List.set_set] at this
        · exact (Below.heap_setCell _ _ _ X (by show X ≠ g4; omega)).trans ((hm.block X hXl).trans HXX.out)
        · exact (Below.heap_setCell _ _ _ N2 (by show N2 ≠ g4; omega)).trans ((hm.block N2 hNl).trans HNN.out)
        · exact (HWb.out.drew.trans (hm.mono hwl)).setCell (p := ⟨g4, i, none⟩) hg41 _
        · exact (Hk.out.trans ((KeepsOthers.drew W).from _)).trans (KeepsFrom.trans ⟨hm.size, fun k o _ h1 _ => (hm.block k (Array.getElem?_eq_some_iff.1 h1).1).trans h1⟩ ((KeepsOthers.setCell _ _ _).from _))
      have Hkf : Hid (∀ wm : World, Below W.drew.heap.size W.drew wm → KeepsFrom W0.heap.size W (wm.setCell ⟨g4, i, none⟩ (.int .u32 (s' : Nat)))) := Lib.hid fun wm hm => ((KeepsOthers.drew W).from _).trans (KeepsFrom.trans ⟨hm.size, fun k o _ h1 _ => (hm.block k (Array.getElem?_eq_some_iff.1 h1).1).trans h1⟩ ((KeepsOthers.setCell _ _ _).from _))
      have Hkb : Hid (∀ wm : World, Below W.drew.heap.size W.drew wm → KpB w.heap.size (N2 + 1 + 1) W (wm.setCell ⟨g4, i, none⟩ (.int .u32 (s' : Nat)))) := Lib.hid fun wm hm => ⟨((Below.refl w.heap.size W).drew.trans (hm.mono (by show w.heap.size ≤ W.heap.size; omega))).setCell (p := ⟨g4, i, none⟩) (by show w.heap.size ≤ g4; omega) _, fun v hv => by
        rw [World.cell?_setCell_far _ _ _ _ (by show g4 ≠ N2 + 1 + 1; omega)]
        exact (hm.cell (p := ⟨N2 + 1 + 1, 0, none⟩) (by show N2 + 1 + 1 < W.heap.size; omega)).trans hv⟩
      have hS0 : W.drew.cell? ⟨X, 0, none⟩ = some (.slice (some ⟨g4, 0, none⟩) p.length c4) ∧ W.drew.cell? ⟨N2, 0, none⟩ = some (.int .i64 (i : Nat)) ∧ (W.drew.cell? ⟨Bx, 0, none⟩ = some (.int .i64 op) ∧ W.drew.cell? ⟨Bx, 1, none⟩ = some (.int .i64 to) ∧ W.drew.cell? ⟨Bx, 2, none⟩ = some (.int .i64 sa) ∧ W.drew.cell? ⟨Bx, 3, none⟩ = some (.int .i64 sb) ∧ W.drew.cell? ⟨Bx, 4, none⟩ = some (.int .i64 sv)) := ⟨cX, cN, ⟨b0, b1, b2, b3, b4⟩⟩
      have HSs : Hid (∀ (w' : World) (u : Value), (w'.cell? ⟨X, 0, none⟩ = some (.slice (some ⟨g4, 0, none⟩) p.length c4) ∧ w'.cell? ⟨N2, 0, none⟩ = some (.int .i64 (i : Nat)) ∧ (w'.cell? ⟨Bx, 0, none⟩ = some (.int .i64 op) ∧ w'.cell? ⟨Bx, 1, none⟩ = some (.int .i64 to) ∧ w'.cell? ⟨Bx, 2, none⟩ = some (.int .i64 sa) ∧ w'.cell? ⟨Bx, 3, none⟩ = some (.int .i64 sb) ∧ w'.cell? ⟨Bx, 4, none⟩ = some (.int .i64 sv))) → ((w'.setCell ⟨g4, i, none⟩ u).cell? ⟨X, 0, none⟩ = some (.slice (some ⟨g4, 0, none⟩) p.length c4) ∧ (w'.setCell ⟨g4, i, none⟩ u).cell? ⟨N2, 0, none⟩ = some (.int .i64 (i : Nat)) ∧ ((w'.setCell ⟨g4, i, none⟩ u).cell? ⟨Bx, 0, none⟩ = some (.int .i64 op) ∧ (w'.setCell ⟨g4, i, none⟩ u).cell? ⟨Bx, 1, none⟩ = some (.int .i64 to) ∧ (w'.setCell ⟨g4, i, none⟩ u).cell? ⟨Bx, 2, none⟩ = some (.int .i64 sa) ∧ (w'.setCell ⟨g4, i, none⟩ u).cell? ⟨Bx, 3, none⟩ = some (.int .i64 sb) ∧ (w'.setCell ⟨g4, i, none⟩ u).cell? ⟨Bx, 4, none⟩ = some (.int .i64 sv)))) := Lib.hid fun w' u h => by
        rw [World.cell?_setCell_far _ _ _ _ (by show g4 ≠ X; omega), World.cell?_setCell_far _ _ _ _ (by show g4 ≠ N2; omega), World.cell?_setCell_far _ _ _ _ (by show g4 ≠ Bx; omega), World.cell?_setCell_far _ _ _ _ (by show g4 ≠ Bx; omega), World.cell?_setCell_far _ _ _ _ (by show g4 ≠ Bx; omega), World.cell?_setCell_far _ _ _ _ (by show g4 ≠ Bx; omega), World.cell?_setCell_far _ _ _ _ (by show g4 ≠ Bx; omega)]; exact h
      have Hc6 : Hid (W.drew.cell? ⟨g4, i, none⟩ = some (.int .u32 (s : Nat))) := Lib.hid c6
      have q5 : ((i : Nat) : Int) < ((p.length : Nat) : Int) := hlt
      clear hO hW hk hpre hXX hNN hhx hfz hcell cX cN b0 b1 b2 b3 b4 c6 HO HWb Hk HXX HNN Hpre hml
      gi_wp2
      refine wpIn_region_held_drew (S := fun w' => w'.cell? ⟨X, 0, none⟩ = some (.slice (some ⟨g4, 0, none⟩) p.length c4) ∧ w'.cell? ⟨N2, 0, none⟩ = some (.int .i64 (i : Nat)) ∧ (w'.cell? ⟨Bx, 0, none⟩ = some (.int .i64 op) ∧ w'.cell? ⟨Bx, 1, none⟩ = some (.int .i64 to) ∧ w'.cell? ⟨Bx, 2, none⟩ = some (.int .i64 sa) ∧ w'.cell? ⟨Bx, 3, none⟩ = some (.int .i64 sb) ∧ w'.cell? ⟨Bx, 4, none⟩ = some (.int .i64 sv))) (by kernel_rfl) (by kernel_rfl) (fun h => by obtain ⟨_, _, h⟩ := h; exact h) hS0 (fun hH0 => ?_)
      clear hS0
      generalize W.drew = w0 at *
      refine wpAnyH_take (i := 0) (oi := { dst := some 30, op := Go.Op.load 100 (Go.Operand.tmp 6), type := 100, pos := "live.go:60", after := #[], guard := none }) rfl (by kernel_rfl) (by kernel_rfl) (by kernel_rfl) (fun _ _ _ h => h) (Or.inl ⟨by rfl, fun w hw => by (obtain ⟨p0, p1, ⟨p2, p3, p4, p5, p6⟩⟩ := hw; go_simp; try with_reducible rfl)⟩) (by assumption) ?_
      try simp only [Act.put, List.setIfInBounds_toArray, List.set_cons_zero, List.set_cons_succ]
      refine wpAnyH_take (i := 1) (oi := { dst := some 31, op := Go.Op.load 3 (Go.Operand.tmp 7), type := 3, pos := "live.go:60", after := #[], guard := none }) rfl (by kernel_rfl) (by kernel_rfl) (by kernel_rfl) (fun _ _ _ h => h) (Or.inl ⟨by rfl, fun w hw => by (obtain ⟨p0, p1, ⟨p2, p3, p4, p5, p6⟩⟩ := hw; go_simp; try with_reducible rfl)⟩) (by assumption) ?_
      try simp only [Act.put, List.setIfInBounds_toArray, List.set_cons_zero, List.set_cons_succ]
      refine wpAnyH_take (i := 2) (oi := { dst := some 32, op := Go.Op.load 87 (Go.Operand.tmp 10), type := 87, pos := "live.go:60", after := #[], guard := none }) rfl (by kernel_rfl) (by kernel_rfl) (by kernel_rfl) (fun _ _ _ h => h) (Or.inl ⟨by rfl, fun w hw => by (obtain ⟨p0, p1, ⟨p2, p3, p4, p5, p6⟩⟩ := hw; go_simp; try with_reducible rfl)⟩) (by assumption) ?_
      try simp only [Act.put, List.setIfInBounds_toArray, List.set_cons_zero, List.set_cons_succ]
      refine wpAnyH_take (i := 3) (oi := { dst := some 33, op := Go.Op.load 100 (Go.Operand.tmp 6), type := 100, pos := "live.go:60", after := #[], guard := none }) rfl (by kernel_rfl) (by kernel_rfl) (by kernel_rfl) (fun _ _ _ h => h) (Or.inl ⟨by rfl, fun w hw => by (obtain ⟨p0, p1, ⟨p2, p3, p4, p5, p6⟩⟩ := hw; go_simp; try with_reducible rfl)⟩) (by assumption) ?_
      try simp only [Act.put, List.setIfInBounds_toArray, List.set_cons_zero, List.set_cons_succ]
      refine wpAnyH_take (i := 4) (oi := { dst := some 34, op := Go.Op.load 3 (Go.Operand.tmp 7), type := 3, pos := "live.go:60", after := #[], guard := none }) rfl (by kernel_rfl) (by kernel_rfl) (by kernel_rfl) (fun _ _ _ h => h) (Or.inl ⟨by rfl, fun w hw => by (obtain ⟨p0, p1, ⟨p2, p3, p4, p5, p6⟩⟩ := hw; go_simp; try with_reducible rfl)⟩) (by assumption) ?_
      try simp only [Act.put, List.setIfInBounds_toArray, List.set_cons_zero, List.set_cons_succ]
      refine wpAnyH_take (i := 5) (oi := { dst := some 35, op := Go.Op.indexAddr 100 (Go.Operand.tmp 33) (Go.Operand.tmp 34), type := 0, pos := "live.go:60", after := #[{ on := 3, ground := Go.Ground.data }, { on := 4, ground := Go.Ground.data }], guard := none }) rfl (by kernel_rfl) (by kernel_rfl) (by kernel_rfl) (fun _ _ _ h => h) (Or.inl ⟨by rfl, fun w hw => by (go_simp; try with_reducible rfl)⟩) (by assumption) ?_
      try simp only [Act.put, List.setIfInBounds_toArray, List.set_cons_zero, List.set_cons_succ]
      refine wpAnyH_ready (rs := [6]) (by kernel_rfl) (by simp) ?_
      refine AllReadyH.cons (o := { dst := some 36, op := Go.Op.load 24 (Go.Operand.tmp 35), type := 24, pos := "live.go:60", after := #[{ on := 5, ground := Go.Ground.data }], guard := none }) rfl (fun K hK => ?_) AllReadyH.nil
      have cc := Hc6.out
      go_simp
      clear cc
      refine hK.out _ _ hH0 (fun hH1 => ?_)
      clear hK hH0
      have hH0 := hH1
      clear hH1
      try simp only [Act.put, List.setIfInBounds_toArray, List.set_cons_zero, List.set_cons_succ]
      refine wpAnyH_ready (rs := [7]) (by kernel_rfl) (by simp) ?_
      refine AllReadyH.cons (o := { dst := some 37, op := Go.Op.call { callee := Go.Callee.value (Go.Operand.func 96), args := #[Go.Operand.tmp 32, Go.Operand.tmp 36], argTypes := #[87, 24] }, type := 24, pos := "live.go:60", after := #[{ on := 2, ground := Go.Ground.data }, { on := 6, ground := Go.Ground.data }], guard := none }) rfl (fun K hK => ?_) AllReadyH.nil
      go_simp
      go_at_call 96
      refine Hcl.out.mono ?_
      rintro e wm ⟨rfl, hWm⟩
      have HWm := Lib.hid hWm
      have hSm : wm.cell? ⟨X, 0, none⟩ = some (.slice (some ⟨g4, 0, none⟩) p.length c4) ∧ wm.cell? ⟨N2, 0, none⟩ = some (.int .i64 (i : Nat)) ∧ (wm.cell? ⟨Bx, 0, none⟩ = some (.int .i64 op) ∧ wm.cell? ⟨Bx, 1, none⟩ = some (.int .i64 to) ∧ wm.cell? ⟨Bx, 2, none⟩ = some (.int .i64 sa) ∧ wm.cell? ⟨Bx, 3, none⟩ = some (.int .i64 sb) ∧ wm.cell? ⟨Bx, 4, none⟩ = some (.int .i64 sv)) := by obtain ⟨p0, p1, ⟨p2, p3, p4, p5, p6⟩⟩ := hH0; exact ⟨(HWm.out.cell (p := ⟨_, 0, none⟩) HXl.out).trans p0, (HWm.out.cell (p := ⟨_, 0, none⟩) HNl.out).trans p1, ⟨(HWm.out.cell (p := ⟨_, 0, none⟩) HBl.out).trans p2, (HWm.out.cell (p := ⟨_, 1, none⟩) HBl.out).trans p3, (HWm.out.cell (p := ⟨_, 2, none⟩) HBl.out).trans p4, (HWm.out.cell (p := ⟨_, 3, none⟩) HBl.out).trans p5, (HWm.out.cell (p := ⟨_, 4, none⟩) HBl.out).trans p6⟩⟩
      have cm : wm.cell? ⟨g4, i, none⟩ = some (.int .u32 (s : Nat)) := (HWm.out.cell (p := ⟨g4, i, none⟩) Hgl.out).trans Hc6.out
      have fm : wm.frozen? ⟨g4, i, none⟩ = false := (HWm.out.frozen (p := ⟨g4, i, none⟩) Hgl.out).trans Hfz.out
      clear hWm
      refine hK.out _ _ hSm (fun hH1 => ?_)
      clear hSm hK hH0
      have hH0 := hH1
      clear hH1
      try simp only [Act.put, List.setIfInBounds_toArray, List.set_cons_zero, List.set_cons_succ]
      refine wpAnyH_take (i := 8) (oi := { dst := some 38, op := Go.Op.indexAddr 100 (Go.Operand.tmp 30) (Go.Operand.tmp 31), type := 0, pos := "live.go:60", after := #[{ on := 0, ground := Go.Ground.data }, { on := 1, ground := Go.Ground.data }, { on := 0, ground := Go.Ground.phase }, { on := 1, ground := Go.Ground.phase }, { on := 2, ground := Go.Ground.phase }, { on := 3, ground := Go.Ground.phase }, { on := 4, ground := Go.Ground.phase }, { on := 5, ground := Go.Ground.phase }, { on := 6, ground := Go.Ground.phase }, { on := 7, ground := Go.Ground.phase }], guard := none }) rfl (by kernel_rfl) (by kernel_rfl) (by kernel_rfl) (fun _ _ _ h => h) (Or.inl ⟨by rfl, fun w hw => by (go_simp; try with_reducible rfl)⟩) (by assumption) ?_
      try simp only [Act.put, List.setIfInBounds_toArray, List.set_cons_zero, List.set_cons_succ]
      refine wpAnyH_ready (rs := [9]) (by kernel_rfl) (by simp) ?_
      refine AllReadyH.cons (o := { dst := none, op := Go.Op.store 24 (Go.Operand.tmp 38) (Go.Operand.tmp 37), type := 0, pos := "live.go:60", after := #[{ on := 8, ground := Go.Ground.data }, { on := 7, ground := Go.Ground.data }, { on := 7, ground := Go.Ground.chain }, { on := 0, ground := Go.Ground.phase }, { on := 1, ground := Go.Ground.phase }, { on := 2, ground := Go.Ground.phase }, { on := 3, ground := Go.Ground.phase }, { on := 4, ground := Go.Ground.phase }, { on := 5, ground := Go.Ground.phase }, { on := 6, ground := Go.Ground.phase }, { on := 7, ground := Go.Ground.phase }], guard := none }) rfl (fun K hK => ?_) AllReadyH.nil
      go_simp
      refine hK.out _ _ (HSs.out _ _ hH0) (fun _ => ?_)
      clear hK hH0 cm fm
      try simp only [Act.put, List.setIfInBounds_toArray, List.set_cons_zero, List.set_cons_succ]
      refine wpAnyH_done (by kernel_rfl) ?_ _
      gi_wp2
      exact ⟨Hkf.out wm HWm.out, Hkb.out wm HWm.out, Hfin.out wm HWm.out⟩
    case done =>
      rintro D ys W hD hys ⟨s, hO, hs, hpre, hXX, hNN, hW, hk⟩ hKd
      have hyl : ys.length = code.length := by rw [← List.length_map (f := fun x : Ix code.length => x.1), hys, backN_len]
      have hse := hpre.out (by rw [hyl]; exact hys)
      rw [hyl, Nat.sub_self, List.drop_zero] at hse
      have hOf : OwnU W wr.heap.size 24 (.slice (some ⟨g4, 0, none⟩) p.length c4) (mixL p want F (i + 1)) := own_set_self hO (by rw [hse]; exact Hset.out)
      have hMf := HM0.out.cons (HM0.out.from hk (Nat.zero_le _)) (by omega) hD hKd
      have HOf := Lib.hid hOf
      have HMf := Lib.hid hMf
      have HXf := Lib.hid hXX
      have HWf := Lib.hid hW
      clear hO hs hpre hXX hNN hW hk hys hse hOf hMf hKd
      go_wp2
      refine Handed.intro (gk2 - 1) (by have := Hgk2.out; omega) (HJ2.out _ _ _ ⟨i + 1, ⟨rfl, rfl, by first | rfl | go_num⟩, by have := Hlt.out; omega, HOf.out, HXf.out, HWf.out, HMf.out, by have := Hgk2.out; have := Hlt.out; omega⟩ rfl rfl)
  · have hil : i = p.length := by omega
    subst hil
    rw [mixL_all] at HO2
    have hc6 : wr2.cell? ⟨X, 0, none⟩ = some (.slice (some ⟨g4, 0, none⟩) p.length c4) := by rw [cell_of_row wr2 X 0 _ _ _ HX2.out]; rfl
    have HR4 := Lib.hid (show RdU wr2 (some ⟨g4, 0, none⟩) (phL p want F) by obtain ⟨A9, c9, e9, h9⟩ := OwnU.rd HO2.out; injection e9 with e9; rw [e9]; exact h9)
    have Heq := Lib.hid (equalU_calls (some ⟨g4, 0, none⟩) (some ⟨g, 0, none⟩) (phL p want F) F c4 c wr2 HR4.out (Rd.below HRF.out HW2.out) (by rw [phL_len]; omega))
    rw [phL_len] at Heq
    have HWw := Lib.hid (HW.out.trans (HW2.out.mono hws))
    have HOF := Lib.hid (HO.out.below HW2.out)
    by_cases he : phL p want F = F
    · have hd : decide (phL p want F = F) = true := decide_eq_true he
      rw [hd] at Heq
      have He := Lib.hid he
      clear he hd
      go_wp2_with (go_at_call 117; refine Heq.out.mono ?_; rintro e w6 ⟨rfl, nq, rfl⟩)
      refine marks_all (HM2.out.others (keepsN wr2 nq)) (fun W' hS => ⟨_, results_tmp rfl _ _ _, .slice (some ⟨g, 0, none⟩) F.length c, F, rfl, ⟨Hj.out, He.out⟩, HFlt.out, hS.own (HOF.out.drewN nq), (below_dN HWw.out nq).trans hS.below⟩)
    · have hd : decide (phL p want F = F) = false := decide_eq_false he
      rw [hd] at Heq
      have Hlt := Lib.hid (show wgU F < wgU (phL p want F) from wgU_lt (by rw [phL_len]; exact HFl.out) (by obtain ⟨j, rfl⟩ := Hj.out; exact lvK_up HP.out rfl Hw.out j) (fun i => Nat.lt_of_lt_of_le (phL_lt HP.out rfl Hw.out HFlt.out i) (Nat.le_trans H64.out (by decide))) (fun e => he e.symm))
      have Hle := Lib.hid (wgU_le (phL p want F))
      have Hjj : Hid (∃ j, phL p want F = lvK p want j) := Lib.hid (by obtain ⟨j, rfl⟩ := Hj.out; exact ⟨j + 1, rfl⟩)
      have HM2' := Lib.hid HM2.out
      clear he hd
      go_wp2_with (go_at_call 117; refine Heq.out.mono ?_; rintro e w6 ⟨rfl, nq, rfl⟩)
      refine Handed.intro (64 - wgU (phL p want F)) (by have := Hgk.out; have := Hlt.out; have := Hle.out; rw [phL_len] at this; omega) (HJ.out _ _ _ ⟨phL p want F, _, rfl, (HO2.out.base_ hws).drewN nq, Hjj.out, below_dN HWw.out nq, HM2'.out.others (keepsN wr2 nq), by have := Hle.out; rw [phL_len] at this; omega⟩ rfl rfl)
theorem solveL_calls (vars : Int) (A : Option Addr) (p : List Blk) (cap want : Nat) (w : World) (hA : RdBk w A p) (hp : POk vars p) (hw : want < 2 ^ vars.toNat) :
    Calls Try.prog 94 #[.slice A p.length cap, .int .u32 want] w (SolLE p want vars.toNat w) := by
  obtain ⟨n, rfl⟩ := Int.eq_ofNat_of_zero_le (show 0 ≤ vars by have := hp.v1; omega)
  exact solveN_calls n A p cap want w hA hp hw
end Go.Proofs.Ytmgejacndhnikaa
