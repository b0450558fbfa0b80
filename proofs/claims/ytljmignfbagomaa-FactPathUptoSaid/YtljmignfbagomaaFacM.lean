/- FactMore. -/
import Derived.Test.YtljmignfbagomaaFacG
namespace Go.Proofs.Ytljmignfbagomaa
open Go.RowKit

theorem FP.up {E : Nat → Nat → Prop} {F : Nat → Prop} {L L' : LawD} (ha : L'.all = L.all) (hm : L'.makes = L.makes) (he : L'.ends = L.ends) (hs : ∀ b, pb L.all L.start b = true → pb L'.all L'.start b = true) {i b : Nat} (h : FP E F L i b) : FP E F L' i b := by
  induction h with
  | start hf h => exact .start hf (hs _ h)
  | gen hr e hg => exact .gen hr e (by unfold genB at *; rw [ha, hm, he]; exact hg)
  | keep _ e hk ih => exact .keep ih e (by unfold keepB at *; rw [ha, hm, he]; exact hk)
theorem SolF.more {ls : List (List Int)} {L L' : LawD} {r r' : List Nat} (h : SolF ls L r) (h' : SolF ls L' r') (hb : L'.back = L.back) (ha : L'.all = L.all) (hm : L'.makes = L.makes) (he : L'.ends = L.ends) (hs : ∀ b, L.start.testBit b = true → L'.start.testBit b = true) {i : Nat} (hi : i < ls.length) :
    (r.getD i 0 ||| r'.getD i 0 == r'.getD i 0) = true := by
  have hE : EL ls L' = EL ls L := by unfold EL; rw [hb]
  have hF : FL ls L' = FL ls L := by unfold FL; rw [hb]
  have hB := h'.bit
  rw [hE, hF] at hB
  rw [in_iff]
  intro b hbit
  have hb8 := bit_lt (n := 8) (h.lt i) hbit
  cases hall : L.all
  · have h1 : FP (EL ls L) (FL ls L) L i b := (h.bit i b hi hb8).1 (by unfold pb; rw [hbit, hall]; rfl)
    have h2 := (hB i b hi hb8).2 (h1.up (L' := L') ha hm he (fun b hp => by
      unfold pb at *
      rw [ha, hall] at *
      simp at hp ⊢
      exact hs b hp))
    unfold pb at h2
    rw [ha, hall] at h2
    simpa using h2
  · cases hc : (r'.getD i 0).testBit b
    · exfalso
      have h1 := (hB i b hi hb8).1 (by unfold pb; rw [hc, ha, hall]; rfl)
      have h2 := (h.bit i b hi hb8).2 (h1.up (L' := L) ha.symm hm.symm he.symm (fun b hp => by
        unfold pb at *
        rw [ha, hall] at hp
        rw [hall]
        cases hq : L.start.testBit b
        · rfl
        · rw [hs b hq] at hp; simp at hp))
      unfold pb at h2
      rw [hbit, hall] at h2
      simp at h2
    · rfl
theorem LB.set {w : World} {p : Nat} {A B : Option Addr} {L : LawD} {ca cb : Nat} (h : LB w p A B L ca cb) (s : Nat) : LB (w.setCell ⟨p, 4, none⟩ (.int .u32 (s : Nat))) p A B ⟨L.back, L.all, L.makes, L.ends, s⟩ ca cb := by
  obtain ⟨h0, c0, c1, c2, c3, c4⟩ := h
  have hne : ∀ j, j ≠ 4 → (⟨p, 4, none⟩ : Addr) ≠ ⟨p, j, none⟩ := fun j hj e => by injection e with _ e; exact hj e.symm
  exact ⟨by simpa [World.setCell] using h0, (World.cell?_setCell_other w _ _ _ (hne 0 (by decide))).trans c0, (World.cell?_setCell_other w _ _ _ (hne 1 (by decide))).trans c1, (World.cell?_setCell_other w _ _ _ (hne 2 (by decide))).trans c2, (World.cell?_setCell_other w _ _ _ (hne 3 (by decide))).trans c3, World.cell?_setCell_same' w _ _ (by rw [c4]; rfl)⟩
theorem fz_of {w : World} {N E : Nat} {cs : Array Value} (h : w.heap[N]? = some (.cells cs E (0, 0))) (off : Nat) : w.frozen? ⟨N, off, none⟩ = false := by simp [World.frozen?, h]
theorem frozen_below {w w' : World} {B : Nat} (h : Below B w w') (p off : Nat) (hp : p < B) : w'.frozen? ⟨p, off, none⟩ = w.frozen? ⟨p, off, none⟩ := by
  have := h.block p hp
  simp only [World.frozen?, this]
theorem or_bits (a b k : Nat) (h : a.testBit k = true) : (a ||| b).testBit k = true := by rw [Nat.testBit_or, h]; rfl
set_option maxRecDepth 100000 in
set_option maxHeartbeats 8000000 in
theorem factMore_calls (A MA MB : Option Addr) (ls : List (List Int)) (L : LawD) (cap ca cb more : Nat) (w : World) (hA : RdN w A ls) (hm : ls.length ≤ maxLen) (hL : RdL w MA MB L) (hl1 : L.makes.length ≤ maxLen) (hl2 : L.ends.length ≤ maxLen) (hmore : more < 4294967296) :
    Calls Try.prog 14 #[.slice A ls.length cap, .agg #[.bool L.back, .bool L.all, .slice MA L.makes.length ca, .slice MB L.ends.length cb, .int .u32 (L.start : Nat)], .int .u32 (more : Nat)] w fun e w' => e = .returned (.bool true) ∧ Below w.heap.size w w' := by
  have hB1 := (Below.refl w.heap.size w).alloc (Nat.le_refl _) (.cells #[.bool L.back, .bool L.all, .slice MA L.makes.length ca, .slice MB L.ends.length cb, .int .u32 (L.start : Nat)] 58)
  have HB1 := Lib.hid hB1
  have hlb := LB.new w MA MB L ca cb
  have HLB := Lib.hid hlb
  have hfr : (w.alloc (.cells #[Value.bool L.back, .bool L.all, .slice MA L.makes.length ca, .slice MB L.ends.length cb, .int .u32 (L.start : Nat)] 58)).frozen? ⟨w.heap.size, 4, none⟩ = false := by
    exact fz_of (heap_alloc_new w _) 4
  have Hfr := Lib.hid hfr
  clear hfr
  go_enter Try.func14, Try.ntmps14
  go_upto_region 1 with fail
  have HA0 := Lib.hid hA
  have HL0 := Lib.hid hL
  have HA := Lib.hid (RdN.below hA hB1)
  have HL := Lib.hid (hL.below hB1)
  clear hA hL hB1
  obtain ⟨wa, hwa⟩ : ∃ wa, wa = w.alloc (Obj.cells #[Value.bool L.back, Value.bool L.all, Value.slice MA L.makes.length ca, Value.slice MB L.ends.length cb, Value.int IntKind.u32 (L.start : Nat)] 58) := ⟨_, rfl⟩
  rw [← hwa] at HA HL HB1 HLB hlb Hfr ⊢
  clear hwa
  have hw0 := HB1.out.size
  obtain ⟨p, hp⟩ : ∃ p, p = w.heap.size := ⟨_, rfl⟩
  have Hp := Lib.hid hp
  rw [← hp] at HLB hlb Hfr ⊢
  obtain ⟨hpl, c0, c1, c2, c3, c4⟩ := hlb
  clear hp
  go_wp2_with fail
  refine (solve_calls A MA MB ls L cap ca cb wa HA.out hm HL.out hl1 hl2).mono ?_
  rintro e w1 ⟨hW1, B1, r1, k1, rfl, hR1, hr1, hS1, hq1⟩
  have HW1 := Lib.hid hW1
  have HR1 := Lib.hid hR1
  have HS1 := Lib.hid hS1
  have Hq1 := Lib.hid hq1
  clear hq1
  have hw1 := hW1.size
  clear c0 c1 c2 c3 c4
  obtain ⟨hpl1, c0, c1, c2, c3, c4⟩ := HLB.out.below hW1
  clear hW1 hR1 hS1
  have HA1 := Lib.hid (RdN.below HA.out HW1.out)
  have HL1 := Lib.hid (HL.out.below HW1.out)
  have Hlaw := Lib.hid (lawful_calls A MA MB ls L cap ca cb w1 HA1.out hm HL1.out)
  by_cases h0 : facErr ls L = 0
  case neg =>
    have hd : (facErr ls L != 0) = true := by rw [bne_iff_ne]; exact h0
    have hd2 : (facErr ls L == 0) = false := by simpa using h0
    rw [hd2] at Hlaw
    clear h0 hd2
    go_wp2_with (go_at_call 42; refine Hlaw.out.mono ?_; rintro e w2 ⟨rfl, hW2⟩; have HW2 := Lib.hid hW2; clear hW2)
    go_ret
    exact ⟨rfl, HB1.out.trans ((HW1.out.trans (HW2.out.mono hw1)).mono hw0)⟩
  have hok := facErr_ok h0
  have h8 := (valid_of hok.way).2.1
  have h1n := (valid_of hok.way).1
  have hd2 : (facErr ls L == 0) = true := by simpa using h0
  rw [hd2] at Hlaw
  have HSa := Lib.hid (HS1.out h0)
  have H0 := Lib.hid h0
  have s8 := hok.s8
  have x1 := and_u32 more 255 hmore (by decide)
  have hx2 : more &&& 255 < 256 := Nat.lt_of_le_of_lt Nat.and_le_right (by decide)
  have x2 := or_u32 L.start (more &&& 255) (by omega) (by omega)
  have hx3 : L.start ||| (more &&& 255) < 256 := Nat.or_lt_two_pow (n := 8) s8 hx2
  have Hbits := Lib.hid (or_bits L.start (more &&& 255))
  have hok' : FacOk ls ⟨L.back, L.all, L.makes, L.ends, L.start ||| (more &&& 255)⟩ := ⟨hok.way, hok.ml, hok.el, hok.m8, hok.e8, hx3⟩
  have H0' := Lib.hid (facErr_of hok')
  clear h0 hd2 hok hok' hx2
  have x1 : bits .and .u32 (more : Int) 255 = ((more &&& 255 : Nat) : Int) := x1
  generalize L.start ||| (more &&& 255) = s' at *
  generalize more &&& 255 = m8 at *
  go_wp2_with fail
  refine Hlaw.out.mono ?_
  rintro e w2 ⟨rfl, hW2⟩
  have HW2 := Lib.hid (HW1.out.trans (hW2.mono hw1))
  have HR2 := Lib.hid (Rd.below HR1.out hW2)
  clear c0 c1 c2 c3 c4
  obtain ⟨hpl2, c0, c1, c2, c3, c4⟩ := HLB.out.below HW2.out
  have f4 : w2.frozen? ⟨p, 4, none⟩ = false := (frozen_below HW2.out p 4 hpl).trans Hfr.out
  clear hW2
  go_upto_region 5 with fail
  have HLB3 := Lib.hid ((HLB.out.below HW2.out).set s')
  have HW3 : Hid (Below w.heap.size w (w2.setCell ⟨p, 4, none⟩ (.int .u32 (s' : Nat)))) := Lib.hid ((HB1.out.trans (HW2.out.mono hw0)).setCell (by show w.heap.size ≤ p; rw [Hp.out]; exact Nat.le_refl _) _)
  have HR3 : Hid (RdU (w2.setCell ⟨p, 4, none⟩ (.int .u32 (s' : Nat))) B1 r1) := Lib.hid (Rd.grown HR2.out (grown_set w2 p 4 _) (fun q hq => by have := Hq1.out q hq; omega))
  clear c0 c1 c2 c3 c4 f4
  generalize w2.setCell ⟨p, 4, none⟩ (.int .u32 (s' : Nat)) = w3 at *
  have HA3 := Lib.hid (RdN.below HA0.out HW3.out)
  have HL3 : Hid (RdL w3 MA MB ⟨L.back, L.all, L.makes, L.ends, s'⟩) := Lib.hid (by have h := HL0.out.below HW3.out; exact ⟨h.mr, h.er, by show s' < _; omega, h.mb, h.eb⟩)
  have hw3 := HW3.out.size
  obtain ⟨hpl3, c0, c1, c2, c3, c4⟩ := HLB3.out
  have Hsol := Lib.hid (solve_calls A MA MB ls ⟨L.back, L.all, L.makes, L.ends, s'⟩ cap ca cb w3 HA3.out hm HL3.out hl1 hl2)
  go_wp2_with fail
  refine Hsol.out.mono ?_
  rintro e w4 ⟨hW4, B2, r2, k2, rfl, hR4, hr4, hS4, _⟩
  rw [H0'.out]
  have HSb := Lib.hid (hS4 H0'.out)
  have HR4a := Lib.hid (Rd.below HR3.out hW4)
  have HR4b := Lib.hid hR4
  have HW4 := Lib.hid (HW3.out.trans (hW4.mono hw3))
  have e1 : r1.length = ls.length := HSa.out.len
  have e2 : r2.length = ls.length := HSb.out.len
  rw [e1, e2, H0.out]
  have E1 := Lib.hid e1
  have E2 := Lib.hid e2
  have Hin := Lib.hid (fun i (hi : i < ls.length) => HSa.out.more HSb.out rfl rfl rfl rfl (fun b h => Hbits.out b h) hi)
  clear hS4 hR4 hW4 e1 e2 c0 c1 c2 c3 c4 hr1 hr4
  go_wp2_with fail
  go_loopw [11] (fun i wr => ∃ k : Nat, k ≤ ls.length ∧ i = .int .i64 k ∧ ∃ nq, wr = w4.drewN nq) (fun i _ => ls.length - (intOf i).toNat)
  case atStart => exact ⟨0, Nat.zero_le _, rfl, 0, rfl⟩
  case round =>
    obtain ⟨k, hk, rfl, nq2, hwr⟩ := hrel
    have Hwr := Lib.hid hwr
    by_cases hlt : k < ls.length
    · have hk1 : k < r1.length := by rw [E1.out]; exact hlt
      have hk2 : k < r2.length := by rw [E2.out]; exact hlt
      obtain ⟨b1, off1, rfl, hb1, d1⟩ := RdU.at1 HR4a.out hk1
      obtain ⟨b2, off2, rfl, hb2, d2⟩ := RdU.at1 HR4b.out hk2
      rw [← getD_at] at d1 d2
      have d1 : wr.cell? ⟨b1, off1 + k, none⟩ = some (.int .u32 (r1.getD k 0 : Nat)) := by rw [hwr]; exact d1
      have d2 : wr.cell? ⟨b2, off2 + k, none⟩ = some (.int .u32 (r2.getD k 0 : Nat)) := by rw [hwr]; exact d2
      have x1 := HSa.out.lt k
      have x2 := HSb.out.lt k
      have q1 : ((k : Nat) : Int) < ((ls.length : Nat) : Int) := by omega
      have Hcl := Lib.hid (fun w => in_calls (r1.getD k 0) (r2.getD k 0) w (by omega) (by omega))
      rw [Hin.out k hlt] at Hcl
      clear hwr hk1 hk2
      generalize r1.getD k 0 = x at *
      generalize r2.getD k 0 = y at *
      go_wp2
      go_quiet ((go_at_call 25; exact Calls.quiet_of_same (Hcl.out _)))
      go_wp2
      go_roundw
      case rel => exact ⟨k + 1, by omega, by go_num, nq2 + nq, by rw [Hwr.out, World.drewN_drewN]⟩
      case measure => simp [intOf]; omega
    · go_wp2
      go_ret
      exact ⟨rfl, below_dN HW4.out nq2⟩
theorem factMore_u (A MA MB : Option Addr) (ls : List (List Int)) (L : LawD) (cap ca cb : Nat) (more : Int) (w : World) (hA : RdN w A ls) (hm : ls.length ≤ maxLen) (hL : RdL w MA MB L) (hl1 : L.makes.length ≤ maxLen) (hl2 : L.ends.length ≤ maxLen) (hx : 0 ≤ more ∧ more < 4294967296) :
    Calls Try.prog 14 #[.slice A ls.length cap, .agg #[.bool L.back, .bool L.all, .slice MA L.makes.length ca, .slice MB L.ends.length cb, .int .u32 (L.start : Nat)], .int .u32 more] w fun e w' => e = .returned (.bool true) ∧ Below w.heap.size w w' := by
  obtain ⟨a, rfl⟩ := Int.eq_ofNat_of_zero_le hx.1
  exact factMore_calls A MA MB ls L cap ca cb a w hA hm hL hl1 hl2 (by omega)
end Go.Proofs.Ytljmignfbagomaa
