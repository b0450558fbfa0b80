/- (*cut.state).solve walked. -/
import Derived.Test.YtadmmciiahdmcaaCutB
import Derived.Deep.CutRange
namespace Go.Proofs.Ytadmmciiahdmcaa
set_option maxRecDepth 100000
open Go.RowKit

theorem containsB_calls (g : Nat) (l : List Bool) (cap : Nat) (w : World) (h : w.heap[g]? = some (.cells (l.map Value.bool).toArray 4 (0, 0))) (hm : l.length ≤ 1000) :
    Calls Try.prog 89 #[.slice (some ⟨g, 0, none⟩) l.length cap, .bool true] w fun e w' => e = .returned (.bool (decide (true ∈ l))) ∧ w' = w := by
  have Hc : Hid (Calls Try.prog 92 #[.slice (some ⟨g, 0, none⟩) l.length cap, .bool true] w fun e w' => (∃ x : Int, e = .returned (.int .i64 x) ∧ -1 ≤ x ∧ (0 ≤ x ↔ true ∈ l)) ∧ w' = w) := Lib.hid (by
    have H := Lib.hid h
    clear h
    go_enter Try.func92, Try.ntmps92
    go_wp2
    go_loop [8] (fun k => ∃ j : Nat, j ≤ l.length ∧ k = .int .i64 j ∧ Hid (∀ i, i < j → l[i]? = some false)) (fun k => l.length - (intOf k).toNat)
    case atStart => exact ⟨0, Nat.zero_le _, rfl, Lib.hid (fun i hi => by omega)⟩
    case round =>
      obtain ⟨j, hj, rfl, Hf⟩ := hrel
      by_cases hlt : j < l.length
      · have c0 : w.cell? ⟨g, j, none⟩ = some (.bool l[j]) := by rw [cell_of_row w g j _ _ _ H.out]; simp [hlt]
        have Hj := Lib.hid (List.getElem?_eq_getElem hlt)
        have q1 : ((j : Nat) : Int) < ((l.length : Nat) : Int) := by omega
        generalize l[j] = y at *
        cases y
        · go_wp2
          go_roundw
          case rel => exact ⟨j + 1, by omega, by go_num, Lib.hid (fun i hi => by
            rcases Nat.lt_or_ge i j with h | h
            · exact Hf.out i h
            · have : i = j := by omega
              subst this; exact Hj.out)⟩
          case measure => simp [intOf]; omega
        · go_wp2
          go_ret
          exact ⟨⟨_, rfl, by omega, ⟨fun _ => List.mem_of_getElem? Hj.out, fun _ => by omega⟩⟩, rfl⟩
      · have : j = l.length := by omega
        subst this
        go_wp2
        go_ret
        refine ⟨⟨_, rfl, by omega, ⟨fun h => by omega, fun h => ?_⟩⟩, rfl⟩
        obtain ⟨i, hi⟩ := List.mem_iff_getElem?.1 h
        have := Hf.out i (List.getElem?_eq_some_iff.1 hi).1
        rw [this] at hi; cases hi)
  clear h
  go_enter Try.func89, Try.ntmps89
  go_wp2_with (go_at_call 92; refine Hc.out.mono ?_; rintro e w' ⟨⟨x, rfl, h1, h2⟩, rfl⟩; have H2 := Lib.hid h2; clear h2)
  go_ret
  refine ⟨?_, rfl⟩
  by_cases hx : 0 ≤ x
  · simp [hx, H2.out.1 hx]
  · simp [hx]; exact fun h => hx (H2.out.2 h)
/-- Which steps are marked. -/
def MB (m : Nat) (B : Nat → List Bool) (i k : Nat) : Prop := i < m ∧ (B i)[k]? = some true
/-- The state of solve, in world wr. -/
structure SX (n : Nat) (p : List Blk) (on : Nat → Nat) (want : Nat) (w0 : World) (T SB FB : Nat) (R : Nat → Nat) (vp vn : Value) (cS t : Nat) (F : List Nat) (B : Nat → List Bool) (wr : World) : Prop where
  ct : CT wr T SB FB R vp vn cS p.length want t F B
  bel : Below w0.heap.size w0 wr
  low : Low p on want ⟨F, MB p.length B, t⟩
  len : ∀ i b, p[i]? = some b → (B i).length = b.code.length
  lt : ltU F (2 ^ n)
  t8 : t < 256
  tt : ∀ i b, p[i]? = some b → t.testBit i = true → 0 ≤ b.test
  base : w0.heap.size ≤ T ∧ w0.heap.size ≤ FB ∧ ∀ i, i < p.length → w0.heap.size ≤ R i
/-- Block i needs no more ahead of it than is noted. -/
def AhOk (p : List Blk) (want : Nat) (F : List Nat) (B : Nat → List Bool) (t i : Nat) : Prop :=
  ∀ b, p[i]? = some b → Sub32 (ctC b.code (beC want F t i b)) (getU F i) ∧ ∀ k, ctM b.code (beC want F t i b) k → MB p.length B i k
def TsOk (p : List Blk) (on : Nat → Nat) (B : Nat → List Bool) (t i : Nat) : Prop :=
  ∀ b, p[i]? = some b → 0 ≤ b.test → ∀ j, j < p.length → (on i).testBit j = true → (t.testBit j = true ∨ ∃ k, MB p.length B j k) → t.testBit i = true
theorem clo_of {p : List Blk} {on : Nat → Nat} {want t : Nat} {F : List Nat} {B : Nat → List Bool} (h1 : ∀ i, i < p.length → AhOk p want F B t i) (h2 : ∀ i, i < p.length → TsOk p on B t i) : Clo p on want ⟨F, MB p.length B, t⟩ := by
  have hl : ∀ {i : Nat} {b : Blk}, p[i]? = some b → i < p.length := fun h => (List.getElem?_eq_some_iff.1 h).1
  exact ⟨fun i b hb => (h1 i (hl hb) b hb).1, fun i b k hb hm => (h1 i (hl hb) b hb).2 k hm, fun i b j hb h0 hj ho hd => h2 i (hl hb) b hb h0 j hj ho hd⟩
def wtS (F : List Nat) (t : Nat) : Nat := wgU F + cnt8 t
section
variable {n : Nat} {p : List Blk} {on : Nat → Nat} {want : Nat} {w0 : World} {T SB FB : Nat} {R : Nat → Nat} {vp vn : Value} {cS t : Nat} {F : List Nat} {B : Nat → List Bool} {wr w' : World}
theorem pok32 (hp : POk (n : Int) p) : POk32 p := fun b hb s hs => by
  have := ((hp.bs b hb).code s hs).2.2.2.2.1
  have := hp.v6
  omega
theorem SX.keep (h : SX n p on want w0 T SB FB R vp vn cS t F B wr) (hb : Below wr.heap.size wr w') : SX n p on want w0 T SB FB R vp vn cS t F B w' :=
  ⟨h.ct.below hb, h.bel.trans (hb.mono h.bel.size), h.low, h.len, h.lt, h.t8, h.tt, h.base⟩
theorem SX.drew (h : SX n p on want w0 T SB FB R vp vn cS t F B wr) : SX n p on want w0 T SB FB R vp vn cS t F B wr.drew := ⟨h.ct.drew, h.bel.drew, h.low, h.len, h.lt, h.t8, h.tt, h.base⟩
theorem SX.wt_le (h : SX n p on want w0 T SB FB R vp vn cS t F B wr) (hp : POk (n : Int) p) : wtS F t ≤ 72 := by
  unfold wtS
  have h1 := wgU_le F
  have h2 := h.ct.len
  have h3 := hp.n8
  have h4 := cnt8_le t
  omega
theorem beC_lt (hp : POk (n : Int) p) (h : SX n p on want w0 T SB FB R vp vn cS t F B wr) (hw : want < 2 ^ n) {i : Nat} {b : Blk} (hb : p[i]? = some b) : beC want F t i b < 2 ^ n :=
  lt_of_bits fun k hk => by
    rw [beC_bit] at hk
    rcases hk with (⟨_, h1⟩ | ⟨j, _, h1⟩) | ⟨h1, h2⟩
    · exact bit_lt hw h1
    · exact bit_lt (h.lt _) h1
    · have h3 := (hp.bs b (List.mem_of_getElem? hb)).hi
      have h4 := h.tt i b hb h1
      omega
theorem SX.need_lt (h : SX n p on want w0 T SB FB R vp vn cS t F B wr) (hp : POk (n : Int) p) (hw : want < 2 ^ n) {i : Nat} {b : Blk} (hb : p[i]? = some b) : ctC b.code (beC want F t i b) < 2 ^ n :=
  ctC_lt rfl (by have := hp.v6; omega) (hp.bs b (List.mem_of_getElem? hb)).code (beC_lt hp h hw hb)
/-- Behind ahead(i): the steps are noted. -/
theorem SX.ahead (h : SX n p on want w0 T SB FB R vp vn cS t F B wr) (hp : POk (n : Int) p) {i : Nat} {b : Blk} (hb : p[i]? = some b) {b' : List Bool} (hl : b'.length = (B i).length) (hm : Mrk (B i) b' b.code (beC want F t i b) 0)
    (hbl : Bel1 (R i) wr w') (hr : w'.heap[R i]? = some (.cells (b'.map Value.bool).toArray 4 (0, 0))) : SX n p on want w0 T SB FB R vp vn cS t F (setBk B i b') w' := by
  have hi : i < p.length := (List.getElem?_eq_some_iff.1 hb).1
  refine ⟨h.ct.rowB hi hl hbl.block hr, h.bel.trans (hbl.below (h.base.2.2 i hi) h.bel.size), ?_, fun j c hc => ?_, h.lt, h.t8, h.tt, h.base⟩
  · refine h.low.marks (pok32 hp) hb fun j k ⟨h1, h2⟩ => ?_
    unfold setBk at h2
    by_cases e : j = i
    · rw [if_pos e] at h2
      rcases (hm k).1 h2 with h3 | ⟨_, h3⟩
      · exact .inl ⟨h1, by rw [e]; exact h3⟩
      · exact .inr ⟨e, h3⟩
    · rw [if_neg e] at h2
      exact .inl ⟨h1, h2⟩
  · unfold setBk
    by_cases e : j = i
    · rw [if_pos e, hl]; subst e; exact h.len _ _ hc
    · rw [if_neg e]; exact h.len _ _ hc
theorem MB.more {i j k : Nat} {b' : List Bool} {c : List Step} {l : Nat} (hm : Mrk (B i) b' c l 0) (h : MB p.length B j k) : MB p.length (setBk B i b') j k := by
  refine ⟨h.1, ?_⟩
  unfold setBk
  by_cases e : j = i
  · rw [if_pos e]; exact (hm k).2 (.inl (by rw [← e]; exact h.2))
  · rw [if_neg e]; exact h.2
theorem AhOk.more {i j : Nat} {b' : List Bool} {c : List Step} {l : Nat} (hm : Mrk (B i) b' c l 0) (h : AhOk p want F B t j) : AhOk p want F (setBk B i b') t j := fun b hb => ⟨(h b hb).1, fun k hk => ((h b hb).2 k hk).more hm⟩
theorem andN_zero {a b : Nat} (h : andN a b = 0) : Sub32 a b := fun x hx ha => by
  cases hb : b.testBit x
  · have : (andN a b).testBit x = true := (andN_bit32 _ _ _).2 ⟨hx, ha, hb⟩
    rw [h, Nat.zero_testBit] at this; cases this
  · rfl
theorem AhOk.here {i : Nat} {b : Blk} (hb : p[i]? = some b) {b' : List Bool} (hm : Mrk (B i) b' b.code (beC want F t i b) 0) (h0 : andN (ctC b.code (beC want F t i b)) (getU F i) = 0) : AhOk p want F (setBk B i b') t i := fun c hc => by
  rw [hb] at hc
  injection hc with hc
  subst hc
  refine ⟨andN_zero h0, fun k hk => ⟨(List.getElem?_eq_some_iff.1 hb).1, ?_⟩⟩
  unfold setBk
  rw [if_pos rfl]
  exact (hm k).2 (.inr ⟨Nat.zero_le _, hk⟩)
/-- More is needed ahead of i. -/
theorem SX.grow (h : SX n p on want w0 T SB FB R vp vn cS t F B wr) (hp : POk (n : Int) p) {i : Nat} {b : Blk} (hb : p[i]? = some b) {y : Nat} (hw : want < 2 ^ n) (hy : y = ctC b.code (beC want F t i b)) :
    SX n p on want w0 T SB FB R vp vn cS t (F.set i (getU F i ||| y)) B (wr.setCell ⟨FB, i, none⟩ (.int .u32 (getU F i ||| y : Nat))) := by
  refine ⟨h.ct.setF _, h.bel.setCell (p := ⟨FB, i, none⟩) h.base.2.1 _, h.low.row fun C hC => ?_, h.len, fun j => ?_, h.t8, h.tt, h.base⟩
  · rw [hy]; exact (h.low.ahead (pok32 hp) hb hC).1
  · have hyl : y < 2 ^ n := by rw [hy]; exact h.need_lt hp hw hb
    unfold getU
    rw [List.getD_eq_getElem?_getD, List.getElem?_set]
    split
    · split
      · exact Nat.or_lt_two_pow (h.lt i) hyl
      · exact Nat.two_pow_pos n
    · have := h.lt j
      unfold getU at this
      rwa [List.getD_eq_getElem?_getD] at this
theorem wg_grow (h6 : n ≤ 6) (hF : ltU F (2 ^ n)) {i y : Nat} (hi : i < F.length) (hy : y < 2 ^ n) (hne : andN y (getU F i) ≠ 0) : wgU F < wgU (F.set i (getU F i ||| y)) := by
  have h64 : 2 ^ n ≤ 64 := Nat.pow_le_pow_right (by decide) h6
  have hg : ∀ j, getU (F.set i (getU F i ||| y)) j = if i = j then getU F i ||| y else getU F j := fun j => by
    unfold getU
    rw [List.getD_eq_getElem?_getD, List.getElem?_set]
    by_cases e : i = j
    · rw [if_pos e, if_pos hi, if_pos e]; rfl
    · rw [if_neg e, if_neg e, List.getD_eq_getElem?_getD]
  refine wgU_lt (by rw [List.length_set]) (fun j k hk => ?_) (fun j => ?_) (fun e => hne ?_)
  · rw [hg j]
    split
    · rename_i e; subst e; rw [Nat.testBit_or, hk]; rfl
    · exact hk
  · rw [hg j]
    split
    · have := Nat.or_lt_two_pow (hF i) hy; omega
    · have := hF j; omega
  · refine set_ext fun k => ?_
    rw [Nat.zero_testBit]
    cases hb : (andN y (getU F i)).testBit k
    · rfl
    · obtain ⟨h1, h2, h3⟩ := (andN_bit32 _ _ _).1 hb
      have h4 := hg i
      rw [if_pos rfl, ← e] at h4
      rw [h4, Nat.testBit_or, h2, Bool.or_true] at h3; cases h3
/-- Test i is needed. -/
theorem SX.test (h : SX n p on want w0 T SB FB R vp vn cS t F B wr) (hp : POk (n : Int) p) {i j : Nat} {b : Blk} (hb : p[i]? = some b) (h0 : 0 ≤ b.test) (hj : j < p.length) (ho : (on i).testBit j = true) (hd : t.testBit j = true ∨ ∃ k, MB p.length B j k) :
    SX n p on want w0 T SB FB R vp vn cS (t ||| 2 ^ i) F B (wr.setCell ⟨T, 4, none⟩ (.int .u32 (t ||| 2 ^ i : Nat))) := by
  have hi : i < p.length := (List.getElem?_eq_some_iff.1 hb).1
  refine ⟨h.ct.setT _, h.bel.setCell (p := ⟨T, 4, none⟩) h.base.1 _, h.low.test hb h0 hj ho hd, h.len, h.lt, ?_, fun x c hc hx => ?_, h.base⟩
  · exact Nat.or_lt_two_pow (n := 8) h.t8 (Nat.pow_lt_pow_right (by decide) (by have := hp.n8; omega))
  · rw [set_bit, Bool.or_eq_true, decide_eq_true_eq] at hx
    rcases hx with hx | rfl
    · exact h.tt x c hc hx
    · rw [hb] at hc; injection hc with hc; rw [← hc]; exact h0
end
end Go.Proofs.Ytadmmciiahdmcaa
namespace Go.Proofs.Ytadmmciiahdmcaa
set_option maxRecDepth 100000
open Go.RowKit

theorem MB_mem {m j : Nat} {B : Nat → List Bool} (hj : j < m) : (∃ k, MB m B j k) ↔ true ∈ B j :=
  ⟨fun ⟨_, h⟩ => List.mem_of_getElem? h.2, fun h => let ⟨k, hk⟩ := List.mem_iff_getElem?.1 h; ⟨k, hj, hk⟩⟩
def SolvE (n : Nat) (p : List Blk) (on : Nat → Nat) (want : Nat) (w0 : World) (T SB FB : Nat) (R : Nat → Nat) (vp vn : Value) (cS : Nat) (e : Ending) (w' : World) : Prop :=
  (∃ v, e = .returned v) ∧ ∃ t F B, SX n p on want w0 T SB FB R vp vn cS t F B w' ∧ Clo p on want ⟨F, MB p.length B, t⟩
set_option maxHeartbeats 4000000 in
theorem cutSolve_calls (n : Nat) (A An Ao : Option Addr) (p : List Blk) (ons : List Nat) (cap capn capo : Nat) (w0' w : World) (T SB FB : Nat) (R : Nat → Nat) (cS want t : Nat) (F : List Nat) (B : Nat → List Bool)
    (h : SX n p (getU ons) want w0' T SB FB R (.slice A p.length cap) (.slice An p.length capn) cS t F B w) (hA : RdBk w0' A p) (hN : RdN w0' An (nexts p)) (hO : RdU w0' Ao ons) (hol : ons.length = p.length) (hov : ∀ x ∈ ons, x < 4294967296) (hp : POk (n : Int) p) (hw : want < 2 ^ n) :
    Calls Try.prog 80 #[.pointer (some ⟨T, 0, none⟩), .slice Ao ons.length capo] w (SolvE n p (getU ons) want w0' T SB FB R (.slice A p.length cap) (.slice An p.length capn) cS) := by
  have h6 : n ≤ 6 := by have := hp.v6; omega
  have h64 : 2 ^ n ≤ 64 := Nat.pow_le_pow_right (by decide) h6
  have hn8 := hp.n8
  have hn1 := hp.n1
  have HP := Lib.hid hp
  have HA := Lib.hid hA
  have HN := Lib.hid hN
  have HO := Lib.hid hO
  have HS := Lib.hid h
  have Hol := Lib.hid hol
  have Hov := Lib.hid hov
  clear h hA hN hO hp hol hov
  go_enter Try.func80, Try.ntmps80
  go_wp2_with fail
  go_loopg [4] (1 + 2 * (72 - wtS F t)) (fun g more wr => ∃ (b : Bool) (t : Nat) (F : List Nat) (B : Nat → List Bool), more = .bool b ∧ Hid (SX n p (getU ons) want w0' T SB FB R (.slice A p.length cap) (.slice An p.length capn) cS t F B wr) ∧ Hid (b = false → Clo p (getU ons) want ⟨F, MB p.length B, t⟩) ∧ Hid (g = (if b = true then 1 else 0) + 2 * (72 - wtS F t)))
  case atStart => exact ⟨true, t, F, B, rfl, HS, Lib.hid (fun h => by cases h), Lib.hid rfl⟩
  case round =>
    clear HS
    obtain ⟨b, t0, F0, B0, rfl, HS, HC, Hg⟩ := hrel
    have hwt := HS.out.wt_le HP.out
    cases b
    · go_wp2
      go_end0
      exact ⟨⟨_, rfl⟩, _, _, _, HS.out, HC.out (by first | rfl | trivial)⟩
    · clear HC
      have c0 := HS.out.ct.at_.1
      go_wp2
      go_loopw [17, 4] (fun i more wr => ∃ (k : Nat) (b : Bool) (F : List Nat) (B : Nat → List Bool), k ≤ p.length ∧ i = .int .i64 k ∧ more = .bool b ∧ Hid (SX n p (getU ons) want w0' T SB FB R (.slice A p.length cap) (.slice An p.length capn) cS t0 F B wr) ∧ Hid (b = false → F = F0 ∧ ∀ j, j < k → AhOk p want F B t0 j) ∧ Hid (wtS F0 t0 ≤ wtS F t0 ∧ (b = true → wtS F0 t0 < wtS F t0))) (fun i _ _ => p.length - (intOf i).toNat)
      case atStart => exact ⟨0, false, F0, B0, Nat.zero_le _, rfl, rfl, HS, Lib.hid (fun _ => ⟨rfl, fun j hj => by omega⟩), Lib.hid ⟨Nat.le_refl _, fun h => by cases h⟩⟩
      case round =>
        clear c0
        obtain ⟨k, b, F, B, hk, rfl, rfl, HX, HD, HM⟩ := hrel
        by_cases hlt : k < p.length
        · have Hlt := Lib.hid hlt
          have q1 : ((k : Nat) : Int) < ((p.length : Nat) : Int) := by omega
          have Hb := Lib.hid (List.getElem?_eq_getElem hlt)
          have Hcall := Lib.hid (cutAhead_calls n A An p cap capn w0' wr T SB FB R cS want t0 F B k hlt HX.out.ct HA.out HN.out HX.out.bel (HX.out.base.2.2 k hlt) HP.out (HX.out.len k _ Hb.out) HX.out.lt hw HX.out.t8 (HX.out.tt k _ Hb.out))
          have Hyl := Lib.hid (HX.out.need_lt HP.out hw Hb.out)
          generalize p[k] = bk at *
          obtain ⟨y, hy⟩ : ∃ y, y = ctC bk.code (beC want F t0 k bk) := ⟨_, rfl⟩
          have Hy := Lib.hid hy
          rw [← hy] at Hyl
          clear hy
          go_upto_region 7 with (go_at_call 88; refine Hcall.out.mono ?_; rintro e w4 ⟨b', rfl, hr, hl, hm, hbl⟩; have HX4 := Lib.hid (HX.out.ahead HP.out Hb.out hl hm hbl hr); have Hm := Lib.hid hm; rw [← Hy.out]; clear hr hl hm hbl Hcall HX)
          have hf := HX4.out.lt k
          have r2 := andN_u32 y (getU F k) (Nat.lt_of_lt_of_le Hyl.out (by omega)) (by omega)
          have c5 := HX4.out.ct.at_.2.2.2.2.2
          have cF := HX4.out.ct.atF Hlt.out
          have fF := HX4.out.ct.fzF k
          by_cases h0 : andN y (getU F k) = 0
          · have HA' := Lib.hid (AhOk.here Hb.out Hm.out (by rw [← Hy.out]; exact h0))
            have q2 : (((andN y (getU F k) : Nat) : Int) != 0) = false := by rw [h0]; rfl
            generalize getU F k = ff at *
            clear h0 fF hf
            go_wp2
            go_roundw
            case rel => exact ⟨k + 1, b, F, _, by have := Hlt.out; omega, by go_num, rfl, HX4, Lib.hid (fun hb => ⟨(HD.out hb).1, fun j hj => by
              rcases Nat.lt_or_ge j k with h | h
              · exact ((HD.out hb).2 j h).more Hm.out
              · have : j = k := by omega
                subst this; exact HA'.out⟩), HM⟩
            case measure => simp [intOf]; omega
          · have r4 := or_u32 (getU F k) y (by omega) (Nat.lt_of_lt_of_le Hyl.out (by omega))
            have HX5 := Lib.hid (HX4.out.grow HP.out Hb.out hw Hy.out)
            have HG := Lib.hid (wg_grow h6 HX4.out.lt (by rw [HX4.out.ct.len]; exact Hlt.out) Hyl.out h0)
            have q2 : (((andN y (getU F k) : Nat) : Int) != 0) = true := by rw [bne_iff_ne]; intro e; exact h0 (by omega)
            generalize getU F k = ff at *
            clear h0 hf
            go_wp2
            go_roundw
            case rel => exact ⟨k + 1, true, F.set k (ff ||| y), _, by have := Hlt.out; omega, by go_num, rfl, HX5, Lib.hid (fun hb => by cases hb), Lib.hid (by have h1 := HM.out.1; have h2 := HG.out; unfold wtS at *; exact ⟨by omega, fun _ => by omega⟩)⟩
            case measure => simp [intOf]; omega
        · have hkp : k = p.length := by omega
          subst hkp
          have hll : ¬ ((p.length : Int) < (p.length : Int)) := by omega
          have c0 := HX.out.ct.at_.1
          clear hlt hk
          go_wp2
          go_loopw [49, 4] (fun i more wr => ∃ (k : Nat) (b2 : Bool) (tq : Nat), k ≤ p.length ∧ i = .int .i64 k ∧ more = .bool b2 ∧ Hid (SX n p (getU ons) want w0' T SB FB R (.slice A p.length cap) (.slice An p.length capn) cS tq F B wr) ∧ Hid (b2 = false → b = false ∧ tq = t0 ∧ ∀ j, j < k → TsOk p (getU ons) B t0 j) ∧ Hid (wtS F t0 ≤ wtS F tq ∧ (b2 = true → b = true ∨ wtS F t0 < wtS F tq))) (fun i _ _ => p.length - (intOf i).toNat)
          case atStart => exact ⟨0, b, t0, Nat.zero_le _, rfl, rfl, HX, Lib.hid (fun h => ⟨h, rfl, fun j hj => by omega⟩), Lib.hid ⟨Nat.le_refl _, fun h => .inl h⟩⟩
          case round =>
            clear HX c0 hll
            obtain ⟨k, b2, tq, hk, rfl, rfl, HX, HE, HM2⟩ := hrel
            by_cases hlt : k < p.length
            · have Hlt := Lib.hid hlt
              have q1 : ((k : Nat) : Int) < ((p.length : Nat) : Int) := by omega
              have Hb := Lib.hid (List.getElem?_eq_getElem hlt)
              obtain ⟨pb, off, A', cap', rfl, hpb, d0, d1, d2, d3, -⟩ := RdBk.at_ (HA.out.below HX.out.bel) hlt
              have hk8 : k < 8 := by omega
              generalize p[k] = bk at *
              obtain ⟨code, test, thn, els⟩ := bk
              dsimp only at d0 d1 d2 d3
              go_upto_region 14 with fail
              have hn0 : (wr.alloc (.cells #[.slice A' code.length cap', .int .i64 test, .int .i64 thn, .int .i64 els] 25)).cell? ⟨wr.heap.size, 1, none⟩ = some (.int .i64 test) := cell_new wr _ _ _ rfl _
              have HX5 := Lib.hid (HX.out.keep ((Below.refl wr.heap.size wr).alloc (Nat.le_refl _) (.cells #[.slice A' code.length cap', .int .i64 test, .int .i64 thn, .int .i64 els] 25)))
              clear HX d0 d1 d2 d3 hpb
              generalize wr.alloc (.cells #[.slice A' code.length cap', .int .i64 test, .int .i64 thn, .int .i64 els] 25) = w5 at *
              generalize wr.heap.size = NB at *
              obtain ⟨-, -, -, c3, c4, -⟩ := HX5.out.ct.at_
              have t8 := HX5.out.t8
              by_cases h0 : test < 0
              · have Hts := Lib.hid (show TsOk p (getU ons) B t0 k from fun c hc h1 => by rw [Hb.out] at hc; injection hc with hc; subst hc; exact absurd h1 (by dsimp only; omega))
                have d1 : decide (test < 0) = true := decide_eq_true h0
                go_wp2
                go_roundw
                case rel => exact ⟨k + 1, b2, tq, by have := Hlt.out; omega, by go_num, rfl, HX5, Lib.hid (fun h => ⟨(HE.out h).1, (HE.out h).2.1, fun j hj => by
                  rcases Nat.lt_or_ge j k with h1 | h1
                  · exact (HE.out h).2.2 j h1
                  · have : j = k := by omega
                    subst this; exact Hts.out⟩), HM2⟩
                case measure => simp [intOf]; omega
              have d1 : decide (test < 0) = false := decide_eq_false h0
              have rt := W.test1_u32 tq k (by omega)
              by_cases h1 : tq.testBit k = true
              · have Hts := Lib.hid (show tq = t0 → TsOk p (getU ons) B t0 k from fun e c hc _ j _ _ _ => by rw [← e]; exact h1)
                rw [h1] at rt
                go_wp2
                go_roundw
                case rel => exact ⟨k + 1, b2, tq, by have := Hlt.out; omega, by go_num, rfl, HX5, Lib.hid (fun h => ⟨(HE.out h).1, (HE.out h).2.1, fun j hj => by
                  rcases Nat.lt_or_ge j k with h1 | h1
                  · exact (HE.out h).2.2 j h1
                  · have : j = k := by omega
                    subst this; exact Hts.out (HE.out h).2.1⟩), HM2⟩
                case measure => simp [intOf]; omega
              have h1 : tq.testBit k = false := by simpa using h1
              rw [h1] at rt
              go_wp2
              go_loopw [72, 4] (fun j more wr => ∃ x : Nat, x ≤ p.length ∧ j = .int .i64 x ∧ more = .bool b2 ∧ Hid (wr = w5) ∧ Hid (∀ y, y < x → ¬ ((getU ons k).testBit y = true ∧ (tq.testBit y = true ∨ ∃ i, MB p.length B y i)))) (fun j _ _ => p.length - (intOf j).toNat)
              case atStart => exact ⟨0, Nat.zero_le _, rfl, rfl, Lib.hid rfl, Lib.hid (fun y hy => by omega)⟩
              case round =>
                obtain ⟨x, hx, rfl, rfl, HWe, HN0⟩ := hrel
                obtain rfl := HWe.out
                clear HWe
                by_cases hxl : x < p.length
                · have Hxl := Lib.hid hxl
                  have q2 : ((x : Nat) : Int) < ((p.length : Nat) : Int) := by omega
                  have hx8 : x < 8 := by omega
                  have cS' := HX5.out.ct.atS hxl
                  have hrow := HX5.out.ct.hB x hxl
                  have hbl : (B x).length ≤ 1000 := by
                    rw [HX5.out.len x _ (List.getElem?_eq_getElem hxl)]
                    have := manyB_mem (List.getElem_mem hxl)
                    have := HP.out.many
                    omega
                  have Hcon := Lib.hid (containsB_calls (R x) (B x) (B x).length wr hrow hbl)
                  have HMm := Lib.hid (MB_mem (B := B) hxl)
                  have hok : k < ons.length := by rw [Hol.out]; exact Hlt.out
                  obtain ⟨ob, ooff, rfl, hob, o0⟩ := RdU.at1 (Rd.below HO.out HX5.out.bel) hok
                  have hov32 := Hov.out _ (List.getElem_mem hok)
                  rw [← getU_get hok] at o0 hov32
                  have q3 : ((k : Nat) : Int) < ((ons.length : Nat) : Int) := by omega
                  have rx := W.test1_u32 tq x (by omega)
                  have ro := W.test1_u32 (getU ons k) x hov32
                  have fT := HX5.out.ct.fzT 4
                  clear hrow hbl hob hxl rt
                  have next : ∀ y, y < x + 1 → (y = x → ¬ ((getU ons k).testBit y = true ∧ (tq.testBit y = true ∨ ∃ i, MB p.length B y i))) → ¬ ((getU ons k).testBit y = true ∧ (tq.testBit y = true ∨ ∃ i, MB p.length B y i)) := fun y hy hh => by
                    rcases Nat.lt_or_ge y x with h | h
                    · exact HN0.out y h
                    · exact hh (by omega)
                  have Hnext := Lib.hid next
                  clear next
                  have hit : (getU ons k).testBit x = true → (tq.testBit x = true ∨ ∃ i, MB p.length B x i) → Hid (SX n p (getU ons) want w0' T SB FB R (.slice (some ⟨pb, off, none⟩) p.length cap) (.slice An p.length capn) cS (tq ||| 2 ^ k) F B (wr.setCell ⟨T, 4, none⟩ (.int .u32 (tq ||| 2 ^ k : Nat))).drew ∧ wtS F tq < wtS F (tq ||| 2 ^ k)) := fun ho hd =>
                    Lib.hid ⟨(HX5.out.test HP.out Hb.out (by dsimp only; omega) Hxl.out ho hd).drew, by have := cnt8_set hk8 h1; unfold wtS; omega⟩
                  have Hhit := Lib.hid hit
                  clear hit
                  have r3 := pow_u32 k (by omega)
                  have pv : 2 ^ k < 2 ^ 8 := Nat.pow_lt_pow_right (by decide) hk8
                  have r4 := or_u32 tq (2 ^ k) (by omega) (by omega)
                  rw [Int.natCast_pow, show ((2 : Nat) : Int) = 2 from rfl] at r3 r4
                  clear pv
                  by_cases ho : (getU ons k).testBit x = true
                  · rw [ho] at ro
                    by_cases hd : tq.testBit x = true
                    · rw [hd] at rx
                      have HH := Lib.hid (Hhit.out ho (.inl hd)).out
                      clear Hhit Hnext ho hd Hcon
                      go_wp2
                      go_still_tail 9, (by kernel_rfl)
                      go_wp2
                      exact ⟨⟨k + 1, true, tq ||| 2 ^ k, by have := Hlt.out; omega, by go_num, rfl, Lib.hid HH.out.1, Lib.hid (fun h => by cases h), Lib.hid ⟨by have := HM2.out.1; have := HH.out.2; omega, fun _ => .inr (by have := HM2.out.1; have := HH.out.2; omega)⟩⟩, by simp [intOf]; omega⟩
                    · have hd : tq.testBit x = false := by simpa using hd
                      rw [hd] at rx
                      by_cases hm : true ∈ B x
                      · have HH := Lib.hid (Hhit.out ho (.inr (HMm.out.2 hm))).out
                        have dm : decide (true ∈ B x) = true := decide_eq_true hm
                        rw [dm] at Hcon
                        clear Hhit Hnext ho hd hm dm
                        go_wp2_with (go_at_call 89; refine Hcon.out.mono ?_; rintro e w' ⟨rfl, rfl⟩)
                        go_still_tail 9, (by kernel_rfl)
                        go_wp2
                        exact ⟨⟨k + 1, true, tq ||| 2 ^ k, by have := Hlt.out; omega, by go_num, rfl, Lib.hid HH.out.1, Lib.hid (fun h => by cases h), Lib.hid ⟨by have := HM2.out.1; have := HH.out.2; omega, fun _ => .inr (by have := HM2.out.1; have := HH.out.2; omega)⟩⟩, by simp [intOf]; omega⟩
                      · have HN1 : Hid (∀ y, y < x + 1 → ¬ ((getU ons k).testBit y = true ∧ (tq.testBit y = true ∨ ∃ i, MB p.length B y i))) := Lib.hid fun y hy => Hnext.out y hy fun e h => by
                          subst e
                          rcases h.2 with h2 | h2
                          · rw [hd] at h2; cases h2
                          · exact hm (HMm.out.1 h2)
                        have dm : decide (true ∈ B x) = false := decide_eq_false hm
                        rw [dm] at Hcon
                        clear Hhit Hnext ho hd hm dm r3 r4
                        go_wp2_with (go_at_call 89; refine Hcon.out.mono ?_; rintro e w' ⟨rfl, rfl⟩)
                        go_roundw
                        case rel => exact ⟨x + 1, by have := Hxl.out; omega, by go_num, rfl, Lib.hid (by trivial), HN1⟩
                        case measure => simp [intOf]; omega
                  · have ho : (getU ons k).testBit x = false := by simpa using ho
                    rw [ho] at ro
                    have HN1 : Hid (∀ y, y < x + 1 → ¬ ((getU ons k).testBit y = true ∧ (tq.testBit y = true ∨ ∃ i, MB p.length B y i))) := Lib.hid fun y hy => Hnext.out y hy fun e h => by rw [e, ho] at h; cases h.1
                    clear Hhit Hnext ho Hcon r3 r4
                    go_wp2
                    go_roundw
                    case rel => exact ⟨x + 1, by have := Hxl.out; omega, by go_num, rfl, Lib.hid (by trivial), HN1⟩
                    case measure => simp [intOf]; omega
                · have : x = p.length := by omega
                  subst this
                  have hll : ¬ ((p.length : Int) < (p.length : Int)) := by omega
                  have Hts := Lib.hid (show TsOk p (getU ons) B tq k from fun c hc _ j hj ho hd => absurd ⟨ho, hd⟩ (HN0.out j hj))
                  clear hxl hx rt
                  go_wp2
                  go_roundw
                  case rel => exact ⟨k + 1, b2, tq, by have := Hlt.out; omega, by go_num, rfl, HX5, Lib.hid (fun h => ⟨(HE.out h).1, (HE.out h).2.1, fun j hj => by
                    rcases Nat.lt_or_ge j k with h1 | h1
                    · exact (HE.out h).2.2 j h1
                    · have : j = k := by omega
                      subst this; have := Hts.out; rwa [(HE.out h).2.1] at this⟩), HM2⟩
                  case measure => simp [intOf]; omega
            · have hkp2 : k = p.length := by omega
              subst hkp2
              have hll : ¬ ((p.length : Int) < (p.length : Int)) := by omega
              have hw1 := HX.out.wt_le HP.out
              have hw2 : wtS F0 t0 ≤ 72 := hwt
              clear hlt hk
              go_wp2
              go_roundg ((if b2 = true then 1 else 0) + 2 * (72 - wtS F tq))
              case rel => exact ⟨b2, tq, F, B, rfl, HX, Lib.hid (fun h => by
                obtain ⟨e1, e2, e3⟩ := HE.out h
                rw [e2]
                exact clo_of (HD.out e1).2 e3), Lib.hid rfl⟩
              case measure =>
                have h1 := HM.out
                have h2 := HM2.out
                have h3 : gk = 1 + 2 * (72 - wtS F0 t0) := Hg.out.trans (by simp)
                cases b2
                · simp only [Bool.false_eq_true, if_false]; omega
                · have h4 : wtS F0 t0 < wtS F tq := by
                    rcases h2.2 rfl with e | e
                    · have := h1.2 e; omega
                    · omega
                  rw [if_pos rfl]; omega
end Go.Proofs.Ytadmmciiahdmcaa
