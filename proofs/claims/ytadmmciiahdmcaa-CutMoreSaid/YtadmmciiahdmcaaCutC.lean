/- (*cut.state).solve walked. -/
import Derived.Test.YtadmmciiahdmcaaCutB
namespace Go.Proofs.Ytadmmciiahdmcaa
set_option maxRecDepth 100000
open Go.RowKit

theorem containsB_calls (g : Nat) (l : List Bool) (cap : Nat) (w : World) (h : w.heap[g]? = some (.cells (l.map Value.bool).toArray 4 (0, 0))) (hm : l.length ≤ 1000) :
    Calls Try.prog 89 #[.slice (some ⟨g, 0, none⟩) l.length cap, .bool true] w fun e w' => e = .returned (.bool (decide (true ∈ l))) ∧ w' = w := by
  have Hc : Hid (Calls Try.prog 92 #[.slice (some ⟨g, 0, none⟩) l.length cap, .bool true] w fun e w' => (∃ x : Int, e = .returned (.int .i64 x) ∧ -1 ≤ x ∧ (0 ≤ x ↔ true ∈ l)) ∧ w' = w) := Lib.hid (by
    have H := Lib.hid h
    clear h
    go_enter Try.func92, Try.ntmps92
    go_wp2
    go_loop [8] (fun k => ∃ j : Nat, j ≤ l.length ∧ k = .int .i64 j ∧ Hid (∀ i, i < j → l[i]? = some false)) (fun k => l.length - (intOf k).toNat)
    case atStart => exact ⟨0, Nat.zero_le _, rfl, Lib.hid (fun i hi => by omega)⟩
    case round =>
      obtain ⟨j, hj, rfl, Hf⟩ := hrel
      by_cases hlt : j < l.length
      · have c0 : w.cell? ⟨g, j, none⟩ = some (.bool l[j]) := by rw [cell_of_row w g j _ _ _ H.out]; simp [hlt]
        have Hj := Lib.hid (List.getElem?_eq_getElem hlt)
        have q1 : ((j : Nat) : Int) < ((l.length : Nat) : Int) := by omega
        generalize l[j] = y at *
        cases y
        · go_wp2
          go_roundw
          case rel => exact ⟨j + 1, by omega, by go_num, Lib.hid (fun i hi => by
            rcases Nat.lt_or_ge i j with h | h
            · exact Hf.out i h
            · have : i = j := by omega
              subst this; exact Hj.out)⟩
          case measure => simp [intOf]; omega
        · go_wp2
          go_ret
          exact ⟨⟨_, rfl, by omega, ⟨fun _ => List.mem_of_getElem? Hj.out, fun _ => by omega⟩⟩, rfl⟩
      · have : j = l.length := by omega
        subst this
        go_wp2
        go_ret
        refine ⟨⟨_, rfl, by omega, ⟨fun h => by omega, fun h => ?_⟩⟩, rfl⟩
        obtain ⟨i, hi⟩ := List.mem_iff_getElem?.1 h
        have := Hf.out i (List.getElem?_eq_some_iff.1 hi).1
        rw [this] at hi; cases hi)
  clear h
  go_enter Try.func89, Try.ntmps89
  go_wp2_with (go_at_call 92; refine Hc.out.mono ?_; rintro e w' ⟨⟨x, rfl, h1, h2⟩, rfl⟩; have H2 := Lib.hid h2; clear h2)
  go_ret
  refine ⟨?_, rfl⟩
  by_cases hx : 0 ≤ x
  · simp [hx, H2.out.1 hx]
  · simp [hx]; exact fun h => hx (H2.out.2 h)
/-- Which steps are marked. -/
def MB (m : Nat) (B : Nat → List Bool) (i k : Nat) : Prop := i < m ∧ (B i)[k]? = some true
/-- The state of solve, in world wr. -/
structure SX (n : Nat) (p : List Blk) (on : Nat → Nat) (want : Nat) (w0 : World) (T SB FB : Nat) (R : Nat → Nat) (vp vn : Value) (cS t : Nat) (F : List Nat) (B : Nat → List Bool) (wr : World) : Prop where
  ct : CT wr T SB FB R vp vn cS p.length want t F B
  bel : Below w0.heap.size w0 wr
  low : Low p on want ⟨F, MB p.length B, t⟩
  len : ∀ i b, p[i]? = some b → (B i).length = b.code.length
  lt : ltU F (2 ^ n)
  t8 : t < 256
  tt : ∀ i b, p[i]? = some b → t.testBit i = true → 0 ≤ b.test
  base : w0.heap.size ≤ T ∧ w0.heap.size ≤ FB ∧ ∀ i, i < p.length → w0.heap.size ≤ R i
/-- Block i needs no more ahead of it than is noted. -/
def AhOk (p : List Blk) (want : Nat) (F : List Nat) (B : Nat → List Bool) (t i : Nat) : Prop :=
  ∀ b, p[i]? = some b → Sub32 (ctC b.code (beC want F t i b)) (getU F i) ∧ ∀ k, ctM b.code (beC want F t i b) k → MB p.length B i k
def TsOk (p : List Blk) (on : Nat → Nat) (B : Nat → List Bool) (t i : Nat) : Prop :=
  ∀ b, p[i]? = some b → 0 ≤ b.test → ∀ j, j < p.length → (on i).testBit j = true → (t.testBit j = true ∨ ∃ k, MB p.length B j k) → t.testBit i = true
theorem clo_of {p : List Blk} {on : Nat → Nat} {want t : Nat} {F : List Nat} {B : Nat → List Bool} (h1 : ∀ i, i < p.length → AhOk p want F B t i) (h2 : ∀ i, i < p.length → TsOk p on B t i) : Clo p on want ⟨F, MB p.length B, t⟩ := by
  have hl : ∀ {i : Nat} {b : Blk}, p[i]? = some b → i < p.length := fun h => (List.getElem?_eq_some_iff.1 h).1
  exact ⟨fun i b hb => (h1 i (hl hb) b hb).1, fun i b k hb hm => (h1 i (hl hb) b hb).2 k hm, fun i b j hb h0 hj ho hd => h2 i (hl hb) b hb h0 j hj ho hd⟩
def wtS (F : List Nat) (t : Nat) : Nat := wgU F + cnt8 t
section
variable {n : Nat} {p : List Blk} {on : Nat → Nat} {want : Nat} {w0 : World} {T SB FB : Nat} {R : Nat → Nat} {vp vn : Value} {cS t : Nat} {F : List Nat} {B : Nat → List Bool} {wr w' : World}
theorem pok32 (hp : POk (n : Int) p) : POk32 p := fun b hb s hs => by
  have := ((hp.bs b hb).code s hs).2.2.2.2.1
  have := hp.v6
  omega
theorem SX.keep (h : SX n p on want w0 T SB FB R vp vn cS t F B wr) (hb : Below wr.heap.size wr w') : SX n p on want w0 T SB FB R vp vn cS t F B w' :=
  ⟨h.ct.below hb, h.bel.trans (hb.mono h.bel.size), h.low, h.len, h.lt, h.t8, h.tt, h.base⟩
theorem SX.drew (h : SX n p on want w0 T SB FB R vp vn cS t F B wr) : SX n p on want w0 T SB FB R vp vn cS t F B wr.drew := ⟨h.ct.drew, h.bel.drew, h.low, h.len, h.lt, h.t8, h.tt, h.base⟩
theorem SX.wt_le (h : SX n p on want w0 T SB FB R vp vn cS t F B wr) (hp : POk (n : Int) p) : wtS F t ≤ 72 := by
  unfold wtS
  have h1 := wgU_le F
  have h2 := h.ct.len
  have h3 := hp.n8
  have h4 := cnt8_le t
  omega
theorem beC_lt (hp : POk (n : Int) p) (h : SX n p on want w0 T SB FB R vp vn cS t F B wr) (hw : want < 2 ^ n) {i : Nat} {b : Blk} (hb : p[i]? = some b) : beC want F t i b < 2 ^ n :=
  lt_of_bits fun k hk => by
    rw [beC_bit] at hk
    rcases hk with (⟨_, h1⟩ | ⟨j, _, h1⟩) | ⟨h1, h2⟩
    · exact bit_lt hw h1
    · exact bit_lt (h.lt _) h1
    · have h3 := (hp.bs b (List.mem_of_getElem? hb)).hi
      have h4 := h.tt i b hb h1
      omega
theorem SX.need_lt (h : SX n p on want w0 T SB FB R vp vn cS t F B wr) (hp : POk (n : Int) p) (hw : want < 2 ^ n) {i : Nat} {b : Blk} (hb : p[i]? = some b) : ctC b.code (beC want F t i b) < 2 ^ n :=
  ctC_lt rfl (by have := hp.v6; omega) (hp.bs b (List.mem_of_getElem? hb)).code (beC_lt hp h hw hb)
/-- Behind ahead(i): the steps are noted. -/
theorem SX.ahead (h : SX n p on want w0 T SB FB R vp vn cS t F B wr) (hp : POk (n : Int) p) {i : Nat} {b : Blk} (hb : p[i]? = some b) {b' : List Bool} (hl : b'.length = (B i).length) (hm : Mrk (B i) b' b.code (beC want F t i b) 0)
    (hbl : Bel1 (R i) wr w') (hr : w'.heap[R i]? = some (.cells (b'.map Value.bool).toArray 4 (0, 0))) : SX n p on want w0 T SB FB R vp vn cS t F (setBk B i b') w' := by
  have hi : i < p.length := (List.getElem?_eq_some_iff.1 hb).1
  refine ⟨h.ct.rowB hi hl hbl.block hr, h.bel.trans (hbl.below (h.base.2.2 i hi) h.bel.size), ?_, fun j c hc => ?_, h.lt, h.t8, h.tt, h.base⟩
  · refine h.low.marks (pok32 hp) hb fun j k ⟨h1, h2⟩ => ?_
    unfold setBk at h2
    by_cases e : j = i
    · rw [if_pos e] at h2
      rcases (hm k).1 h2 with h3 | ⟨_, h3⟩
      · exact .inl ⟨h1, by rw [e]; exact h3⟩
      · exact .inr ⟨e, h3⟩
    · rw [if_neg e] at h2
      exact .inl ⟨h1, h2⟩
  · unfold setBk
    by_cases e : j = i
    · rw [if_pos e, hl]; subst e; exact h.len _ _ hc
    · rw [if_neg e]; exact h.len _ _ hc
theorem MB.more {i j k : Nat} {b' : List Bool} {c : List Step} {l : Nat} (hm : Mrk (B i) b' c l 0) (h : MB p.length B j k) : MB p.length (setBk B i b') j k := by
  refine ⟨h.1, ?_⟩
  unfold setBk
  by_cases e : j = i
  · rw [if_pos e]; exact (hm k).2 (.inl (by rw [← e]; exact h.2))
  · rw [if_neg e]; exact h.2
theorem AhOk.more {i j : Nat} {b' : List Bool} {c : List Step} {l : Nat} (hm : Mrk (B i) b' c l 0) (h : AhOk p want F B t j) : AhOk p want F (setBk B i b') t j := fun b hb => ⟨(h b hb).1, fun k hk => ((h b hb).2 k hk).more hm⟩
theorem andN_zero {a b : Nat} (h : andN a b = 0) : Sub32 a b := fun x hx ha => by
  cases hb : b.testBit x
  · have : (andN a b).testBit x = true := (andN_bit32 _ _ _).2 ⟨hx, ha, hb⟩
    rw [h, Nat.zero_testBit] at this; cases this
  · rfl
theorem AhOk.here {i : Nat} {b : Blk} (hb : p[i]? = some b) {b' : List Bool} (hm : Mrk (B i) b' b.code (beC want F t i b) 0) (h0 : andN (ctC b.code (beC want F t i b)) (getU F i) = 0) : AhOk p want F (setBk B i b') t i := fun c hc => by
  rw [hb] at hc
  injection hc with hc
  subst hc
  refine ⟨andN_zero h0, fun k hk => ⟨(List.getElem?_eq_some_iff.1 hb).1, ?_⟩⟩
  unfold setBk
  rw [if_pos rfl]
  exact (hm k).2 (.inr ⟨Nat.zero_le _, hk⟩)
/-- More is needed ahead of i. -/
theorem SX.grow (h : SX n p on want w0 T SB FB R vp vn cS t F B wr) (hp : POk (n : Int) p) {i : Nat} {b : Blk} (hb : p[i]? = some b) {y : Nat} (hw : want < 2 ^ n) (hy : y = ctC b.code (beC want F t i b)) :
    SX n p on want w0 T SB FB R vp vn cS t (F.set i (getU F i ||| y)) B (wr.setCell ⟨FB, i, none⟩ (.int .u32 (getU F i ||| y : Nat))) := by
  refine ⟨h.ct.setF _, h.bel.setCell (p := ⟨FB, i, none⟩) h.base.2.1 _, h.low.row fun C hC => ?_, h.len, fun j => ?_, h.t8, h.tt, h.base⟩
  · rw [hy]; exact (h.low.ahead (pok32 hp) hb hC).1
  · have hyl : y < 2 ^ n := by rw [hy]; exact h.need_lt hp hw hb
    unfold getU
    rw [List.getD_eq_getElem?_getD, List.getElem?_set]
    split
    · split
      · exact Nat.or_lt_two_pow (h.lt i) hyl
      · exact Nat.two_pow_pos n
    · have := h.lt j
      unfold getU at this
      rwa [List.getD_eq_getElem?_getD] at this
theorem wg_grow (h6 : n ≤ 6) (hF : ltU F (2 ^ n)) {i y : Nat} (hi : i < F.length) (hy : y < 2 ^ n) (hne : andN y (getU F i) ≠ 0) : wgU F < wgU (F.set i (getU F i ||| y)) := by
  have h64 : 2 ^ n ≤ 64 := Nat.pow_le_pow_right (by decide) h6
  have hg : ∀ j, getU (F.set i (getU F i ||| y)) j = if i = j then getU F i ||| y else getU F j := fun j => by
    unfold getU
    rw [List.getD_eq_getElem?_getD, List.getElem?_set]
    by_cases e : i = j
    · rw [if_pos e, if_pos hi, if_pos e]; rfl
    · rw [if_neg e, if_neg e, List.getD_eq_getElem?_getD]
  refine wgU_lt (by rw [List.length_set]) (fun j k hk => ?_) (fun j => ?_) (fun e => hne ?_)
  · rw [hg j]
    split
    · rename_i e; subst e; rw [Nat.testBit_or, hk]; rfl
    · exact hk
  · rw [hg j]
    split
    · have := Nat.or_lt_two_pow (hF i) hy; omega
    · have := hF j; omega
  · refine set_ext fun k => ?_
    rw [Nat.zero_testBit]
    cases hb : (andN y (getU F i)).testBit k
    · rfl
    · obtain ⟨h1, h2, h3⟩ := (andN_bit32 _ _ _).1 hb
      have h4 := hg i
      rw [if_pos rfl, ← e] at h4
      rw [h4, Nat.testBit_or, h2, Bool.or_true] at h3; cases h3
/-- Test i is needed. -/
theorem SX.test (h : SX n p on want w0 T SB FB R vp vn cS t F B wr) (hp : POk (n : Int) p) {i j : Nat} {b : Blk} (hb : p[i]? = some b) (h0 : 0 ≤ b.test) (hj : j < p.length) (ho : (on i).testBit j = true) (hd : t.testBit j = true ∨ ∃ k, MB p.length B j k) :
    SX n p on want w0 T SB FB R vp vn cS (t ||| 2 ^ i) F B (wr.setCell ⟨T, 4, none⟩ (.int .u32 (t ||| 2 ^ i : Nat))) := by
  have hi : i < p.length := (List.getElem?_eq_some_iff.1 hb).1
  refine ⟨h.ct.setT _, h.bel.setCell (p := ⟨T, 4, none⟩) h.base.1 _, h.low.test hb h0 hj ho hd, h.len, h.lt, ?_, fun x c hc hx => ?_, h.base⟩
  · exact Nat.or_lt_two_pow (n := 8) h.t8 (Nat.pow_lt_pow_right (by decide) (by have := hp.n8; omega))
  · rw [set_bit, Bool.or_eq_true, decide_eq_true_eq] at hx
    rcases hx with hx | rfl
    · exact h.tt x c hc hx
    · rw [hb] at hc; injection hc with hc; rw [← hc]; exact h0
end
end Go.Proofs.Ytadmmciiahdmcaa
