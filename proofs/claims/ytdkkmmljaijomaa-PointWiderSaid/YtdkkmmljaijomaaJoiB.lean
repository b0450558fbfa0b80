/- (*point.classes).same, step: walked. -/
import Derived.Test.YtdkkmmljaijomaaJoiA
namespace Go.Proofs.Ytdkkmmljaijomaa
set_option maxRecDepth 100000
open Go.RowKit

theorem JoinE.weak {w : World} {T OB TB cO cT n : Nat} {o t : List Int} {C C' : Prop} {e : Ending} {w' : World} (h : JoinE w T OB TB cO cT n o t C e w') (hc : C → C') : JoinE w T OB TB cO cT n o t C' e w' := by
  obtain ⟨h1, o', t', h2, h3, h4, h5⟩ := h
  exact ⟨h1, o', t', h2, h3, h4, h5.imp (fun ⟨a, b, c⟩ => ⟨a, b, hc c⟩) id⟩
theorem JoinE.from {w w0 : World} {T OB TB cO cT n : Nat} {o t : List Int} {C : Prop} {e : Ending} {w' : World} (h : JoinE w T OB TB cO cT n o t C e w') (h0 : Two OB TB w0 w) : JoinE w0 T OB TB cO cT n o t C e w' := by
  obtain ⟨h1, o', t', h2, h3, h4⟩ := h
  exact ⟨h1, o', t', h2, h0.trans h3, h4⟩
set_option maxHeartbeats 4000000 in
theorem same_calls (T OB TB cO cT n : Nat) (hn : n ≤ 8) (a b : Int) (o t : List Int) (w : World) (h : JT w T OB TB cO cT n o t) (hc : Cls n o t) (ha0 : 0 ≤ a) (hb0 : 0 ≤ b) (ha : RepN n o a) (hb : RepN n o b) :
    Calls Try.prog 58 #[.pointer (some ⟨T, 0, none⟩), .int .i64 a, .int .i64 b] w (JoinE w T OB TB cO cT n o t (0 ≤ gI t b → gI t a = gI t b)) := by
  obtain ⟨a, rfl⟩ := Int.eq_ofNat_of_zero_le ha0
  obtain ⟨b, rfl⟩ := Int.eq_ofNat_of_zero_le hb0
  have ha : a < n := by rcases ha with h1 | h1 <;> omega
  have hb : b < n := by rcases hb with h1 | h1 <;> omega
  have c1 := h.clT
  obtain ⟨c2, f2⟩ := h.atT ha
  obtain ⟨c3, f3⟩ := h.atT hb
  have q4 : (a : Int) < (n : Int) := by omega
  have q5 : (b : Int) < (n : Int) := by omega
  have hra := hc.to a ha
  have hrb := hc.to b hb
  have hal : a < t.length := by rw [hc.lt]; exact ha
  rcases Int.lt_or_le (gI t a) 0 with hx | hx
  · have hx1 : gI t a = -1 := by omega
    have Hend : Hid (∀ nq v, JoinE w T OB TB cO cT n o t (0 ≤ gI t b → gI t a = gI t b) (.returned v) ((w.drewN nq).setCell ⟨TB, a, none⟩ (.int .i64 (gI t b)))) := Lib.hid (by
      intro nq v
      refine ⟨⟨_, rfl⟩, o, t.set a (gI t b), (h.drewN nq).setT ha _, ((Two.refl _ _ _).drewN nq).set2 _ _, ?_⟩
      rcases Int.lt_or_le (gI t b) 0 with hy | hy
      · have : gI t b = -1 := by omega
        have e : t.set a (gI t b) = t := by rw [this, ← hx1, gI_get hal, List.set_getElem_self]
        rw [e]
        exact ⟨hc, .inl ⟨rfl, rfl, fun h => by omega⟩⟩
      · have := hc.point (a := (a : Int)) (y := gI t b) (by omega) q4 hx hy (hc.rep ⟨by omega, q5⟩)
        rw [Int.toNat_natCast] at this
        exact ⟨this.1, .inr this.2⟩)
    clear h hc hra hrb hx1
    generalize gI t a = x at *
    generalize gI t b = y at *
    go_enter Try.func58, Try.ntmps58
    go_wp2
    go_quiet (fail)
    go_wp2
    go_end0
    exact Hend.out _ _
  · rcases Int.lt_or_le (gI t b) 0 with hy | hy
    · have Hend : Hid (∀ nq v, JoinE w T OB TB cO cT n o t (0 ≤ gI t b → gI t a = gI t b) (.returned v) ((w.drewN nq).setCell ⟨TB, b, none⟩ (.int .i64 (gI t a)))) := Lib.hid (by
        intro nq v
        refine ⟨⟨_, rfl⟩, o, t.set b (gI t a), (h.drewN nq).setT hb _, ((Two.refl _ _ _).drewN nq).set2 _ _, ?_⟩
        have := hc.point (a := (b : Int)) (y := gI t a) (by omega) q5 hy hx (hc.rep ⟨by omega, q4⟩)
        rw [Int.toNat_natCast] at this
        exact ⟨this.1, .inr this.2⟩)
      clear h hc hra hrb
      generalize gI t a = x at *
      generalize gI t b = y at *
      go_enter Try.func58, Try.ntmps58
      go_wp2
      go_quiet (fail)
      go_wp2
      go_end0
      exact Hend.out _ _
    · have Hj : Hid (∀ nq, Calls Try.prog 57 #[.pointer (some ⟨T, 0, none⟩), .int .i64 (gI t a), .int .i64 (gI t b)] (w.drewN nq) (JoinE w T OB TB cO cT n o t (0 ≤ gI t b → gI t a = gI t b))) := Lib.hid (by
        intro nq
        refine (join_calls T OB TB cO cT n hn _ _ o t (w.drewN nq) (h.drewN nq) hc hra hrb).mono ?_
        intro e w' hE
        exact (hE.weak (fun h _ => by omega)).from ((Two.refl _ _ _).drewN nq))
      clear h hc hra hrb
      generalize gI t a = x at *
      generalize gI t b = y at *
      go_enter Try.func58, Try.ntmps58
      go_wp2
      go_quiet (fail)
      go_wp2_with fail
      refine (Hj.out _).mono ?_
      rintro e w1 ⟨⟨v, rfl⟩, hE⟩
      have HE := Lib.hid hE
      clear hE Hj
      go_wp2
      go_end0
      exact ⟨⟨_, rfl⟩, HE.out⟩
set_option maxHeartbeats 8000000 in
theorem stepJ_calls (T OB TB cO cT n : Nat) (hn : n ≤ 8) (kd a b : Int) (hk : 1 ≤ kd ∧ kd ≤ 4) (ha : 0 ≤ a ∧ a < n) (hb : 0 ≤ b ∧ b < n) (o t : List Int) (w : World) (h : JT w T OB TB cO cT n o t) (hc : Cls n o t) :
    Calls Try.prog 49 #[.pointer (some ⟨T, 0, none⟩), .agg #[.int .i64 kd, .int .i64 a, .int .i64 b]] w (JoinE w T OB TB cO cT n o t (ClosedJ o t kd a b)) := by
  obtain ⟨a, rfl⟩ := Int.eq_ofNat_of_zero_le ha.1
  obtain ⟨b, rfl⟩ := Int.eq_ofNat_of_zero_le hb.1
  have ha' : a < n := by omega
  have hb' : b < n := by omega
  obtain ⟨⟨a1, a2⟩, a3⟩ := hc.of a ha'
  obtain ⟨⟨b1, b2⟩, b3⟩ := hc.of b hb'
  have q1 : (a : Int) < (n : Int) := by omega
  have q2 : (b : Int) < (n : Int) := by omega
  obtain ⟨w1, hw1⟩ : ∃ w1, w1 = w.alloc (.cells #[.int .i64 kd, .int .i64 a, .int .i64 b] 43) := ⟨_, rfl⟩
  obtain ⟨P, hP⟩ : ∃ P, P = w.heap.size := ⟨_, rfl⟩
  have e0 : w1.cell? ⟨P, 0, none⟩ = some (.int .i64 kd) := by rw [hw1]; exact cell_new _ _ _ _ hP.symm 0
  have e1 : w1.cell? ⟨P, 1, none⟩ = some (.int .i64 a) := by rw [hw1]; exact cell_new _ _ _ _ hP.symm 1
  have e2 : w1.cell? ⟨P, 2, none⟩ = some (.int .i64 b) := by rw [hw1]; exact cell_new _ _ _ _ hP.symm 2
  have hJ1 : JT w1 T OB TB cO cT n o t := by rw [hw1]; exact h.below ((Below.refl _ _).alloc (Nat.le_refl _) _)
  have hT1 : Two OB TB w w1 := by rw [hw1]; exact (Two.refl _ _ _).alloc (let ⟨_, hz⟩ := h.hO; lt_J hz) _
  have Hw1 := Lib.hid hw1
  have HP := Lib.hid hP
  clear h hw1 hP
  have c0 := hJ1.clO
  have c1 := hJ1.clT
  obtain ⟨d1, _⟩ := hJ1.atO ha'
  obtain ⟨d2, _⟩ := hJ1.atO hb'
  have hra : RepN n o (gI o a) := .inr ⟨⟨a1, a2⟩, a3⟩
  have hrb : RepN n o (gI o b) := .inr ⟨⟨b1, b2⟩, b3⟩
  obtain ⟨ka, hka⟩ := Int.eq_ofNat_of_zero_le a1
  obtain ⟨kb, hkb⟩ := Int.eq_ofNat_of_zero_le b1
  have ha2 : ka < n := by omega
  have hb2 : kb < n := by omega
  have q3 : (ka : Int) < (n : Int) := by omega
  have q4 : (kb : Int) < (n : Int) := by omega
  obtain ⟨d3, f3⟩ := hJ1.atT ha2
  obtain ⟨d4, f4⟩ := hJ1.atT hb2
  have hrta := hc.to ka ha2
  have hrtb := hc.to kb hb2
  have Hjo : Hid (∀ nq, ∀ x y : Int, RepN n o x → RepN n o y → Calls Try.prog 57 #[.pointer (some ⟨T, 0, none⟩), .int .i64 x, .int .i64 y] (w1.drewN nq) (JoinE w T OB TB cO cT n o t (x = y ∨ x < 0 ∨ y < 0))) := Lib.hid (by
    intro nq x y hx hy
    refine (join_calls T OB TB cO cT n hn _ _ o t (w1.drewN nq) (hJ1.drewN nq) hc hx hy).mono ?_
    intro e w' hE
    exact hE.from (hT1.drewN nq))
  have Hsa : Hid (∀ nq, ∀ x y : Int, 0 ≤ x → 0 ≤ y → RepN n o x → RepN n o y → Calls Try.prog 58 #[.pointer (some ⟨T, 0, none⟩), .int .i64 x, .int .i64 y] (w1.drewN nq) (JoinE w T OB TB cO cT n o t (0 ≤ gI t y → gI t x = gI t y))) := Lib.hid (by
    intro nq x y hx0 hy0 hx hy
    refine (same_calls T OB TB cO cT n hn _ _ o t (w1.drewN nq) (hJ1.drewN nq) hc hx0 hy0 hx hy).mono ?_
    intro e w' hE
    exact hE.from (hT1.drewN nq))
  have Hno : Hid (∀ nq v, ClosedJ o t kd a b → JoinE w T OB TB cO cT n o t (ClosedJ o t kd a b) (.returned v) (w1.drewN nq)) := Lib.hid (fun nq v hC => ⟨⟨_, rfl⟩, o, t, hJ1.drewN nq, hT1.drewN nq, hc, .inl ⟨rfl, rfl, hC⟩⟩)
  have Hcl : Hid (ClosedJ o t kd a b ↔ (kd = 1 → gI t ka = kb) ∧ (kd = 2 → 0 ≤ gI t kb → gI t ka = gI t kb) ∧ (kd = 3 → 0 ≤ gI t kb → 0 ≤ gI t (gI t kb) → gI t ka = gI t (gI t kb)) ∧ (kd = 4 → 0 ≤ gI t ka → 0 ≤ gI t kb → gI t (gI t ka) = gI t kb)) := Lib.hid (by
    unfold ClosedJ; rw [hka, hkb])
  have Hpt : Hid (∀ nq v, kd = 1 → gI t ka < 0 → JoinE w T OB TB cO cT n o t (ClosedJ o t kd a b) (.returned v) ((w1.drewN nq).setCell ⟨TB, ka, none⟩ (.int .i64 kb))) := Lib.hid (by
    intro nq v _ hlt
    have := hc.point (a := (ka : Int)) (y := (kb : Int)) (by omega) q3 hlt (by omega) (hkb ▸ hrb)
    rw [Int.toNat_natCast] at this
    exact ⟨⟨_, rfl⟩, o, t.set ka kb, (hJ1.drewN nq).setT ha2 _, (hT1.drewN nq).set2 _ _, this.1, .inr this.2⟩)
  rw [hka] at d1 hra
  rw [hkb] at d2 hrb
  have Hra := Lib.hid hra
  have Hrb := Lib.hid hrb
  have Hrta := Lib.hid hrta
  have Hrtb := Lib.hid hrtb
  clear hra hrb hrta hrtb a1 a2 a3 b1 b2 b3 hka hkb hJ1 hT1 hc ha hb ha' hb' ha2 hb2
  rcases (show kd = 1 ∨ kd = 2 ∨ kd = 3 ∨ kd = 4 by omega) with rfl | rfl | rfl | rfl
  · rcases Int.lt_or_le (gI t ka) 0 with hx | hx
    · have Hp := Lib.hid (fun nq v => Hpt.out nq v rfl hx)
      clear Hpt Hjo Hsa Hno Hcl Hra Hrb Hrta Hrtb
      generalize gI t ka = x at *
      generalize gI t kb = y at *
      go_enter Try.func49, Try.ntmps49
      go_wp2
      rw [← Hw1.out, ← HP.out]
      go_quiet (fail)
      go_wp2
      go_end0
      exact Hp.out _ _
    · have Hc1 := Lib.hid (fun nq => (Hjo.out nq _ _ Hrta.out Hrb.out))
      have Hf : Hid (∀ {e w'}, JoinE w T OB TB cO cT n o t (gI t ka = kb ∨ gI t ka < 0 ∨ (kb : Int) < 0) e w' → JoinE w T OB TB cO cT n o t (ClosedJ o t 1 a b) e w') := Lib.hid (fun hE => hE.weak (fun h => Hcl.out.2 ⟨fun _ => by omega, fun h => by omega, fun h => by omega, fun h => by omega⟩))
      clear Hpt Hjo Hsa Hno Hcl Hra Hrb Hrta Hrtb
      generalize gI t ka = x at *
      generalize gI t kb = y at *
      go_enter Try.func49, Try.ntmps49
      go_wp2
      rw [← Hw1.out, ← HP.out]
      go_quiet (fail)
      go_wp2_with fail
      refine (Hc1.out _).mono ?_
      intro e w2 hE
      have HE := Lib.hid (Hf.out hE)
      obtain ⟨⟨v, rfl⟩, _⟩ := hE
      clear Hc1 Hf
      go_wp2
      go_end0
      exact ⟨⟨_, rfl⟩, HE.out.2⟩
  · have Hc1 := Lib.hid (fun nq => (Hsa.out nq _ _ (by omega) (by omega) Hra.out Hrb.out))
    have Hf : Hid (∀ {e w'}, JoinE w T OB TB cO cT n o t (0 ≤ gI t kb → gI t ka = gI t kb) e w' → JoinE w T OB TB cO cT n o t (ClosedJ o t 2 a b) e w') := Lib.hid (fun hE => hE.weak (fun h => Hcl.out.2 ⟨fun h => by omega, fun _ => h, fun h => by omega, fun h => by omega⟩))
    clear Hpt Hjo Hsa Hno Hcl Hra Hrb Hrta Hrtb
    generalize gI t ka = x at *
    generalize gI t kb = y at *
    go_enter Try.func49, Try.ntmps49
    go_wp2
    rw [← Hw1.out, ← HP.out]
    go_quiet (fail)
    go_wp2_with fail
    refine (Hc1.out _).mono ?_
    intro e w2 hE
    have HE := Lib.hid (Hf.out hE)
    obtain ⟨⟨v, rfl⟩, _⟩ := hE
    clear Hc1 Hf
    go_wp2
    go_end0
    exact ⟨⟨_, rfl⟩, HE.out.2⟩
  · rcases Int.lt_or_le (gI t kb) 0 with hx | hx
    · have Hp := Lib.hid (fun nq v => Hno.out nq v (Hcl.out.2 ⟨fun h => by omega, fun h => by omega, fun _ h => by omega, fun h => by omega⟩))
      clear Hpt Hjo Hsa Hno Hcl Hra Hrb Hrta Hrtb
      generalize gI t ka = x at *
      generalize gI t kb = y at *
      go_enter Try.func49, Try.ntmps49
      go_wp2
      rw [← Hw1.out, ← HP.out]
      go_quiet (fail)
      go_wp2
      go_end0
      exact Hp.out _ _
    · have Hc1 := Lib.hid (fun nq => (Hsa.out nq _ _ (by omega) hx Hra.out Hrtb.out))
      have Hf : Hid (∀ {e w'}, JoinE w T OB TB cO cT n o t (0 ≤ gI t (gI t kb) → gI t ka = gI t (gI t kb)) e w' → JoinE w T OB TB cO cT n o t (ClosedJ o t 3 a b) e w') := Lib.hid (fun hE => hE.weak (fun h => Hcl.out.2 ⟨fun h => by omega, fun h => by omega, fun _ _ => h, fun h => by omega⟩))
      clear Hpt Hjo Hsa Hno Hcl Hra Hrb Hrta Hrtb
      generalize gI t ka = x at *
      generalize gI t kb = y at *
      generalize gI t y = z at *
      go_enter Try.func49, Try.ntmps49
      go_wp2
      rw [← Hw1.out, ← HP.out]
      go_quiet (fail)
      go_wp2_with fail
      refine (Hc1.out _).mono ?_
      intro e w2 hE
      have HE := Lib.hid (Hf.out hE)
      obtain ⟨⟨v, rfl⟩, _⟩ := hE
      clear Hc1 Hf
      go_wp2
      go_end0
      exact ⟨⟨_, rfl⟩, HE.out.2⟩
  · rcases Int.lt_or_le (gI t ka) 0 with hx | hx
    · have Hp := Lib.hid (fun nq v => Hno.out nq v (Hcl.out.2 ⟨fun h => by omega, fun h => by omega, fun h => by omega, fun _ h => by omega⟩))
      clear Hpt Hjo Hsa Hno Hcl Hra Hrb Hrta Hrtb
      generalize gI t ka = x at *
      generalize gI t kb = y at *
      go_enter Try.func49, Try.ntmps49
      go_wp2
      rw [← Hw1.out, ← HP.out]
      go_quiet (fail)
      go_wp2
      go_end0
      exact Hp.out _ _
    · have Hc1 := Lib.hid (fun nq => (Hsa.out nq _ _ hx (by omega) Hrta.out Hrb.out))
      have Hf : Hid (∀ {e w'}, JoinE w T OB TB cO cT n o t (0 ≤ gI t kb → gI t (gI t ka) = gI t kb) e w' → JoinE w T OB TB cO cT n o t (ClosedJ o t 4 a b) e w') := Lib.hid (fun hE => hE.weak (fun h => Hcl.out.2 ⟨fun h => by omega, fun h => by omega, fun h => by omega, fun _ _ => h⟩))
      clear Hpt Hjo Hsa Hno Hcl Hra Hrb Hrta Hrtb
      generalize gI t ka = x at *
      generalize gI t kb = y at *
      generalize gI t x = z at *
      go_enter Try.func49, Try.ntmps49
      go_wp2
      rw [← Hw1.out, ← HP.out]
      go_quiet (fail)
      go_wp2_with fail
      refine (Hc1.out _).mono ?_
      intro e w2 hE
      have HE := Lib.hid (Hf.out hE)
      obtain ⟨⟨v, rfl⟩, _⟩ := hE
      clear Hc1 Hf
      go_wp2
      go_end0
      exact ⟨⟨_, rfl⟩, HE.out.2⟩
end Go.Proofs.Ytdkkmmljaijomaa
