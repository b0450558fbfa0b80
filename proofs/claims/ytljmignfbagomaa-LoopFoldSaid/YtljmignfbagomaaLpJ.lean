/- The plain law of LoopFold: where nothing can be folded any more. -/
import Derived.Test.YtljmignfbagomaaLpI
import Derived.Test.YtljmignfbagomaaLpC
namespace Go.Proofs.Ytljmignfbagomaa
open Go.RowKit Go.Shelf

theorem arg_top (f : Nat → Nat) (p : Nat → Prop) : ∀ n, (∃ a, a < n ∧ p a) → ∃ h, h < n ∧ p h ∧ ∀ a, a < n → p a → f a ≤ f h
  | 0, ⟨a, ha, _⟩ => by omega
  | n + 1, ⟨a, ha, hp⟩ => by
    by_cases hex : ∃ a, a < n ∧ p a
    · obtain ⟨h, h1, h2, h3⟩ := arg_top f p n hex
      by_cases hn : p n ∧ f h < f n
      · refine ⟨n, by omega, hn.1, fun a ha hp => ?_⟩
        by_cases e : a = n
        · subst e; exact Nat.le_refl _
        · have := h3 a (by omega) hp; omega
      · refine ⟨h, by omega, h2, fun a ha hp => ?_⟩
        by_cases e : a = n
        · subst e; exact Nat.not_lt.1 fun hlt => hn ⟨hp, hlt⟩
        · exact h3 a (by omega) hp
    · have e : a = n := Classical.byContradiction fun hne => hex ⟨a, by omega, hp⟩
      subst e
      refine ⟨a, by omega, hp, fun b hb hpb => ?_⟩
      by_cases e : b = a
      · subst e; exact Nat.le_refl _
      · exact absurd ⟨b, by omega, hpb⟩ hex
theorem cnt8_pow : ∀ h, h < 8 → cnt8 (2 ^ h) = 1 := by decide
theorem cnt8_one {s h : Nat} (hs : ∀ a, s.testBit a = true ↔ a = h) (h8 : h < 8) : cnt8 s = 1 := by
  have : s = 2 ^ h := set_ext fun k => by
    rw [Bool.eq_iff_iff, hs, testBit_pow, decide_eq_true_eq]
    exact eq_comm
  rw [this]; exact cnt8_pow h h8
section
variable {ls : List (List Int)} {l : List Nat} {L : Nat} {F pi : Nat → Nat}
theorem FoI.dom_head (h : FoI ls l L F pi) {m u : Nat} (hm : L.testBit m = true) (hu : Rch ls u) (hne : m ≠ pi u) (hd : Dom ls m u) : Dom ls m (pi u) := by
  have hp := (h.fix _ (h.into u hu).1).1
  refine ⟨hp, ?_⟩
  by_cases e : m = 0
  · exact .inl e
  · exact .inr fun hc => (hd.2.resolve_left e) (hc.trans (h.con u hu m hm hne))
theorem FoI.pred (h : FoI ls l L F pi) {m : Nat} (hm : L.testBit m = true) (h0 : m ≠ 0) : ∃ b, b ≠ m ∧ (F m).testBit b = true := by
  obtain ⟨hr, hmm⟩ := h.fix m hm
  obtain ⟨_, h00⟩ := h.fix 0 h.zero
  refine Classical.byContradiction fun hn => ?_
  have key : ∀ y, Comes_ ls (-1) 0 y → Rch ls y ∧ pi y ≠ m := Comes_.closed ⟨Comes_.refl _ _ _, by rw [h00]; exact Ne.symm h0⟩ fun b c hb he => by
    have he2 := edge_edw.1 he
    refine ⟨hb.1.step he, fun e => ?_⟩
    have := h.ent b c hb.1 he2 (by rw [e]; exact hb.2)
    rw [e] at this
    subst this
    exact hn ⟨pi b, hb.2, (h.frm c hm (pi b) hb.2).2 ⟨(h.into b hb.1).1, b, hb.1, rfl, he2⟩⟩
  exact (key m hr).2 hmm
def FoT (L : Nat) (F : Nat → Nat) : Prop := ∀ i, i ≠ 0 → L.testBit i = true → (F i).testBit i = false ∧ cnt8 (F i) ≠ 1
theorem FoI.no (h : FoI ls l L F pi) (h1 : 1 ≤ ls.length) (h8 : ls.length ≤ 8) (hv : Valid ls) (hT : FoT L F) {m x : Nat} (hm : L.testBit m = true) (h0 : m ≠ 0) (hall : ∀ a, a ≠ m → (F m).testBit a = true → a = x) : False := by
  obtain ⟨b, hb, hfb⟩ := h.pred hm h0
  have e := hall b hb hfb
  subst e
  obtain ⟨t1, t2⟩ := hT m h0 hm
  have hbL := ((h.frm m hm b hb).1 hfb).1
  have := Rch.lt h1 hv (h.fix b hbL).1
  refine t2 (cnt8_one (h := b) (fun a => ⟨fun ha => ?_, fun e => e ▸ hfb⟩) (by omega))
  refine hall a (fun e => ?_) ha
  subst e
  rw [t1] at ha; cases ha
inductive InQ (F : Nat → Nat) (h a : Nat) : Nat → Prop
  | src : InQ F h a a
  | back {x y : Nat} : InQ F h a x → x ≠ h → y ≠ x → (F x).testBit y = true → InQ F h a y
theorem FoI.inq (h : FoI ls l L F pi) {hh a y : Nat} (hL : L.testBit hh = true) (ha : L.testBit a = true) (hd : Dom ls hh a) (hq : InQ F hh a y) : L.testBit y = true ∧ Dom ls hh y := by
  induction hq with
  | src => exact ⟨ha, hd⟩
  | back hx hne hyx hf ih =>
    rename_i x y
    obtain ⟨i1, i2⟩ := ih
    obtain ⟨j1, u, hu, hpu, he⟩ := (h.frm x i1 y hyx).1 hf
    refine ⟨j1, ?_⟩
    have hdu := (Dom.back hu (edge_edw.2 he) i2).resolve_left (Ne.symm hne)
    by_cases e : hh = y
    · subst e; exact Dom.refl (h.fix _ hL).1
    · have := h.dom_head hL hu (by rw [hpu]; exact e) hdu
      rwa [hpu] at this
theorem FoI.tame_one (h : FoI ls (walkL ls) L F pi) (hL : Left (EdW ls) ls.length (walkL ls)) (h1 : 1 ≤ ls.length) (h8 : ls.length ≤ 8) (hv : Valid ls) (hT : FoT L F) {bk : List (Int × Int)} (hbk : BkAll ls bk)
    (ht : ∀ t x : Nat, ((t : Int), (x : Int)) ∈ bk → Dom ls x t) : ∀ x, L.testBit x = true → x = 0 := by
  have hin : ∀ x, Rch ls x → x ∈ walkL ls := Comes_.closed hL.mem0 fun b c hb he => hL.closed hb (edge_edw.1 he)
  have hmk : ∀ t h : Nat, Rch ls t → EdW ls t h → posD (walkL ls) t ≤ posD (walkL ls) h → Dom ls h t := fun t h hrt he hp => by
    have hrh : Rch ls h := hrt.step (edge_edw.2 he)
    refine ht t h ((hbk _).2 ⟨t, h, rfl, hL.lt t (hin t hrt), hL.lt h (hin h hrh), ?_, ?_, he.2⟩)
    · rw [posI_in (hin t hrt)]; omega
    · rw [posI_in (hin t hrt), posI_in (hin h hrh)]; omega
  have hlt : ∀ x, L.testBit x = true → x < ls.length := fun x hx => Rch.lt h1 hv (h.fix x hx).1
  have hl : ∀ x, L.testBit x = true → x ∈ walkL ls := fun x hx => hin x (h.fix x hx).1
  have fact1 : ∀ m b, L.testBit m = true → b ≠ m → (F m).testBit b = true → posD (walkL ls) b < posD (walkL ls) m → L.testBit b = true ∧ Dom ls m b := fun m b hm hb hf hp => by
    obtain ⟨hbL, u, hu, hpu, he⟩ := (h.frm m hm b hb).1 hf
    have hd := (h.into u hu).2
    rw [hpu] at hd
    have h2 := (dom_pos hL (hin u hu) hd).2
    have h3 := h.dom_head hm hu (by rw [hpu]; exact Ne.symm hb) (hmk u m hu he (by omega))
    rw [hpu] at h3
    exact ⟨hbL, h3⟩
  have strict : ∀ a m, L.testBit a = true → L.testBit m = true → a ≠ m → posD (walkL ls) a ≤ posD (walkL ls) m → posD (walkL ls) a < posD (walkL ls) m := fun a m ha hm hne hle => by
    rcases Nat.lt_or_ge (posD (walkL ls) a) (posD (walkL ls) m) with h2 | h2
    · exact h2
    · exact absurd (posD_inj (hl a ha) (hl m hm) (by omega)) hne
  intro x hx
  refine Classical.byContradiction fun hx0 => ?_
  by_cases hex : ∃ y, y < ls.length ∧ (L.testBit y = true ∧ ∃ a, L.testBit a = true ∧ a ≠ y ∧ Dom ls y a)
  · obtain ⟨hh, k1, ⟨k2, a, k3, k4, k5⟩, k6⟩ := arg_top (fun y => (walkL ls).length - posD (walkL ls) y) (fun y => L.testBit y = true ∧ ∃ a, L.testBit a = true ∧ a ≠ y ∧ Dom ls y a) ls.length hex
    obtain ⟨m, m1, ⟨m2, m3⟩, m4⟩ := arg_top (posD (walkL ls)) (fun y => InQ F hh a y ∧ y ≠ hh) ls.length ⟨a, hlt a k3, .src, k4⟩
    obtain ⟨n1, n2⟩ := h.inq k2 k3 k5 m2
    refine h.no h1 h8 hv hT (x := hh) n1 (fun e => ?_) fun b hb hf => ?_
    · subst e; exact m3 (dom_zero_only n2).symm
    · refine Classical.byContradiction fun hbh => ?_
      have hq : InQ F hh a b := .back m2 m3 hb hf
      obtain ⟨b1, b2⟩ := h.inq k2 k3 k5 hq
      have hlt2 := strict b m b1 n1 hb (m4 b (hlt b b1) ⟨hq, hbh⟩)
      have hd := fact1 m b n1 hb hf hlt2
      have h5 := k6 m m1 ⟨n1, b, b1, hb, hd.2⟩
      have h6 := dom_pos_lt hL (hl m n1) n2 (Ne.symm m3)
      have h7 := posD_lt (hl hh k2)
      omega
  · obtain ⟨m, m1, ⟨m2, m3⟩, m4⟩ := arg_top (posD (walkL ls)) (fun y => L.testBit y = true ∧ y ≠ 0) ls.length ⟨x, hlt x hx, hx, hx0⟩
    refine h.no h1 h8 hv hT (x := 0) m2 m3 fun b hb hf => Classical.byContradiction fun hb0 => ?_
    have hbL := ((h.frm m m2 b hb).1 hf).1
    have hd := fact1 m b m2 hb hf (strict b m hbL m2 hb (m4 b (hlt b hbL) ⟨hbL, hb0⟩))
    exact hex ⟨m, m1, m2, b, hbL, hb, hd.2⟩
theorem FoI.one_tame (h : FoI ls (walkL ls) L F pi) (hL : Left (EdW ls) ls.length (walkL ls)) {bk : List (Int × Int)} (hbk : BkAll ls bk) (h0 : ∀ x, L.testBit x = true → x = 0) :
    ∀ t x : Nat, ((t : Int), (x : Int)) ∈ bk → Dom ls x t := fun t x hm => by
  obtain ⟨t', x', e, _, _, p0, p1, p2⟩ := (hbk _).1 hm
  injection e with e1 e2
  have e1 : t = t' := by omega
  have e2 : x = x' := by omega
  subst e1 e2
  have htl := posI_nn p0
  have he : EdW ls t x := ⟨getD_lt p2, p2⟩
  have hxl := hL.closed htl he
  rw [posI_in htl, posI_in hxl] at p1
  have hrt : Rch ls t := (hL.from0 htl).comes
  have hrx : Rch ls x := (hL.from0 hxl).comes
  refine h.ret t x hrt he ?_ (by omega)
  rw [h0 _ (h.into t hrt).1, h0 _ (h.into x hrx).1]
theorem FoI.count (h : FoI ls (walkL ls) L F pi) (h1 : 1 ≤ ls.length) (h8 : ls.length ≤ 8) (hv : Valid ls) (hT : FoT L F) : 1 ≤ cnt8 L ∧ (cnt8 L = 1 ↔ ∀ x, L.testBit x = true → x = 0) ∧ cnt8 L ≠ 2 := by
  have hlt : ∀ x, L.testBit x = true → x < 8 := fun x hx => by have := Rch.lt h1 hv (h.fix x hx).1; omega
  have hL8 : L < 256 := lt_pow_of_bits (n := 8) hlt
  have one : (∀ x, L.testBit x = true → x = 0) → cnt8 L = 1 := fun h0 => cnt8_one (h := 0) (fun a => ⟨h0 a, fun e => e ▸ h.zero⟩) (by decide)
  have p0 : ∀ k, (2 ^ 0).testBit k = true → L.testBit k = true := fun k hk => by
    rw [testBit_pow, decide_eq_true_eq] at hk
    subst hk; exact h.zero
  have more : (∃ x, L.testBit x = true ∧ x ≠ 0) → 2 < cnt8 L := fun ⟨x, hx, hx0⟩ => by
    have hb : ∀ k, (2 ^ 0 ||| 2 ^ x).testBit k = true ↔ (k = 0 ∨ k = x) := fun k => by
      rw [set_bit, testBit_pow, Bool.or_eq_true, decide_eq_true_eq, decide_eq_true_eq]
      exact or_congr ⟨Eq.symm, Eq.symm⟩ ⟨Eq.symm, Eq.symm⟩
    have hc : cnt8 (2 ^ 0 ||| 2 ^ x) = 2 := by
      rw [cnt8_set (hlt x hx) (by rw [testBit_pow, decide_eq_false_iff_not]; exact Ne.symm hx0), cnt8_pow 0 (by decide)]
    rw [← hc]
    refine cnt8_mono_lt (fun k hk => ?_) (fun e => ?_) hL8
    · rcases (hb k).1 hk with rfl | rfl
      · exact h.zero
      · exact hx
    · refine h.no h1 h8 hv hT (x := 0) hx hx0 fun b hbx hf => ?_
      have := ((h.frm x hx b hbx).1 hf).1
      rw [← e, hb] at this
      exact this.resolve_right hbx
  by_cases hex : ∃ x, L.testBit x = true ∧ x ≠ 0
  · have := more hex
    refine ⟨by omega, ⟨fun e => by omega, fun h0 => ?_⟩, by omega⟩
    obtain ⟨x, hx, hx0⟩ := hex
    exact absurd (h0 x hx) hx0
  · have h0 : ∀ x, L.testBit x = true → x = 0 := fun x hx => Classical.byContradiction fun hn => hex ⟨x, hx, hn⟩
    have := one h0
    exact ⟨by omega, ⟨fun _ => h0, fun _ => this⟩, by omega⟩
end
end Go.Proofs.Ytljmignfbagomaa
