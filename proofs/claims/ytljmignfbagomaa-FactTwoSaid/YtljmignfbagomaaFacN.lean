/- FactTwo. -/
import Derived.Test.YtljmignfbagomaaFacM
namespace Go.Proofs.Ytljmignfbagomaa
open Go.RowKit

theorem FP.fr {E : Nat → Nat → Prop} {F : Nat → Prop} {L : LawD} {i b : Nat} (h : FP E F L i b) : FR E F i := by
  induction h with
  | start hf _ => exact .first hf
  | gen hr e _ => exact .step hr e
  | keep _ e _ ih => exact .step ih e
theorem FR.two {E : Nat → Nat → Prop} {F : Nat → Prop} {L1 L2 : LawD} (h1 : L1.all = true) (h2 : L2.all = false) (hm : L1.makes = L2.makes) (he : L1.ends = L2.ends) (hs : L1.start = L2.start) {i : Nat} (h : FR E F i) (b : Nat) : FP E F L1 i b ∨ FP E F L2 i b := by
  induction h with
  | first hf =>
    cases hb : L1.start.testBit b
    · exact .inl (.start hf (by unfold pb; rw [h1, hb]; rfl))
    · exact .inr (.start hf (by unfold pb; rw [h2, ← hs, hb]; rfl))
  | @step i j hr e ih =>
    cases hmk : (L1.makes.getD i 0).testBit b
    · cases hen : (L1.ends.getD i 0).testBit b
      · rcases ih with h | h
        · exact .inl (.keep h e (by unfold keepB; rw [h1, hmk]; rfl))
        · exact .inr (.keep h e (by unfold keepB; rw [h2, ← he, hen]; rfl))
      · exact .inl (.gen hr e (by unfold genB; rw [h1, hmk, hen]; rfl))
    · exact .inr (.gen hr e (by unfold genB; rw [h2, ← hm, hmk]; rfl))
theorem fr_comes {ls : List (List Int)} {L : LawD} (hb : L.back = false) (i : Nat) : FR (EL ls L) (FL ls L) i ↔ Comes_ ls (-1) 0 i := by
  constructor
  · intro h
    induction h with
    | first hf => unfold FL at hf; rw [if_neg (by rw [hb]; decide)] at hf; subst hf; exact Comes_.refl _ _ _
    | step _ e ih =>
      unfold EL at e
      rw [if_neg (by rw [hb]; decide)] at e
      obtain ⟨l, h1, h2⟩ := e
      exact ih.step ⟨l, h1, h2, by omega⟩
  · intro h
    refine Comes_.closed (p := fun x => FR (EL ls L) (FL ls L) x) (.first (by unfold FL; rw [if_neg (by rw [hb]; decide)])) (fun x y hx he => ?_) i h
    obtain ⟨l, h1, h2, _⟩ := he
    exact .step hx (by unfold EL; rw [if_neg (by rw [hb]; decide)]; exact ⟨l, h1, h2⟩)
structure Two2 (ls : List (List Int)) (L1 L2 : LawD) (r1 r2 : List Nat) : Prop where
  yes : ∀ i, i < ls.length → Comes_ ls (-1) 0 i → (r1.getD i 0 ||| r2.getD i 0 == r2.getD i 0) = true
  no : ∀ i, i < ls.length → ¬ Comes_ ls (-1) 0 i → r1.getD i 0 = 255 ∧ r2.getD i 0 = 0
theorem two2 {ls : List (List Int)} {L1 L2 : LawD} {r1 r2 : List Nat} (s1 : SolF ls L1 r1) (s2 : SolF ls L2 r2) (b1 : L1.back = false) (b2 : L2.back = false) (h1 : L1.all = true) (h2 : L2.all = false) (hm : L1.makes = L2.makes) (he : L1.ends = L2.ends) (hs : L1.start = L2.start) : Two2 ls L1 L2 r1 r2 := by
  have hE : EL ls L1 = EL ls L2 := by unfold EL; rw [b1, b2]
  have hF : FL ls L1 = FL ls L2 := by unfold FL; rw [b1, b2]
  refine ⟨fun i hi hc => ?_, fun i hi hc => ⟨?_, ?_⟩⟩
  · rw [in_iff]
    intro b hb
    have hb8 := bit_lt (n := 8) (s1.lt i) hb
    rcases FR.two (E := EL ls L2) (F := FL ls L2) h1 h2 hm he hs ((fr_comes b2 i).2 hc) b with h | h
    · have := (s1.bit i b hi hb8).2 (by rw [hE, hF]; exact h)
      unfold pb at this
      rw [h1, hb] at this; cases this
    · have := (s2.bit i b hi hb8).2 h
      unfold pb at this
      rw [h2] at this
      simpa using this
  · refine set_ext fun b => ?_
    rw [show (255 : Nat) = 2 ^ 8 - 1 from rfl, Nat.testBit_two_pow_sub_one]
    by_cases hb : b < 8
    · rw [decide_eq_true hb]
      cases hc' : (r1.getD i 0).testBit b
      · exact absurd ((fr_comes b1 i).1 ((s1.bit i b hi hb).1 (by unfold pb; rw [h1, hc']; rfl)).fr) hc
      · rfl
    · rw [decide_eq_false hb]
      cases hc' : (r1.getD i 0).testBit b
      · rfl
      · exact absurd (bit_lt (n := 8) (s1.lt i) hc') hb
  · refine set_ext fun b => ?_
    rw [Nat.zero_testBit]
    cases hc' : (r2.getD i 0).testBit b
    · rfl
    · have hb := bit_lt (n := 8) (s2.lt i) hc'
      exact absurd ((fr_comes b2 i).1 ((s2.bit i b hi hb).1 (by unfold pb; rw [h2, hc']; rfl)).fr) hc
set_option maxHeartbeats 1000000 in
theorem reach_calls (A : Option Addr) (ls : List (List Int)) (cap : Nat) (w : World) (hA : RdN w A ls) (hm : ls.length ≤ maxLen) :
    Calls Try.prog 33 #[.slice A ls.length cap] w fun e w' => Below w.heap.size w w' ∧ ∃ s : Nat, e = .returned (.tuple #[.int .u32 (s : Nat), .int .i64 (wayErr ls)]) ∧ (wayErr ls = 0 → s = fromS ls (-1) 0) := by
  have HA := Lib.hid hA; clear hA
  by_cases h0 : wayErr ls = 0
  · obtain ⟨h1, h8, hv⟩ := valid_of h0
    have HV := Lib.hid hv
    have H0 := Lib.hid h0
    clear h0 hv
    go_enter Try.func33, Try.ntmps33
    go_wp2_with (first
      | (go_at_call 44; refine (check_calls _ _ _ _ HA.out hm).mono ?_; rintro e w1 ⟨rfl, hW⟩; rw [H0.out]; have HW := Lib.hid hW; clear hW)
      | (go_at_call 45; refine (fromS_calls _ _ _ _ 0 (-1) (RdN.below HA.out HW.out) h8 HV.out (by omega)).mono ?_; rintro e w2 ⟨rfl, hW2⟩; have HW2 := Lib.hid (HW.out.trans (hW2.mono HW.out.size)); clear hW2))
    go_ret2
    exact ⟨HW2.out, _, by rw [H0.out]; rfl, fun _ => rfl⟩
  · have hd : (wayErr ls != 0) = true := by rw [bne_iff_ne]; exact h0
    have H0 := Lib.hid h0
    clear h0
    go_enter Try.func33, Try.ntmps33
    go_wp2_with (go_at_call 44; refine (check_calls _ _ _ _ HA.out hm).mono ?_; rintro e w1 ⟨rfl, hW⟩; have HW := Lib.hid hW; clear hW)
    go_ret2
    exact ⟨HW.out, 0, rfl, fun h => absurd h H0.out⟩
theorem LB.set1 {w : World} {p : Nat} {A B : Option Addr} {L : LawD} {ca cb : Nat} (h : LB w p A B L ca cb) (s : Bool) : LB (w.setCell ⟨p, 1, none⟩ (.bool s)) p A B ⟨L.back, s, L.makes, L.ends, L.start⟩ ca cb := by
  obtain ⟨h0, c0, c1, c2, c3, c4⟩ := h
  have hne : ∀ j, j ≠ 1 → (⟨p, 1, none⟩ : Addr) ≠ ⟨p, j, none⟩ := fun j hj e => by injection e with _ e; exact hj e.symm
  exact ⟨by simpa [World.setCell] using h0, (World.cell?_setCell_other w _ _ _ (hne 0 (by decide))).trans c0, World.cell?_setCell_same' w _ _ (by rw [c1]; rfl), (World.cell?_setCell_other w _ _ _ (hne 2 (by decide))).trans c2, (World.cell?_setCell_other w _ _ _ (hne 3 (by decide))).trans c3, (World.cell?_setCell_other w _ _ _ (hne 4 (by decide))).trans c4⟩
theorem LB.set0 {w : World} {p : Nat} {A B : Option Addr} {L : LawD} {ca cb : Nat} (h : LB w p A B L ca cb) (s : Bool) : LB (w.setCell ⟨p, 0, none⟩ (.bool s)) p A B ⟨s, L.all, L.makes, L.ends, L.start⟩ ca cb := by
  obtain ⟨h0, c0, c1, c2, c3, c4⟩ := h
  have hne : ∀ j, j ≠ 0 → (⟨p, 0, none⟩ : Addr) ≠ ⟨p, j, none⟩ := fun j hj e => by injection e with _ e; exact hj e.symm
  exact ⟨by simpa [World.setCell] using h0, World.cell?_setCell_same' w _ _ (by rw [c0]; rfl), (World.cell?_setCell_other w _ _ _ (hne 1 (by decide))).trans c1, (World.cell?_setCell_other w _ _ _ (hne 2 (by decide))).trans c2, (World.cell?_setCell_other w _ _ _ (hne 3 (by decide))).trans c3, (World.cell?_setCell_other w _ _ _ (hne 4 (by decide))).trans c4⟩
theorem frozen_set {w : World} (a c : Addr) (v : Value) : (w.setCell a v).frozen? c = w.frozen? c := by simp
end Go.Proofs.Ytljmignfbagomaa
