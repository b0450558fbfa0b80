/- The plain law of LoopNest. -/
import Derived.Test.YtljmignfbagomaaLpC
namespace Go.Proofs.Ytljmignfbagomaa
open Go.RowKit Go.Shelf

theorem NatL.dom {ls : List (List Int)} {h t a : Nat} (hd : Dom ls h t) (hn : NatL ls h t a) : Dom ls h a := by
  induction hn with
  | head => exact Dom.refl hd.reached
  | tail => exact hd
  | back _ hne hr hm ih =>
    have he : EdW ls _ _ := ⟨getD_lt hm, hm⟩
    exact (Dom.back hr (edge_edw.2 he) ih).resolve_left (Ne.symm hne)
theorem edge_wo {ls : List (List Int)} {wo a b : Nat} (h : Edge ls (-1) a b) (hne : b ≠ wo) : Edge ls (wo : Int) a b := by
  obtain ⟨l, h1, h2, _⟩ := h
  exact ⟨l, h1, h2, by omega⟩
theorem edge_ne {ls : List (List Int)} {wo a b : Nat} (h : Edge ls (wo : Int) a b) : b ≠ wo := by
  obtain ⟨l, h1, h2, h3⟩ := h
  omega
theorem NatL.pull {ls : List (List Int)} {i t y x : Nat} (hy : Rch ls y) (hc : Comes_ ls (i : Int) y x) (hx : NatL ls i t x) : NatL ls i t y := by
  have key : ∀ x, Comes_ ls (i : Int) y x → Rch ls x ∧ (NatL ls i t x → NatL ls i t y) := Comes_.closed ⟨hy, fun h => h⟩ fun b c hb he => by
    refine ⟨hb.1.step (edge_mono he), fun hc => hb.2 ?_⟩
    exact .back hc (edge_ne he) hb.1 (edge_edw.1 (edge_mono he)).2
  exact (key x hc).2 hx
theorem dom_from {ls : List (List Int)} {i j x : Nat} (hi : Rch ls i) (hij : ¬ Dom ls j i) (hx : Dom ls j x) : Comes_ ls (i : Int) j x := by
  have hj0 : j ≠ 0 := fun e => hij (e ▸ Dom.zero hi)
  have hqi : Comes_ ls (j : Int) 0 i := Classical.byContradiction fun hn => hij ⟨hi, .inr hn⟩
  have key : ∀ y, Comes_ ls (-1) 0 y → (Comes_ ls (j : Int) 0 y ∨ Comes_ ls (i : Int) j y) := Comes_.closed (.inl (Comes_.refl _ _ _)) fun b c hb he => by
    rcases hb with hb | hb
    · by_cases e : c = j
      · subst e; exact .inr (Comes_.refl _ _ _)
      · exact .inl (hb.step (edge_wo he e))
    · by_cases e : c = i
      · subst e; exact .inl hqi
      · exact .inr (hb.step (edge_wo he e))
  rcases key x hx.1 with h | h
  · rcases hx.2 with h0 | h0
    · exact absurd h0 hj0
    · exact absurd h h0
  · exact h
theorem NatL.down {ls : List (List Int)} {i j t y : Nat} (hij : ¬ Dom ls j i) (hne : i ≠ j) (hd : Dom ls j t) (he : (j : Int) ∈ ls.getD t []) (hn : NatL ls j t y) : Comes_ ls (i : Int) y j := by
  induction hn with
  | head => exact Comes_.refl _ _ _
  | tail =>
    have h2 : EdW ls t j := ⟨getD_lt he, he⟩
    exact (Comes_.refl _ _ _).step (edge_wo (edge_edw.2 h2) (Ne.symm hne))
  | back hb hbj hr hm ih =>
    rename_i a b
    have h2 : EdW ls a b := ⟨getD_lt hm, hm⟩
    have hbi : b ≠ i := fun e => hij (e ▸ NatL.dom hd hb)
    exact Comes_.edge_first (edge_wo (edge_edw.2 h2) hbi) ih
theorem lp_nest {ls : List (List Int)} {bk : List (Int × Int)} (hbk : ∀ i j : Nat, ((i : Int), (j : Int)) ∈ bk → (j : Int) ∈ ls.getD i []) {i j x : Nat} (hne : i ≠ j) (hij : Dom ls i j) (h1 : lpP ls bk i x) (h2 : lpP ls bk j x) :
    ∀ y, lpP ls bk j y → lpP ls bk i y := by
  rintro y ⟨t', b', d', n'⟩
  obtain ⟨t, b, d, n⟩ := h1
  obtain ⟨t2, b2, d2, n2⟩ := h2
  have hji : ¬ Dom ls j i := fun h => hne (Dom.antisymm hij h)
  have hc := (NatL.down hji hne d' (hbk _ _ b') n').trans (dom_from hij.reached hji (NatL.dom d2 n2))
  exact ⟨t, b, d, NatL.pull (NatL.dom d' n').1 hc n⟩
structure LpLaw (ls : List (List Int)) (r : List Nat) : Prop where
  lt : ∀ i (h : i < r.length), r[i] < 256
  nest : ∀ i j (hi : i < r.length) (hj : j < r.length), i ≠ j → r[i] &&& r[j] ≠ 0 → (r[i] ||| r[j] == r[j]) = true ∨ (r[j] ||| r[i] == r[i]) = true
  head : ∀ i (hi : i < r.length) k, r[i].testBit k = true → k < ls.length ∧ (domS ls k).testBit i = true
theorem lp_law {ls : List (List Int)} (h1 : 1 ≤ ls.length) (h8 : ls.length ≤ 8) (hv : Valid ls) {bk : List (Int × Int)} (hbk : BkAll ls bk) : LpLaw ls (lpR ls bk) := by
  have hb : ∀ i j : Nat, ((i : Int), (j : Int)) ∈ bk → (j : Int) ∈ ls.getD i [] := fun i j h => by
    obtain ⟨i', j', e, _, _, hp⟩ := (hbk _).1 h
    injection e with e1 e2
    have e1 : i = i' := by omega
    have e2 : j = j' := by omega
    subst e1 e2; exact hp.2.2
  refine ⟨fun i h => by rw [lpR_get]; exact setN_lt _, fun i j hi hj hne h0 => ?_, fun i hi k hk => ?_⟩
  · rw [lpR_get, lpR_get] at h0 ⊢
    obtain ⟨x, hx⟩ : ∃ x, (setN (lpP ls bk i) &&& setN (lpP ls bk j)).testBit x = true := Classical.byContradiction fun hn => h0 (set_ext fun k => by
      rw [Nat.zero_testBit]
      cases hk : (setN (lpP ls bk i) &&& setN (lpP ls bk j)).testBit k
      · rfl
      · exact absurd ⟨k, hk⟩ hn)
    rw [Nat.testBit_and, Bool.and_eq_true, setN_bit, setN_bit] at hx
    obtain ⟨⟨_, x1⟩, ⟨_, x2⟩⟩ := hx
    have x1' := x1
    have x2' := x2
    obtain ⟨t, _, d, n⟩ := x1'
    obtain ⟨t', _, d', n'⟩ := x2'
    rw [in_iff, in_iff]
    rcases Dom.chain (NatL.dom d n) (NatL.dom d' n') with h | h
    · refine .inr fun k hk => ?_
      rw [setN_bit] at hk ⊢
      exact ⟨hk.1, lp_nest hb hne h x1 x2 k hk.2⟩
    · refine .inl fun k hk => ?_
      rw [setN_bit] at hk ⊢
      exact ⟨hk.1, lp_nest hb (Ne.symm hne) h x2 x1 k hk.2⟩
  · rw [lpR_get, setN_bit] at hk
    obtain ⟨_, t, _, d, n⟩ := hk
    have hd := NatL.dom d n
    exact ⟨Rch.lt h1 hv hd.1, (domS_bit h1 h8 hv k i).2 hd⟩
end Go.Proofs.Ytljmignfbagomaa
