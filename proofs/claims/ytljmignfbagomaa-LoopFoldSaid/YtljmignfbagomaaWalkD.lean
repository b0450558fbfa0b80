/- codemasonref.Size, way.Reach; WayRound. -/
import Derived.Test.YtljmignfbagomaaWalkC
import Derived.Test.YtljmignfbagomaaPartB
import Derived.Test.YtljmignfbagomaaRefs
import Derived.BigGuardPart
namespace Go.Proofs.Ytljmignfbagomaa
open Go.RowKit Go.Shelf

def szTo (s : Nat) : Nat → Nat
  | 0 => 0
  | k + 1 => szTo s k + if s.testBit k then 1 else 0
def sizeN (s : Nat) : Nat := szTo s 32
theorem szTo_le (s : Nat) : ∀ k, szTo s k ≤ k
  | 0 => Nat.le_refl _
  | k + 1 => by have := szTo_le s k; unfold szTo; split <;> omega
theorem szTo_none {s : Nat} : ∀ {k : Nat}, (∀ j, j < k → s.testBit j = false) → szTo s k = 0
  | 0, _ => rfl
  | k + 1, h => by unfold szTo; rw [szTo_none fun j hj => h j (by omega), h k (by omega)]; rfl
theorem szTo_one {s i : Nat} : ∀ {k : Nat}, (∀ j, j < k → s.testBit j = true → j = i) → szTo s k ≤ 1
  | 0, _ => by unfold szTo; omega
  | k + 1, h => by
    unfold szTo
    by_cases hb : s.testBit k = true
    · have hk := h k (by omega) hb
      rw [szTo_none fun j hj => by
        cases hj2 : s.testBit j
        · rfl
        · have := h j (by omega) hj2; omega]
      split <;> omega
    · rw [if_neg hb]
      have := szTo_one (s := s) (i := i) (k := k) fun j hj => h j (by omega)
      omega
theorem szTo_mono (s : Nat) : ∀ {m k : Nat}, k ≤ m → szTo s k ≤ szTo s m
  | 0, k, h => by have : k = 0 := by omega
                  subst this; exact Nat.le_refl _
  | m + 1, k, h => by
    by_cases e : k = m + 1
    · subst e; exact Nat.le_refl _
    · have := szTo_mono s (m := m) (k := k) (by omega)
      rw [show szTo s (m + 1) = szTo s m + if s.testBit m then 1 else 0 from rfl]
      omega
theorem szTo_two {s i j k : Nat} (hij : i < j) (hj : j < k) (hi : s.testBit i = true) (hj2 : s.testBit j = true) : 1 < szTo s k := by
  have h1 : 1 ≤ szTo s (i + 1) := by rw [show szTo s (i + 1) = szTo s i + if s.testBit i then 1 else 0 from rfl, if_pos hi]; omega
  have h2 := szTo_mono s (m := j) (k := i + 1) (by omega)
  have h3 : szTo s (j + 1) = szTo s j + 1 := by rw [show szTo s (j + 1) = szTo s j + if s.testBit j then 1 else 0 from rfl, if_pos hj2]
  have h4 := szTo_mono s (m := k) (k := j + 1) (by omega)
  omega
theorem size_more {s i : Nat} (hi : s.testBit i = true) (hi8 : i < 32) : 1 < sizeN s ↔ ∃ j, j < 32 ∧ j ≠ i ∧ s.testBit j = true := by
  constructor
  · intro h
    refine Classical.byContradiction fun hn => ?_
    have := szTo_one (s := s) (i := i) (k := 32) fun j hj hb => Classical.byContradiction fun hne => hn ⟨j, hj, hne, hb⟩
    unfold sizeN at h
    omega
  · rintro ⟨j, hj, hne, hb⟩
    rcases Nat.lt_or_gt_of_ne hne with h | h
    · exact szTo_two h hi8 hb hi
    · exact szTo_two h hj hi hb
set_option maxHeartbeats 2000000 in
theorem size_calls (s : Nat) (w : World) (hs : s < 4294967296) :
    Calls Try.prog 35 #[.int .u32 s] w fun e w' => e = .returned (.int .i64 (sizeN s : Nat)) ∧ w' = w := by
  have Hb := Lib.hid (fun i w (hi : i < 32) => bit_calls s i w hs hi)
  go_enter Try.func35, Try.ntmps35
  go_wp2
  go_loopw [3, 4] (fun n i wr => ∃ k : Nat, k ≤ 32 ∧ i = .int .i64 k ∧ n = .int .i64 (szTo s k : Nat) ∧ wr = w) (fun _ i _ => 32 - (intOf i).toNat)
  case atStart => exact ⟨0, Nat.zero_le _, rfl, rfl, rfl⟩
  case round =>
    obtain ⟨k, hk, rfl, rfl, rfl⟩ := hrel
    by_cases hlt : k < 32
    · have q1 : ((k : Nat) : Int) < 32 := by omega
      have Hk := Lib.hid (Hb.out k wr hlt)
      have Hs := Lib.hid (show szTo s (k + 1) = szTo s k + if s.testBit k then 1 else 0 from rfl)
      have hle := szTo_le s k
      cases hb : s.testBit k
      · rw [hb] at Hk Hs
        generalize szTo s k = z at *
        clear hb
        go_wp2_with fail
        refine Hk.out.mono ?_
        rintro e w' ⟨rfl, rfl⟩
        go_wp2
        go_roundw
        case rel => exact ⟨k + 1, by omega, by go_num, by rw [Hs.out]; simp, by first | rfl | trivial⟩
        case measure => simp [intOf]; omega
      · rw [hb] at Hk Hs
        generalize szTo s k = z at *
        clear hb
        go_wp2_with fail
        refine Hk.out.mono ?_
        rintro e w' ⟨rfl, rfl⟩
        go_wp2
        go_roundw
        case rel => exact ⟨k + 1, by omega, by go_num, by rw [Hs.out]; first | rfl | go_num | (simp; done), by first | rfl | trivial⟩
        case measure => simp [intOf]; omega
    · have hke : k = 32 := by omega
      subst hke
      have Hz := Lib.hid (show sizeN s = szTo s 32 from rfl)
      generalize szTo s 32 = z at *
      go_wp2
      go_ret
      exact ⟨by rw [Hz.out]; rfl, rfl⟩
/-- way.Reach -/
theorem reachW_calls (A : Option Addr) (ls : List (List Int)) (cap : Nat) (w : World) (hA : RdN w A ls) (hm : ls.length ≤ maxLen) :
    Calls Try.prog 33 #[.slice A ls.length cap] w fun e w' => (∃ v, e = .returned (.tuple #[v, .int .i64 (wayErr ls)]) ∧ (wayErr ls = 0 → v = .int .u32 (fromS ls (-1) 0 : Nat))) ∧ Below w.heap.size w w' := by
  have Hc := Lib.hid (check_calls A ls cap w hA hm)
  by_cases h0 : wayErr ls = 0
  · obtain ⟨h1, h8, hv⟩ := wayErr_ok h0
    rw [h0] at Hc ⊢
    have Hf := Lib.hid (fun w' (h : Below w.heap.size w w') => fromS_calls A ls cap w' 0 (-1) (hA.below h) h8 hv (by omega))
    clear hA hv h0
    generalize fromS ls (-1) 0 = s at *
    go_enter Try.func33, Try.ntmps33
    go_wp2_with fail
    refine Hc.out.mono ?_
    rintro e w1 ⟨rfl, hW⟩
    have HW := Lib.hid hW
    have Hf1 := Lib.hid (Hf.out _ hW)
    rw [show ((0 : Nat) : Int) = 0 from rfl] at Hf1
    clear hW
    go_wp2_with fail
    refine Hf1.out.mono ?_
    rintro e w2 ⟨rfl, hW2⟩
    have HW2 := Lib.hid (HW.out.trans (hW2.mono HW.out.size))
    clear hW2
    go_wp2
    go_ret2
    exact ⟨⟨_, rfl, fun _ => rfl⟩, HW2.out⟩
  · have q : (wayErr ls != 0) = true := by rw [bne_iff_ne]; exact h0
    have H0 := Lib.hid h0
    clear hA h0
    generalize wayErr ls = x at *
    go_enter Try.func33, Try.ntmps33
    go_wp2_with fail
    refine Hc.out.mono ?_
    rintro e w1 ⟨rfl, hW⟩
    have HW := Lib.hid hW
    clear hW
    go_wp2
    go_ret2
    exact ⟨⟨_, rfl, fun h => absurd h H0.out⟩, HW.out⟩
/-! ## WayRound, plain -/
theorem edge_edw {ls : List (List Int)} {a b : Nat} : Edge ls (-1) a b ↔ EdW ls a b := by
  unfold Edge EdW
  constructor
  · rintro ⟨l, h1, h2, _⟩
    obtain ⟨ha, e⟩ := List.getElem?_eq_some_iff.1 h1
    exact ⟨ha, by rw [List.getD_eq_getElem?_getD, h1]; exact h2⟩
  · rintro ⟨ha, h⟩
    rw [List.getD_eq_getElem?_getD, List.getElem?_eq_getElem ha] at h
    exact ⟨_, List.getElem?_eq_getElem ha, h, by omega⟩
theorem PIn.comes {ls : List (List Int)} {S : Nat → Prop} {a b : Nat} (h : PIn (EdW ls) S a b) : Comes_ ls (-1) a b := by
  induction h with
  | refl _ => exact Comes_.refl _ _ _
  | step _ e _ ih => exact (Comes_.step (Comes_.refl _ _ _) (edge_edw.2 e)).trans ih
def Rnd (ls : List (List Int)) (i : Nat) : Prop := (fromS ls (-1) 0).testBit i = true ∧ (1 < sizeN (partS ls i) ∨ (i : Int) ∈ ls.getD i [])
theorem posI_in {l : List Nat} {x : Nat} (h : x ∈ l) : posI l x = posD l x := by unfold posI; rw [if_pos h]
theorem posI_nn {l : List Nat} {x : Nat} (h : 0 ≤ posI l x) : x ∈ l := Classical.byContradiction fun hn => by unfold posI at h; rw [if_neg hn] at h; omega
theorem round_iff {ls : List (List Int)} (h1 : 1 ≤ ls.length) (h8 : ls.length ≤ 8) (hv : Valid ls) {l : List Nat} (hL : Left (EdW ls) ls.length l) : (∃ i, i < ls.length ∧ Rnd ls i) ↔ ∃ i j : Nat, i < ls.length ∧ j < ls.length ∧ BkP ls l i j := by
  constructor
  · rintro ⟨i, hi, hr, hc⟩
    refine Classical.byContradiction fun hn => ?_
    have hin : ∀ x, Comes_ ls (-1) 0 x → x ∈ l := Comes_.closed hL.mem0 fun b c hb he => hL.closed hb (edge_edw.1 he)
    have hil := hin i ((fromS_bit h8 hv (by omega) i).1 hr).2
    have hdown : ∀ x y, x ∈ l → EdW ls x y → posD l y < posD l x := fun x y hx he => by
      have hy := hL.closed hx he
      refine Classical.byContradiction fun hlt => hn ⟨x, y, hL.lt x hx, hL.lt y hy, ?_, ?_, he.2⟩
      · rw [posI_in hx]; omega
      · rw [posI_in hx, posI_in hy]; omega
    have hcm : ∀ a, a ∈ l → ∀ b, Comes_ ls (-1) a b → b ∈ l ∧ (b = a ∨ posD l b < posD l a) := fun a ha => Comes_.closed ⟨ha, .inl rfl⟩ fun b c hb he => by
      have h2 := hdown b c hb.1 (edge_edw.1 he)
      refine ⟨hL.closed hb.1 (edge_edw.1 he), .inr ?_⟩
      rcases hb.2 with e | e
      · rw [← e]; exact h2
      · omega
    rcases hc with hc | hc
    · obtain ⟨j, hj, hne, hb⟩ := (size_more (partS_self h8 hi) (by omega)).1 hc
      obtain ⟨_, c1, c2⟩ := (partS_bit h8 i j).1 hb
      obtain ⟨hjl, e1⟩ := hcm i hil j c1
      obtain ⟨_, e2⟩ := hcm j hjl i c2
      rcases e1 with e1 | e1
      · exact hne e1
      · rcases e2 with e2 | e2
        · exact hne e2.symm
        · omega
    · have := hdown i i hil ⟨hi, hc⟩
      omega
  · rintro ⟨i, j, hi, hj, p0, p1, he⟩
    have hil := posI_nn p0
    have hE : EdW ls i j := ⟨hi, he⟩
    have hjl := hL.closed hil hE
    rw [posI_in hil, posI_in hjl] at p1
    have hback := (hL.back hil hE (by omega)).comes
    refine ⟨i, hi, (fromS_bit h8 hv (by omega) i).2 ⟨by omega, (hL.from0 hil).comes⟩, ?_⟩
    by_cases e : j = i
    · subst e; exact .inr he
    · refine .inl ((size_more (partS_self h8 hi) (by omega)).2 ⟨j, by omega, e, (partS_bit h8 i j).2 ⟨hj, Comes_.step (Comes_.refl _ _ _) (edge_edw.2 hE), hback⟩⟩)
end Go.Proofs.Ytljmignfbagomaa
