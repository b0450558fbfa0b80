/- rule.Edge, rule.Meet. -/
import Derived.Test.YtljmignfbagomaaEdgeA
namespace Go.Proofs.Ytljmignfbagomaa
open Go.RowKit

set_option maxHeartbeats 1000000 in
theorem edge_bad (A : Option Addr) (ls : List (List Int)) (cap : Nat) (w : World) (hA : RdN w A ls) (hm : ls.length ≤ maxLen) (h0 : wayErr ls ≠ 0) :
    Calls Try.prog 50 #[.slice A ls.length cap] w fun e w' => e = .returned (.tuple #[.slice none 0 0, .int .i64 (wayErr ls)]) ∧ Below w.heap.size w w' := by
  have HA := Lib.hid hA; clear hA
  have hd : (wayErr ls != 0) = true := by simpa using h0
  clear h0
  go_enter Try.func50, Try.ntmps50
  go_wp2_with (go_at_call 44; refine (check_calls _ _ _ _ HA.out hm).mono ?_; rintro e w1 ⟨rfl, hW⟩; have HW := Lib.hid hW; clear hW)
  go_ret2
  exact ⟨rfl, HW.out⟩
set_option maxHeartbeats 1000000 in
theorem edge_ok (A : Option Addr) (ls : List (List Int)) (cap : Nat) (w : World) (hA : RdN w A ls) (h0 : wayErr ls = 0) :
    Calls Try.prog 50 #[.slice A ls.length cap] w fun e w' => ∃ v, e = .returned (.tuple #[v, .int .i64 0]) ∧ OwnU w' w.heap.size 29 v (edgesL ls) ∧ Below w.heap.size w w' := by
  have h8 := (valid_of h0).2.1
  have HA := Lib.hid hA; clear hA
  have H0 := Lib.hid h0; clear h0
  go_enter Try.func50, Try.ntmps50
  go_wp2_with (first
    | (go_at_call 44; refine (check_calls _ _ _ _ HA.out (by unfold maxLen; omega)).mono ?_; rintro e w1 ⟨rfl, hW⟩; rw [H0.out]; have HW := Lib.hid hW; clear hW)
    | (go_at_call 63; refine (edges_calls _ _ _ _ (RdN.below HA.out HW.out) H0.out).mono ?_; rintro e w2 ⟨v, rfl, hown, hW2⟩; have Hown := Lib.hid hown; have HW2 := Lib.hid hW2; clear hown hW2))
  go_ret2
  exact ⟨v, rfl, Hown.out.base_ HW.out.size, HW.out.trans (HW2.out.mono HW.out.size)⟩

/-- One goes from the set s along the rows, one step or more. -/
inductive MeetF (ls : List (List Int)) (s : Nat) : Nat → Prop
  | one {i j : Nat} : i < ls.length → s.testBit i = true → (edgeS ls i).testBit j = true → MeetF ls s j
  | more {i j : Nat} : i < ls.length → MeetF ls s i → (edgeS ls i).testBit j = true → MeetF ls s j
noncomputable def meetS (ls : List (List Int)) (s : Nat) : Nat := setN (MeetF ls s)
theorem edgeS_lt (ls : List (List Int)) (i : Nat) : edgeS ls i < 256 := setN_lt _
theorem MeetF.lt {ls : List (List Int)} {s j : Nat} (h : MeetF ls s j) : j < 8 := by
  cases h with
  | one _ _ h => exact bit_lt (n := 8) (edgeS_lt _ _) h
  | more _ _ h => exact bit_lt (n := 8) (edgeS_lt _ _) h
theorem meetS_bit (ls : List (List Int)) (s j : Nat) : (meetS ls s).testBit j = true ↔ MeetF ls s j := by
  unfold meetS
  rw [setN_bit]
  exact ⟨fun h => h.2, fun h => ⟨h.lt, h⟩⟩
theorem meetS_lt (ls : List (List Int)) (s : Nat) : meetS ls s < 256 := setN_lt _
theorem MeetF.mono {ls : List (List Int)} {s t j : Nat} (h : MeetF ls s j) (hst : ∀ i, s.testBit i = true → t.testBit i = true) : MeetF ls t j := by
  induction h with
  | one h1 h2 h3 => exact .one h1 (hst _ h2) h3
  | more h1 _ h3 ih => exact .more h1 ih h3
/-- CYTRON and others: of a union the union. -/
theorem meetS_or (ls : List (List Int)) (a b : Nat) : meetS ls (a ||| b) = meetS ls a ||| meetS ls b := set_ext fun j => by
  rw [Bool.eq_iff_iff, Nat.testBit_or, Bool.or_eq_true, meetS_bit, meetS_bit, meetS_bit]
  constructor
  · intro h
    induction h with
    | one h1 h2 h3 =>
      rw [Nat.testBit_or, Bool.or_eq_true] at h2
      exact h2.imp (fun h => .one h1 h h3) (fun h => .one h1 h h3)
    | more h1 _ h3 ih => exact ih.imp (fun h => .more h1 h h3) (fun h => .more h1 h h3)
  · rintro (h | h)
    · exact h.mono fun i hi => by rw [Nat.testBit_or, hi]; rfl
    · exact h.mono fun i hi => by rw [Nat.testBit_or, hi, Bool.or_true]
theorem meetS_again (ls : List (List Int)) (a : Nat) : meetS ls (a ||| meetS ls a) = meetS ls a := set_ext fun j => by
  rw [Bool.eq_iff_iff, meetS_bit, meetS_bit]
  constructor
  · intro h
    induction h with
    | one h1 h2 h3 =>
      rw [Nat.testBit_or, Bool.or_eq_true, meetS_bit] at h2
      rcases h2 with h2 | h2
      · exact .one h1 h2 h3
      · exact .more h1 h2 h3
    | more h1 _ h3 ih => exact .more h1 ih h3
  · exact fun h => h.mono fun i hi => by rw [Nat.testBit_or, hi]; rfl

/-- Within a pass that began at the set was: now out, the rows below k are done. -/
structure Mp (ls : List (List Int)) (s was out k : Nat) : Prop where
  sound : ∀ j, out.testBit j = true → MeetF ls s j
  sup : ∀ j, was.testBit j = true → out.testBit j = true
  done : ∀ i, i < k → i < ls.length → (s ||| was).testBit i = true → ∀ j, (edgeS ls i).testBit j = true → out.testBit j = true
theorem Mp.skip {ls : List (List Int)} {s was out k : Nat} (h : Mp ls s was out k) (hb : (s ||| out).testBit k = false) : Mp ls s was out (k + 1) :=
  ⟨h.sound, h.sup, fun i hi hil hs j hj => by
    rcases Nat.lt_or_ge i k with h1 | h1
    · exact h.done i h1 hil hs j hj
    · have : i = k := by omega
      subst this
      rw [Nat.testBit_or, Bool.or_eq_false_iff] at hb
      rw [Nat.testBit_or, Bool.or_eq_true] at hs
      rcases hs with h2 | h2
      · rw [hb.1] at h2; cases h2
      · rw [h.sup i h2] at hb; cases hb.2⟩
theorem Mp.push {ls : List (List Int)} {s was out k : Nat} (h : Mp ls s was out k) (hk : k < ls.length) (hb : (s ||| out).testBit k = true) : Mp ls s was (out ||| edgeS ls k) (k + 1) :=
  ⟨fun j hj => by
    rw [Nat.testBit_or, Bool.or_eq_true] at hj hb
    rcases hj with h1 | h1
    · exact h.sound j h1
    · rcases hb with h2 | h2
      · exact .one hk h2 h1
      · exact .more hk (h.sound k h2) h1, fun j hj => by rw [Nat.testBit_or, h.sup j hj]; rfl, fun i hi hil hs j hj => by
    rw [Nat.testBit_or, Bool.or_eq_true]
    rcases Nat.lt_or_ge i k with h1 | h1
    · exact Or.inl (h.done i h1 hil hs j hj)
    · have : i = k := by omega
      subst this
      exact Or.inr hj⟩
theorem Mp.finish {ls : List (List Int)} {s out : Nat} (h : Mp ls s out out ls.length) : out = meetS ls s := set_ext fun j => by
  rw [Bool.eq_iff_iff, meetS_bit]
  refine ⟨h.sound j, fun hm => ?_⟩
  induction hm with
  | one h1 h2 h3 => exact h.done _ h1 h1 (by rw [Nat.testBit_or, h2]; rfl) _ h3
  | more h1 _ h3 ih => exact h.done _ h1 h1 (by rw [Nat.testBit_or, ih, Bool.or_true]) _ h3
theorem Mp.fits {ls : List (List Int)} {s was out k : Nat} (h : Mp ls s was out k) : out < 256 := lt_pow_of_bits (n := 8) fun j hj => (h.sound j hj).lt
end Go.Proofs.Ytljmignfbagomaa
