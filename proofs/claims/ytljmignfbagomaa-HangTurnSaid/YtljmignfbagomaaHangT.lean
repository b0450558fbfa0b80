/- HangTurn: plain law and walk. -/
import Derived.Test.YtljmignfbagomaaHangD
import Derived.Test.YtljmignfbagomaaOwnLL
import Derived.Test.YtljmignfbagomaaRuleC
namespace Go.Proofs.Ytljmignfbagomaa
open Go.RowKit

/-- The end and 0 change places. -/
def swN (e i : Nat) : Nat := if i = 0 then e else if i = e then 0 else i
theorem swN_swN (e i : Nat) : swN e (swN e i) = i := by
  unfold swN; repeat' split
  all_goals omega
theorem swN_inj {e i j : Nat} (h : swN e i = swN e j) : i = j := by rw [← swN_swN e i, h, swN_swN]
theorem swN_lt {e i n : Nat} (he : e < n) (hi : i < n) : swN e i < n := by
  unfold swN; repeat' split
  all_goals omega
theorem swN_zero {e i : Nat} : swN e i = 0 ↔ i = e := by
  unfold swN; constructor <;> (intro h; repeat' split at h) <;> first | omega | (repeat' split) <;> omega
set_option maxHeartbeats 400000 in
theorem name_calls (N e i : Nat) (w : World) (hc : w.cell? ⟨N, 0, none⟩ = some (.int .i64 (e : Nat))) :
    Calls Try.prog 28 #[.int .i64 (i : Nat), .pointer (some ⟨N, 0, none⟩)] w fun x w' => x = .returned (.int .i64 (swN e i : Nat)) ∧ w' = w := by
  unfold swN
  by_cases h0 : i = 0
  · subst h0
    rw [if_pos rfl]
    go_enter Try.func28, Try.ntmps28
    go_wp2
    go_ret
    exact ⟨rfl, rfl⟩
  · rw [if_neg h0]
    by_cases he : i = e
    · subst he
      rw [if_pos rfl]
      have q1 : ((i : Int) == 0) = false := by rw [beq_eq_false_iff_ne]; omega
      go_enter Try.func28, Try.ntmps28
      go_wp2
      go_ret
      exact ⟨rfl, rfl⟩
    · rw [if_neg he]
      have q1 : ((i : Int) == 0) = false := by rw [beq_eq_false_iff_ne]; omega
      have q2 : ((i : Int) == (e : Int)) = false := by rw [beq_eq_false_iff_ne]; omega
      go_enter Try.func28, Try.ntmps28
      go_wp2
      go_ret
      exact ⟨rfl, rfl⟩
theorem mem_trow_ {ls : List (List Int)} {i j : Nat} : (i : Int) ∈ trow ls j ↔ ∃ l, ls[i]? = some l ∧ (j : Int) ∈ l := by
  unfold trow tTo
  rw [List.mem_map]
  constructor
  · rintro ⟨a, ha, e⟩
    have e : a = i := by omega
    subst e
    rw [List.mem_filter, List.mem_range, decide_eq_true_eq] at ha
    refine ⟨ls[a], List.getElem?_eq_getElem ha.1, ?_⟩
    have h := ha.2
    rwa [List.getD_eq_getElem?_getD, List.getElem?_eq_getElem ha.1] at h
  · rintro ⟨l, h1, h2⟩
    obtain ⟨hlt, e⟩ := List.getElem?_eq_some_iff.1 h1
    refine ⟨i, ?_, rfl⟩
    rw [List.mem_filter, List.mem_range, decide_eq_true_eq]
    refine ⟨hlt, ?_⟩
    rw [List.getD_eq_getElem?_getD, h1]
    exact h2
theorem trow_nat {ls : List (List Int)} {j : Nat} {x : Int} (h : x ∈ trow ls j) : ∃ i : Nat, x = i ∧ i < ls.length := by
  unfold trow tTo at h
  rw [List.mem_map] at h
  obtain ⟨a, ha, rfl⟩ := h
  rw [List.mem_filter, List.mem_range] at ha
  exact ⟨a, rfl, ha.1⟩
def swI (e : Nat) (x : Int) : Int := (swN e x.toNat : Nat)
/-- The turned way, renamed: of the first i rows, and of row i the first t. -/
def bkTo (ls : List (List Int)) (e i t : Nat) : List (List Int) := (List.range ls.length).map fun x => if swN e x < i then (trow ls (swN e x)).map (swI e) else if swN e x = i then ((trow ls i).take t).map (swI e) else []
def bk (ls : List (List Int)) (e : Nat) : List (List Int) := bkTo ls e ls.length 0
theorem bkTo_len (ls : List (List Int)) (e i t : Nat) : (bkTo ls e i t).length = ls.length := by simp [bkTo]
theorem bkTo_get {ls : List (List Int)} {e i t x : Nat} (hx : x < ls.length) : (bkTo ls e i t)[x]? = some (if swN e x < i then (trow ls (swN e x)).map (swI e) else if swN e x = i then ((trow ls i).take t).map (swI e) else []) := by
  unfold bkTo
  rw [List.getElem?_map, List.getElem?_range hx]; rfl
theorem bkTo_zero (ls : List (List Int)) (e : Nat) : bkTo ls e 0 0 = List.replicate ls.length [] := by
  refine List.ext_getElem? fun x => ?_
  by_cases hx : x < ls.length
  · rw [bkTo_get hx, List.getElem?_replicate, if_pos hx, if_neg (Nat.not_lt_zero _)]
    split <;> simp
  · rw [List.getElem?_eq_none (by rw [bkTo_len]; omega), List.getElem?_eq_none (by simp; omega)]
theorem bkTo_next {ls : List (List Int)} {e i : Nat} : bkTo ls e i (trow ls i).length = bkTo ls e (i + 1) 0 := by
  refine List.ext_getElem? fun x => ?_
  by_cases hx : x < ls.length
  · rw [bkTo_get hx, bkTo_get hx]
    by_cases h1 : swN e x < i
    · rw [if_pos h1, if_pos (by omega)]
    · by_cases h2 : swN e x = i
      · rw [if_neg h1, if_pos h2, if_pos (by omega), List.take_length, h2]
      · rw [if_neg h1, if_neg h2, if_neg (by omega)]
        split <;> simp
  · rw [List.getElem?_eq_none (by rw [bkTo_len]; omega), List.getElem?_eq_none (by rw [bkTo_len]; omega)]
theorem bkTo_here {ls : List (List Int)} {e i t : Nat} (he : e < ls.length) (hi : i < ls.length) : (bkTo ls e i t)[swN e i]? = some (((trow ls i).take t).map (swI e)) := by
  rw [bkTo_get (swN_lt he hi), swN_swN, if_neg (Nat.lt_irrefl i), if_pos rfl]
theorem bkTo_push {ls : List (List Int)} {e i t : Nat} (he : e < ls.length) (hi : i < ls.length) (ht : t < (trow ls i).length) :
    (bkTo ls e i t).set (swN e i) (((trow ls i).take t).map (swI e) ++ [swI e (trow ls i)[t]]) = bkTo ls e i (t + 1) := by
  refine List.ext_getElem? fun x => ?_
  have hsw := swN_lt he hi
  by_cases hx : x < ls.length
  · rw [List.getElem?_set, bkTo_get hx, bkTo_get hx]
    by_cases h1 : swN e i = x
    · have e1 : swN e x = i := by rw [← h1, swN_swN]
      rw [if_pos h1, if_pos (by rw [bkTo_len, ← h1] at *; exact hsw), e1, if_neg (Nat.lt_irrefl i), if_pos rfl, List.take_succ_eq_append_getElem ht, List.map_append]
      rfl
    · have e1 : swN e x ≠ i := fun h => h1 (by rw [← h, swN_swN])
      rw [if_neg h1, if_neg e1, if_neg e1]
  · rw [List.getElem?_eq_none (by rw [List.length_set, bkTo_len]; omega), List.getElem?_eq_none (by rw [bkTo_len]; omega)]
theorem bk_get {ls : List (List Int)} {e x : Nat} (he : e < ls.length) (hx : x < ls.length) : (bk ls e)[x]? = some ((trow ls (swN e x)).map (swI e)) := by
  unfold bk
  rw [bkTo_get hx, if_pos (swN_lt he hx)]
theorem bk_len (ls : List (List Int)) (e : Nat) : (bk ls e).length = ls.length := bkTo_len _ _ _ _
theorem bk_edge {ls : List (List Int)} {e : Nat} (he : e < ls.length) {a b : Nat} {l : List Int} (h1 : (bk ls e)[a]? = some l) (h2 : (b : Int) ∈ l) : ∃ m, ls[swN e b]? = some m ∧ ((swN e a : Nat) : Int) ∈ m := by
  have ha : a < ls.length := by rw [← bk_len ls e]; exact (List.getElem?_eq_some_iff.1 h1).1
  rw [bk_get he ha] at h1
  injection h1 with h1
  subst h1
  rw [List.mem_map] at h2
  obtain ⟨x, hx, e1⟩ := h2
  obtain ⟨i, rfl, _⟩ := trow_nat hx
  have : swN e i = b := by unfold swI at e1; rw [Int.toNat_natCast] at e1; omega
  rw [← this, swN_swN]
  exact mem_trow_.1 hx
theorem bk_edge' {ls : List (List Int)} {e : Nat} (he : e < ls.length) {a b : Nat} (ha : a < ls.length) {m : List Int} (h1 : ls[b]? = some m) (h2 : (a : Int) ∈ m) : ∃ l, (bk ls e)[swN e a]? = some l ∧ ((swN e b : Nat) : Int) ∈ l := by
  refine ⟨_, bk_get he (swN_lt he ha), ?_⟩
  rw [swN_swN, List.mem_map]
  exact ⟨b, mem_trow_.2 ⟨m, h1, h2⟩, by unfold swI; rw [Int.toNat_natCast]⟩
/-- One comes from the end, backwards, to whom from one comes to the end. -/
theorem bk_comes {ls : List (List Int)} {e : Nat} (he : e < ls.length) (hv : Valid ls) (hend : ls[e]? = some []) (honly : ∀ i, ls[i]? = some [] → i = e) {wo wo' : Int} (hw : ∀ x : Nat, (x : Int) = wo ↔ ((swN e x : Nat) : Int) = wo') (hne : (e : Int) ≠ wo) (i : Nat) :
    Comes_ (bk ls e) wo' 0 (swN e i) ↔ Ends ls wo i := by
  constructor
  · intro h
    have := Comes_.closed (p := fun x => Ends ls wo (swN e x)) (.stop (by unfold swN; rw [if_pos rfl]; exact hend) (by unfold swN; rw [if_pos rfl]; exact hne)) (fun x y hx hed => by
      obtain ⟨l, h1, h2, h3⟩ := hed
      obtain ⟨m, h4, h5⟩ := bk_edge he h1 h2
      exact .go h4 (fun h => h3 (by have := (hw _).1 h; rw [swN_swN] at this; exact this)) h5 hx) _ h
    rwa [swN_swN] at this
  · intro h
    induction h with
    | stop h1 h2 =>
      have := honly _ h1
      subst this
      rw [swN_zero.2 rfl]
      exact Comes_.refl _ _ _
    | go h1 h2 h3 _ ih =>
      have hj := (hv _ (List.mem_of_getElem? h1)).2 _ h3
      obtain ⟨l, h4, h5⟩ := bk_edge' he (by omega) h1 h3
      exact ih.step ⟨l, h4, h5, fun h => h2 ((hw _).2 h)⟩
theorem ends_self {ls : List (List Int)} {e : Nat} (honly : ∀ i, ls[i]? = some [] → i = e) (i : Nat) : ¬ Ends ls (e : Int) i := fun h => by
  induction h with
  | stop h1 h2 => exact h2 (by rw [honly _ h1])
  | go _ _ _ _ ih => exact ih
/-- Whom one is sure of is who rules one, turned round. -/
theorem bk_same {ls : List (List Int)} {e : Nat} (he : e < ls.length) (h8 : ls.length ≤ 8) (hv : Valid ls) (hvb : Valid (bk ls e)) (hend : ls[e]? = some []) (honly : ∀ i, ls[i]? = some [] → i = e) {i k : Nat} (hi : i < ls.length) (hk : k < ls.length) :
    (lastS ls i).testBit k = (domS (bk ls e) (swN e i)).testBit (swN e k) := by
  rw [Bool.eq_iff_iff, lastS_bit h8, domS_bit (by rw [bk_len]; omega) (by rw [bk_len]; exact h8) hvb]
  have hA := bk_comes he hv hend honly (wo := -1) (wo' := -1) (fun x => by omega) (by omega) i
  unfold Dom Rch
  rw [hA]
  by_cases hke : k = e
  · subst hke
    rw [swN_zero.2 rfl]
    exact ⟨fun h => ⟨h.2.1, Or.inl rfl⟩, fun h => ⟨hk, h.1, ends_self honly i⟩⟩
  · have hB := bk_comes he hv hend honly (wo := (k : Int)) (wo' := ((swN e k : Nat) : Int)) (fun x => by
      constructor
      · intro h; have : x = k := by omega
        rw [this]
      · intro h; have : swN e x = swN e k := by omega
        rw [swN_inj this]) (by omega) i
    rw [hB]
    have hz : swN e k ≠ 0 := fun h => hke (swN_zero.1 h)
    exact ⟨fun h => ⟨h.2.1, Or.inr h.2.2⟩, fun h => ⟨hk, h.1, h.2.resolve_left hz⟩⟩
/-- What the first loop knows of the ends among the first k nodes. -/
def OneEnd (ls : List (List Int)) (k : Nat) (E : Int) : Prop :=
  (E = -1 ∧ ∀ i, i < k → ls[i]? ≠ some []) ∨ ∃ e : Nat, E = e ∧ e < k ∧ ls[e]? = some [] ∧ ∀ i, i < k → ls[i]? = some [] → i = e
theorem OneEnd.first (ls : List (List Int)) : OneEnd ls 0 (-1) := Or.inl ⟨rfl, fun i h => by omega⟩
theorem OneEnd.skip {ls : List (List Int)} {k : Nat} {E : Int} (h : OneEnd ls k E) (hk : ls[k]? ≠ some []) : OneEnd ls (k + 1) E := by
  rcases h with ⟨h1, h2⟩ | ⟨e, h1, h2, h3, h4⟩
  · refine Or.inl ⟨h1, fun i hi h => ?_⟩
    by_cases e : i = k
    · subst e; exact hk h
    · exact h2 i (by omega) h
  · refine Or.inr ⟨e, h1, by omega, h3, fun i hi h => ?_⟩
    by_cases e' : i = k
    · subst e'; exact absurd h hk
    · exact h4 i (by omega) h
theorem OneEnd.push {ls : List (List Int)} {k : Nat} {E : Int} (h : OneEnd ls k E) (hE : E < 0) (hk : ls[k]? = some []) : OneEnd ls (k + 1) k := by
  rcases h with ⟨h1, h2⟩ | ⟨e, h1, h2, h3, h4⟩
  · refine Or.inr ⟨k, rfl, by omega, hk, fun i hi h => ?_⟩
    by_cases e : i = k
    · exact e
    · exact absurd h (h2 i (by omega))
  · omega
end Go.Proofs.Ytljmignfbagomaa
