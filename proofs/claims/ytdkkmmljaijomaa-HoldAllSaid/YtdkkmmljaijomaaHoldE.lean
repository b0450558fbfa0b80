/- hold.wrong, Lru, Fifo, Min. -/
import Derived.Test.YtdkkmmljaijomaaHoldD
namespace Go.Proofs.Ytdkkmmljaijomaa
open Go.RowKit

theorem first_calls (k : Int) (v : Value) (w : World) : Calls Try.prog 35 #[.int .i64 k, v] w fun e w' => e = .returned (.int .i64 0) ∧ w' = w := by
  go_enter Try.func35, Try.ntmps35
  go_wp2
  go_ret
  exact ⟨rfl, rfl⟩
/-- When a thing is asked for next. -/
def nxt (R : List Int) (n : Nat) (x : Int) : Nat := if x ∈ R then R.idxOf x else n
theorem idxOf_get_le : ∀ (l : List Int) (i : Nat) (h : i < l.length), l.idxOf l[i] ≤ i
  | [], i, h => absurd h (by simp)
  | a :: l, 0, h => by simp
  | a :: l, i + 1, h => by
    simp only [List.getElem_cons_succ, List.idxOf_cons]
    have := idxOf_get_le l i (by simpa using h)
    cases (a == l[i]'(by simpa using h))
    · show _ + 1 ≤ i + 1; omega
    · exact Nat.zero_le _
theorem far_of {R S : List Int} {n b : Nat} (hR : R.length ≤ n) (hb : b < S.length) (h : ∀ j (hj : j < S.length), nxt R n S[j] ≤ nxt R n S[b]) : Far R S b := by
  refine ⟨hb, fun T hT y hy => ?_⟩
  obtain ⟨j, hj, rfl⟩ := List.getElem_of_mem hy
  have h1 := h j hj
  have key : ∀ x : Int, x ∈ R.take T ↔ nxt R n x < T ∧ nxt R n x < R.length := fun x => by
    unfold nxt
    constructor
    · intro hx
      have hxR := List.mem_of_mem_take hx
      rw [if_pos hxR]
      refine ⟨?_, List.idxOf_lt_length_iff.2 hxR⟩
      obtain ⟨i, hi, e⟩ := List.getElem_of_mem hx
      rw [List.length_take] at hi
      rw [List.getElem_take] at e
      have h2 : R.idxOf x ≤ i := by
        rw [← e]; exact idxOf_get_le R i _
      omega
    · rintro ⟨h1, h2⟩
      split at h1
      · rename_i hxR
        have h3 := List.idxOf_lt_length_iff.2 hxR
        have h4 : R[R.idxOf x] = x := List.getElem_idxOf h3
        rw [← h4, List.mem_iff_getElem]
        exact ⟨R.idxOf x, by rw [List.length_take]; omega, by rw [List.getElem_take]⟩
      · rename_i hxR
        rw [if_neg hxR] at h2; omega
  rw [key] at hT ⊢
  omega
/-- The best of the first t of S. -/
def BestTo (R S : List Int) (n t b : Nat) (f : Int) : Prop := (t = 0 → b = 0 ∧ f = -1) ∧ (0 < t → ∃ hb : b < S.length, f = nxt R n S[b] ∧ ∀ j (hj : j < S.length), j < t → (nxt R n S[j] : Int) ≤ f)
theorem BestTo.keep {R S : List Int} {n t b : Nat} {f : Int} (h : BestTo R S n t b f) (ht : t < S.length) (hn : ¬ f < nxt R n S[t]) : BestTo R S n (t + 1) b f := by
  refine ⟨by omega, fun _ => ?_⟩
  rcases Nat.eq_zero_or_pos t with h0 | h0
  · have := (h.1 h0).2; omega
  · obtain ⟨hb, h1, h2⟩ := h.2 h0
    refine ⟨hb, h1, fun j hj hlt => ?_⟩
    rcases Nat.lt_or_ge j t with h3 | h3
    · exact h2 j hj h3
    · have : j = t := by omega
      subst this; omega
theorem BestTo.turn {R S : List Int} {n t b : Nat} {f : Int} (h : BestTo R S n t b f) (ht : t < S.length) (hn : f < nxt R n S[t]) : BestTo R S n (t + 1) t (nxt R n S[t]) := by
  refine ⟨by omega, fun _ => ⟨ht, rfl, fun j hj hlt => ?_⟩⟩
  rcases Nat.lt_or_ge j t with h3 | h3
  · obtain ⟨_, _, h2⟩ := h.2 (by omega)
    have := h2 j hj h3; omega
  · have : j = t := by omega
    subst this; omega
set_option maxHeartbeats 4000000 in
theorem minGoes_calls (Bx : Nat) (A B : Option Addr) (refs S : List Int) (cap c k : Nat) (w : World) (hbox : w.cell? ⟨Bx, 0, none⟩ = some (.slice A refs.length cap)) (hA : RdI w A refs) (h40 : refs.length ≤ 100) (hcap : refs.length ≤ cap)
    (hB : RdI w B S) (hS : 1 ≤ S.length) (hS8 : S.length ≤ 100) (hk : k < refs.length) :
    Calls Try.prog 36 #[.int .i64 k, .slice B S.length c, .pointer (some ⟨Bx, 0, none⟩)] w fun e w' => ∃ i : Nat, e = .returned (.int .i64 i) ∧ i < S.length ∧ Far (refs.drop k) S i ∧ w' = w := by
  obtain ⟨b0, off0, rfl, hb0, hc0⟩ := hA (by omega)
  have hR : RdI w (some ⟨b0, off0 + k, none⟩) (refs.drop k) := fun _ => ⟨b0, off0 + k, rfl, hb0, fun j x hx t ht => by
    rw [List.getElem?_drop] at hx
    have := hc0 (k + j) x hx t ht
    rw [← this]; congr 2; omega⟩
  have HR := Lib.hid hR
  have HB := Lib.hid hB
  have Hdl := Lib.hid (show (refs.drop k).length = refs.length - k by simp)
  have Hfar := Lib.hid (fun (b : Nat) (hb : b < S.length) h => far_of (R := refs.drop k) (n := refs.length) (by simp) hb h)
  clear hc0 hR hB
  obtain ⟨R, hRe⟩ : ∃ R, R = refs.drop k := ⟨_, rfl⟩
  rw [← hRe] at HR Hdl Hfar ⊢
  clear hRe
  have Hix := Lib.hid (fun (x : Int) (w' : World) (h : RdI w' (some ⟨b0, off0 + k, none⟩) R) => indexI_calls (some ⟨b0, off0 + k, none⟩) R (cap - k) x w' h (by rw [Hdl.out]; unfold maxLen; omega))
  rw [Hdl.out] at Hix
  go_enter Try.func36, Try.ntmps36
  go_wp2
  go_loop [6, 7, 13] (fun b f i => ∃ (t b' : Nat) (f' : Int), t ≤ S.length ∧ i = .int .i64 t ∧ b = .int .i64 b' ∧ f = .int .i64 f' ∧ b' < S.length ∧ f' ≤ 1000 ∧ Hid (BestTo R S refs.length t b' f')) (fun _ _ i => S.length - (intOf i).toNat)
  case atStart => exact ⟨0, 0, -1, Nat.zero_le _, rfl, rfl, rfl, by omega, by omega, Lib.hid ⟨fun _ => ⟨rfl, rfl⟩, fun h => by omega⟩⟩
  case round =>
    obtain ⟨t, b', f', ht, rfl, rfl, rfl, hb', hf', hP⟩ := hrel
    by_cases hlt : t < S.length
    · obtain ⟨b1, off1, rfl, hb1, c1⟩ := RdI.at1 HB.out hlt
      have Hk := Lib.hid (fun h => hP.out.keep hlt h)
      have Ht := Lib.hid (fun h => hP.out.turn hlt h)
      have hnx : nxt R refs.length S[t] ≤ refs.length := by
        unfold nxt
        split
        · rename_i hh
          have := List.idxOf_lt_length_iff.2 hh
          rw [Hdl.out] at this; omega
        · omega
      clear hP
      by_cases hin : S[t] ∈ R
      · have e : nxt R refs.length S[t] = R.idxOf S[t] := by unfold nxt; rw [if_pos hin]
        have Hi := Lib.hid (idxOf_yes hin)
        rw [e] at Hk Ht hnx
        clear hin e
        generalize R.idxOf S[t] = j at *
        generalize S[t] = x at *
        by_cases hc : f' < (j : Int)
        · have Ht2 := Lib.hid (Ht.out hc)
          clear Ht Hk
          go_wp2_with (go_at_call 37; refine (Hix.out _ _ HR.out).mono ?_; rintro e w3 ⟨rfl, rfl⟩; rw [Hi.out])
          all_goals first
            | (exfalso; omega)
            | (go_round
               case rel => exact ⟨t + 1, t, j, by omega, by go_num, rfl, rfl, by omega, by omega, Ht2⟩
               case measure => simp [intOf]; omega)
        · have Hk2 := Lib.hid (Hk.out hc)
          clear Ht Hk
          go_wp2_with (go_at_call 37; refine (Hix.out _ _ HR.out).mono ?_; rintro e w3 ⟨rfl, rfl⟩; rw [Hi.out])
          all_goals first
            | (exfalso; omega)
            | (go_round
               case rel => exact ⟨t + 1, b', f', by omega, by go_num, rfl, rfl, hb', hf', Hk2⟩
               case measure => simp [intOf]; omega)
      · have e : nxt R refs.length S[t] = refs.length := by unfold nxt; rw [if_neg hin]
        have Hi := Lib.hid (idxOf_no hin)
        rw [e] at Hk Ht hnx
        clear hin e hnx
        generalize S[t] = x at *
        by_cases hc : f' < (refs.length : Int)
        · have Ht2 := Lib.hid (Ht.out hc)
          clear Ht Hk
          go_wp2_with (go_at_call 37; refine (Hix.out _ _ HR.out).mono ?_; rintro e w3 ⟨rfl, rfl⟩; rw [Hi.out])
          all_goals first
            | (exfalso; omega)
            | (go_round
               case rel => exact ⟨t + 1, t, _, by omega, by go_num, rfl, rfl, by omega, by omega, Ht2⟩
               case measure => simp [intOf]; omega)
        · have Hk2 := Lib.hid (Hk.out hc)
          clear Ht Hk
          go_wp2_with (go_at_call 37; refine (Hix.out _ _ HR.out).mono ?_; rintro e w3 ⟨rfl, rfl⟩; rw [Hi.out])
          all_goals first
            | (exfalso; omega)
            | (go_round
               case rel => exact ⟨t + 1, b', f', by omega, by go_num, rfl, rfl, hb', hf', Hk2⟩
               case measure => simp [intOf]; omega)
    · have : t = S.length := by omega
      subst this
      have Hend := Lib.hid (Hfar.out b' hb' (by
        obtain ⟨_, h1, h2⟩ := hP.out.2 (by omega)
        intro j hj
        have := h2 j hj hj
        omega))
      clear hP
      go_wp2
      go_ret
      exact ⟨b', rfl, hb', Hend.out, rfl⟩
end Go.Proofs.Ytdkkmmljaijomaa
