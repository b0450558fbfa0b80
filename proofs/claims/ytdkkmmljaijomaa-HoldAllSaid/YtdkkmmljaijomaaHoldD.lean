/- hold.play walked, by a choice that reads only. -/
import Derived.Test.YtdkkmmljaijomaaHoldC
import Derived.Outline
namespace Go.Proofs.Ytdkkmmljaijomaa
open Go.RowKit

/-- Before it is over one must go. -/
inductive Stuck (again : Bool) (P : Nat) : List Int → List Int → Prop
  | hit {r : Int} {rest S : List Int} (h : r ∈ S) (k : Stuck again P rest (if again then S.erase r ++ [r] else S)) : Stuck again P (r :: rest) S
  | room {r : Int} {rest S : List Int} (h : r ∉ S) (hl : S.length ≠ P) (k : Stuck again P rest (S ++ [r])) : Stuck again P (r :: rest) S
  | stop {r : Int} {rest S : List Int} (h : r ∉ S) (hl : S.length = P) : Stuck again P (r :: rest) S
theorem len_eraseIdx_ {S : List Int} {i : Nat} (h : i < S.length) : (S.eraseIdx i).length + 1 = S.length := by rw [List.length_eraseIdx, if_pos h]; omega
/-- What holds of S and m when k of refs are over. -/
structure Pl (again : Bool) (P : Nat) (pick : List Int → List Int → Nat → Prop) (refs : List Int) (k : Nat) (S : List Int) (m : Nat) : Prop where
  len : S.length ≤ P
  nodup : S.Nodup
  mle : m ≤ k
  run : ∀ m', Runs again P pick (refs.drop k) S m' → Runs again P pick refs [] (m + m')
  stuck : Stuck again P (refs.drop k) S → Stuck again P refs []
section
variable {again : Bool} {P : Nat} {pick : List Int → List Int → Nat → Prop} {refs : List Int} {k : Nat} {S : List Int} {m : Nat}
theorem Pl.first (again : Bool) (P : Nat) (pick : List Int → List Int → Nat → Prop) (refs : List Int) : Pl again P pick refs 0 [] 0 :=
  ⟨Nat.zero_le _, by simp, Nat.le_refl _, fun m' h => by rw [Nat.zero_add]; exact h, fun h => h⟩
theorem Pl.hit0 (h : Pl false P pick refs k S m) (hk : k < refs.length) (hr : refs[k] ∈ S) : Pl false P pick refs (k + 1) S m :=
  ⟨h.len, h.nodup, by have := h.mle; omega, fun m' h' => h.run m' (by rw [List.drop_eq_getElem_cons hk]; exact .hit hr h'), fun h' => h.stuck (by rw [List.drop_eq_getElem_cons hk]; exact .hit hr h')⟩
theorem Pl.hit1 (h : Pl true P pick refs k S m) (hk : k < refs.length) (hr : refs[k] ∈ S) : Pl true P pick refs (k + 1) (S.eraseIdx (S.idxOf refs[k]) ++ [refs[k]]) m := by
  have e : S.eraseIdx (S.idxOf refs[k]) = S.erase refs[k] := by rw [List.erase_eq_eraseIdx_of_idxOf rfl]
  rw [e]
  refine ⟨by have := len_erase_mem hr; have := h.len; simp; omega, Runs.nodup_again h.nodup, by have := h.mle; omega, fun m' h' => h.run m' (by rw [List.drop_eq_getElem_cons hk]; exact .hit hr h'), fun h' => h.stuck (by rw [List.drop_eq_getElem_cons hk]; exact .hit hr h')⟩
theorem Pl.room (h : Pl again P pick refs k S m) (hk : k < refs.length) (hr : refs[k] ∉ S) (hl : S.length ≠ P) : Pl again P pick refs (k + 1) (S ++ [refs[k]]) (m + 1) :=
  ⟨by have := h.len; simp; omega, nodup_snoc h.nodup hr, by have := h.mle; omega, fun m' h' => by
    rw [show m + 1 + m' = m + (m' + 1) by omega]
    exact h.run _ (by rw [List.drop_eq_getElem_cons hk]; exact .room hr hl h'), fun h' => h.stuck (by rw [List.drop_eq_getElem_cons hk]; exact .room hr hl h')⟩
theorem Pl.goes (h : Pl again P pick refs k S m) (hk : k < refs.length) (hr : refs[k] ∉ S) (hl : S.length = P) {i : Nat} (hi : i < S.length) (hp : pick (refs.drop k) S i) : Pl again P pick refs (k + 1) (S.eraseIdx i ++ [refs[k]]) (m + 1) :=
  ⟨by have := len_eraseIdx_ hi; simp; omega, nodup_snoc (nodup_eraseIdx h.nodup i) (fun hx => hr (mem_eraseIdx_ hx)), by have := h.mle; omega, fun m' h' => by
    rw [show m + 1 + m' = m + (m' + 1) by omega]
    exact h.run _ (by rw [List.drop_eq_getElem_cons hk]; exact .goes hr hl hi (by rw [← List.drop_eq_getElem_cons hk]; exact hp) h'), fun _ => h.stuck (by rw [List.drop_eq_getElem_cons hk]; exact .stop hr hl)⟩
theorem Pl.end_ (h : Pl again P pick refs refs.length S m) : Runs again P pick refs [] m := by
  have := h.run 0 (by rw [List.drop_length]; exact .done S)
  rwa [Nat.add_zero] at this
end

set_option maxHeartbeats 8000000 in
theorem play_calls (again : Bool) (P : Nat) (pick : List Int → List Int → Nat → Prop) (gid : FuncId) (caps : Array Value) (A : Option Addr) (refs : List Int) (cap : Nat) (w : World) (hA : RdI w A refs) (h40 : refs.length ≤ 100) (hP : 1 ≤ P) (hP8 : P ≤ 100)
    (hcf : ∀ (args : Array Value) (w : World), Sem.run Try.prog (callFunc gid args) w = .ok (.enter gid args) w)
    (hgo : ∀ (wr : World) (k : Nat) (S : List Int) (B : Option Addr) (c : Nat), Below w.heap.size w wr → RdI wr B S → S.length = P → k < refs.length → Calls Try.prog gid (#[.int .i64 k, .slice B S.length c] ++ caps) wr fun e w' => ∃ i : Nat, e = .returned (.int .i64 i) ∧ i < S.length ∧ pick (refs.drop k) S i ∧ w' = wr) :
    Calls Try.prog 34 #[.slice A refs.length cap, .int .i64 P, .bool again, .func (.func gid) #[] caps] w fun e w' => ∃ m : Nat, e = .returned (.int .i64 m) ∧ m ≤ refs.length ∧ Runs again P pick refs [] m ∧ Below w.heap.size w w' := by
  have HA := Lib.hid hA; clear hA
  have HG := Lib.hid hgo; clear hgo
  go_enter Try.func34, Try.ntmps34
  go_wp2
  go_loopw [9, 10, 17] (fun th ms i wr => ∃ (k : Nat) (S : List Int) (m : Nat), k ≤ refs.length ∧ i = .int .i64 k ∧ ms = .int .i64 m ∧ OwnI wr w.heap.size 3 th S ∧ Hid (Pl again P pick refs k S m) ∧ Below w.heap.size w wr) (fun _ _ i _ => refs.length - (intOf i).toNat)
  case atStart => exact ⟨0, [], 0, Nat.zero_le _, rfl, rfl, Own.nil_ _ _ _, Lib.hid (Pl.first again P pick refs), Below.refl _ _⟩
  case round =>
    obtain ⟨k, S, m, hk, rfl, rfl, hown, hPl, hW⟩ := hrel
    have HW := Lib.hid hW
    have Hown := Lib.hid hown
    have hw2 := hW.size
    have hmk := hPl.out.mle
    have hSP := hPl.out.len
    by_cases hlt : k < refs.length
    · obtain ⟨B, c, rfl, hR, _, hc⟩ := hown.form intCells_len
      obtain ⟨b0, off0, rfl, hb0, c0⟩ := RdI.at1 (Rd.below HA.out hW) hlt
      have HR := Lib.hid hR
      clear hR hown hW
      by_cases hr : refs[k] ∈ S
      · have Hix := Lib.hid (idxOf_yes hr)
        have hix : S.idxOf refs[k] < S.length := List.idxOf_lt_length_iff.2 hr
        cases again
        · have Hst := Lib.hid (hPl.out.hit0 hlt hr)
          clear hr
          generalize S.idxOf refs[k] = j at *
          generalize refs[k] = r at *
          go_wp2_with (go_at_call 37; refine (indexI_calls _ _ _ _ _ HR.out (by unfold maxLen; omega)).mono ?_; rintro e w3 ⟨rfl, rfl⟩; rw [Hix.out])
          go_roundw
          case rel => exact ⟨k + 1, S, m, by omega, by go_num, rfl, Hown.out, Hst, HW.out⟩
          case measure => simp [intOf]; omega
        · have Hst := Lib.hid (hPl.out.hit1 hlt hr)
          have hlen := len_eraseIdx_ hix
          clear hr
          generalize S.idxOf refs[k] = j at *
          generalize refs[k] = r at *
          go_wp2_with (first
            | (go_at_call 37; refine (indexI_calls _ _ _ _ _ HR.out (by unfold maxLen; omega)).mono ?_; rintro e w3 ⟨rfl, rfl⟩; rw [Hix.out])
            | (go_at_call 51; refine (deleteI_calls w.heap.size _ _ j _ Hown.out hix).mono ?_; rintro e w4 ⟨v4, rfl, hown4, hs4, hB4⟩; have HB4 := Lib.hid (hB4 w.heap.size w (Nat.le_refl _) HW.out); have Hown4 := Lib.hid hown4; clear hB4 hown4)
            | (at_builtin; refine wpList_appI rfl _ _ rfl w.heap.size _ _ r rfl (Hown4.out.alloc _) _ _ rfl (cell_new _ _ _ _ rfl _) (by omega) (by simp; omega) ?_; intro v5 w5 hown5 hgrow5))
          have HB5 := Lib.hid (below_own (HB4.out.alloc (by omega) _) hgrow5 (Hown4.out.alloc _) (Nat.le_refl _) (by simp; omega))
          have Hown5 := Lib.hid hown5
          clear hown5 hgrow5
          go_roundw
          case rel => exact ⟨k + 1, _, m, by omega, by go_num, rfl, Hown5.out, Hst, HB5.out⟩
          case measure => simp [intOf]; omega
      · have Hix := Lib.hid (idxOf_no hr)
        by_cases hfull : S.length = P
        · have q : ((S.length : Int) == (P : Int)) = true := by rw [beq_iff_eq, hfull]
          have Hst := Lib.hid (fun (i : Nat) (h1 : i < S.length) h2 => hPl.out.goes hlt hr hfull h1 h2)
          have Hf := Lib.hid hfull
          clear hr hfull
          generalize refs[k] = r at *
          go_wp2_with (go_at_call 37; refine (indexI_calls _ _ _ _ _ HR.out (by unfold maxLen; omega)).mono ?_; rintro e w3 ⟨rfl, rfl⟩; rw [Hix.out])
          refine (HG.out _ k S _ c HW.out HR.out Hf.out hlt).mono ?_
          rintro e w6 ⟨i, rfl, hi, hp, rfl⟩
          have Hst2 := Lib.hid (Hst.out i hi hp)
          have hlen := len_eraseIdx_ hi
          clear hp Hst
          go_wp2_with (first
            | (go_at_call 51; refine (deleteI_calls w.heap.size _ _ i _ Hown.out hi).mono ?_; rintro e w4 ⟨v4, rfl, hown4, hs4, hB4⟩; have HB4 := Lib.hid (hB4 w.heap.size w (Nat.le_refl _) HW.out); have Hown4 := Lib.hid hown4; clear hB4 hown4)
            | (at_builtin; refine wpList_appI rfl _ _ rfl w.heap.size _ _ r rfl (Hown4.out.alloc _) _ _ rfl (cell_new _ _ _ _ rfl _) (by omega) (by simp; omega) ?_; intro v5 w5 hown5 hgrow5))
          all_goals first
            | (exfalso; omega)
            | (have HB5 := Lib.hid (below_own (HB4.out.alloc (by omega) _) hgrow5 (Hown4.out.alloc _) (Nat.le_refl _) (by simp; omega))
               have Hown5 := Lib.hid hown5
               clear hown5 hgrow5
               go_roundw
               case rel => exact ⟨k + 1, _, m + 1, by omega, by go_num, by go_num, Hown5.out, Hst2, HB5.out⟩
               case measure => simp [intOf]; omega)
        · have q : ((S.length : Int) == (P : Int)) = false := by rw [beq_eq_false_iff_ne]; omega
          have Hst2 := Lib.hid (hPl.out.room hlt hr hfull)
          clear hr hfull
          generalize refs[k] = r at *
          go_wp2_with (first
            | (go_at_call 37; refine (indexI_calls _ _ _ _ _ HR.out (by unfold maxLen; omega)).mono ?_; rintro e w3 ⟨rfl, rfl⟩; rw [Hix.out])
            | (at_builtin; refine wpList_appI rfl _ _ rfl w.heap.size _ _ r rfl (Hown.out.alloc _) _ _ rfl (cell_new _ _ _ _ rfl _) (by omega) (by simp; omega) ?_; intro v5 w5 hown5 hgrow5))
          have HB5 := Lib.hid (below_own (HW.out.alloc (by omega) _) hgrow5 (Hown.out.alloc _) (Nat.le_refl _) (by simp; omega))
          have Hown5 := Lib.hid hown5
          clear hown5 hgrow5
          go_roundw
          case rel => exact ⟨k + 1, _, m + 1, by omega, by go_num, by go_num, Hown5.out, Hst2, HB5.out⟩
          case measure => simp [intOf]; omega
    · have : k = refs.length := by omega
      subst this
      have Hr := Lib.hid hPl.out.end_
      clear hown hW hPl
      go_wp2
      go_ret
      exact ⟨m, rfl, hmk, Hr.out, HW.out⟩
end Go.Proofs.Ytdkkmmljaijomaa
