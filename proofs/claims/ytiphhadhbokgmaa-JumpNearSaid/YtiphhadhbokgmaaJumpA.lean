/- jump.wrong and codemasonref.PieceCheck answer pErr. -/
import Derived.Test.YtiphhadhbokgmaaRows
import Derived.Test.YtiphhadhbokgmaaLib
import Derived.Test.YtiphhadhbokgmaaInside
import Derived.BigGuardPart
import Derived.Outline
namespace Go.Proofs.Ytiphhadhbokgmaa
open Go.RowKit

structure Piece where
  bytes : Int
  jump : Bool
  to : Int
def Piece.cells (p : Piece) : List Value := [.int .i64 p.bytes, .bool p.jump, .int .i64 p.to]
abbrev RdP (w : World) (A : Option Addr) (l : List Piece) : Prop := Rd Piece.cells 3 w A l

theorem RdP.at3 {w : World} {A : Option Addr} {l : List Piece} (h : RdP w A l) {k : Nat} (hk : k < l.length) :
    ∃ b off, A = some ⟨b, off, none⟩ ∧ b < w.heap.size ∧ w.cell? ⟨b, off + k * 3, none⟩ = some (.int .i64 l[k].bytes) ∧ w.cell? ⟨b, off + k * 3 + 1, none⟩ = some (.bool l[k].jump) ∧
      w.cell? ⟨b, off + k * 3 + 2, none⟩ = some (.int .i64 l[k].to) := by
  obtain ⟨b, off, e, hb, hc⟩ := h.at_ hk
  exact ⟨b, off, e, hb, by simpa [Piece.cells] using hc 0 (by omega), by simpa [Piece.cells] using hc 1 (by omega), by simpa [Piece.cells] using hc 2 (by omega)⟩

def pErr1 (n : Nat) (p : Piece) : Int :=
  if p.jump = false ∧ (p.bytes < 0 ∨ 200 < p.bytes) then 4 else if p.jump = true ∧ (p.to < 0 ∨ n < p.to) then 2 else 0
def pErrs (n : Nat) : List Piece → Int
  | [] => 0
  | p :: r => if pErr1 n p = 0 then pErrs n r else pErr1 n p
def pErr (l : List Piece) : Int := if 10 < l.length then 1 else pErrs l.length l

theorem pErrs_drop {n : Nat} {l : List Piece} {k : Nat} (hk : k < l.length) (h0 : pErrs n (l.drop k) = pErrs n l) :
    (pErr1 n l[k] ≠ 0 → pErrs n l = pErr1 n l[k]) ∧ (pErr1 n l[k] = 0 → pErrs n (l.drop (k + 1)) = pErrs n l) := by
  rw [List.drop_eq_getElem_cons hk, show ∀ p r, pErrs n (p :: r) = if pErr1 n p = 0 then pErrs n r else pErr1 n p from fun _ _ => rfl] at h0
  constructor
  · intro h; rw [if_neg h] at h0; exact h0.symm
  · intro h; rw [if_pos h] at h0; exact h0

theorem pErr1_b {n : Nat} {b t : Int} {j : Bool} (hj : j = false) (h : b < 0 ∨ 200 < b) : pErr1 n ⟨b, j, t⟩ = 4 := by unfold pErr1; rw [if_pos ⟨hj, h⟩]
theorem pErr1_j {n : Nat} {b t : Int} {j : Bool} (hj : j = true) (h : t < 0 ∨ n < t) : pErr1 n ⟨b, j, t⟩ = 2 := by unfold pErr1; rw [if_neg (by simp [hj]), if_pos ⟨hj, h⟩]
theorem pErr1_ok1 {n : Nat} {b t : Int} {j : Bool} (hj : j = false) (h : 0 ≤ b) (h' : b ≤ 200) : pErr1 n ⟨b, j, t⟩ = 0 := by
  unfold pErr1; rw [if_neg (by rintro ⟨_, h⟩; dsimp only at h; omega), if_neg (by simp [hj])]
theorem pErr1_ok2 {n : Nat} {b t : Int} {j : Bool} (hj : j = true) (h : 0 ≤ t) (h' : t ≤ n) : pErr1 n ⟨b, j, t⟩ = 0 := by
  unfold pErr1; rw [if_neg (by simp [hj]), if_neg (by rintro ⟨_, h⟩; dsimp only at h; omega)]

set_option maxHeartbeats 400000 in
theorem wrong_calls (A : Option Addr) (l : List Piece) (cap : Nat) (w : World) (hA : RdP w A l) (hm : l.length ≤ maxLen) :
    Calls Try.prog 27 #[.slice A l.length cap] w fun e w' => e = .returned (.int .i64 (pErr l)) ∧ Below w.heap.size w w' := by
  unfold maxLen at hm
  by_cases hn : 10 < l.length
  · go_enter Try.func27, Try.ntmps27
    go_wp2
    go_ret
    exact ⟨ret_int (by rw [pErr, if_pos hn]), Below.refl _ _⟩
  have hfin : pErr l = pErrs l.length l := by rw [pErr, if_neg hn]
  have Hfin := Lib.hid hfin; clear hfin
  have hn' : l.length ≤ 10 := by omega
  clear hn
  have HA := Lib.hid hA; clear hA
  go_enter Try.func27, Try.ntmps27
  go_wp2
  go_loopw [10] (fun i wr => ∃ k : Nat, k ≤ l.length ∧ i = .int .i64 k ∧ Hid (pErrs l.length (l.drop k) = pErrs l.length l) ∧ Below w.heap.size w wr) (fun i _ => l.length - (intOf i).toNat)
  case atStart => exact ⟨0, Nat.zero_le _, rfl, Lib.hid rfl, Below.refl _ _⟩
  case round =>
    obtain ⟨k, hk, rfl, hE, hW⟩ := hrel
    by_cases hlt : k < l.length
    · obtain ⟨b, off, rfl, hb, c0, c1, c2⟩ := RdP.at3 (Rd.below HA.out hW) hlt
      have hst := pErrs_drop hlt hE.out
      have hw1 := hW.size
      generalize l[k] = p at *
      obtain ⟨pb, pj, pt⟩ := p
      dsimp only at c0 c1 c2
      have HS := Lib.hid hst; clear hst hE
      go_wp2
      all_goals first
        | (go_ret
           refine ⟨ret_int ?_, hW.alloc hw1 _⟩
           have h4 : pErr1 l.length ⟨pb, pj, pt⟩ = 4 := pErr1_b (by assumption) (by omega)
           rw [Hfin.out, HS.out.1 (by rw [h4]; decide), h4])
        | (go_ret
           refine ⟨ret_int ?_, hW.alloc hw1 _⟩
           have h4 : pErr1 l.length ⟨pb, pj, pt⟩ = 2 := pErr1_j (by assumption) (by omega)
           rw [Hfin.out, HS.out.1 (by rw [h4]; decide), h4])
        | (go_roundw
           case rel => exact ⟨k + 1, by omega, by go_num, Lib.hid (HS.out.2 (by first | exact pErr1_ok1 (by assumption) (by omega) (by omega) | exact pErr1_ok2 (by assumption) (by omega) (by omega))), hW.alloc hw1 _⟩
           case measure => simp [intOf]; omega)
    · go_wp2
      go_ret
      have : k = l.length := by omega
      subst this
      refine ⟨ret_int ?_, hW⟩
      rw [Hfin.out, ← hE.out, List.drop_length]; rfl
theorem insideB_one {n x : Int} : insideB n [x] = decide (0 ≤ x ∧ x < n) := by rw [insideB_cons]; simp [insideB]
theorem insideB_no {n : Nat} {t : Int} (h : (!insideB (n + 1) [t]) = true) : t < 0 ∨ n < t := by
  rw [insideB_one, Bool.not_eq_true', decide_eq_false_iff_not] at h; omega
theorem pErr1_ok2' {n : Nat} {b t : Int} {j : Bool} (hj : j = true) (h : (!insideB (n + 1) [t]) = false) : pErr1 n ⟨b, j, t⟩ = 0 := by
  rw [insideB_one, Bool.not_eq_false', decide_eq_true_iff] at h; exact pErr1_ok2 hj h.1 (by omega)

set_option maxHeartbeats 400000 in
theorem pieceCheck_calls (A : Option Addr) (l : List Piece) (cap : Nat) (w : World) (hA : RdP w A l) (hm : l.length ≤ maxLen) :
    Calls Try.prog 10 #[.slice A l.length cap] w fun e w' => e = .returned (.int .i64 (pErr l)) ∧ Below w.heap.size w w' := by
  unfold maxLen at hm
  by_cases hn : 10 < l.length
  · go_enter Try.func10, Try.ntmps10
    go_wp2
    go_ret
    exact ⟨ret_int (by rw [pErr, if_pos hn]), Below.refl _ _⟩
  have hfin : pErr l = pErrs l.length l := by rw [pErr, if_neg hn]
  have Hfin := Lib.hid hfin; clear hfin
  have hn' : l.length ≤ 10 := by omega
  clear hn
  have HA := Lib.hid hA; clear hA
  go_enter Try.func10, Try.ntmps10
  go_wp2
  go_loopw [10] (fun i wr => ∃ k : Nat, k ≤ l.length ∧ i = .int .i64 k ∧ Hid (pErrs l.length (l.drop k) = pErrs l.length l) ∧ Below w.heap.size w wr) (fun i _ => l.length - (intOf i).toNat)
  case atStart => exact ⟨0, Nat.zero_le _, rfl, Lib.hid rfl, Below.refl _ _⟩
  case round =>
    obtain ⟨k, hk, rfl, hE, hW⟩ := hrel
    by_cases hlt : k < l.length
    · obtain ⟨b, off, rfl, hb, c0, c1, c2⟩ := RdP.at3 (Rd.below HA.out hW) hlt
      have hst := pErrs_drop hlt hE.out
      have hw1 := hW.size
      generalize l[k] = p at *
      obtain ⟨pb, pj, pt⟩ := p
      dsimp only at c0 c1 c2
      have HS := Lib.hid hst; clear hst hE
      go_wp2_with (go_at_call 19; refine (inside_calls _ _ [pt] _ _ (rdI_new1 _ _ _ _ (by simp)) (by simp [maxLen])).mono ?_; rintro e w' ⟨rfl, rfl⟩)
      all_goals first
        | (go_ret
           refine ⟨ret_int ?_, by first | exact hW.alloc hw1 _ | exact (hW.alloc hw1 _).alloc (by simp; omega) _⟩
           have h4 : pErr1 l.length ⟨pb, pj, pt⟩ = 4 := pErr1_b (by assumption) (by omega)
           rw [Hfin.out, HS.out.1 (by rw [h4]; decide), h4])
        | (go_ret
           refine ⟨ret_int ?_, by first | exact hW.alloc hw1 _ | exact (hW.alloc hw1 _).alloc (by simp; omega) _⟩
           have h4 : pErr1 l.length ⟨pb, pj, pt⟩ = 2 := pErr1_j (by assumption) (insideB_no (by assumption))
           rw [Hfin.out, HS.out.1 (by rw [h4]; decide), h4])
        | (go_roundw
           case rel => exact ⟨k + 1, by omega, by go_num, Lib.hid (HS.out.2 (by first | exact pErr1_ok1 (by assumption) (by omega) (by omega) | exact pErr1_ok2' (by assumption) (by assumption))), by first | exact hW.alloc hw1 _ | exact (hW.alloc hw1 _).alloc (by simp; omega) _⟩
           case measure => simp [intOf]; omega)
    · go_wp2
      go_ret
      have : k = l.length := by omega
      subst this
      refine ⟨ret_int ?_, hW⟩
      rw [Hfin.out, ← hE.out, List.drop_length]; rfl
end Go.Proofs.Ytiphhadhbokgmaa
