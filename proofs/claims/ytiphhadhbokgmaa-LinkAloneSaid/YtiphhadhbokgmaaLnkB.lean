/- link.places walked. -/
import Derived.Test.YtiphhadhbokgmaaLnkA
import Derived.BigGuardPart
namespace Go.Proofs.Ytiphhadhbokgmaa
set_option maxRecDepth 100000
open Go.RowKit

def obV (A1 : Option Addr) (n1 c1 : Nat) (A2 : Option Addr) (n2 c2 : Nat) (A3 : Option Addr) (n3 c3 : Nat) : Value := .agg #[.slice A1 n1 c1, .slice A2 n2 c2, .slice A3 n3 c3]
theorem any_take {α : Type} {p : α → Bool} {l : List α} {k : Nat} (hk : k < l.length) (h : ∀ x ∈ l.take k, p x = false) (hx : p l[k] = false) : ∀ x ∈ l.take (k + 1), p x = false := by
  rw [List.take_succ_eq_append_getElem hk]
  intro x hx'
  rcases List.mem_append.1 hx' with h1 | h1
  · exact h x h1
  · have : x = l[k] := by simpa using h1
    rw [this]; exact hx
set_option maxHeartbeats 4000000 in
theorem places_calls (o : Ob) (A1 A2 A3 : Option Addr) (c1 c2 c3 : Nat) (w : World) (h2 : RdP w A2 o.has) (h3 : RdP w A3 o.wants) (hm1 : o.bytes.length ≤ maxLen) (hm2 : o.has.length ≤ maxLen) (hm3 : o.wants.length ≤ maxLen) :
    Calls Try.prog 38 #[.agg #[.slice A1 o.bytes.length c1, .slice A2 o.has.length c2, .slice A3 o.wants.length c3]] w fun e w' => e = .returned (.int .i64 (if placeBad o = true then 4 else 0)) ∧ Below w.heap.size w w' := by
  unfold maxLen at hm1 hm2 hm3
  obtain ⟨E, hE⟩ : ∃ E : Int, E = if placeBad o = true then 4 else 0 := ⟨_, rfl⟩
  rw [← hE]
  have HE := Lib.hid hE
  clear hE
  have H2 := Lib.hid h2
  have H3 := Lib.hid h3
  have HT := Lib.hid (heap_alloc_new w (.cells #[.slice A1 o.bytes.length c1, .slice A2 o.has.length c2, .slice A3 o.wants.length c3] 64))
  have HWa := Lib.hid ((Below.refl w.heap.size w).alloc (Nat.le_refl _) (.cells #[.slice A1 o.bytes.length c1, .slice A2 o.has.length c2, .slice A3 o.wants.length c3] 64))
  have hza : (w.alloc (.cells #[.slice A1 o.bytes.length c1, .slice A2 o.has.length c2, .slice A3 o.wants.length c3] 64)).heap.size = w.heap.size + 1 := by simp
  obtain ⟨P, hP⟩ : ∃ P, P = w.heap.size := ⟨_, rfl⟩
  obtain ⟨w0, hw0⟩ : ∃ w0, w0 = w.alloc (.cells #[.slice A1 o.bytes.length c1, .slice A2 o.has.length c2, .slice A3 o.wants.length c3] 64) := ⟨_, rfl⟩
  rw [← hw0] at HT HWa hza
  have HPh := Lib.hid hP
  have HWh := Lib.hid hw0
  have hPl : P < w0.heap.size := by omega
  rw [← hP] at HT
  have p0 := cell_of_row w0 P 0 _ _ _ HT.out
  have p1 := cell_of_row w0 P 1 _ _ _ HT.out
  have p2 := cell_of_row w0 P 2 _ _ _ HT.out
  clear h2 h3 hP hw0
  go_enter Try.func38, Try.ntmps38
  go_wp2
  rw [← HPh.out, ← HWh.out]
  go_loopw [10] (fun i wr => ∃ k : Nat, k ≤ o.has.length ∧ i = .int .i64 k ∧ Hid (∀ h ∈ o.has.take k, badH o h = false) ∧ Hid (Below w0.heap.size w0 wr)) (fun i _ => o.has.length - (intOf i).toNat)
  case atStart => exact ⟨0, Nat.zero_le _, rfl, Lib.hid (fun h hh => by simp at hh), Lib.hid (Below.refl _ _)⟩
  case round =>
    obtain ⟨k, hk, rfl, HQ, HW⟩ := hrel
    have hws := HW.out.size
    have p0 := cell_of_row wr P 0 _ _ _ ((HW.out.block P hPl).trans HT.out)
    have p1 := cell_of_row wr P 1 _ _ _ ((HW.out.block P hPl).trans HT.out)
    have p2 := cell_of_row wr P 2 _ _ _ ((HW.out.block P hPl).trans HT.out)
    have hPw : P < wr.heap.size := by omega
    have HWw := Lib.hid (HWa.out.trans (HW.out.mono (by omega)))
    by_cases hlt : k < o.has.length
    · obtain ⟨b, off, rfl, hb, d0, d1⟩ := RdP.at2 (Rd.below H2.out HWw.out) hlt
      have hlt1 : ((k : Nat) : Int) < ((o.has.length : Nat) : Int) := by omega
      have HQn := Lib.hid (any_take hlt HQ.out)
      have hmem := List.getElem_mem hlt
      have Hmem : Hid (badH o o.has[k] = true → placeBad o = true) := Lib.hid (fun h => by
        unfold placeBad
        rw [Bool.or_eq_true]
        exact .inl (List.any_eq_true.2 ⟨_, hmem, h⟩))
      have HWa2 := Lib.hid (fun ob : Obj => HW.out.alloc hws ob)
      clear hmem HQ
      generalize o.has[k] = h at *
      obtain ⟨x, y⟩ := h
      dsimp only at d0 d1
      by_cases hy : y < 0
      · have q1 : decide (y < 0) = true := decide_eq_true hy
        have hb2 := Hmem.out (by unfold badH; exact decide_eq_true (.inl hy))
        have Hb2 := Lib.hid hb2
        have HWe := Lib.hid (fun ob : Obj => HWa.out.trans ((HWa2.out ob).mono (by omega)))
        clear hb2 HQn Hmem
        go_wp2
        go_ret
        exact ⟨by rw [HE.out, if_pos Hb2.out]; rfl, HWe.out _⟩
      have q1 : decide (y < 0) = false := decide_eq_false hy
      have q1' : 0 ≤ y := by omega
      by_cases hz : ((o.bytes.length : Nat) : Int) < y
      · have q2 : decide (y > ((o.bytes.length : Nat) : Int)) = true := decide_eq_true hz
        have q2' : decide (((o.bytes.length : Nat) : Int) < y) = true := decide_eq_true hz
        have hb2 := Hmem.out (by unfold badH; exact decide_eq_true (.inr hz))
        have Hb2 := Lib.hid hb2
        have HWe := Lib.hid (fun ob : Obj => HWa.out.trans ((HWa2.out ob).mono (by omega)))
        clear hb2 HQn Hmem
        go_wp2
        go_ret
        exact ⟨by rw [HE.out, if_pos Hb2.out]; rfl, HWe.out _⟩
      · have q2 : decide (y > ((o.bytes.length : Nat) : Int)) = false := decide_eq_false hz
        have q2' : decide (((o.bytes.length : Nat) : Int) < y) = false := decide_eq_false hz
        have q3 : y ≤ ((o.bytes.length : Nat) : Int) := by omega
        have HQ2 := Lib.hid (HQn.out (by unfold badH; exact decide_eq_false (by dsimp only; omega)))
        clear HQn Hmem
        go_wp2
        go_roundw
        case rel => exact ⟨k + 1, by omega, by go_num, HQ2, Lib.hid (HWa2.out _)⟩
        case measure => simp [intOf]; omega
    · have hke : k = o.has.length := by omega
      subst hke
      have HQ1 := Lib.hid (show ∀ h ∈ o.has, badH o h = false from by have := HQ.out; rwa [List.take_length] at this)
      have HWx := HW
      clear HQ
      go_wp2
      go_loopw [29] (fun i wr => ∃ k : Nat, k ≤ o.wants.length ∧ i = .int .i64 k ∧ Hid (∀ h ∈ o.wants.take k, badW o h = false) ∧ Hid (Below w0.heap.size w0 wr)) (fun i _ => o.wants.length - (intOf i).toNat)
      case atStart => exact ⟨0, Nat.zero_le _, rfl, Lib.hid (fun h hh => by simp at hh), HWx⟩
      case round =>
        obtain ⟨k, hk, rfl, HQ, HW⟩ := hrel
        have hws := HW.out.size
        have p0 := cell_of_row wr P 0 _ _ _ ((HW.out.block P hPl).trans HT.out)
        have p1 := cell_of_row wr P 1 _ _ _ ((HW.out.block P hPl).trans HT.out)
        have p2 := cell_of_row wr P 2 _ _ _ ((HW.out.block P hPl).trans HT.out)
        have hPw : P < wr.heap.size := by omega
        have HWw := Lib.hid (HWa.out.trans (HW.out.mono (by omega)))
        by_cases hlt : k < o.wants.length
        · obtain ⟨b, off, rfl, hb, d0, d1⟩ := RdP.at2 (Rd.below H3.out HWw.out) hlt
          have hlt1 : ((k : Nat) : Int) < ((o.wants.length : Nat) : Int) := by omega
          have HQn := Lib.hid (any_take hlt HQ.out)
          have hmem := List.getElem_mem hlt
          have Hmem : Hid (badW o o.wants[k] = true → placeBad o = true) := Lib.hid (fun h => by
            unfold placeBad
            rw [Bool.or_eq_true]
            exact .inr (List.any_eq_true.2 ⟨_, hmem, h⟩))
          have HWa2 := Lib.hid (fun ob : Obj => HW.out.alloc hws ob)
          clear hmem HQ
          generalize o.wants[k] = h at *
          obtain ⟨x, y⟩ := h
          dsimp only at d0 d1
          by_cases hy : y < 0
          · have q1 : decide (y < 0) = true := decide_eq_true hy
            have hb2 := Hmem.out (by unfold badW; exact decide_eq_true (.inl hy))
            have Hb2 := Lib.hid hb2
            have HWe := Lib.hid (fun ob : Obj => HWa.out.trans ((HWa2.out ob).mono (by omega)))
            clear hb2 HQn Hmem
            go_wp2
            go_ret
            exact ⟨by rw [HE.out, if_pos Hb2.out]; rfl, HWe.out _⟩
          have q1 : decide (y < 0) = false := decide_eq_false hy
          have q1' : 0 ≤ y := by omega
          by_cases hz : (((o.bytes.length : Nat) : Int) - 2) < y
          · have q2 : decide (y > (((o.bytes.length : Nat) : Int) - 2)) = true := decide_eq_true hz
            have q2' : decide ((((o.bytes.length : Nat) : Int) - 2) < y) = true := decide_eq_true hz
            have hb2 := Hmem.out (by unfold badW; exact decide_eq_true (.inr hz))
            have Hb2 := Lib.hid hb2
            have HWe := Lib.hid (fun ob : Obj => HWa.out.trans ((HWa2.out ob).mono (by omega)))
            clear hb2 HQn Hmem
            go_wp2
            go_ret
            exact ⟨by rw [HE.out, if_pos Hb2.out]; rfl, HWe.out _⟩
          · have q2 : decide (y > (((o.bytes.length : Nat) : Int) - 2)) = false := decide_eq_false hz
            have q2' : decide ((((o.bytes.length : Nat) : Int) - 2) < y) = false := decide_eq_false hz
            have q3 : y ≤ (((o.bytes.length : Nat) : Int) - 2) := by omega
            have HQ2 := Lib.hid (HQn.out (by unfold badW; exact decide_eq_false (by dsimp only; omega)))
            clear HQn Hmem
            go_wp2
            go_roundw
            case rel => exact ⟨k + 1, by omega, by go_num, HQ2, Lib.hid (HWa2.out _)⟩
            case measure => simp [intOf]; omega
        · have hke : k = o.wants.length := by omega
          subst hke
          have HQ2 := Lib.hid (show ∀ h ∈ o.wants, badW o h = false from by have := HQ.out; rwa [List.take_length] at this)
          have Hno : Hid (placeBad o = false) := Lib.hid (by
            unfold placeBad
            rw [Bool.or_eq_false_iff, List.any_eq_false, List.any_eq_false]
            exact ⟨fun h hh => by rw [HQ1.out h hh]; decide, fun h hh => by rw [HQ2.out h hh]; decide⟩)
          clear HQ
          go_wp2
          go_ret
          exact ⟨by rw [HE.out, Hno.out]; rfl, HWw.out⟩
end Go.Proofs.Ytiphhadhbokgmaa
