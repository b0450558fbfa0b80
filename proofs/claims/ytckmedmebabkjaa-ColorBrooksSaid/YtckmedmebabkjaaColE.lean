/- ColorLeast. -/
import Derived.Test.YtckmedmebabkjaaColD
import Derived.Deep.RegionHeld3
namespace Go.Proofs.Ytckmedmebabkjaa
open Go.RowKit

theorem clL_bit {m : Nat} {ps : List (Int × Int)} (h : ClOk m ps) {i j : Nat} (hi : i < m) : ((clL m ps).getD i 0).testBit j = true ↔ Cl ps i j := by
  rw [getD_of (by rw [clL_len]; exact hi), clL_get]
  unfold clS
  rw [setN_bit]
  exact ⟨fun h => h.2, fun hc => ⟨by have := hc.lt h; have := h.n8; omega, hc⟩⟩
theorem LeastL.toC {m : Nat} {ps : List (Int × Int)} {l : List Nat} {K : Nat} (h : ClOk m ps) (hl : LeastL (clL m ps) l K) : LeastC m (Cl ps) (fun i => l.getD i 0) K := by
  have hlen : l.length = m := by rw [hl.len, clL_len]
  refine ⟨fun i j hi hj hc => ?_, fun i hi => ?_, fun k h1 hk => ?_⟩
  · have hne := (hc.lt h).2.2
    rcases Nat.lt_or_ge j i with h1 | h1
    · exact fun e => hl.good.2 i j h1 (by omega) ((clL_bit h hi).2 hc) e.symm
    · exact hl.good.2 j i (by omega) (by omega) ((clL_bit h hj).2 hc.symm)
  · rw [getD_of (by omega)]; exact hl.good.1 _ (List.getElem_mem _)
  · apply Classical.byContradiction
    intro hn
    obtain ⟨c, h2, h3⟩ := hk
    refine hl.least k h1 (by omega) ⟨(List.range m).map c, ⟨_, rfl⟩, by simp [clL_len], fun x hx => ?_, fun i j hj hi hb => ?_⟩
    · obtain ⟨i, hi, rfl⟩ := List.mem_map.1 hx
      exact h3 i (List.mem_range.1 hi)
    · simp only [List.length_map, List.length_range] at hi
      rw [getD_of (by simp; omega), getD_of (by simp; omega)]
      simp only [List.getElem_map, List.getElem_range]
      exact h2 j i (by omega) hi ((clL_bit h hi).1 hb).symm
theorem LeastC.most {m K : Nat} {ps : List (Int × Int)} {l : List Nat} (h : LeastC m (Cl ps) (fun i => l.getD i 0) K) (hl : l.length = m) (h1 : 1 ≤ m) (hK : 1 ≤ K) : mostN l 0 = K := by
  have hb : ∀ x ∈ l, x < K := fun x hx => by
    obtain ⟨i, hi, rfl⟩ := List.getElem_of_mem hx
    have := h.lt i (by omega)
    rwa [getD_of hi] at this
  have h2 := mostN_le (k := 0) (b := K) (by omega) hb
  have h3 := (@mostN_ge l 0).2
  have := h.least (mostN l 0) (by have := h3 l[0] (List.getElem_mem (by omega)); omega) ⟨_, h.proper, fun i hi => by
    have := h3 (l[i]'(by omega)) (List.getElem_mem _)
    show l.getD i 0 < _
    rwa [getD_of (by omega)]⟩
  omega
/-- What the thing i must have to be one of number k. -/
def Forced (ps : List (Int × Int)) (l : List Nat) (k i low : Nat) : Prop := l.getD i 0 = k ∧ ∀ d, d < low → ∃ j, j < l.length ∧ l.getD j 0 = d ∧ Cl ps i j

set_option maxRecDepth 100000 in
set_option maxHeartbeats 8000000 in
theorem colorLeast_calls (n : Int) (A : Option Addr) (ps : List (Int × Int)) (cap : Nat) (w : World) (hA : RdP w A ps) (hm : ps.length ≤ maxLen) :
    Calls Try.prog 3 #[.int .i64 n, .slice A ps.length cap] w fun e w' => e = .returned (.bool true) ∧ Below w.heap.size w w' := by
  have HA := Lib.hid hA; clear hA
  go_enter Try.func3, Try.ntmps3
  go_wp2_with fail
  refine (least_calls _ _ _ _ _ HA.out hm).mono ?_
  rintro e w1 ⟨hW, hr⟩
  have HW := Lib.hid hW
  have hw1 := hW.size
  clear hW
  rcases hr with ⟨h0, rfl⟩ | ⟨m, rfl, hok, A5, cap5, l, K, rfl, hR, hL⟩
  · have q : (clErr n ps != 0) = true := by rw [bne_iff_ne]; exact h0
    have q2 : (clErr n ps == 0) = false := by rw [beq_eq_false_iff_ne]; exact h0
    clear h0
    go_wp2_with (go_at_call 7; refine (keepClashes_calls _ _ _ _ _ (Rd.below HA.out HW.out) hm).mono ?_; rintro e w2 ⟨rfl, hB⟩; rw [q2]; have HB := Lib.hid hB; clear hB)
    go_ret
    exact ⟨rfl, HW.out.trans (HB.out.mono hw1)⟩
  · have hlen : l.length = m := by rw [hL.len, clL_len]
    have h1 := hok.n1
    have h8 := hok.n8
    have h28 := hok.len
    have hC := hL.toC hok
    have hmost := hC.most hlen h1 hL.k1
    have hKm := hL.kn
    rw [clL_len] at hKm
    have Hbd := Lib.hid (show ∀ x ∈ l, x < 1000 from fun x hx => by have := hL.good.1 x hx; omega)
    have HR := Lib.hid hR
    have Hne := Lib.hid (fun (i j : Nat) (hi : i < m) (hj : j < m) (hc : Cl ps i j) => hC.proper i j hi hj hc)
    have Hfo := Lib.hid (fun (k : Nat) (h1 : 1 ≤ k) (hk : k < K) => show ∃ i, i < m ∧ Forced ps l k i k from by
      obtain ⟨i, a1, a2, a3⟩ := hC.forced (fun _ _ h => h.symm) h1 hk
      exact ⟨i, a1, a2, fun d hd => let ⟨j, b1, b2, b3⟩ := a3 d hd; ⟨j, by omega, b2, b3⟩⟩)
    have Hok := Lib.hid hok
    have HL1 := Lib.hid hL.k1
    have Hlen := Lib.hid hlen
    have Hmost := Lib.hid hmost
    have Her := Lib.hid hok.err
    have Hmc := Lib.hid (fun (w : World) (h : RdC w A5 l) => most_calls A5 l cap5 w h (by omega) Hbd.out)
    rw [hmost, hlen] at Hmc
    clear hR hC hok hL hlen hmost
    rw [Hlen.out]
    go_wp2_with (go_at_call 7; refine (keepClashes_calls _ _ _ _ _ (Rd.below HA.out HW.out) hm).mono ?_; rintro e w2 ⟨rfl, hB⟩; rw [Her.out]; have HB := Lib.hid hB; clear hB)
    have HR2 := Lib.hid (Rd.below HR.out HB.out)
    have HA2 := Lib.hid (Rd.below HA.out (HW.out.trans (HB.out.mono hw1)))
    have HW2 := Lib.hid (HW.out.trans (HB.out.mono hw1))
    have hw2 := HW2.out.size
    clear HR HW HB hw1
    have HA := HA2
    clear HA2
    go_loopw [7] (fun i wr => ∃ k : Nat, k ≤ m ∧ i = .int .i64 k ∧ Below w2.heap.size w2 wr) (fun i _ => m - (intOf i).toNat)
    case atStart => exact ⟨0, Nat.zero_le _, rfl, Below.refl _ _⟩
    case round =>
      obtain ⟨i, hi, rfl, hW⟩ := hrel
      have hw3 := hW.size
      have HW := Lib.hid hW
      clear hW
      by_cases hlt : i < m
      · go_wp2
        go_loopw [8] (fun j wr => ∃ k : Nat, k ≤ i ∧ j = .int .i64 k ∧ Below w2.heap.size w2 wr) (fun j _ => i - (intOf j).toNat)
        case atStart => exact ⟨0, Nat.zero_le _, rfl, HW.out⟩
        case round =>
          clear HW hw3
          obtain ⟨j, hj, rfl, hW⟩ := hrel
          have hw3 := hW.size
          have HW := Lib.hid hW
          by_cases hltj : j < i
          · obtain ⟨b, off, rfl, hb, c0⟩ := RdC.at1 (Rd.below HR2.out hW) (show i < l.length by rw [Hlen.out]; exact hlt)
            obtain ⟨_, _, e, _, c1⟩ := RdC.at1 (Rd.below HR2.out hW) (show j < l.length by rw [Hlen.out]; omega)
            cases e
            have hRA := Rd.below HA.out hW
            have HRA := Lib.hid hRA
            clear hRA hW
            by_cases hc : Cl ps i j
            · have hx := Hne.out i j hlt (by omega) hc
              rw [getD_of (by rw [Hlen.out]; exact hlt), getD_of (by rw [Hlen.out]; omega)] at hx
              have q : (((l[i]'(by rw [Hlen.out]; exact hlt) : Nat) : Int) == ((l[j]'(by rw [Hlen.out]; omega) : Nat) : Int)) = false := by rw [beq_eq_false_iff_ne]; omega
              have Hcb : Hid (ClB ps i j true) := ⟨fun _ => hc, fun _ => rfl⟩
              clear hc hx
              generalize l[i]'(by rw [Hlen.out]; exact hlt) = x at *
              generalize l[j]'(by rw [Hlen.out]; omega) = y at *
              have q3 : ((i : Nat) : Int) < ((m : Nat) : Int) := by omega
              have q4 : ((j : Nat) : Int) < ((m : Nat) : Int) := by omega
              have q5 : (0 : Int) ≤ ((i : Nat) : Int) := by omega
              have q6 : (0 : Int) ≤ ((j : Nat) : Int) := by omega
              go_wp2_with fail
              go_region_held3 (fun w' => w'.cell? ⟨b, off + i, none⟩ = some (.int .i64 (x : Nat)) ∧ w'.cell? ⟨b, off + j, none⟩ = some (.int .i64 (y : Nat)) ∧ Below wr.heap.size wr w')
                (first
                  | exact ⟨c0, c1, (Below.refl _ _).drew⟩
                  | (go_split_ands
                     have h8 := (by assumption : Below wr.heap.size wr _)
                     have h8s := h8.size
                     exact ⟨(hB9.cell (p := ⟨b, off + i, none⟩) (by show b < _; omega)).trans (by assumption), (hB9.cell (p := ⟨b, off + j, none⟩) (by show b < _; omega)).trans (by assumption), h8.trans (hB9.mono h8s)⟩))
                (first
                  | (go_at_call 8; refine (clash_calls _ ps cap i j _ (Rd.below HRA.out ?hb) hm true Hcb.out).mono ?_
                     case hb => (go_split_ands; assumption)
                     rintro e w9 ⟨rfl, hB9⟩))
              go_split_ands
              have h8 := (by assumption : Below wr.heap.size wr _)
              have HB9 := Lib.hid (HW.out.trans (h8.mono hw3))
              clear h8
              go_wp2
              go_roundw
              case rel => exact ⟨j + 1, by omega, by go_num, HB9.out⟩
              case measure => simp [intOf]; omega
            · have Hcb : Hid (ClB ps i j false) := ⟨(fun h => by cases h), fun h => absurd h hc⟩
              have q3 : ((i : Nat) : Int) < ((m : Nat) : Int) := by omega
              have q4 : ((j : Nat) : Int) < ((m : Nat) : Int) := by omega
              have q5 : (0 : Int) ≤ ((i : Nat) : Int) := by omega
              have q6 : (0 : Int) ≤ ((j : Nat) : Int) := by omega
              clear hc
              generalize l[i]'(by rw [Hlen.out]; exact hlt) = x at *
              generalize l[j]'(by rw [Hlen.out]; omega) = y at *
              go_wp2_with fail
              refine wp_region_held_drew (S := fun w' => Below wr.heap.size wr w') (by kernel_rfl) (Below.refl _ _).drew (fun hH => ?_)
              refine wpAnyH_take (i := 0) (oi := { dst := some 46, op := .move (.tmp 1), type := 22, pos := "high.go:371", after := #[], guard := none }) rfl (by kernel_rfl) (by kernel_rfl) (by kernel_rfl) (fun _ _ _ h => h) (Or.inl ⟨by rfl, fun w hw => by go_simp; try with_reducible rfl⟩) (by assumption) ?_
              try simp only [Act.put, List.setIfInBounds_toArray, List.set_cons_zero, List.set_cons_succ]
              refine wpAnyH_take (i := 1) (oi := { dst := some 47, op := .move (.tmp 7), type := 3, pos := "high.go:371", after := #[], guard := none }) rfl (by kernel_rfl) (by kernel_rfl) (by kernel_rfl) (fun _ _ _ h => h) (Or.inl ⟨by rfl, fun w hw => by go_simp; try with_reducible rfl⟩) (by assumption) ?_
              try simp only [Act.put, List.setIfInBounds_toArray, List.set_cons_zero, List.set_cons_succ]
              refine wpAnyH_take (i := 2) (oi := { dst := some 48, op := .move (.tmp 8), type := 3, pos := "high.go:371", after := #[], guard := none }) rfl (by kernel_rfl) (by kernel_rfl) (by kernel_rfl) (fun _ _ _ h => h) (Or.inl ⟨by rfl, fun w hw => by go_simp; try with_reducible rfl⟩) (by assumption) ?_
              try simp only [Act.put, List.setIfInBounds_toArray, List.set_cons_zero, List.set_cons_succ]
              refine wpAnyH_ready (rs := [3]) (by kernel_rfl) (by simp) ?_
              refine AllReadyH.cons (o := { dst := some 49, op := .call { callee := .value (.func 8), args := #[.tmp 46, .tmp 47, .tmp 48], argTypes := #[22, 3, 3] }, type := 4, pos := "high.go:371", after := #[{ on := 0, ground := .data }, { on := 1, ground := .data }, { on := 2, ground := .data }], guard := none }) rfl (fun K hK => ?_) AllReadyH.nil
              go_simp
              go_at_call 8
              refine (clash_calls _ ps cap i j _ (Rd.below HRA.out hH) hm false Hcb.out).mono ?_
              rintro e w9 ⟨rfl, hB9⟩
              refine hK.out _ _ (hH.trans (hB9.mono hH.size)) (fun hH2 => ?_)
              try simp only [Act.put, List.setIfInBounds_toArray, List.set_cons_zero, List.set_cons_succ]
              clear hK hB9
              refine wpAnyH_take (i := 4) (oi := { dst := some 50, op := .move (.tmp 49), type := 4, pos := "high.go:371", after := #[{ on := 3, ground := .data }, { on := 3, ground := .chain }], guard := none }) rfl (by kernel_rfl) (by kernel_rfl) (by kernel_rfl) (fun _ _ _ h => h) (Or.inl ⟨by rfl, fun w hw => by go_simp; try with_reducible rfl⟩) (by assumption) ?_
              try simp only [Act.put, List.setIfInBounds_toArray, List.set_cons_zero, List.set_cons_succ]
              refine wpAnyH_take (i := 5) (oi := { dst := some 51, op := .move (.tmp 5), type := 23, pos := "high.go:371", after := #[{ on := 4, ground := .guard }], guard := some (4, true) }) rfl (by kernel_rfl) (by kernel_rfl) (by kernel_rfl) (fun _ _ _ h => h) (Or.inr ⟨by rfl, rfl⟩) (by assumption) ?_
              try simp only [Act.put, List.setIfInBounds_toArray, List.set_cons_zero, List.set_cons_succ]
              refine wpAnyH_take (i := 6) (oi := { dst := some 52, op := .move (.tmp 7), type := 3, pos := "high.go:371", after := #[{ on := 4, ground := .guard }], guard := some (4, true) }) rfl (by kernel_rfl) (by kernel_rfl) (by kernel_rfl) (fun _ _ _ h => h) (Or.inr ⟨by rfl, rfl⟩) (by assumption) ?_
              try simp only [Act.put, List.setIfInBounds_toArray, List.set_cons_zero, List.set_cons_succ]
              refine wpAnyH_take (i := 7) (oi := { dst := some 53, op := .indexAddr 23 (.tmp 51) (.tmp 52), type := 0, pos := "high.go:371", after := #[{ on := 5, ground := .data }, { on := 6, ground := .data }, { on := 4, ground := .guard }], guard := some (4, true) }) rfl (by kernel_rfl) (by kernel_rfl) (by kernel_rfl) (fun _ _ _ h => h) (Or.inr ⟨by rfl, rfl⟩) (by assumption) ?_
              try simp only [Act.put, List.setIfInBounds_toArray, List.set_cons_zero, List.set_cons_succ]
              refine wpAnyH_take (i := 8) (oi := { dst := some 54, op := .load 3 (.tmp 53), type := 3, pos := "high.go:371", after := #[{ on := 7, ground := .data }, { on := 4, ground := .guard }], guard := some (4, true) }) rfl (by kernel_rfl) (by kernel_rfl) (by kernel_rfl) (fun _ _ _ h => h) (Or.inr ⟨by rfl, rfl⟩) (by assumption) ?_
              try simp only [Act.put, List.setIfInBounds_toArray, List.set_cons_zero, List.set_cons_succ]
              refine wpAnyH_take (i := 9) (oi := { dst := some 55, op := .move (.tmp 5), type := 23, pos := "high.go:371", after := #[{ on := 4, ground := .guard }], guard := some (4, true) }) rfl (by kernel_rfl) (by kernel_rfl) (by kernel_rfl) (fun _ _ _ h => h) (Or.inr ⟨by rfl, rfl⟩) (by assumption) ?_
              try simp only [Act.put, List.setIfInBounds_toArray, List.set_cons_zero, List.set_cons_succ]
              refine wpAnyH_take (i := 10) (oi := { dst := some 56, op := .move (.tmp 8), type := 3, pos := "high.go:371", after := #[{ on := 4, ground := .guard }], guard := some (4, true) }) rfl (by kernel_rfl) (by kernel_rfl) (by kernel_rfl) (fun _ _ _ h => h) (Or.inr ⟨by rfl, rfl⟩) (by assumption) ?_
              try simp only [Act.put, List.setIfInBounds_toArray, List.set_cons_zero, List.set_cons_succ]
              refine wpAnyH_take (i := 11) (oi := { dst := some 57, op := .indexAddr 23 (.tmp 55) (.tmp 56), type := 0, pos := "high.go:371", after := #[{ on := 9, ground := .data }, { on := 10, ground := .data }, { on := 4, ground := .guard }], guard := some (4, true) }) rfl (by kernel_rfl) (by kernel_rfl) (by kernel_rfl) (fun _ _ _ h => h) (Or.inr ⟨by rfl, rfl⟩) (by assumption) ?_
              try simp only [Act.put, List.setIfInBounds_toArray, List.set_cons_zero, List.set_cons_succ]
              refine wpAnyH_take (i := 12) (oi := { dst := some 58, op := .load 3 (.tmp 57), type := 3, pos := "high.go:371", after := #[{ on := 11, ground := .data }, { on := 4, ground := .guard }], guard := some (4, true) }) rfl (by kernel_rfl) (by kernel_rfl) (by kernel_rfl) (fun _ _ _ h => h) (Or.inr ⟨by rfl, rfl⟩) (by assumption) ?_
              try simp only [Act.put, List.setIfInBounds_toArray, List.set_cons_zero, List.set_cons_succ]
              refine wpAnyH_take (i := 13) (oi := { dst := some 59, op := .binOp .eql 3 (.tmp 54) (.tmp 58) 3, type := 4, pos := "high.go:371", after := #[{ on := 8, ground := .data }, { on := 12, ground := .data }, { on := 4, ground := .guard }], guard := some (4, true) }) rfl (by kernel_rfl) (by kernel_rfl) (by kernel_rfl) (fun _ _ _ h => h) (Or.inr ⟨by rfl, rfl⟩) (by assumption) ?_
              try simp only [Act.put, List.setIfInBounds_toArray, List.set_cons_zero, List.set_cons_succ]
              refine wpAnyH_take (i := 14) (oi := { dst := some 60, op := .pick (.tmp 50) (.tmp 59) (.const (.bool false)), type := 4, pos := "high.go:371", after := #[{ on := 4, ground := .data }, { on := 13, ground := .data }], guard := none }) rfl (by kernel_rfl) (by kernel_rfl) (by kernel_rfl) (fun _ _ _ h => h) (Or.inl ⟨by rfl, fun w hw => by go_simp; try with_reducible rfl⟩) (by assumption) ?_
              try simp only [Act.put, List.setIfInBounds_toArray, List.set_cons_zero, List.set_cons_succ]
              refine wpAnyH_done (by kernel_rfl) ?_ _
              have HB9 := Lib.hid (HW.out.trans (hH2.mono hw3))
              clear hH hH2
              go_wp2
              go_roundw
              case rel => exact ⟨j + 1, by omega, by go_num, HB9.out⟩
              case measure => simp [intOf]; omega
          · go_wp2
            go_roundw
            case rel => exact ⟨i + 1, by omega, by go_num, HW.out⟩
            case measure => simp [intOf]; omega
      · go_wp2
        go_loopw [9] (fun i wr => ∃ k : Nat, 1 ≤ k ∧ k ≤ K ∧ i = .int .i64 k ∧ Below w2.heap.size w2 wr) (fun i _ => K - (intOf i).toNat)
        case atStart => exact ⟨1, Nat.le_refl _, HL1.out, rfl, HW.out⟩
        case round =>
          clear HW hw3
          obtain ⟨k, hk1, hk, rfl, hW⟩ := hrel
          have hw3 := hW.size
          have HW := Lib.hid hW
          clear hW
          by_cases hltk : k < K
          · have q : (k : Int) < (K : Int) := by omega
            go_wp2_with (go_at_call 9; refine (Hmc.out _ (Rd.below HR2.out HW.out)).mono ?_; rintro e w3 ⟨rfl, rfl⟩)
            have HFk := Lib.hid (Hfo.out k hk1 hltk)
            have HFk2 : Hid (∃ i, i < m ∧ Forced ps l k i k) := HFk.out
            clear HFk
            obtain ⟨wa, rfl⟩ : ∃ wa : World, wa = w3 := ⟨_, rfl⟩
            go_loopw [11, 10] (fun i b wr => ∃ (t : Nat) (b' : Bool), t ≤ m ∧ i = .int .i64 t ∧ b = .bool b' ∧ Hid ((∃ i, i < t ∧ Forced ps l k i k) → b' = true) ∧ Below w2.heap.size w2 wr) (fun i _ _ => m - (intOf i).toNat)
            case atStart => exact ⟨0, false, Nat.zero_le _, rfl, rfl, (fun ⟨i, h, _⟩ => by omega), HW.out⟩
            case round =>
              clear HW hw3
              obtain ⟨i, bi, hi, rfl, rfl, hP, hW⟩ := hrel
              have hw3 := hW.size
              have HW := Lib.hid hW
              have HP := Lib.hid hP
              clear hP
              by_cases hlti : i < m
              · obtain ⟨b, off, rfl, hb, c0⟩ := RdC.at1 (Rd.below HR2.out hW) (show i < l.length by rw [Hlen.out]; exact hlti)
                have HG := Lib.hid (getD_of (l := l) (i := i) (by rw [Hlen.out]; exact hlti))
                obtain ⟨be, hbe⟩ : ∃ be : Bool, be = ((((l[i]'(by rw [Hlen.out]; exact hlti) : Nat) : Int) == (k : Int))) := ⟨_, rfl⟩
                have hbe2 : be = true ↔ l.getD i 0 = k := by rw [hbe, HG.out, beq_iff_eq]; omega
                have Hbe2 := Lib.hid hbe2
                have hbe' := hbe.symm
                clear hW hbe2 hbe HG
                generalize l[i]'(by rw [Hlen.out]; exact hlti) = x at *
                go_wp2
                go_loopw [13, 12] (fun d b wr => ∃ (t : Nat) (b' : Bool), t ≤ k ∧ d = .int .i64 t ∧ b = .bool b' ∧ Hid (Forced ps l k i t → b' = true) ∧ Below w2.heap.size w2 wr) (fun d _ _ => k - (intOf d).toNat)
                case atStart => exact ⟨0, be, Nat.zero_le _, rfl, rfl, (fun h => Hbe2.out.2 h.1), HW.out⟩
                case round =>
                  clear HW hw3
                  obtain ⟨d, ba, hd, rfl, rfl, hQ, hW⟩ := hrel
                  have hw3 := hW.size
                  have HW := Lib.hid hW
                  have HQ := Lib.hid hQ
                  clear hQ hW c0 hb
                  by_cases hgo : d < k ∧ ba = true
                  · obtain ⟨hltd, rfl⟩ := hgo
                    have q : (d : Int) < (k : Int) := by omega
                    go_wp2
                    go_loopw [15, 14] (fun j b wr => ∃ (t : Nat) (b' : Bool), t ≤ m ∧ j = .int .i64 t ∧ b = .bool b' ∧ Hid ((∃ j, j < t ∧ l.getD j 0 = d ∧ Cl ps i j) → b' = true) ∧ Below w2.heap.size w2 wr) (fun j _ _ => m - (intOf j).toNat)
                    case atStart => exact ⟨0, false, Nat.zero_le _, rfl, rfl, (fun ⟨j, h, _⟩ => by omega), HW.out⟩
                    case round =>
                      clear HW hw3
                      obtain ⟨j, bj, hj, rfl, rfl, hS, hW⟩ := hrel
                      have hw3 := hW.size
                      have HW := Lib.hid hW
                      have HS := Lib.hid hS
                      clear hS
                      by_cases hltj : j < m
                      · obtain ⟨_, _, e, hb2, c1⟩ := RdC.at1 (Rd.below HR2.out hW) (show j < l.length by rw [Hlen.out]; exact hltj)
                        cases e
                        have HRA := Lib.hid (Rd.below HA.out hW)
                        have HG := Lib.hid (getD_of (l := l) (i := j) (by rw [Hlen.out]; exact hltj))
                        have Hst : Hid (∀ b' : Bool, (bj = true → b' = true) → (l.getD j 0 = d ∧ Cl ps i j → b' = true) → ((∃ j', j' < j + 1 ∧ l.getD j' 0 = d ∧ Cl ps i j') → b' = true)) := fun b' h1 h2 ⟨j', h3, h4⟩ => by
                          rcases Nat.lt_or_ge j' j with h | h
                          · exact h1 (HS.out.out ⟨j', h, h4⟩)
                          · have : j' = j := by omega
                            subst this; exact h2 h4
                        clear hW
                        cases bj
                        · by_cases hx : l[j]'(by rw [Hlen.out]; exact hltj) = d
                          · have q1 : ((((l[j]'(by rw [Hlen.out]; exact hltj) : Nat) : Int) == (d : Int))) = true := by rw [beq_iff_eq, hx]
                            obtain ⟨bc, hbc⟩ : ∃ bc : Bool, ClB ps i j bc := by
                              by_cases hc : Cl ps i j
                              · exact ⟨true, fun _ => hc, fun _ => rfl⟩
                              · exact ⟨false, (fun h => by cases h), fun h => absurd h hc⟩
                            have Hbc := Lib.hid hbc
                            have Hend := Lib.hid (Hst.out bc (fun h => by cases h) (fun h => hbc.2 h.2))
                            clear hx hbc
                            generalize l[j]'(by rw [Hlen.out]; exact hltj) = y at *
                            go_wp2_with (go_at_call 8; refine (clash_calls _ ps cap i j _ HRA.out hm bc Hbc.out).mono ?_; rintro e w9 ⟨rfl, hB9⟩; have HB9 := Lib.hid (HW.out.trans (hB9.mono hw3)); clear hB9)
                            all_goals
                              go_roundw
                              case rel => exact ⟨j + 1, _, by omega, by go_num, rfl, Hend.out, HB9.out⟩
                              case measure => simp [intOf]; omega
                          · have q1 : ((((l[j]'(by rw [Hlen.out]; exact hltj) : Nat) : Int) == (d : Int))) = false := by rw [beq_eq_false_iff_ne]; omega
                            have Hend := Lib.hid (Hst.out false (fun h => h) (fun h => absurd (HG.out.symm.trans h.1) hx))
                            clear hx
                            generalize l[j]'(by rw [Hlen.out]; exact hltj) = y at *
                            go_wp2
                            go_roundw
                            case rel => exact ⟨j + 1, false, by omega, by go_num, rfl, Hend.out, HW.out⟩
                            case measure => simp [intOf]; omega
                        · have Hend := Lib.hid (Hst.out true (fun h => h) (fun _ => rfl))
                          generalize l[j]'(by rw [Hlen.out]; exact hltj) = y at *
                          go_wp2
                          go_roundw
                          case rel => exact ⟨j + 1, true, by omega, by go_num, rfl, Hend.out, HW.out⟩
                          case measure => simp [intOf]; omega
                      · have : j = m := by omega
                        subst this
                        have Hend : Hid (Forced ps l k i (d + 1) → bj = true) := fun h => HS.out.out (by
                          obtain ⟨j', h1, h2⟩ := h.2 d (by omega)
                          exact ⟨j', by rw [← Hlen.out]; exact h1, h2⟩)
                        clear hW
                        go_wp2
                        go_roundw
                        case rel => exact ⟨d + 1, bj, by omega, by go_num, rfl, Hend, HW.out⟩
                        case measure => simp [intOf]; omega
                  · have Hend : Hid (∀ b' : Bool, (bi = true → b' = true) → (ba = true → b' = true) → ((∃ i', i' < i + 1 ∧ Forced ps l k i' k) → b' = true)) := fun b' h1 h2 ⟨i', h3, h4⟩ => by
                      rcases Nat.lt_or_ge i' i with h | h
                      · exact h1 (HP.out.out ⟨i', h, h4⟩)
                      · have : i' = i := by omega
                        subst this
                        exact h2 (HQ.out.out ⟨h4.1, fun e he => h4.2 e (by omega)⟩)
                    by_cases hdk : d < k
                    · have hba : ba = false := by
                        cases ba
                        · rfl
                        · exact absurd ⟨hdk, rfl⟩ hgo
                      subst hba
                      have q : (d : Int) < (k : Int) := by omega
                      clear hgo
                      cases bi
                      all_goals
                        go_wp2
                        go_roundw
                        case rel => exact ⟨i + 1, _, by omega, by go_num, rfl, Hend.out _ (by decide) (by decide), HW.out⟩
                        case measure => simp [intOf]; omega
                    have q : ¬ (d : Int) < (k : Int) := by omega
                    clear hgo
                    cases ba <;> cases bi
                    all_goals
                      go_wp2
                      all_goals first
                        | (exfalso; omega)
                        | (go_roundw
                           case rel => exact ⟨i + 1, _, by omega, by go_num, rfl, Hend.out _ (by decide) (by decide), HW.out⟩
                           case measure => simp [intOf]; omega)
              · have : i = m := by omega
                subst this
                have Hb : Hid (bi = true) := HP.out.out HFk2.out
                clear hW
                have hb := Hb.out
                subst hb
                go_wp2
                go_roundw
                case rel => exact ⟨k + 1, by omega, by omega, by go_num, HW.out⟩
                case measure => simp [intOf]; omega
          · have q : ¬ (k : Int) < (K : Int) := by omega
            go_wp2_with (go_at_call 9; refine (Hmc.out _ (Rd.below HR2.out HW.out)).mono ?_; rintro e w3 ⟨rfl, rfl⟩)
            go_ret
            exact ⟨rfl, HW2.out.trans (HW.out.mono hw2)⟩
end Go.Proofs.Ytckmedmebabkjaa
