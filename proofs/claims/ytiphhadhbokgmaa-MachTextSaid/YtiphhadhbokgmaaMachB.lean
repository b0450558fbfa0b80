/- mach.Text and the law MachText. -/
import Derived.Test.YtiphhadhbokgmaaMachA
namespace Go.Proofs.Ytiphhadhbokgmaa
open Go.RowKit

/-- From place k the orders are ss, up to place m. -/
def Chain (l : List Int) : Nat → List Step → Nat → Prop
  | k, [], m => k = m
  | k, s :: r, m => ordIs l k ∧ s = ordOf (l.getD k 0) (l.getD (k + 1) 0) (l.getD (k + 2) 0) ∧ Chain l (k + (mSize (l.getD k 0)).toNat) r m
theorem chain_snoc {l : List Int} : ∀ {ss : List Step} {k m : Nat}, Chain l k ss m → ordIs l m → Chain l k (ss ++ [ordOf (l.getD m 0) (l.getD (m + 1) 0) (l.getD (m + 2) 0)]) (m + (mSize (l.getD m 0)).toNat)
  | [], k, m, h, hi => by have h : k = m := h
                          subst h; exact ⟨hi, rfl, rfl⟩
  | s :: r, k, m, ⟨h1, h2, h3⟩, hi => ⟨h1, h2, chain_snoc h3 hi⟩

def TextEnd (l : List Int) (w : World) (e : Ending) (w' : World) : Prop :=
  Below w.heap.size w w' ∧
    ((∃ v ss, e = .returned (.tuple #[v, .int .i64 0]) ∧ OwnSt w' w.heap.size 36 v ss ∧ Chain l 0 ss l.length ∧ l.length ≤ 400 ∧ ss.length ≤ l.length) ∨
     (e = .returned (.tuple #[.slice none 0 0, .int .i64 1]) ∧ 400 < l.length) ∨
     (e = .returned (.tuple #[.slice none 0 0, .int .i64 6]) ∧ l.length ≤ 400 ∧ ∃ ss k, Chain l 0 ss k ∧ k < l.length ∧ ¬ ordIs l k))

set_option maxHeartbeats 400000 in
theorem text_calls (A : Option Addr) (l : List Int) (cap : Nat) (w : World) (hA : RdB w A l) (hl : bytesOk l) (hm : l.length ≤ maxLen) :
    Calls Try.prog 11 #[.slice A l.length cap] w (TextEnd l w) := by
  unfold maxLen at hm
  have HA := Lib.hid hA; clear hA
  have Hl := Lib.hid hl; clear hl
  by_cases hn : 400 < l.length
  · go_enter Try.func11, Try.ntmps11
    go_wp2
    go_ret2
    exact ⟨Below.refl _ _, .inr (.inl ⟨rfl, hn⟩)⟩
  have hn' : l.length ≤ 400 := by omega
  clear hn
  go_enter Try.func11, Try.ntmps11
  go_wp2
  go_loopw [4, 5] (fun v i wr => ∃ (k : Nat) (ss : List Step), k ≤ l.length ∧ i = .int .i64 k ∧ OwnSt wr w.heap.size 36 v ss ∧ Chain l 0 ss k ∧ ss.length ≤ k ∧ Below w.heap.size w wr) (fun _ i _ => l.length - (intOf i).toNat)
  case atStart => exact ⟨0, [], Nat.zero_le _, rfl, Own.nil_ _ _ _, rfl, Nat.le_refl _, Below.refl _ _⟩
  case round =>
    obtain ⟨k, ss, hk, rfl, hown, hch, hss, hW⟩ := hrel
    have hw1 := hW.size
    by_cases hlt : k < l.length
    · have hgd : l.getD k 0 = l[k] := by rw [List.getD_eq_getElem?_getD, List.getElem?_eq_getElem hlt]; rfl
      have hbd := mSize_bd l[k]
      by_cases hok : mSize l[k] ≠ 0 ∧ (k : Int) + mSize l[k] ≤ l.length
      · have hoi : ordIs l k := ⟨hlt, by rw [hgd]; exact hok.1, by rw [hgd]; exact hok.2⟩
        have hch' := chain_snoc hch hoi
        rw [hgd] at hch'
        have Hch := Lib.hid hch'
        have Hok := Lib.hid hok
        have Hown := Lib.hid hown
        have hok2 := hok.2
        have hok1 : 1 ≤ mSize l[k] := by have := hok.1; omega
        clear hch hch' hoi hok hown hgd
        have hcall := order_yes A l cap k wr (Rd.below HA.out hW) hn' Hl.out hlt Hok.out.1 Hok.out.2
        have Hcall := Lib.hid hcall
        clear hcall Hok
        generalize l[k] = b at *
        generalize l.getD (k + 1) 0 = x at *
        generalize l.getD (k + 2) 0 = y at *
        generalize ho : ordOf b x y = s at *
        have Ho := Lib.hid ho
        clear ho
        obtain ⟨s1, s2, s3, s4, s5⟩ := s
        go_wp2_with (first
          | (go_at_call 29; refine Hcall.out.mono ?_; rintro e w2 ⟨rfl, hW2⟩; have HW2 := Lib.hid hW2; clear hW2; unfold Step.agg)
          | (at_builtin; refine wpList_appSt rfl _ _ rfl w.heap.size _ _ ⟨s1, s2, s3, s4, s5⟩ rfl (((Hown.out.below HW2.out).alloc _).alloc _) _ _ rfl (cellSt_new _ _ _ _ _ (by simp) rfl) (by omega) (by have := HW2.out.size; simp; omega) ?_; intro v' w3 hown' hgrow))
        go_roundw
        case rel =>
          refine ⟨k + (mSize b).toNat, ss ++ [⟨s1, s2, s3, s4, s5⟩], by omega, by go_num, hown', Hch.out, by simp; omega, ?_⟩
          have h2 := HW2.out
          exact below_own (((hW.trans (h2.mono hw1)).alloc (by have := h2.size; omega) _).alloc (by have := h2.size; simp; omega) _) hgrow (((Hown.out.below h2).alloc _).alloc _) (Nat.le_refl _) (by have := h2.size; simp; omega)
        case measure => simp [intOf]; omega
      · have hno : ¬ ordIs l k := fun h => hok ⟨by have := h.2.1; rwa [hgd] at this, by have := h.2.2; rwa [hgd] at this⟩
        have hcall := order_no2 A l cap k wr (Rd.below HA.out hW) hn' Hl.out hlt (by omega)
        have Hcall := Lib.hid hcall
        have Hno := Lib.hid hno
        have Hch := Lib.hid hch
        clear hcall hok hgd hbd hno hch
        go_wp2_with (go_at_call 29; refine Hcall.out.mono ?_; rintro e w2 ⟨rfl, hW2⟩; have HW2 := Lib.hid hW2; clear hW2; unfold Step.agg)
        go_ret2
        exact ⟨(hW.trans (HW2.out.mono hw1)).alloc (by have := HW2.out.size; omega) _, .inr (.inr ⟨rfl, hn', ss, k, Hch.out, hlt, Hno.out⟩)⟩
    · have : k = l.length := by omega
      subst this
      go_wp2
      go_ret2
      exact ⟨hW, .inl ⟨_, _, rfl, hown, hch, hn', hss⟩⟩
/-- The places at which the orders begin. -/
def posAt (l : List Int) : Nat → Nat → Nat
  | k, 0 => k
  | k, i + 1 => posAt l (k + (mSize (l.getD k 0)).toNat) i
theorem posAt_succ (l : List Int) : ∀ (i k : Nat), posAt l k (i + 1) = posAt l k i + (mSize (l.getD (posAt l k i) 0)).toNat
  | 0, k => rfl
  | i + 1, k => by
    show posAt l (k + _) (i + 1) = _
    rw [posAt_succ l i]
    rfl
theorem chain_at {l : List Int} : ∀ {ss : List Step} {k m : Nat}, Chain l k ss m → posAt l k ss.length = m ∧ ∀ i (h : i < ss.length), ordIs l (posAt l k i) ∧ ss[i].op = l.getD (posAt l k i) 0 / 8
  | [], k, m, h => ⟨h, fun i hi => absurd hi (by simp)⟩
  | s :: r, k, m, ⟨h1, h2, h3⟩ => by
    obtain ⟨h4, h5⟩ := chain_at h3
    refine ⟨h4, fun i hi => ?_⟩
    cases i with
    | zero => exact ⟨h1, by rw [h2]; rfl⟩
    | succ i => exact h5 i (by simpa using hi)

set_option maxHeartbeats 400000 in
theorem machText_calls (A : Option Addr) (l : List Int) (cap : Nat) (w : World) (hA : RdB w A l) (hl : bytesOk l) (hm : l.length ≤ maxLen) :
    Calls Try.prog 4 #[.slice A l.length cap] w fun e w' => e = .returned (.bool true) ∧ Below w.heap.size w w' := by
  have HA := Lib.hid hA; clear hA
  have Hl := Lib.hid hl; clear hl
  go_enter Try.func4, Try.ntmps4
  go_wp2_with fail
  refine (text_calls A l cap w HA.out Hl.out hm).mono ?_
  rintro e w1 ⟨hW, h⟩
  rcases h with ⟨v, ss, rfl, hown, hch, hn, hss⟩ | ⟨rfl, _⟩ | ⟨rfl, _⟩
  · obtain ⟨As, cs, rfl, hRs, _⟩ := hown.form stepCells_len
    have HRs := Lib.hid hRs
    obtain ⟨hend, hat⟩ := chain_at hch
    have Hend := Lib.hid hend
    have Hat := Lib.hid hat
    have hsz := hW.size
    have HW := Lib.hid hW
    clear hRs hend hat hch hown hW hm
    go_wp2
    go_loopw [5, 21] (fun p i wr => ∃ k : Nat, k ≤ ss.length ∧ i = .int .i64 k ∧ p = .int .i64 (posAt l 0 k) ∧ Below w1.heap.size w1 wr) (fun _ i _ => ss.length - (intOf i).toNat)
    case atStart => exact ⟨0, Nat.zero_le _, rfl, rfl, Below.refl _ _⟩
    case round =>
      obtain ⟨k, hk, rfl, rfl, hWr⟩ := hrel
      have hwr := hWr.size
      by_cases hlt : k < ss.length
      · obtain ⟨b, off, rfl, hb, c0, c1, c2, c3, c4⟩ := RdSt.at5 (Rd.below HRs.out hWr) hlt
        obtain ⟨hoi, hop⟩ := Hat.out k hlt
        have hps := posAt_succ l k 0
        obtain ⟨hp1, hp2, hp3⟩ := hoi
        have hgd : l.getD (posAt l 0 k) 0 = l[posAt l 0 k] := by rw [List.getD_eq_getElem?_getD, List.getElem?_eq_getElem hp1]; rfl
        obtain ⟨b2, off2, rfl, hb2, d0⟩ := RdB.at1 (Rd.below (Rd.below HA.out HW.out) hWr) hp1
        have hbd := mSize_bd l[posAt l 0 k]
        have hbb := Hl.out _ (List.getElem_mem hp1)
        rw [hgd] at hop hp2 hp3 hps
        rw [hop] at c0
        have Hps := Lib.hid hps
        clear hps hop hgd
        generalize hpp : posAt l 0 k = p at *
        have Hpp := Lib.hid hpp
        clear hpp
        generalize l[p] = x at *
        generalize ss[k] = s at *
        have q1 : (x / 8 != x / 8) = false := by simp
        have q2 : (p : Int) < (l.length : Int) := by omega
        have q3 : IntKind.i64.wrap x = x := IntWalk.i64_in _ (by omega)
        have q4 : x.tdiv 8 = x / 8 := Int.tdiv_eq_ediv_of_nonneg hbb.1
        have q5 : IntKind.i64.wrap (x / 8) = x / 8 := IntWalk.i64_in _ (by omega)
        go_wp2
        go_quiet (fail)
        clear q1 q3 q4 q5
        go_wp2_with (go_at_call 12; refine (size_calls _ _ hbb.1 hbb.2).mono ?_; rintro e w2 ⟨rfl, rfl⟩)
        go_roundw
        case rel => exact ⟨k + 1, by omega, by go_num, by rw [Hps.out]; go_num, below_dN (hWr.alloc hwr _) _⟩
        case measure => simp [intOf]; omega
      · have : k = ss.length := by omega
        subst this
        have he := Hend.out
        have q : ((posAt l 0 ss.length : Int) == (l.length : Int)) = true := by rw [he]; simp
        clear he
        go_wp2
        go_ret
        exact ⟨rfl, HW.out.trans (hWr.mono hsz)⟩
  · go_wp2
    go_ret
    exact ⟨rfl, hW⟩
  · go_wp2
    go_ret
    exact ⟨rfl, hW⟩
end Go.Proofs.Ytiphhadhbokgmaa
