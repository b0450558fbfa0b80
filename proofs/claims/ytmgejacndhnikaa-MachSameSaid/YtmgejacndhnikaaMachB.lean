/- mach.Text. -/
import Derived.Test.YtmgejacndhnikaaMachA
namespace Go.Proofs.Ytmgejacndhnikaa
open Go.RowKit

/-- From place k the orders are ss, up to place m. -/
def Chain (l : List Int) : Nat → List Step → Nat → Prop
  | k, [], m => k = m
  | k, s :: r, m => ordIs l k ∧ s = ordOf (l.getD k 0) (l.getD (k + 1) 0) (l.getD (k + 2) 0) ∧ Chain l (k + (mSize (l.getD k 0)).toNat) r m
theorem chain_snoc {l : List Int} : ∀ {ss : List Step} {k m : Nat}, Chain l k ss m → ordIs l m → Chain l k (ss ++ [ordOf (l.getD m 0) (l.getD (m + 1) 0) (l.getD (m + 2) 0)]) (m + (mSize (l.getD m 0)).toNat)
  | [], k, m, h, hi => by have h : k = m := h
                          subst h; exact ⟨hi, rfl, rfl⟩
  | s :: r, k, m, ⟨h1, h2, h3⟩, hi => ⟨h1, h2, chain_snoc h3 hi⟩

def TextEnd (l : List Int) (w : World) (e : Ending) (w' : World) : Prop :=
  Below w.heap.size w w' ∧
    ((∃ v ss, e = .returned (.tuple #[v, .int .i64 0]) ∧ OwnSt w' w.heap.size 87 v ss ∧ Chain l 0 ss l.length ∧ l.length ≤ 400 ∧ ss.length ≤ l.length) ∨
     (e = .returned (.tuple #[.slice none 0 0, .int .i64 1]) ∧ 400 < l.length) ∨
     (e = .returned (.tuple #[.slice none 0 0, .int .i64 6]) ∧ l.length ≤ 400 ∧ ∃ ss k, Chain l 0 ss k ∧ k < l.length ∧ ¬ ordIs l k))

set_option maxHeartbeats 400000 in
theorem text_calls (A : Option Addr) (l : List Int) (cap : Nat) (w : World) (hA : RdB w A l) (hl : bytesOk l) (hm : l.length ≤ maxLen) :
    Calls Try.prog 37 #[.slice A l.length cap] w (TextEnd l w) := by
  unfold maxLen at hm
  have HA := Lib.hid hA; clear hA
  have Hl := Lib.hid hl; clear hl
  by_cases hn : 400 < l.length
  · go_enter Try.func37, Try.ntmps37
    go_wp2
    go_ret2
    exact ⟨Below.refl _ _, .inr (.inl ⟨rfl, hn⟩)⟩
  have hn' : l.length ≤ 400 := by omega
  clear hn
  go_enter Try.func37, Try.ntmps37
  go_wp2
  go_loopw [4, 5] (fun v i wr => ∃ (k : Nat) (ss : List Step), k ≤ l.length ∧ i = .int .i64 k ∧ OwnSt wr w.heap.size 87 v ss ∧ Chain l 0 ss k ∧ ss.length ≤ k ∧ Below w.heap.size w wr) (fun _ i _ => l.length - (intOf i).toNat)
  case atStart => exact ⟨0, [], Nat.zero_le _, rfl, Own.nil_ _ _ _, rfl, Nat.le_refl _, Below.refl _ _⟩
  case round =>
    obtain ⟨k, ss, hk, rfl, hown, hch, hss, hW⟩ := hrel
    have hw1 := hW.size
    by_cases hlt : k < l.length
    · have hgd : l.getD k 0 = l[k] := by rw [List.getD_eq_getElem?_getD, List.getElem?_eq_getElem hlt]; rfl
      have hbd := mSize_bd l[k]
      by_cases hok : mSize l[k] ≠ 0 ∧ (k : Int) + mSize l[k] ≤ l.length
      · have hoi : ordIs l k := ⟨hlt, by rw [hgd]; exact hok.1, by rw [hgd]; exact hok.2⟩
        have hch' := chain_snoc hch hoi
        rw [hgd] at hch'
        have Hch := Lib.hid hch'
        have Hok := Lib.hid hok
        have Hown := Lib.hid hown
        have hok2 := hok.2
        have hok1 : 1 ≤ mSize l[k] := by have := hok.1; omega
        clear hch hch' hoi hok hown hgd
        have hcall := order_yes A l cap k wr (Rd.below HA.out hW) hn' Hl.out hlt Hok.out.1 Hok.out.2
        have Hcall := Lib.hid hcall
        clear hcall Hok
        generalize l[k] = b at *
        generalize l.getD (k + 1) 0 = x at *
        generalize l.getD (k + 2) 0 = y at *
        generalize ho : ordOf b x y = s at *
        have Ho := Lib.hid ho
        clear ho
        obtain ⟨s1, s2, s3, s4, s5⟩ := s
        go_wp2_with (first
          | (go_at_call 49; refine Hcall.out.mono ?_; rintro e w2 ⟨rfl, hW2⟩; have HW2 := Lib.hid hW2; clear hW2; unfold Step.agg)
          | (at_builtin; refine wpList_appSt rfl _ _ rfl w.heap.size _ _ ⟨s1, s2, s3, s4, s5⟩ rfl (((Hown.out.below HW2.out).alloc _).alloc _) _ _ rfl (cellSt_new _ _ _ _ _ (by simp) rfl) (by omega) (by have := HW2.out.size; simp; omega) ?_; intro v' w3 hown' hgrow))
        go_roundw
        case rel =>
          refine ⟨k + (mSize b).toNat, ss ++ [⟨s1, s2, s3, s4, s5⟩], by omega, by go_num, hown', Hch.out, by simp; omega, ?_⟩
          have h2 := HW2.out
          exact below_own (((hW.trans (h2.mono hw1)).alloc (by have := h2.size; omega) _).alloc (by have := h2.size; simp; omega) _) hgrow (((Hown.out.below h2).alloc _).alloc _) (Nat.le_refl _) (by have := h2.size; simp; omega)
        case measure => simp [intOf]; omega
      · have hno : ¬ ordIs l k := fun h => hok ⟨by have := h.2.1; rwa [hgd] at this, by have := h.2.2; rwa [hgd] at this⟩
        have hcall := order_no2 A l cap k wr (Rd.below HA.out hW) hn' Hl.out hlt (by omega)
        have Hcall := Lib.hid hcall
        have Hno := Lib.hid hno
        have Hch := Lib.hid hch
        clear hcall hok hgd hbd hno hch
        go_wp2_with (go_at_call 49; refine Hcall.out.mono ?_; rintro e w2 ⟨rfl, hW2⟩; have HW2 := Lib.hid hW2; clear hW2; unfold Step.agg)
        go_ret2
        exact ⟨(hW.trans (HW2.out.mono hw1)).alloc (by have := HW2.out.size; omega) _, .inr (.inr ⟨rfl, hn', ss, k, Hch.out, hlt, Hno.out⟩)⟩
    · have : k = l.length := by omega
      subst this
      go_wp2
      go_ret2
      exact ⟨hW, .inl ⟨_, _, rfl, hown, hch, hn', hss⟩⟩
end Go.Proofs.Ytmgejacndhnikaa
