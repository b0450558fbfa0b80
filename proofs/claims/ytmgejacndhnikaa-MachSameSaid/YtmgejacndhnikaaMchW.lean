/- The law MachSame. -/
import Derived.Test.YtmgejacndhnikaaMchU
import Derived.Test.YtmgejacndhnikaaMchV
import Derived.Test.YtmgejacndhnikaaBlkE
import Derived.Test.YtmgejacndhnikaaIntsR
namespace Go.Proofs.Ytmgejacndhnikaa
set_option maxRecDepth 100000
open Go.RowKit

/-- Orders one behind the other up to the end: no place ahead of it has none. -/
theorem walks_at {l : List Int} : ∀ {ss : List Step} {a k : Nat} {n : Nat}, Chain l a ss k → WalksTo l n a l.length → k < l.length → ordIs l k
  | [], a, k, n, h, hw, hk => by
    cases h
    match n, hw with
    | 0, e => cases e; omega
    | n + 1, e => exact e.1
  | s :: r, a, k, n, ⟨h1, h2, h3⟩, hw, hk => by
    match n, hw with
    | 0, e =>
      cases e
      exact absurd h1.1 (by omega)
    | n + 1, e => exact walks_at h3 e.2 hk
/-- Text of a program's bytes answers OK. -/
theorem text_prog {vars : Int} {p : List Blk} (hp : POk vars p) (A : Option Addr) (cap : Nat) (w : World) (hA : RdBy w A (progY p)) :
    Calls Try.prog 37 #[.slice A (progY p).length cap] w fun e w' => (∃ v, e = .returned (.tuple #[v, .int .i64 0])) ∧ Below w.heap.size w w' := by
  have hl := progY_len hp
  refine (text_calls A (progY p) cap w hA (progY_bd hp) (by unfold maxLen; omega)).mono ?_
  rintro e w' ⟨hb, h⟩
  refine ⟨?_, hb⟩
  rcases h with ⟨v, ss, rfl, _⟩ | ⟨_, h⟩ | ⟨_, _, ss, k, h1, h2, h3⟩
  · exact ⟨v, rfl⟩
  · omega
  · obtain ⟨n, hn⟩ := progY_ord hp
    exact absurd (walks_at h1 hn h2) h3
theorem take_pad (a : List Int) (z : List Int) : (a ++ z).take a.length = a := by rw [List.take_left]
set_option maxHeartbeats 8000000 in
theorem machSame_u (vars : Int) (A B : Option Addr) (p : List Blk) (hv : List Int) (cap capB : Nat) (w : World) (hA : RdBk w A p) (hB : RdI w B hv) (hm : p.length ≤ maxLen) (hmc : smallB p) (hm' : hv.length ≤ maxLen) :
    Calls Try.prog 11 #[.int .i64 vars, .slice A p.length cap, .slice B hv.length capB] w fun e w' => e = .returned (.bool true) ∧ Below w.heap.size w w' := by
  have HC := Lib.hid (code_calls vars A p cap w hA hm hmc)
  have HA := Lib.hid hA
  have HB := Lib.hid hB
  clear hA hB
  by_cases h0 : pkErr vars p = 0
  · have HP := Lib.hid (pok_of h0)
    have H0 := Lib.hid h0
    have v1 := HP.out.v1
    have v6 := HP.out.v6
    clear h0
    go_enter Try.func11, Try.ntmps11
    go_wp2_with fail
    (with_reducible refine HC.out.mono ?_)
    rintro e w1 ⟨hW1, h⟩
    obtain ⟨-, v, rfl, hO⟩ := h.resolve_left (fun h => h.1 H0.out)
    obtain ⟨A1, c1, rfl, hR1, -⟩ := Own.form byteCells_len hO
    have HR1 := Lib.hid hR1
    have HW1 := Lib.hid hW1
    clear hW1 h hO hR1 HC
    have HPc := Lib.hid (progCheck_calls vars A p cap w1 (HA.out.below HW1.out) hm hmc)
    go_wp2_with fail
    (with_reducible refine HPc.out.mono ?_)
    rintro e w2 ⟨rfl, hb2⟩
    rw [H0.out]
    have HW2 := Lib.hid (HW1.out.trans (hb2.mono HW1.out.size))
    have HR2 := Lib.hid (Rd.below HR1.out hb2)
    clear hb2 HPc HR1
    have HT := Lib.hid (text_prog HP.out A1 c1 w2 HR2.out)
    go_wp2_with fail
    (with_reducible refine HT.out.mono ?_)
    rintro e w3 ⟨⟨v3, rfl⟩, hb3⟩
    have HW3 := Lib.hid (HW2.out.trans (hb3.mono HW2.out.size))
    have HR3 := Lib.hid (Rd.below HR2.out hb3)
    clear hb3 HT HR2
    by_cases h1 : haveErr vars hv = 0
    · obtain ⟨hl, hh⟩ := haveErr_ok h1
      have Hh := Lib.hid hh
      have HRun := Lib.hid (blkRun_ok vars A B p hv cap capB w3 (HA.out.below HW3.out) (Rd.below HB.out HW3.out) hm hmc hm' H0.out h1)
      subst hl
      have H1 := Lib.hid h1
      clear h1 hh
      go_wp2_with fail
      (with_reducible refine HRun.out.mono ?_)
      rintro e w4 ⟨hb4, h⟩
      have HW4 := Lib.hid (HW3.out.trans (hb4.mono HW3.out.size))
      have HR4 := Lib.hid (Rd.below HR3.out hb4)
      clear hb4 HRun HR3
      rcases h with ⟨k, x, y, hk1, hk2, hr, hneg, rfl, hOx, -⟩ | ⟨-, rfl⟩
      · obtain ⟨m, bx, hmk, hif⟩ := prog_go HP.out rfl Hh.out ((List.replicate 6 0).drop hv.length) k hr
        rw [if_neg (by omega)] at hif
        obtain ⟨q, hgo, hst⟩ := hif
        obtain ⟨a1, -, -, -⟩ := st_ok HP.out rfl Hh.out k hr
        have HM := Lib.hid (mrun_calls A1 (progY p) c1 B hv capB w4 HR4.out (progY_bd HP.out) (by have := progY_len HP.out; omega) (Rd.below HB.out HW4.out) (by omega) H1.out m (by omega) _ hgo hst)
        dsimp only at HM
        have Hx := Lib.hid hOx
        generalize (stB p hv k).2 = xs at *
        clear hgo hst hr hneg hOx
        obtain ⟨Ax, cx, rfl, hRx⟩ := OwnI.rd Hx.out
        have HRx := Lib.hid hRx
        have hlx : xs.length = hv.length := by omega
        clear hRx Hx
        go_wp2_with fail
        (with_reducible refine HM.out.mono ?_)
        rintro e w5 ⟨hb5, vy, rfl, hOy⟩
        have hly : (xs ++ (List.replicate 6 0).drop hv.length).length = 6 := by rw [List.length_append, List.length_drop, List.length_replicate]; omega
        obtain ⟨Ay, cy, rfl, hRy, -, hcy⟩ := Own.form intCells_len hOy
        have HW5 := Lib.hid (HW4.out.trans (hb5.mono HW4.out.size))
        have HRx5 := Lib.hid (Rd.below HRx.out hb5)
        have HRt : Hid (RdI w5 Ay xs) := Lib.hid (fun hn => by
          obtain ⟨b, off, e, hb, hc⟩ := hRy (by rw [hly]; omega)
          exact ⟨b, off, e, hb, fun j x hx i hi => hc j x (by rw [List.getElem?_append_left (List.getElem?_eq_some_iff.1 hx).1]; exact hx) i hi⟩)
        rw [hly] at hcy ⊢
        clear hb5 hOy hRy HM HRx
        have HI := Lib.hid (fun cc => ints_calls Ax Ay xs xs cx cc w5 HRx5.out HRt.out (by unfold maxLen; omega))
        rw [hlx] at HI
        go_wp2_with fail
        (with_reducible refine (HI.out cy).mono ?_)
        rintro e w6 ⟨rfl, hb6⟩
        simp only [decide_true]
        have HW6 := Lib.hid (HW5.out.trans (hb6.mono HW5.out.size))
        clear hb6 HI
        go_wp2_with fail
        go_ret
        exact ⟨rfl, HW6.out⟩
      · go_wp2
        go_ret
        exact ⟨rfl, HW4.out⟩
    · have HRun := Lib.hid (blkRun_bad vars A B p hv cap capB w3 (HA.out.below HW3.out) (Rd.below HB.out HW3.out) hm hmc hm' (.inr h1))
      go_wp2_with fail
      (with_reducible refine HRun.out.mono ?_)
      rintro e w4 ⟨⟨x, hx, rfl⟩, hb4⟩
      have q : (x != 0) = true := by rw [bne_iff_ne]; exact hx
      have HW4 := Lib.hid (HW3.out.trans (hb4.mono HW3.out.size))
      clear hb4 HRun hx
      go_wp2_with fail
      go_ret
      exact ⟨rfl, HW4.out⟩
  · have H0 := Lib.hid h0
    obtain ⟨E, hE⟩ : ∃ E, E = pkErr vars p := ⟨_, rfl⟩
    have q2 : (E != 0) = true := by rw [bne_iff_ne, hE]; exact h0
    have HE := Lib.hid hE
    clear hE h0
    go_enter Try.func11, Try.ntmps11
    go_wp2_with fail
    (with_reducible refine HC.out.mono ?_)
    rintro e w1 ⟨hW1, h⟩
    obtain ⟨-, rfl⟩ := h.resolve_right (fun h => H0.out h.1)
    have HW1 := Lib.hid hW1
    clear hW1 h HC
    rw [← HE.out]
    have HPc := Lib.hid (progCheck_calls vars A p cap w1 (HA.out.below HW1.out) hm hmc)
    go_wp2_with fail
    (with_reducible refine HPc.out.mono ?_)
    rintro e w2 ⟨rfl, hb2⟩
    rw [← HE.out]
    have HW2 := Lib.hid (HW1.out.trans (hb2.mono HW1.out.size))
    clear hb2 HPc
    go_wp2_with fail
    go_ret
    exact ⟨rfl, HW2.out⟩
end Go.Proofs.Ytmgejacndhnikaa
