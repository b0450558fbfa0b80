/- TilePlain walked. -/
import Derived.Test.YtmgejacndhnikaaTileE
import Derived.BigQuiet
import Derived.Deep.QuietTactic
import Derived.BigGuardPart
namespace Go.Proofs.Ytmgejacndhnikaa
set_option maxRecDepth 100000
open Go.RowKit

theorem tl_new (w : World) (t : Tile) (s : Nat) (hs : w.heap.size = s) : RdTl (w.alloc (.cells #[.int .i64 t.op, .int .i64 t.left, .int .i64 t.right, .int .i64 t.cost] 70)) (some ⟨s, 0, none⟩) [t] :=
  rd_new (f := Tile.cells) w [t] _ _ s hs fun k x hk j hj => by
    obtain ⟨hk0, hx⟩ := List.getElem?_eq_some_iff.1 hk
    have hk1 : k = 0 := by simp at hk0; exact hk0
    subst hk1
    simp at hx
    subst hx
    match j, hj with
    | 0, _ => rfl
    | 1, _ => rfl
    | 2, _ => rfl
    | 3, _ => rfl
theorem OwnTl.rd {w : World} {base : Nat} {v : Value} {l : List Tile} (h : OwnTl w base v l) : ∃ A cap, v = .slice A l.length cap ∧ RdTl w A l :=
  let ⟨A, cap, h1, h2, _⟩ := h.form tlCells_len
  ⟨A, cap, h1, h2⟩
set_option maxHeartbeats 16000000 in
theorem tilePlain_calls (vars : Int) (A : Option Addr) (l : List Term) (cap : Nat) (w : World) (hA : RdT w A l) (hm : l.length ≤ maxLen) :
    Calls Try.prog 10 #[.int .i64 vars, .slice A l.length cap] w fun e w' => e = .returned (.bool true) ∧ Below w.heap.size w w' := by
  have HA := Lib.hid hA
  have Hm := Lib.hid hm
  clear hA hm
  go_enter Try.func10, Try.ntmps10
  go_wp2
  go_loopw [5, 6] (fun s5 s6 wr => ∃ k : Nat, k ≤ 6 ∧ s6 = .int .i64 (((k + 1 : Nat)) : Int) ∧ OwnTl wr w.heap.size s5 ((List.range k).map tile6) ∧ Below w.heap.size w wr) (fun _ i _ => 8 - (intOf i).toNat)
  case atStart => exact ⟨0, Nat.zero_le _, by first | rfl | go_num, Own.nil_ _ _ _, Below.refl _ _⟩
  case round =>
    obtain ⟨k, hk, rfl, hO, hW⟩ := hrel
    have HO := Lib.hid hO
    have HW := Lib.hid hW
    have hws := hW.size
    by_cases hlt : k < 6
    · have q1 : (((k + 1 : Nat)) : Int) ≤ 6 := by omega
      have Hs : Hid ((List.range (k + 1)).map tile6 = (List.range k).map tile6 ++ [⟨((k + 1 : Nat) : Int), 0, 0, 1⟩]) := Lib.hid (by rw [List.range_succ, List.map_append]; simp [tile6])
      have hln : ((List.range k).map tile6).length ≤ 6 := by simp; omega
      clear hO hW
      generalize (List.range k).map tile6 = tl at *
      have HOa := Lib.hid (HO.out.alloc (.cells #[.int .i64 ((k + 1 : Nat) : Int), .int .i64 0, .int .i64 0, .int .i64 1] 70))
      have HWa := Lib.hid (HW.out.alloc hws (.cells #[.int .i64 ((k + 1 : Nat) : Int), .int .i64 0, .int .i64 0, .int .i64 1] 70))
      have HRa := Lib.hid (tl_new wr ⟨((k + 1 : Nat) : Int), 0, 0, 1⟩ wr.heap.size rfl)
      obtain ⟨v3, w3, hrun, hown, hgrow, -⟩ := run_appTl 68 w.heap.size _ _ HOa.out (some ⟨wr.heap.size, 0, none⟩) [⟨((k + 1 : Nat) : Int), 0, 0, 1⟩] 1 HRa.out (by simp; omega) (by simp; omega)
      have Hrun := Lib.hid hrun
      have HO3 := Lib.hid hown
      have HW3 := Lib.hid (below_own HWa.out hgrow HOa.out (Nat.le_refl _) (by simp; omega))
      have Hk := Lib.hid (show (((k + 1 : Nat)) : Int) + 1 = ((k + 1 + 1 : Nat) : Int) by push_cast; rfl)
      have Hkk := Lib.hid hlt
      clear hrun hown hgrow HRa
      generalize hx : ((k + 1 : Nat) : Int) = x at *
      have Hx := Lib.hid hx
      have hx1 : 1 ≤ x := by omega
      have hx6 : x ≤ 6 := by omega
      clear hx hlt hk
      go_wp2_with (at_builtin; refine wpList_app_run rfl 68 _ _ rfl rfl rfl Hrun.out ?_)
      go_roundw
      case rel => exact ⟨k + 1, by have := Hkk.out; omega, by first | rw [Hk.out] | (rw [← Hk.out]; go_num) | go_num, by rw [Hs.out]; exact HO3.out, HW3.out⟩
      case measure => simp [intOf]; omega
    · have hk6 : k = 6 := by omega
      subst hk6
      obtain ⟨B, cB, rfl, hRB⟩ := OwnTl.rd hO
      have hT6 : ((List.range 6).map tile6).length = 6 := by simp
      rw [hT6]
      have HB : Hid (RdTl wr B tiles6) := Lib.hid hRB
      have HA1 := Lib.hid (Rd.below HA.out hW)
      have ht6 : tiles6.length = 6 := by simp [tiles6]
      have Hc := Lib.hid (costT_calls vars A B l tiles6 cap cB wr HA1.out HB.out Hm.out (by rw [ht6]; simp [maxLen]))
      rw [ht6] at Hc
      have Htr := Lib.hid (fun w' (h : Below wr.heap.size wr w') => treed_calls vars A l cap w' (Rd.below HA1.out h) Hm.out)
      have q1 : ¬ (((6 + 1 : Nat)) : Int) ≤ 6 := by omega
      clear hO hW hRB hT6 ht6
      by_cases h0 : needErr vars l = 0
      · obtain ⟨e1, e2, -⟩ := plain_cost h0
        rw [e1, e2] at Hc
        have Hco := Lib.hid (fun w' (h : Below wr.heap.size wr w') => cover_ok vars A B l cap cB w' (Rd.below HA1.out h) (Rd.below HB.out h) h0)
        rw [decide_eq_true h0] at Htr
        obtain ⟨htE, _⟩ := needErr_ok h0
        obtain ⟨_, _, hl1, hl16, _⟩ := tErr_ok htE
        have hbo : ∀ k (h : k < l.length), 1 ≤ l[k].op ∧ l[k].op ≤ 6 := fun k h => by
          obtain ⟨_, _, _, _, hok⟩ := tErr_ok htE
          obtain ⟨o1, o6, _⟩ := hok k h
          exact ⟨o1, o6⟩
        have Hbo := Lib.hid hbo
        clear h0 e1 e2 htE hbo
        go_wp2_with fail
        refine Hc.out.mono ?_
        rintro e w1 ⟨rfl, hW1⟩
        have HW1 := Lib.hid hW1
        have Hco1 := Lib.hid (Hco.out _ hW1)
        clear hW1
        go_wp2_with fail
        refine Hco1.out.mono ?_
        rintro e w2 ⟨v, rfl, hO, hW2⟩
        have HW2 := Lib.hid (HW1.out.trans (hW2.mono HW1.out.size))
        have Htr2 := Lib.hid (Htr.out _ HW2.out)
        have HO2 := Lib.hid hO
        clear hO hW2 Hco1
        go_wp2_with fail
        refine Htr2.out.mono ?_
        rintro e w3 ⟨rfl, hW3⟩
        obtain ⟨C, cC, rfl, hRC⟩ := OwnI.rd (Own.below HO2.out hW3)
        have HRC := Lib.hid hRC
        rw [List.length_map]
        have HW3 := Lib.hid (HW.out.trans ((HW2.out.trans (hW3.mono HW2.out.size)).mono hws))
        have qq : ((l.length : Int) != (l.length : Int)) = false := by simp
        clear hW3 hRC
        go_wp2
        go_loopw [67] (fun i wy => ∃ k : Nat, k ≤ l.length ∧ i = .int .i64 k ∧ Below w3.heap.size w3 wy) (fun i _ => l.length - (intOf i).toNat)
        case atStart => exact ⟨0, Nat.zero_le _, rfl, Below.refl _ _⟩
        case round =>
          obtain ⟨k, hk, rfl, hWy⟩ := hrel
          have HWy := Lib.hid (HW3.out.trans (hWy.mono HW3.out.size))
          have hwy := hWy.size
          by_cases hlt : k < l.length
          · obtain ⟨b, off, rfl, hb, c0, c1, c2, c3⟩ := RdT.at4 (Rd.below (Rd.below HA.out HW3.out) hWy) hlt
            obtain ⟨b2, off2, rfl, hb2, d0⟩ := RdI.at1 (Rd.below HRC.out hWy) (k := k) (by simp; exact hlt)
            rw [List.getElem_map] at d0
            have q2 : ((k : Nat) : Int) < ((l.length : Nat) : Int) := by omega
            obtain ⟨o1, o6⟩ := Hbo.out k hlt
            have HWa := Lib.hid (fun (a b c d : Value) nq => below_dN (hWy.alloc hwy (.cells #[a, b, c, d] 62)) nq)
            clear hWy
            generalize l[k] = t at *
            obtain ⟨to, ta, tb, tv⟩ := t
            dsimp only at *
            have q3 : (to - 1 != to - 1) = false := by simp
            go_wp2
            go_quiet (fail)
            go_wp2
            go_roundw
            case rel => exact ⟨k + 1, by omega, by go_num, HWa.out _ _ _ _ _⟩
            case measure => simp [intOf]; omega
          · go_wp2
            go_ret
            exact ⟨rfl, HWy.out⟩
      · obtain ⟨e1, e2, -⟩ := plain_bad h0
        rw [e2] at Hc
        have qe : (errT vars l tiles6 != 0) = true := by rw [bne_iff_ne]; exact e1
        have Hco := Lib.hid (fun w' (h : Below wr.heap.size wr w') => cover_bad vars A B l cap cB w' (Rd.below HA1.out h) (Rd.below HB.out h) Hm.out h0)
        rw [decide_eq_false h0] at Htr
        clear h0 e1 e2
        generalize errT vars l tiles6 = x at *
        go_wp2_with fail
        refine Hc.out.mono ?_
        rintro e w1 ⟨rfl, hW1⟩
        have HW1 := Lib.hid hW1
        have Hco1 := Lib.hid (Hco.out _ hW1)
        clear hW1
        go_wp2_with fail
        refine Hco1.out.mono ?_
        rintro e w2 ⟨⟨y, hy, rfl⟩, hW2⟩
        have qy : (y != 0) = true := by rw [bne_iff_ne]; exact hy
        have HW2 := Lib.hid (HW1.out.trans (hW2.mono HW1.out.size))
        have Htr2 := Lib.hid (Htr.out _ HW2.out)
        clear hW2 hy Hco1
        go_wp2_with fail
        refine Htr2.out.mono ?_
        rintro e w3 ⟨rfl, hW3⟩
        have HW3 := Lib.hid (HW.out.trans ((HW2.out.trans (hW3.mono HW2.out.size)).mono hws))
        clear hW3
        go_wp2
        go_ret
        exact ⟨by first | rfl | exact ret_bool (by simp), HW3.out⟩
end Go.Proofs.Ytmgejacndhnikaa
