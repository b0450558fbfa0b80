/- tile.wrong, tile.Cost and codemasonref.TilesCheck walked. -/
import Derived.Test.YtmgejacndhnikaaTileB
import Derived.Test.YtmgejacndhnikaaNeedC
import Derived.BigGuardPart
import Derived.Laws.Cover1
namespace Go.Proofs.Ytmgejacndhnikaa
set_option maxRecDepth 100000
open Go.RowKit

def tileErr (vars : Int) (l : List Term) (tiles : List Tile) : Int := if needErr vars l ≠ 0 then needErr vars l else tilesErr tiles
theorem or_small : ∀ a : Fin 7, ∀ b : Fin 7, (bits .or .i64 ((a.1 : Nat) : Int) ((b.1 : Nat) : Int) == 0) = decide (a.1 = 0 ∧ b.1 = 0) := by decide +kernel
theorem or_zero {a b : Int} (h0 : 0 ≤ a ∧ a ≤ 6) (h1 : 0 ≤ b ∧ b ≤ 6) : (bits .or .i64 a b != 0) = decide (a ≠ 0 ∨ b ≠ 0) := by
  obtain ⟨x, rfl⟩ := Int.eq_ofNat_of_zero_le h0.1
  obtain ⟨y, rfl⟩ := Int.eq_ofNat_of_zero_le h1.1
  have := or_small ⟨x, by omega⟩ ⟨y, by omega⟩
  dsimp only at this
  unfold bne
  rw [this]
  by_cases hx : x = 0 <;> by_cases hy : y = 0 <;> simp [hx, hy]
theorem tlErrs_drop {tiles : List Tile} {k : Nat} {E : Int} (hk : k < tiles.length) (h0 : tlErrs (tiles.drop k) = E) :
    (tlErr tiles[k] ≠ 0 → E = tlErr tiles[k]) ∧ (tlErr tiles[k] = 0 → tlErrs (tiles.drop (k + 1)) = E) := by
  rw [List.drop_eq_getElem_cons hk, show ∀ t r, tlErrs (t :: r) = if tlErr t = 0 then tlErrs r else tlErr t from fun _ _ => rfl] at h0
  constructor
  · intro h; rw [if_neg h] at h0; exact h0.symm
  · intro h; rw [if_pos h] at h0; exact h0
theorem tlErr_6 {o l r c : Int} (h : o < 1 ∨ 6 < o ∨ l < 0 ∨ 6 < l ∨ r < 0 ∨ 6 < r) : tlErr ⟨o, l, r, c⟩ = 6 := by unfold tlErr; rw [if_pos h]
theorem tlErr_3 {o l r c : Int} (h : ¬ (o < 1 ∨ 6 < o ∨ l < 0 ∨ 6 < l ∨ r < 0 ∨ 6 < r)) (h2 : o ≤ 2 ∧ (l ≠ 0 ∨ r ≠ 0)) : tlErr ⟨o, l, r, c⟩ = 3 := by unfold tlErr; rw [if_neg h, if_pos h2]
theorem tlErr_4 {o l r c : Int} (h : ¬ (o < 1 ∨ 6 < o ∨ l < 0 ∨ 6 < l ∨ r < 0 ∨ 6 < r)) (h2 : ¬ (o ≤ 2 ∧ (l ≠ 0 ∨ r ≠ 0))) (h3 : c < 0 ∨ 99 < c) : tlErr ⟨o, l, r, c⟩ = 4 := by unfold tlErr; rw [if_neg h, if_neg h2, if_pos h3]
theorem tlErr_0 {o l r c : Int} (h : ¬ (o < 1 ∨ 6 < o ∨ l < 0 ∨ 6 < l ∨ r < 0 ∨ 6 < r)) (h2 : ¬ (o ≤ 2 ∧ (l ≠ 0 ∨ r ≠ 0))) (h3 : ¬ (c < 0 ∨ 99 < c)) : tlErr ⟨o, l, r, c⟩ = 0 := by unfold tlErr; rw [if_neg h, if_neg h2, if_neg h3]
set_option maxHeartbeats 16000000 in
theorem tileWrong_calls (vars : Int) (A B : Option Addr) (l : List Term) (tiles : List Tile) (capA capB : Nat) (w : World) (hA : RdT w A l) (hB : RdTl w B tiles) (hm : l.length ≤ maxLen) (hm2 : tiles.length ≤ maxLen) :
    Calls Try.prog 80 #[.int .i64 vars, .slice A l.length capA, .slice B tiles.length capB] w fun e w' => e = .returned (.int .i64 (tileErr vars l tiles)) ∧ Below w.heap.size w w' := by
  have HB := Lib.hid hB
  unfold maxLen at hm2
  by_cases h0 : needErr vars l = 0
  case neg =>
    have he : tileErr vars l tiles = needErr vars l := by unfold tileErr; rw [if_pos h0]
    rw [he]
    have Hn := Lib.hid (need_bad vars A l capA w hA hm h0)
    have q : (needErr vars l != 0) = true := by rw [bne_iff_ne]; exact h0
    clear h0 he hA hB
    generalize needErr vars l = x at *
    go_enter Try.func80, Try.ntmps80
    go_wp2_with fail
    refine Hn.out.mono ?_
    rintro e w1 ⟨rfl, hW⟩
    have HW := Lib.hid hW
    clear hW
    go_wp2
    go_ret
    exact ⟨rfl, HW.out⟩
  have he : tileErr vars l tiles = tilesErr tiles := by unfold tileErr; rw [if_neg (by simp [h0])]
  rw [he]
  have Hn := Lib.hid (need_ok vars A l capA w hA h0)
  clear h0 he hA hB
  go_enter Try.func80, Try.ntmps80
  by_cases h10 : 10 < tiles.length
  · have hr : tilesErr tiles = 1 := by unfold tilesErr; rw [if_pos h10]
    rw [hr]
    have q : (10 : Int) < ((tiles.length : Nat) : Int) := by omega
    clear hr
    go_wp2_with fail
    refine Hn.out.mono ?_
    rintro e w1 ⟨rfl, hW⟩
    have HW := Lib.hid hW
    clear hW
    go_wp2
    go_ret
    exact ⟨rfl, HW.out⟩
  have hr : tilesErr tiles = tlErrs tiles := by unfold tilesErr; rw [if_neg h10]
  rw [hr]
  clear hr
  generalize hE : tlErrs tiles = E
  have HE := Lib.hid hE
  have q : ¬ (10 : Int) < ((tiles.length : Nat) : Int) := by omega
  clear hE
  go_wp2_with fail
  refine Hn.out.mono ?_
  rintro e w1 ⟨rfl, hW⟩
  have HW := Lib.hid hW
  have HB1 := Lib.hid (Rd.below HB.out hW)
  have hz1 := hW.size
  clear hW
  go_wp2
  go_loopw [25] (fun i wr => ∃ k : Nat, k ≤ tiles.length ∧ i = .int .i64 k ∧ Hid (tlErrs (tiles.drop k) = E) ∧ Below w1.heap.size w1 wr) (fun i _ => tiles.length - (intOf i).toNat)
  case atStart => exact ⟨0, Nat.zero_le _, rfl, Lib.hid (by rw [List.drop_zero]; exact HE.out), Below.refl _ _⟩
  case round =>
    obtain ⟨k, hk, rfl, hD, hW2⟩ := hrel
    have hz2 := hW2.size
    by_cases hlt : k < tiles.length
    · obtain ⟨b, off, rfl, hb, c0, c1, c2, c3⟩ := RdTl.at4 (Rd.below HB1.out hW2) hlt
      obtain ⟨hd1, hd2⟩ := tlErrs_drop hlt hD.out
      have HD1 := Lib.hid hd1
      have HD2 := Lib.hid hd2
      have q1 : ((k : Nat) : Int) < ((tiles.length : Nat) : Int) := by omega
      have HWn := Lib.hid (HW.out.trans (hW2.mono hz1))
      have HW2 := Lib.hid hW2
      clear hd1 hd2 hD hW2
      generalize tiles[k] = t at *
      obtain ⟨o, tl, tr, tc⟩ := t
      dsimp only at c0 c1 c2 c3
      have HWa := Lib.hid (HWn.out.alloc HWn.out.size (.cells #[.int .i64 o, .int .i64 tl, .int .i64 tr, .int .i64 tc] 70))
      have HWb := Lib.hid (HW2.out.alloc hz2 (.cells #[.int .i64 o, .int .i64 tl, .int .i64 tr, .int .i64 tc] 70))
      by_cases e6 : o < 1 ∨ 6 < o ∨ tl < 0 ∨ 6 < tl ∨ tr < 0 ∨ 6 < tr
      · have hE6 : E = 6 := by rw [HD1.out (by rw [tlErr_6 e6]; decide), tlErr_6 e6]
        subst hE6
        clear HD1 HD2
        go_wp2
        all_goals (try (exfalso; omega; done))
        all_goals (go_ret; exact ⟨rfl, HWa.out⟩)
      · by_cases e3 : o ≤ 2 ∧ (tl ≠ 0 ∨ tr ≠ 0)
        · have hE3 : E = 3 := by rw [HD1.out (by rw [tlErr_3 e6 e3]; decide), tlErr_3 e6 e3]
          subst hE3
          have qor : (bits .or .i64 tl tr != 0) = true := by rw [or_zero (by omega) (by omega)]; exact decide_eq_true e3.2
          obtain ⟨e3a, e3b⟩ := e3
          clear HD1 HD2 e3b
          go_wp2
          all_goals (try (exfalso; omega; done))
          all_goals (go_ret; exact ⟨rfl, HWa.out⟩)
        · by_cases e4 : tc < 0 ∨ 99 < tc
          · have hE4 : E = 4 := by rw [HD1.out (by rw [tlErr_4 e6 e3 e4]; decide), tlErr_4 e6 e3 e4]
            subst hE4
            clear HD1 HD2
            by_cases o2 : o ≤ 2
            · have qor : (bits .or .i64 tl tr != 0) = false := by rw [or_zero (by omega) (by omega)]; exact decide_eq_false (fun h => e3 ⟨o2, h⟩)
              clear e3
              go_wp2
              all_goals (try (exfalso; omega; done))
              all_goals (go_ret; exact ⟨rfl, HWa.out⟩)
            · clear e3
              go_wp2
              all_goals (try (exfalso; omega; done))
              all_goals (go_ret; exact ⟨rfl, HWa.out⟩)
          · have HD := Lib.hid (HD2.out (tlErr_0 e6 e3 e4))
            clear HD1 HD2
            by_cases o2 : o ≤ 2
            · have qor : (bits .or .i64 tl tr != 0) = false := by rw [or_zero (by omega) (by omega)]; exact decide_eq_false (fun h => e3 ⟨o2, h⟩)
              clear e3
              go_wp2
              all_goals (try (exfalso; omega; done))
              all_goals
                go_roundw
                case rel => exact ⟨k + 1, by omega, by go_num, HD, HWb.out⟩
                case measure => simp [intOf]; omega
            · clear e3
              go_wp2
              all_goals (try (exfalso; omega; done))
              all_goals
                go_roundw
                case rel => exact ⟨k + 1, by omega, by go_num, HD, HWb.out⟩
                case measure => simp [intOf]; omega
    · have hke : k = tiles.length := by omega
      subst hke
      have hE0 : E = 0 := by have := hD.out; rw [List.drop_length] at this; exact this.symm
      subst hE0
      have HWn := Lib.hid (HW.out.trans (hW2.mono hz1))
      clear hD hW2
      go_wp2
      go_ret
      exact ⟨rfl, HWn.out⟩
set_option maxHeartbeats 16000000 in
theorem tilesCheck_calls (B : Option Addr) (tiles : List Tile) (capB : Nat) (w : World) (hB : RdTl w B tiles) (hm2 : tiles.length ≤ maxLen) :
    Calls Try.prog 34 #[.slice B tiles.length capB] w fun e w' => e = .returned (.int .i64 (tilesErr tiles)) ∧ Below w.heap.size w w' := by
  have HB := Lib.hid hB
  unfold maxLen at hm2
  clear hB
  go_enter Try.func34, Try.ntmps34
  by_cases h10 : 10 < tiles.length
  · have hr : tilesErr tiles = 1 := by unfold tilesErr; rw [if_pos h10]
    rw [hr]
    have q : (10 : Int) < ((tiles.length : Nat) : Int) := by omega
    clear hr
    go_wp2
    go_ret
    exact ⟨rfl, Below.refl _ _⟩
  have hr : tilesErr tiles = tlErrs tiles := by unfold tilesErr; rw [if_neg h10]
  rw [hr]
  clear hr
  generalize hE : tlErrs tiles = E
  have HE := Lib.hid hE
  have q : ¬ (10 : Int) < ((tiles.length : Nat) : Int) := by omega
  clear hE
  go_wp2
  go_loopw [10] (fun i wr => ∃ k : Nat, k ≤ tiles.length ∧ i = .int .i64 k ∧ Hid (tlErrs (tiles.drop k) = E) ∧ Below w.heap.size w wr) (fun i _ => tiles.length - (intOf i).toNat)
  case atStart => exact ⟨0, Nat.zero_le _, rfl, Lib.hid (by rw [List.drop_zero]; exact HE.out), Below.refl _ _⟩
  case round =>
    obtain ⟨k, hk, rfl, hD, hW2⟩ := hrel
    have hz2 := hW2.size
    by_cases hlt : k < tiles.length
    · obtain ⟨b, off, rfl, hb, c0, c1, c2, c3⟩ := RdTl.at4 (Rd.below HB.out hW2) hlt
      obtain ⟨hd1, hd2⟩ := tlErrs_drop hlt hD.out
      have HD1 := Lib.hid hd1
      have HD2 := Lib.hid hd2
      have q1 : ((k : Nat) : Int) < ((tiles.length : Nat) : Int) := by omega
      have HW2 := Lib.hid hW2
      clear hd1 hd2 hD hW2
      generalize tiles[k] = t at *
      obtain ⟨o, tl, tr, tc⟩ := t
      dsimp only at c0 c1 c2 c3
      have HWb := Lib.hid (HW2.out.alloc hz2 (.cells #[.int .i64 o, .int .i64 tl, .int .i64 tr, .int .i64 tc] 70))
      by_cases e6 : o < 1 ∨ 6 < o ∨ tl < 0 ∨ 6 < tl ∨ tr < 0 ∨ 6 < tr
      · have hE6 : E = 6 := by rw [HD1.out (by rw [tlErr_6 e6]; decide), tlErr_6 e6]
        subst hE6
        clear HD1 HD2
        go_wp2
        all_goals (try (exfalso; omega; done))
        all_goals (go_ret; exact ⟨rfl, HWb.out⟩)
      · by_cases e3 : o ≤ 2 ∧ (tl ≠ 0 ∨ tr ≠ 0)
        · have hE3 : E = 3 := by rw [HD1.out (by rw [tlErr_3 e6 e3]; decide), tlErr_3 e6 e3]
          subst hE3
          obtain ⟨e3a, e3b⟩ := e3
          have ql : (tl != 0) = decide (tl ≠ 0) := by by_cases h : tl = 0 <;> simp [h]
          have qr : (tr != 0) = decide (tr ≠ 0) := by by_cases h : tr = 0 <;> simp [h]
          clear HD1 HD2
          by_cases l0 : tl = 0
          · have r0 : tr ≠ 0 := by omega
            have q8 : (tl != 0) = false := by rw [bne_eq_false_iff_eq]; exact l0
            have q9 : (tr != 0) = true := by rw [bne_iff_ne]; exact r0
            clear ql qr l0 r0
            go_wp2
            all_goals (try (exfalso; omega; done))
            all_goals (go_ret; exact ⟨rfl, HWb.out⟩)
          · have q8 : (tl != 0) = true := by rw [bne_iff_ne]; exact l0
            clear ql qr
            go_wp2
            all_goals (try (exfalso; omega; done))
            all_goals (go_ret; exact ⟨rfl, HWb.out⟩)
        · have ho : 2 < o ∨ (o ≤ 2 ∧ (tl != 0) = false ∧ (tr != 0) = false) := by
            by_cases o2 : o ≤ 2
            · refine .inr ⟨o2, ?_, ?_⟩ <;> rw [bne_eq_false_iff_eq] <;> omega
            · exact .inl (by omega)
          by_cases e4 : tc < 0 ∨ 99 < tc
          · have hE4 : E = 4 := by rw [HD1.out (by rw [tlErr_4 e6 e3 e4]; decide), tlErr_4 e6 e3 e4]
            subst hE4
            clear HD1 HD2 e3
            rcases ho with o2 | ⟨o2, l0, r0⟩
            all_goals
              go_wp2
              all_goals (try (exfalso; omega; done))
              all_goals (go_ret; exact ⟨rfl, HWb.out⟩)
          · have HD := Lib.hid (HD2.out (tlErr_0 e6 e3 e4))
            clear HD1 HD2 e3
            rcases ho with o2 | ⟨o2, l0, r0⟩
            all_goals
              go_wp2
              all_goals (try (exfalso; omega; done))
              all_goals
                go_roundw
                case rel => exact ⟨k + 1, by omega, by go_num, HD, HWb.out⟩
                case measure => simp [intOf]; omega
    · have hke : k = tiles.length := by omega
      subst hke
      have hE0 : E = 0 := by have := hD.out; rw [List.drop_length] at this; exact this.symm
      subst hE0
      have HWn := Lib.hid hW2
      clear hD hW2
      go_wp2
      go_ret
      exact ⟨rfl, HWn.out⟩

/-! ## tile.Cost -/
def errT (vars : Int) (l : List Term) (tiles : List Tile) : Int := if tileErr vars l tiles ≠ 0 then tileErr vars l tiles else if costK l tiles < 0 then 5 else 0
def valT (vars : Int) (l : List Term) (tiles : List Tile) : Int := if tileErr vars l tiles ≠ 0 then 0 else if costK l tiles < 0 then 0 else costK l tiles
theorem tileErr_ok {vars : Int} {l : List Term} {tiles : List Tile} (h : tileErr vars l tiles = 0) : needErr vars l = 0 ∧ tiles.length ≤ 10 ∧ ∀ t ∈ tiles, TlOk t := by
  unfold tileErr at h
  by_cases h0 : needErr vars l = 0
  · rw [if_neg (by simp [h0])] at h
    unfold tilesErr at h
    by_cases h1 : 10 < tiles.length
    · rw [if_pos h1] at h; cases h
    · rw [if_neg h1] at h
      exact ⟨h0, by omega, tlOks h⟩
  · rw [if_pos h0] at h; exact absurd h h0
set_option maxHeartbeats 8000000 in
theorem costT_calls (vars : Int) (A B : Option Addr) (l : List Term) (tiles : List Tile) (capA capB : Nat) (w : World) (hA : RdT w A l) (hB : RdTl w B tiles) (hm : l.length ≤ maxLen) (hm2 : tiles.length ≤ maxLen) :
    Calls Try.prog 33 #[.int .i64 vars, .slice A l.length capA, .slice B tiles.length capB] w fun e w' => e = .returned (.tuple #[.int .i64 (valT vars l tiles), .int .i64 (errT vars l tiles)]) ∧ Below w.heap.size w w' := by
  have HA := Lib.hid hA
  have HB := Lib.hid hB
  have Hw := Lib.hid (tileWrong_calls vars A B l tiles capA capB w hA hB hm hm2)
  clear hA hB
  by_cases h0 : tileErr vars l tiles = 0
  case neg =>
    have e1 : errT vars l tiles = tileErr vars l tiles := by unfold errT; rw [if_pos h0]
    have e2 : valT vars l tiles = 0 := by unfold valT; rw [if_pos h0]
    rw [e1, e2]
    have q : (tileErr vars l tiles != 0) = true := by rw [bne_iff_ne]; exact h0
    clear h0 e1 e2
    generalize tileErr vars l tiles = x at *
    go_enter Try.func33, Try.ntmps33
    go_wp2_with fail
    refine Hw.out.mono ?_
    rintro e w1 ⟨rfl, hW⟩
    have HW := Lib.hid hW
    clear hW
    go_wp2
    go_ret2
    exact ⟨rfl, HW.out⟩
  have e1 : errT vars l tiles = if costK l tiles < 0 then 5 else 0 := by unfold errT; rw [if_neg (by simp [h0])]
  have e2 : valT vars l tiles = if costK l tiles < 0 then 0 else costK l tiles := by unfold valT; rw [if_neg (by simp [h0])]
  rw [e1, e2]
  rw [h0] at Hw
  obtain ⟨hn, h10, htl⟩ := tileErr_ok h0
  obtain ⟨htE, _⟩ := needErr_ok hn
  obtain ⟨hv0, hv6, hl1, hl16, hok⟩ := tErr_ok htE
  have Hs := Lib.hid (fun w' (h : Below w.heap.size w w') => solveT_calls A B l tiles capA capB w' (Rd.below HA.out h) (Rd.below HB.out h) hok hl16 htl h10)
  obtain ⟨xv, hxv⟩ : ∃ xv, xv = if costK l tiles < 0 then 0 else costK l tiles := ⟨_, rfl⟩
  obtain ⟨xe, hxe⟩ : ∃ xe : Int, xe = if costK l tiles < 0 then 5 else 0 := ⟨_, rfl⟩
  rw [← hxv, ← hxe]
  have Hxv := Lib.hid hxv
  have Hxe := Lib.hid hxe
  clear e1 e2 h0 hn htl htE hok hxv hxe
  go_enter Try.func33, Try.ntmps33
  go_wp2_with fail
  refine Hw.out.mono ?_
  rintro e w1 ⟨rfl, hW⟩
  have HW := Lib.hid hW
  clear hW
  go_wp2_with fail
  refine (Hs.out _ HW.out).mono ?_
  rintro e w2 ⟨v, u, rfl, hO, -, hW2⟩
  have HW2 := Lib.hid (HW.out.trans (hW2.mono HW.out.size))
  obtain ⟨A2, c2, rfl, hR⟩ := OwnI.rd hO
  have hlen := (solK_len l tiles l.length).1
  obtain ⟨b, off, rfl, hb, d0⟩ := RdI.at1 hR (k := l.length - 1) (by omega)
  have eg : (solK l tiles l.length).1[l.length - 1]'(by omega) = costK l tiles := by unfold costK; rw [List.getD_eq_getElem?_getD, List.getElem?_eq_getElem (by omega)]; rfl
  rw [eg] at d0
  rw [hlen]
  have q1 : ((l.length : Int) - 1).toNat = l.length - 1 := by omega
  clear hO hR hlen eg hW2
  generalize costK l tiles = c at *
  by_cases hc : c < 0
  · have h1 : xv = 0 := by rw [Hxv.out, if_pos hc]
    have h2 : xe = 5 := by rw [Hxe.out, if_pos hc]
    subst h1 h2
    clear Hxv Hxe
    go_wp2
    go_ret2
    exact ⟨rfl, HW2.out⟩
  · have h1 : xv = c := by rw [Hxv.out, if_neg hc]
    have h2 : xe = 0 := by rw [Hxe.out, if_neg hc]
    subst h1 h2
    clear Hxv Hxe
    go_wp2
    go_ret2
    exact ⟨rfl, HW2.out⟩
end Go.Proofs.Ytmgejacndhnikaa
