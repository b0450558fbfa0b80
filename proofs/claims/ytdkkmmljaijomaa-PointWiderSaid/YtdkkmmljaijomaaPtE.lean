/- point.Run. -/
import Derived.Test.YtdkkmmljaijomaaPtD
import Derived.Test.YtdkkmmljaijomaaRepeat
import Derived.Test.YtdkkmmljaijomaaMulHpp
namespace Go.Proofs.Ytdkkmmljaijomaa
open Go.RowKit

theorem mul_small (x y : Nat) (hx : x < 100) (hy : y < 100) (w : World) : Calls Try.prog 56 #[.int .u64 x, .int .u64 y] w fun e w' => e = .returned (.tuple #[.int .u64 0, .int .u64 ((x * y : Nat) : Int)]) ∧ w' = w := by
  have h := Try.bits_Mul x y (by omega) (by omega) w
  have hb : x * y < 100 * 100 := Nat.mul_lt_mul'' hx hy
  rw [show x * y / 18446744073709551616 = 0 from Nat.div_eq_of_lt (by omega), show x * y % 18446744073709551616 = x * y from Nat.mod_eq_of_lt (by omega)] at h
  exact h
/-- Each points to what it may, or to none. -/
def SafeT (l : List Pt) (T : List Int) : Prop := ∀ i (h : i < T.length), T[i] = -1 ∨ ∃ j : Nat, T[i] = j ∧ PT l i j
theorem SafeT.set_ {l : List Pt} {T : List Int} (h : SafeT l T) {a : Nat} (x : Int) (hx : x = -1 ∨ ∃ j : Nat, x = j ∧ PT l a j) : SafeT l (T.set a x) := fun i hi => by
  rw [List.getElem_set]
  by_cases e : a = i
  · subst e; rw [if_pos rfl]; exact hx
  · rw [if_neg e]; exact h i (by simpa using hi)
theorem SafeT.start (l : List Pt) (n : Nat) : SafeT l (List.replicate n (-1)) := fun i hi => .inl (by simp)
/-- The row T at g. -/
structure Row1 (w : World) (g n cap : Nat) (T : List Int) (wr : World) : Prop where
  own : OwnI wr w.heap.size 3 (.slice (some ⟨g, 0, none⟩) n cap) T
  bel : Below w.heap.size w wr
  ge : w.heap.size ≤ g
  lt : g < wr.heap.size
section
variable {w wr : World} {g n cap : Nat} {T : List Int}
theorem Row1.alloc (h : Row1 w g n cap T wr) (o : Obj) : Row1 w g n cap T (wr.alloc o) := ⟨h.own.alloc o, h.bel.alloc (by have := h.lt; have := h.ge; omega) o, h.ge, by have := h.lt; simp; omega⟩
theorem Row1.drewN (h : Row1 w g n cap T wr) (k : Nat) : Row1 w g n cap T (wr.drewN k) := ⟨h.own.drewN k, below_dN h.bel k, h.ge, h.lt⟩
theorem Row1.store (h : Row1 w g n cap T wr) {k : Nat} (hk : k < T.length) (y : Int) : Row1 w g n cap (T.set k y) (wr.setCell ⟨g, k, none⟩ (.int .i64 y)) :=
  ⟨OwnI.set_ h.own hk y, h.bel.setCell h.ge _, h.ge, by have := h.lt; simpa using this⟩
theorem Row1.cell (h : Row1 w g n cap T wr) {k : Nat} (hk : k < T.length) : wr.cell? ⟨g, k, none⟩ = some (.int .i64 T[k]) ∧ wr.frozen? ⟨g, k, none⟩ = false := by
  obtain ⟨g', e, _, _, _, hf, hc⟩ := OwnI.at2 h.own (by omega)
  injection e with e; injection e with e
  subst e
  exact ⟨hc k hk, hf k⟩
end
def RunEnd (n : Int) (l : List Pt) (s : List Int) (w : World) (e : Ending) (w' : World) : Prop :=
  Below w.heap.size w w' ∧ ((ptErr n l s ≠ 0 ∧ e = .returned (.tuple #[.slice none 0 0, .int .i64 (ptErr n l s)])) ∨
    (ptErr n l s = 0 ∧ ∃ m : Nat, n = m ∧ PtOk m l ∧ ∃ A c T, e = .returned (.tuple #[.slice A T.length c, .int .i64 0]) ∧ RdI w' A T ∧ T.length = m ∧ SafeT l T))
theorem inside_mem {n : Int} {l : List Int} (h : insideB n l = true) : ∀ x ∈ l, 0 ≤ x ∧ x < n := fun x hx => by
  unfold insideB at h
  exact of_decide_eq_true (List.all_eq_true.1 h x hx)

set_option maxRecDepth 100000 in
set_option maxHeartbeats 16000000 in
theorem ptRun_calls (n : Int) (A B : Option Addr) (l : List Pt) (s : List Int) (cap capB : Nat) (w : World) (hA : RdPt w A l) (hm : l.length ≤ maxLen) (hB : RdI w B s) (hmB : s.length ≤ maxLen) :
    Calls Try.prog 30 #[.int .i64 n, .slice A l.length cap, .slice B s.length capB] w (RunEnd n l s w) := by
  have HA := Lib.hid hA; clear hA
  have HBs := Lib.hid hB; clear hB
  by_cases he : ptErr n l s = 0
  case neg =>
    have q : (ptErr n l s != 0) = true := by rw [bne_iff_ne]; exact he
    have He := Lib.hid he
    clear he
    go_enter Try.func30, Try.ntmps30
    go_wp2_with (go_at_call 43; refine (ptWrong_calls n _ _ l s _ _ _ HA.out hm HBs.out hmB).mono ?_; rintro e w1 ⟨rfl, hB⟩; have HB := Lib.hid hB; clear hB)
    go_ret2
    exact ⟨HB.out, .inl ⟨He.out, rfl⟩⟩
  obtain ⟨m, rfl, ok, hins, h200⟩ := ptErr_ok he
  have Hins := Lib.hid (inside_mem hins)
  have Hok := Lib.hid ok
  have He := Lib.hid he
  have h1 := ok.n1
  have h8 := ok.n8
  have h12 := ok.len
  clear he ok hins
  go_enter Try.func30, Try.ntmps30
  go_wp2_with (go_at_call 43; refine (ptWrong_calls m _ _ l s _ _ _ HA.out hm HBs.out hmB).mono ?_; rintro e w1 ⟨rfl, hB⟩; have HB1 := Lib.hid hB; have hw1 := hB.size; rw [He.out]; clear hB)
  refine (repeat_calls mul_small w1.heap.size (-1) m _ (cell_new _ _ _ _ rfl 0) (by simp) h1 (by omega)).mono ?_
  rintro e w2 ⟨v, rfl, hown2, hB2⟩
  obtain ⟨g, c, e, hg1, hg2, _⟩ := OwnI.at_ hown2 (by simp; omega)
  rw [List.length_replicate] at e
  subst e
  have hbel : Below w.heap.size w w2 := (HB1.out.alloc hw1 _).trans (hB2.mono (by simp; omega))
  have HR0 : Hid (Row1 w g m c (List.replicate m (-1)) w2) := ⟨hown2.base_ (by simp; omega), hbel, by simp at hg1; omega, hg2⟩
  clear hown2 hB2 hg1 hg2 hbel HB1
  go_wp2
  go_loopw [27] (fun i wr => ∃ (k : Nat) (T : List Int), k ≤ s.length ∧ i = .int .i64 k ∧ T.length = m ∧ Hid (SafeT l T) ∧ Hid (Row1 w g m c T wr)) (fun i _ => s.length - (intOf i).toNat)
  case atStart => exact ⟨0, _, Nat.zero_le _, rfl, by simp, Lib.hid (SafeT.start l m), HR0⟩
  case round =>
    clear HR0
    obtain ⟨k, T, hk, rfl, hT, hS, hRow⟩ := hrel
    have HT := Lib.hid hT
    by_cases hlt : k < s.length
    · obtain ⟨b9, off9, rfl, hb9, c9⟩ := RdI.at1 (Rd.below HBs.out hRow.out.bel) hlt
      obtain ⟨x0, x1⟩ := Hins.out _ (List.getElem_mem hlt)
      obtain ⟨u, hu⟩ := Int.eq_ofNat_of_zero_le x0
      rw [hu] at c9 x1
      have hul : u < l.length := by omega
      clear hu x0
      obtain ⟨b0, off0, rfl, hb0, c0, c1, c2⟩ := RdPt.at3 (Rd.below HA.out hRow.out.bel) hul
      have q0 : ((u : Nat) : Int) < ((l.length : Nat) : Int) := by omega
      have hki := Hok.out.kind _ (List.getElem_mem hul)
      have hin := Hok.out.ins _ (List.getElem_mem hul)
      have Hmem := Lib.hid (List.getElem_mem hul)
      generalize l[u] = p at *
      obtain ⟨kd, a, b⟩ := p
      dsimp only at c0 c1 c2 hki hin
      obtain ⟨a1, a2, a3, a4⟩ := hin
      obtain ⟨a, rfl⟩ := Int.eq_ofNat_of_zero_le a1
      obtain ⟨b, rfl⟩ := Int.eq_ofNat_of_zero_le a3
      have am : a < m := by omega
      have bm : b < m := by omega
      have ar : a < T.length := by omega
      have br : b < T.length := by omega
      obtain ⟨w2', hw2e⟩ : ∃ w2, w2 = wr.alloc (.cells #[.int .i64 kd, .int .i64 a, .int .i64 b] 43) := ⟨_, rfl⟩
      have hR2 : Row1 w g m c T w2' := by rw [hw2e]; exact hRow.out.alloc _
      have HR2 := Lib.hid hR2
      have e0 : w2'.cell? ⟨wr.heap.size, 0, none⟩ = some (.int .i64 kd) := by rw [hw2e]; exact cell_new _ _ _ _ rfl 0
      have e1 : w2'.cell? ⟨wr.heap.size, 1, none⟩ = some (.int .i64 a) := by rw [hw2e]; exact cell_new _ _ _ _ rfl 1
      have e2 : w2'.cell? ⟨wr.heap.size, 2, none⟩ = some (.int .i64 b) := by rw [hw2e]; exact cell_new _ _ _ _ rfl 2
      have qa : ((a : Nat) : Int) < ((m : Nat) : Int) := by omega
      have qb : ((b : Nat) : Int) < ((m : Nat) : Int) := by omega
      have qa0 : (0 : Int) ≤ ((a : Nat) : Int) := by omega
      have qb0 : (0 : Int) ≤ ((b : Nat) : Int) := by omega
      have hgl : g < wr.heap.size := hRow.out.lt
      have HS := Lib.hid hS
      rcases (show kd = 1 ∨ kd = 2 ∨ kd = 3 ∨ kd = 4 by omega) with rfl | rfl | rfl | rfl
      · obtain ⟨d1, d2⟩ := hRow.out.cell ar
        have HS2 := Lib.hid (hS.out.set_ (a := a) (b : Int) (.inr ⟨b, rfl, .addr Hmem.out⟩))
        have HR3 := Lib.hid ((hRow.out.store ar (b : Int)).alloc (.cells #[.int .i64 1, .int .i64 a, .int .i64 b] 43))
        clear hR2 hRow hS hw2e e0 e1 e2 HR2
        generalize T[a] = x at *
        go_wp2
        refine ⟨⟨k + 1, _, by omega, by go_num, by simp [HT.out], HS2, HR3⟩, by simp [intOf]; omega⟩
      · obtain ⟨d1, d2⟩ := hR2.cell ar
        obtain ⟨d3, _⟩ := hR2.cell br
        have HS2 := Lib.hid (hS.out.set_ (a := a) T[b] (by
          rcases hS.out b br with h | ⟨j, h, hp⟩
          · exact .inl h
          · exact .inr ⟨j, h, .copy Hmem.out hp⟩))
        have HR3 := Lib.hid ((HR2.out.store ar T[b]).drewN 1)
        clear hR2 hRow hS
        generalize T[a] = x at *
        generalize T[b] = x' at *
        go_wp2
        rw [← hw2e]
        clear hw2e c0 c1 c2
        go_still_tail 9, (by kernel_rfl)
        go_wp2
        refine ⟨⟨k + 1, _, by omega, by go_num, by simp [HT.out], HS2, HR3⟩, by simp [intOf]; omega⟩
      · obtain ⟨d0, _⟩ := hRow.out.cell br
        rcases hS.out b br with hneg | ⟨i, hi, hp⟩
        · rw [hneg] at d0
          have HR2' := Lib.hid (hRow.out.alloc (.cells #[.int .i64 3, .int .i64 a, .int .i64 b] 43))
          clear hR2 hRow hS hw2e e0 e1 e2 HR2 hneg
          go_wp2
          go_roundw
          case rel => exact ⟨k + 1, T, by omega, by go_num, HT.out, HS.out.out, HR2'.out⟩
          case measure => simp [intOf]; omega
        · have him := (hp.lt Hok.out).2
          have ir : i < T.length := by omega
          rw [hi] at d0
          obtain ⟨d1, d2⟩ := hR2.cell ar
          obtain ⟨d3, _⟩ := hR2.cell ir
          have qi : ((i : Nat) : Int) < ((m : Nat) : Int) := by omega
          have qi0 : (0 : Int) ≤ ((i : Nat) : Int) := by omega
          have HS2 := Lib.hid (hS.out.set_ (a := a) T[i] (by
            rcases hS.out i ir with h | ⟨j, h, hp'⟩
            · exact .inl h
            · exact .inr ⟨j, h, .load Hmem.out hp hp'⟩))
          have HR3 := Lib.hid ((HR2.out.store ar T[i]).drewN 1)
          clear hR2 hRow hS hi hp
          generalize T[a] = x at *
          generalize T[i] = x' at *
          go_wp2
          rw [← hw2e]
          clear hw2e c0 c1 c2
          go_still_tail 8, (by kernel_rfl)
          go_wp2
          refine ⟨⟨k + 1, _, by omega, by go_num, by simp [HT.out], HS2, HR3⟩, by simp [intOf]; omega⟩
      · obtain ⟨d0, _⟩ := hRow.out.cell ar
        obtain ⟨d4, _⟩ := hRow.out.cell br
        rcases hS.out a ar with hneg | ⟨i, hi, hp⟩
        · rw [hneg] at d0
          have HR2' := Lib.hid (hRow.out.alloc (.cells #[.int .i64 4, .int .i64 a, .int .i64 b] 43))
          clear hR2 hRow hS hw2e e0 e1 e2 HR2 hneg d4
          go_wp2
          go_roundw
          case rel => exact ⟨k + 1, T, by omega, by go_num, HT.out, HS.out.out, HR2'.out⟩
          case measure => simp [intOf]; omega
        · have him := (hp.lt Hok.out).2
          have ir : i < T.length := by omega
          rw [hi] at d0
          obtain ⟨d1, d2⟩ := hRow.out.cell ir
          have qi : ((i : Nat) : Int) < ((m : Nat) : Int) := by omega
          have qi0 : (0 : Int) ≤ ((i : Nat) : Int) := by omega
          have HS2 := Lib.hid (hS.out.set_ (a := i) T[b] (by
            rcases hS.out b br with h | ⟨j, h, hp'⟩
            · exact .inl h
            · exact .inr ⟨j, h, .store Hmem.out hp hp'⟩))
          have HR3 := Lib.hid ((hRow.out.store ir T[b]).alloc (.cells #[.int .i64 4, .int .i64 a, .int .i64 b] 43))
          clear hR2 hRow hS hi hp hw2e e0 e1 e2 HR2
          generalize T[b] = x at *
          generalize T[i] = x' at *
          go_wp2
          refine ⟨⟨k + 1, _, by omega, by go_num, by simp [HT.out], HS2, HR3⟩, by simp [intOf]; omega⟩
    · have : k = s.length := by omega
      subst this
      obtain ⟨A1, c1, e1, hR1, _⟩ := hRow.out.own.form intCells_len
      injection e1 with e1 e2 e3
      subst e1 e3
      have HR1 := Lib.hid hR1
      clear hR1 hlt hk hT e2
      go_wp2
      go_ret2
      exact ⟨hRow.out.bel, .inr ⟨He.out, m, rfl, Hok.out, some ⟨g, 0, none⟩, c, T, by rw [HT.out]; rfl, HR1.out, HT.out, hS.out⟩⟩
end Go.Proofs.Ytdkkmmljaijomaa
