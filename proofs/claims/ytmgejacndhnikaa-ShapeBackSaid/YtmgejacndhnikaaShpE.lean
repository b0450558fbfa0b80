/- shape.Run walked. -/
import Derived.Test.YtmgejacndhnikaaShpD
namespace Go.Proofs.Ytmgejacndhnikaa
set_option maxRecDepth 100000
open Go.RowKit

def ShRunE (vars : Int) (l : List Shp) (hv : List Int) (w : World) (e : Ending) (w' : World) : Prop :=
  Below w.heap.size w w' ∧ ((∃ x : Int, x ≠ 0 ∧ e = .returned (.tuple #[.slice none 0 0, .int .i64 x])) ∨ (haveErr vars hv = 0 ∧ ∃ (vv : Value) (v' : List Int), e = .returned (.tuple #[vv, .int .i64 0]) ∧ OwnI w' w.heap.size 3 vv v' ∧ Ex l hv v'))
set_option maxHeartbeats 8000000 in
theorem shRun_calls (vars : Int) (d : Nat) (A B : Option Addr) (l : List Shp) (hv : List Int) (cap capB : Nat) (w : World) (hA : RdSh w d A l) (hl : l.length ≤ 2199023255552) (hB : RdI w B hv) (hm : hv.length ≤ maxLen) :
    Calls Try.prog 32 #[.int .i64 vars, .slice A l.length cap, .slice B hv.length capB] w (ShRunE vars l hv w) := by
  have HC := Lib.hid (shpCheck_calls vars d A l cap w hA hl)
  have HA := Lib.hid hA
  have HB := Lib.hid hB
  clear hA hB
  go_enter Try.func32, Try.ntmps32
  go_wp2_with fail
  (with_reducible refine HC.out.mono ?_)
  rintro e w1 ⟨hb1, x, rfl, hx⟩
  have HW1 := Lib.hid hb1
  have Hx := Lib.hid hx
  clear hb1 hx HC
  by_cases h0 : x = 0
  · subst h0
    obtain ⟨v1, v6, hst, hok, -⟩ := Hx.out rfl
    have Hok := Lib.hid hok
    have HH := Lib.hid (have_calls vars B hv capB w1 (Rd.below HB.out HW1.out) hm)
    by_cases h1 : haveErr vars hv = 0
    · obtain ⟨hvl, hvb⟩ := haveErr_ok h1
      subst hvl
      have Hvb := Lib.hid hvb
      have H1 := Lib.hid h1
      rw [h1] at HH
      have hw1 := HW1.out.size
      have HE := Lib.hid (own_new intCells 1 3 intCells_len w1 w1.heap.size (Nat.le_refl _) [] (by simp [maxLen]))
      have HR2 := Lib.hid (Rd.below HB.out (HW1.out.alloc hw1 (.cells #[] 3)))
      obtain ⟨v3, w3, hrun, hO3, hg3, -⟩ := run_appN (P := Try.prog) 23 23 intCells 1 8 3 (.int .i64 0) Try.underlying23 infoInt rfl (by decide) intCells_len intCells_one w1.heap.size _ [] HE.out B hv capB HR2.out (by simp [maxLen]; omega) (by simp; omega) (by simp)
      rw [List.nil_append] at hO3
      obtain ⟨g, c3, rfl, hgb, hgl, -⟩ := OwnI.at_ hO3 (by omega)
      have HO3 := Lib.hid hO3
      have HW3 := Lib.hid (((HW1.out.alloc hw1 (.cells #[] 3))).grown hg3 (by simp; omega) (fun k e => by have e : some w1.heap.size = some k := e; injection e with e; omega))
      have Hrun := Lib.hid hrun
      have hw3 := HW3.out.size
      have HS : Hid (RunS w (w3.alloc (.cells #[.int .i64 200] 3)) g c3 hv.length w3.heap.size hv 200) := Lib.hid ⟨HW3.out.alloc hw3 _, Own.base_ (hO3.alloc _) hw1, heap_alloc_new w3 _, ⟨by omega, by omega, hw3⟩, rfl, hvb⟩
      have HR := Lib.hid (shpRun_calls w g c3 hv.length w3.heap.size (by omega) (by omega) (d + 1) d (Nat.lt_succ_self d) A l cap _ hv 200 HA.out hst hok hl HS.out (by omega) (Int.le_refl _))
      clear hO3 hg3 hrun h1 hvb HE HR2
      go_wp2_with (first
        | (go_at_call 46; (with_reducible refine HH.out.mono ?_); rintro e w2 ⟨rfl, e2⟩; rw [e2]; clear e2 w2)
        | (at_builtin; refine wpList_app_run rfl 23 _ _ rfl rfl rfl Hrun.out ?_)
        | fail)
      (with_reducible refine HR.out.mono ?_)
      rintro e w9 ⟨bb, v9, t9, rfl, hS9, hF9, hle, hex⟩
      have HS9 := Lib.hid hS9
      have Hex := Lib.hid hex
      clear hS9 hF9 hex HR
      cases bb
      · go_wp2_with fail
        go_ret2
        exact ⟨HS9.out.bel, .inl ⟨7, by decide, rfl⟩⟩
      · have HEx := Lib.hid (Hex.out rfl).2
        clear Hex
        go_wp2_with fail
        go_ret2
        exact ⟨HS9.out.bel, .inr ⟨H1.out, _, v9, rfl, HS9.out.row, HEx.out⟩⟩
    · have H1 := Lib.hid h1
      have q : (haveErr vars hv != 0) = true := by rw [bne_iff_ne]; exact h1
      clear h1
      unfold ShRunE
      generalize haveErr vars hv = y at *
      go_wp2_with fail
      (with_reducible refine HH.out.mono ?_)
      rintro e w2 ⟨rfl, e2⟩
      rw [e2]
      clear e2
      go_wp2_with fail
      go_ret2
      exact ⟨HW1.out, .inl ⟨y, H1.out, rfl⟩⟩
  · have q : (x != 0) = true := by rw [bne_iff_ne]; exact h0
    have H0 := Lib.hid h0
    clear h0
    go_wp2_with fail
    go_ret2
    exact ⟨HW1.out, .inl ⟨x, H0.out, rfl⟩⟩
end Go.Proofs.Ytmgejacndhnikaa
