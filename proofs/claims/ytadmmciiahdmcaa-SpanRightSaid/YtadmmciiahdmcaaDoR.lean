/- codemasonref.Doing. -/
import Derived.Test.YtadmmciiahdmcaaBlkF
import Derived.Test.YtadmmciiahdmcaaRefOp
import Derived.Test.YtadmmciiahdmcaaAppN
import Derived.BigQuiet
import Derived.Deep.QuietTactic
namespace Go.Proofs.Ytadmmciiahdmcaa
open Go.RowKit

set_option maxRecDepth 100000 in
set_option maxHeartbeats 8000000 in
theorem doing_calls (vars : Int) (A B : Option Addr) (c : List Step) (v : List Int) (cap capB : Nat) (w : World) (hA : RdSt w A c) (hB : RdI w B v) (hl : (v.length : Int) = vars) (h1 : 1 ≤ v.length) (h8 : v.length ≤ 8) (hc : c.length ≤ 1000000) (hs : ∀ s ∈ c, SOk vars s) (hv : ∀ x ∈ v, 0 ≤ x ∧ x ≤ 255) :
    Calls Try.prog 32 #[.slice A c.length cap, .slice B v.length capB] w fun e w' => ∃ x, e = .returned x ∧ OwnI w' w.heap.size 3 x (dgR v c) ∧ Below w.heap.size w w' := by
  subst hl
  have HA := Lib.hid hA
  have HS := Lib.hid hs
  have Hv := Lib.hid hv
  have HE := Lib.hid (own_new intCells 1 3 intCells_len w w.heap.size (Nat.le_refl _) [] (by simp [maxLen]))
  have HR := Lib.hid (Rd.below hB ((Below.refl w.heap.size w).alloc (Nat.le_refl _) (.cells #[] 3)))
  obtain ⟨v3, w3, hrun, hO3, hg3, -⟩ := run_appN (P := Try.prog) 23 23 intCells 1 8 3 (.int .i64 0) Try.underlying23 infoInt rfl (by decide) intCells_len intCells_one w.heap.size _ [] HE.out B v capB HR.out (by simp [maxLen]; omega) (by simp; omega) (by simp)
  rw [List.nil_append] at hO3
  have HO3 := Lib.hid hO3
  have HW3 := Lib.hid (((Below.refl w.heap.size w).alloc (Nat.le_refl _) (.cells #[] 3)).grown hg3 (by simp) (fun k e => by have e : some w.heap.size = some k := e; injection e with e; omega))
  obtain ⟨g, vc, rfl, hgb, -⟩ := OwnI.at_ hO3 h1
  have Hrun := Lib.hid hrun
  clear hO3 hg3 hrun hA hB hs hv HE HR
  go_enter Try.func32, Try.ntmps32
  go_wp2_with (at_builtin; refine wpList_app_run rfl 23 _ _ rfl rfl rfl Hrun.out ?_)
  go_loopw [13] (fun i wr => ∃ (k : Nat) (r : List Int), k ≤ c.length ∧ i = .int .i64 k ∧ OwnI wr w.heap.size 3 (.slice (some ⟨g, 0, none⟩) v.length vc) r ∧ Hid (r = dgR v (c.take k) ∧ r.length = v.length ∧ ∀ x ∈ r, 0 ≤ x ∧ x ≤ 255) ∧ Below w.heap.size w wr) (fun i _ => c.length - (intOf i).toNat)
  case atStart => exact ⟨0, _, Nat.zero_le _, rfl, HO3.out, Lib.hid ⟨rfl, rfl, Hv.out⟩, HW3.out⟩
  case round =>
    clear HO3 HW3 Hv Hrun
    obtain ⟨k, r, hk, rfl, hO, hE, hW⟩ := hrel
    have hws := hW.size
    have HO := Lib.hid hO
    have HW := Lib.hid hW
    by_cases hlt : k < c.length
    · obtain ⟨b, off, rfl, hb, k0, k1, k2, k3, k4⟩ := RdSt.at5 (Rd.below HA.out HW.out) hlt
      have q1 : ((k : Nat) : Int) < ((c.length : Nat) : Int) := by omega
      have hok := HS.out c[k] (List.getElem_mem hlt)
      have hst : dg1 r c[k] = dgR v (c.take (k + 1)) ∧ (dg1 r c[k]).length = v.length ∧ ∀ x ∈ dg1 r c[k], 0 ≤ x ∧ x ≤ 255 := by
        refine ⟨?_, by rw [dg1_len]; exact hE.out.2.1, dg1_bd hE.out.2.2 hok⟩
        rw [List.take_succ_eq_append_getElem hlt, dgR_append, ← hE.out.1]; rfl
      have Hst := Lib.hid hst
      have hrl1 : r.length ≤ v.length := by have := hE.out.2.1; omega
      have hrl2 : v.length ≤ r.length := by have := hE.out.2.1; omega
      have Hbd := Lib.hid hE.out.2.2
      obtain ⟨o1, o6, on, ov, ⟨t0, t1⟩, oab⟩ := hok
      clear hst hE
      generalize c[k] = s at *
      obtain ⟨op, sto, sa, sb, sv⟩ := s
      dsimp only at o1 o6 on ov t0 t1 oab k0 k1 k2 k3 k4
      obtain ⟨d, rfl⟩ := Int.eq_ofNat_of_zero_le t0
      have hd : d < v.length := by omega
      have qd : ((d : Nat) : Int) < ((v.length : Nat) : Int) := t1
      obtain ⟨g', eg, hg1, hg2, _, hfz, hcell⟩ := OwnI.at2 hO (by omega)
      injection eg with eg; injection eg with eg
      subst eg
      have c5 := hcell d (by omega)
      have f5 := hfz d
      have HOa := Lib.hid (HO.out.alloc (.cells #[.int .i64 op, .int .i64 (d : Nat), .int .i64 sa, .int .i64 sb, .int .i64 sv] 78))
      have HWa := Lib.hid (HW.out.alloc hws (.cells #[.int .i64 op, .int .i64 (d : Nat), .int .i64 sa, .int .i64 sb, .int .i64 sv] 78))
      by_cases h1 : op = 1
      · subst h1
        have e1 : dg1 r ⟨1, (d : Nat), sa, sb, sv⟩ = r.set d sv := by unfold dg1; dsimp only; rw [if_pos rfl, Int.toNat_natCast]
        rw [e1] at Hst
        have HOf := Lib.hid ((OwnI.set_ HO.out (k := d) (by omega) sv).alloc (.cells #[.int .i64 1, .int .i64 (d : Nat), .int .i64 sa, .int .i64 sb, .int .i64 sv] 78))
        have HWf := Lib.hid ((HW.out.setCell (p := ⟨g, d, none⟩) hg1 (.int .i64 sv)).alloc (by simp [World.setCell]; omega) (.cells #[.int .i64 1, .int .i64 (d : Nat), .int .i64 sa, .int .i64 sb, .int .i64 sv] 78))
        clear e1 hfz hcell on ov oab hO hW
        go_wp2
        go_roundw
        case rel => exact ⟨k + 1, _, by omega, by go_num, HOf.out, Hst, HWf.out⟩
        case measure => simp [intOf]; omega
      have q4 : (op == 1) = false := by rw [beq_eq_false_iff_ne]; exact h1
      by_cases h2 : op = 2
      · subst h2
        obtain ⟨v0, v1⟩ := ov rfl
        obtain ⟨m, rfl⟩ := Int.eq_ofNat_of_zero_le v0
        have e1 : dg1 r ⟨2, (d : Nat), sa, sb, (m : Nat)⟩ = r.set d (r.getD m 0) := by unfold dg1; dsimp only; rw [if_neg (by decide), if_pos rfl, Int.toNat_natCast, Int.toNat_natCast]
        rw [e1] at Hst
        have ca := hcell m (by omega)
        rw [← getI_get (by omega)] at ca
        have HOf := Lib.hid ((OwnI.set_ HO.out (k := d) (by omega) (r.getD m 0)).alloc (.cells #[.int .i64 2, .int .i64 (d : Nat), .int .i64 sa, .int .i64 sb, .int .i64 (m : Nat)] 78))
        have HWf := Lib.hid ((HW.out.setCell (p := ⟨g, d, none⟩) hg1 (.int .i64 (r.getD m 0))).alloc (by simp [World.setCell]; omega) (.cells #[.int .i64 2, .int .i64 (d : Nat), .int .i64 sa, .int .i64 sb, .int .i64 (m : Nat)] 78))
        have qa : ((m : Nat) : Int) < ((v.length : Nat) : Int) := v1
        clear e1 hfz hcell on ov oab hO hW
        generalize r.getD m 0 = z at *
        go_wp2
        go_roundw
        case rel => exact ⟨k + 1, _, by omega, by go_num, HOf.out, Hst, HWf.out⟩
        case measure => simp [intOf]; omega
      have q5 : (op == 2) = false := by rw [beq_eq_false_iff_ne]; exact h2
      obtain ⟨⟨a0, a1⟩, b0, b1⟩ := oab (by omega)
      obtain ⟨a, rfl⟩ := Int.eq_ofNat_of_zero_le a0
      obtain ⟨b', rfl⟩ := Int.eq_ofNat_of_zero_le b0
      have e1 : dg1 r ⟨op, (d : Nat), (a : Nat), (b' : Nat), sv⟩ = r.set d (doF op (r.getD a 0) (r.getD b' 0)) := by unfold dg1; dsimp only; rw [if_neg h1, if_neg h2, Int.toNat_natCast, Int.toNat_natCast, Int.toNat_natCast]
      rw [e1] at Hst
      have ca := hcell a (by omega)
      have cb := hcell b' (by omega)
      rw [← getI_get (by omega)] at ca
      rw [← getI_get (by omega)] at cb
      have bx := getI_bd Hbd.out a
      have by_ := getI_bd Hbd.out b'
      have Hcl := Lib.hid (fun w => op_calls op (r.getD a 0) (r.getD b' 0) w (by omega) bx by_)
      have HOf := Lib.hid (fun n => OwnI.set_ (Own.drewN HOa.out n) (k := d) (by omega) (doF op (r.getD a 0) (r.getD b' 0)))
      have HWf := Lib.hid (fun n => (below_dN HWa.out n).setCell (p := ⟨g, d, none⟩) hg1 (.int .i64 (doF op (r.getD a 0) (r.getD b' 0))))
      have qa : ((a : Nat) : Int) < ((v.length : Nat) : Int) := a1
      have qb : ((b' : Nat) : Int) < ((v.length : Nat) : Int) := b1
      have q6 : 3 ≤ op := by omega
      clear e1 hfz hcell on ov oab hO hW bx by_
      generalize r.getD a 0 = x at *
      generalize r.getD b' 0 = y at *
      go_wp2
      go_quiet ((go_at_call 54; exact Calls.quiet_of_same (Hcl.out _)))
      go_wp2
      go_roundw
      case rel => exact ⟨k + 1, _, by omega, by go_num, HOf.out _, Hst, HWf.out _⟩
      case measure => simp [intOf]; omega
    · have : k = c.length := by omega
      subst this
      have hf := hE.out.1
      rw [List.take_length] at hf
      have HF : Hid (OwnI wr w.heap.size 3 (.slice (some ⟨g, 0, none⟩) v.length vc) (dgR v c)) := Lib.hid (by rw [← hf]; exact HO.out)
      clear hO hW hf
      go_wp2
      go_ret
      exact ⟨_, rfl, HF.out, HW.out⟩
end Go.Proofs.Ytadmmciiahdmcaa
