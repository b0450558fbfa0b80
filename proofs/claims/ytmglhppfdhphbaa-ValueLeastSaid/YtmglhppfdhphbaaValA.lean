/- value.numbers walked. -/
import Derived.Test.YtmglhppfdhphbaaValP
import Derived.Test.YtmglhppfdhphbaaAppRun
import Derived.StillTailTactics
import Derived.Deep.RegionHeld3
import Derived.BigGuardPart
import Derived.Deep.CutRange
import Derived.Deep.DeepCutAuto
namespace Go.Proofs.Ytmglhppfdhphbaa
open Go.RowKit

theorem zero_int (w : World) : (zeroValue 3).run Try.prog w = .ok (.int .i64 0) w := by
  obtain ⟨i, hi, h0, h1, h2⟩ := info_parts infoInt
  simp [zeroValue, typeInfo, hi, h0]
theorem kT_in {fs : List Int} {k n : Nat} {vars : Int} (hk : k ≤ n) (hn : n ≤ 16) (hbd : ∀ j, j < k → 0 ≤ fs.getD j 0 ∧ fs.getD j 0 ≤ j) (t : Term) (ho1 : 1 ≤ t.op) (ho6 : t.op ≤ 6) (hon : t.op = 1 → 0 ≤ t.val ∧ t.val ≤ 255) (hov : t.op = 2 → 0 ≤ t.val ∧ t.val < vars) (hv : vars ≤ 6) (hob : 3 ≤ t.op → 0 ≤ t.a ∧ t.a < k ∧ 0 ≤ t.b ∧ t.b < k) : (kT fs t).inI := by
  unfold kT
  by_cases h2 : 2 < t.op
  · obtain ⟨a0, a1, b0, b1⟩ := hob (by omega)
    have ha := hbd t.a.toNat (by omega)
    have hb := hbd t.b.toNat (by omega)
    rw [if_pos h2]
    split
    · exact ⟨⟨by show _ ≤ t.op; omega, by show t.op ≤ _; omega⟩, ⟨by dsimp only; omega, by dsimp only; omega⟩, ⟨by dsimp only; omega, by dsimp only; omega⟩, ⟨by dsimp only; omega, by dsimp only; omega⟩⟩
    · exact ⟨⟨by show _ ≤ t.op; omega, by show t.op ≤ _; omega⟩, ⟨by dsimp only; omega, by dsimp only; omega⟩, ⟨by dsimp only; omega, by dsimp only; omega⟩, ⟨by dsimp only; omega, by dsimp only; omega⟩⟩
  · rw [if_neg h2]
    have : t.op = 1 ∨ t.op = 2 := by omega
    refine ⟨⟨by show _ ≤ t.op; omega, by show t.op ≤ _; omega⟩, ⟨by dsimp only; omega, by dsimp only; omega⟩, ⟨by dsimp only; omega, by dsimp only; omega⟩, ?_⟩
    rcases this with e | e
    · have := hon e; exact ⟨by dsimp only; omega, by dsimp only; omega⟩
    · have := hov e; exact ⟨by dsimp only; omega, by dsimp only; omega⟩
theorem two_start {w wr wa : World} {k : Nat} {v5 v6 : Value} {fs : List Int} {ks : List Term} {f : Term → Option Value} (hI : OwnI wr (w.heap.size + 1) 3 v5 fs) (hT : OwnT wr (w.heap.size + 1) v6 ks) (hM : OwnM Term.agg wr 37 w.heap.size k f) (hW : Below w.heap.size w wr) (x y : Term)
    (hwa : wa = (wr.alloc (.cells #[.int .i64 x.op, .int .i64 x.a, .int .i64 x.b, .int .i64 x.val] 37)).alloc (.cells #[.int .i64 y.op, .int .i64 y.a, .int .i64 y.b, .int .i64 y.val] 37)) :
    Two wa w w.heap.size k v5 v6 fs ks f (wr.heap.size + 1) y := by
  have hM1 := hM.lt
  have hs := hW.size
  subst hwa
  refine ⟨(hI.alloc _).alloc _, (hT.alloc _).alloc _, (hM.alloc _).alloc _, (hW.alloc hs _).alloc (by simp; omega) _, Nat.le_refl _, ⟨by simp, by omega⟩, fun e => by have := (own_lt hI _ e).2; omega, fun e => by have := (own_lt hT _ e).2; omega, ?_⟩
  have h := heap_alloc_new (wr.alloc (.cells #[.int .i64 x.op, .int .i64 x.a, .int .i64 x.b, .int .i64 x.val] 37)) (.cells #[.int .i64 y.op, .int .i64 y.a, .int .i64 y.b, .int .i64 y.val] 37)
  rw [show (wr.alloc (.cells #[.int .i64 x.op, .int .i64 x.a, .int .i64 x.b, .int .i64 x.val] 37)).heap.size = wr.heap.size + 1 by simp] at h
  exact h
theorem two_start8 (wr : World) {wa : World} (x y : Term)
    (hwa : wa = (wr.alloc (.cells #[.int .i64 x.op, .int .i64 x.a, .int .i64 x.b, .int .i64 x.val] 37)).alloc (.cells #[.int .i64 y.op, .int .i64 y.a, .int .i64 y.b, .int .i64 y.val] 37)) :
    wa.cell? ⟨wr.heap.size, 0, none⟩ = some (.int .i64 x.op) ∧ wa.cell? ⟨wr.heap.size, 1, none⟩ = some (.int .i64 x.a) ∧ wa.cell? ⟨wr.heap.size, 2, none⟩ = some (.int .i64 x.b) ∧ wa.cell? ⟨wr.heap.size, 3, none⟩ = some (.int .i64 x.val) := by
  subst hwa
  have h : ∀ j, ((wr.alloc (.cells #[.int .i64 x.op, .int .i64 x.a, .int .i64 x.b, .int .i64 x.val] 37)).alloc (.cells #[.int .i64 y.op, .int .i64 y.a, .int .i64 y.b, .int .i64 y.val] 37)).cell? ⟨wr.heap.size, j, none⟩ = #[Value.int .i64 x.op, .int .i64 x.a, .int .i64 x.b, .int .i64 x.val][j]? := fun j => by
    rw [cell_grown (World.grownBy_alloc _ _ none) _ j (by simp) (by simp), cell_new _ _ _ wr.heap.size rfl]
  exact ⟨h 0, h 1, h 2, h 3⟩
theorem two_startg {wr wa : World} {x y : Array Value} {E E' g : Nat} (hg : g < wr.heap.size) (hwa : wa = (wr.alloc (.cells x E)).alloc (.cells y E')) (j : Nat) : wa.cell? ⟨g, j, none⟩ = wr.cell? ⟨g, j, none⟩ := by
  subst hwa
  rw [cell_grown (World.grownBy_alloc _ _ none) _ j (by simp; omega) (by simp), cell_grown (World.grownBy_alloc _ _ none) _ j hg (by simp)]

set_option maxRecDepth 100000 in
set_option maxHeartbeats 8000000 in
theorem numbers_calls (vars : Int) (A : Option Addr) (l : List Term) (cap : Nat) (w : World) (hA : RdT w A l) (h16 : l.length ≤ 16) (hv : vars ≤ 6) (hok : ∀ k (h : k < l.length), TOk vars k l[k]) :
    Calls Try.prog 38 #[.slice A l.length cap] w fun e w' => ∃ v5 v6, e = .returned (.tuple #[v5, v6]) ∧ OwnI w' w.heap.size 3 v5 (fsTo l l.length) ∧ OwnT w' w.heap.size v6 (ksTo l l.length) ∧ Below w.heap.size w w' := by
  have HA := Lib.hid hA; clear hA
  have Hok := Lib.hid hok; clear hok
  have hmm := @run_makeMap Try.prog
  go_enter Try.func38, Try.ntmps38
  go_wp2
  clear hmm
  have HM0 := Lib.hid (OwnM.made Term.agg w 37)
  have HB0 := Lib.hid ((Below.refl w.heap.size w).alloc (Nat.le_refl _) (.map #[] 0))
  go_loopw [5, 6, 15] (fun u v i wr => ∃ k : Nat, k ≤ l.length ∧ i = .int .i64 k ∧ OwnI wr (w.heap.size + 1) 3 u (fsTo l k) ∧ OwnT wr (w.heap.size + 1) v (ksTo l k) ∧ OwnM Term.agg wr 37 w.heap.size k (knownF (ksTo l k)) ∧ Below w.heap.size w wr) (fun _ _ i _ => l.length - (intOf i).toNat)
  case atStart => exact ⟨0, Nat.zero_le _, rfl, Own.nil_ _ _ _, Own.nil_ _ _ _, HM0.out, HB0.out⟩
  case round =>
    clear HM0 HB0
    obtain ⟨k, hk, rfl, hI, hT, hM, hW⟩ := hrel
    have HI := Lib.hid hI
    have HT := Lib.hid hT
    have HM := Lib.hid hM
    have HW := Lib.hid hW
    have hgt := hM.lt
    clear hI hT hM
    by_cases hlt : k < l.length
    · obtain ⟨b, off, rfl, hb, c0, c1, c2, c3⟩ := RdT.at4 (Rd.below HA.out hW) hlt
      have hto := Hok.out k hlt
      have Hf := Lib.hid (fsTo_succ hlt)
      have Hk := Lib.hid (ksTo_succ hlt)
      have hfl := fsTo_len hk
      have hkl := ksTo_len hk
      have Hbd := Lib.hid (fun j (hj : j < k) => fsTo_bd hk hj)
      generalize l[k] = t at *
      generalize fsTo l k = fs at *
      generalize ksTo l k = ks at *
      obtain ⟨op, ta, tb, tv⟩ := t
      dsimp only at c0 c1 c2 c3
      obtain ⟨ho1, ho6, hon, hov, hob⟩ := hto
      dsimp only at ho1 ho6 hon hov hob
      clear hW
      have hwr := HW.out.size
      obtain ⟨wa, hwa⟩ : ∃ wa, wa = (wr.alloc (Obj.cells #[Value.int IntKind.i64 op, Value.int IntKind.i64 ta, Value.int IntKind.i64 tb, Value.int IntKind.i64 tv] 37)).alloc (Obj.cells #[Value.int IntKind.i64 op, Value.int IntKind.i64 0, Value.int IntKind.i64 0, Value.int IntKind.i64 tv] 37) := ⟨_, rfl⟩
      go_upto_if 27 with fail
      rw [← hwa]
      have HTw := Lib.hid (two_start HI.out HT.out HM.out HW.out ⟨op, ta, tb, tv⟩ ⟨op, 0, 0, tv⟩ hwa)
      obtain ⟨e0, e1, e2, e3⟩ := two_start8 wr ⟨op, ta, tb, tv⟩ ⟨op, 0, 0, tv⟩ hwa
      have Hgg := Lib.hid (fun g (hg : g < wr.heap.size) j => two_startg hg hwa j)
      have hs8 : wr.heap.size < wa.heap.size := by rw [hwa]; simp; omega
      generalize hs8e : wr.heap.size = s8 at *
      have Hs8 := Lib.hid hs8e
      clear hwa hs8e
      go_cut [15] from 15 to 81 (fun i wx => i = .int .i64 k ∧ Hid (Two wx w w.heap.size k u5 u6 fs ks (knownF ks) (s8 + 1) (kT fs ⟨op, ta, tb, tv⟩)))
      case first =>
        by_cases h2 : 2 < op
        · obtain ⟨ha0, ha1, hb0, hb1⟩ := hob (by omega)
          obtain ⟨na, rfl⟩ := Int.eq_ofNat_of_zero_le ha0
          obtain ⟨nb, rfl⟩ := Int.eq_ofNat_of_zero_le hb0
          obtain ⟨g5, cap5, rfl, hg5, hg52, hcap5, _, hcells⟩ := OwnI.at_ HI.out (by omega)
          have d1 := (Hgg.out g5 (by have := Hs8.out; omega) na).trans (hcells na (by omega))
          have d2 := (Hgg.out g5 (by have := Hs8.out; omega) nb).trans (hcells nb (by omega))
          have q1 : ((na : Nat) : Int) < ((fs.length : Nat) : Int) := by omega
          have q2 : ((nb : Nat) : Int) < ((fs.length : Nat) : Int) := by omega
          have Hfl := Lib.hid hfl
          have hkt : kT fs ⟨op, na, nb, tv⟩ = if op = 3 ∨ op = 5 then ⟨op, min fs[na] fs[nb], max fs[na] fs[nb], 0⟩ else ⟨op, fs[na], fs[nb], 0⟩ := by
            unfold kT
            simp only [Int.toNat_natCast]
            rw [if_pos h2, getD_get (by omega), getD_get (by omega)]
          clear hcells
          generalize fs[na] = x at *
          generalize fs[nb] = y at *
          have Hkt := Lib.hid hkt
          have h2d : decide (2 < op) = true := decide_eq_true h2
          rw [h2d]
          clear hkt h2d HA Hok hfl
          go_wp2
          go_still_tail 13, (by kernel_rfl)
          refine wpList_store_row (w := wa.drew) rfl _ _ _ rfl (s8 + 1) (Term.cells ⟨op, x, y, 0⟩).toArray rfl rfl 37 _ HTw.out.drew.hh (by kernel_rfl) rfl (Array.all_eq_true_iff_forall_mem.2 (fun v hv => termCells_one _ v (by simpa using hv))) ?_
          have HT2 := Lib.hid (HTw.out.drew.setRow ⟨op, x, y, 0⟩)
          have e0' : (wa.drew.setRow (s8 + 1) (Term.cells ⟨op, x, y, 0⟩).toArray).cell? ⟨s8, 0, none⟩ = _ := (cell_grown (grown_setRow wa.drew (s8 + 1) _) s8 0 hs8 (by simp)).trans e0
          obtain ⟨p0, p1, p2, p3⟩ := HT2.out.at4
          have f1 := HT2.out.fz 1
          have f2 := HT2.out.fz 2
          generalize wa.drew.setRow (s8 + 1) (Term.cells ⟨op, x, y, 0⟩).toArray = w2 at *
          dsimp only at p0 p1 p2 p3
          clear e0 e1 e2 e3 d1 d2 HTw
          by_cases h35 : op = 3 ∨ op = 5
          · rw [if_pos h35] at Hkt
            rcases h35 with rfl | rfl
            all_goals go_wp2
            all_goals (
              go_meet
              case rel =>
                first
                  | exact ⟨rfl, Lib.hid (by rw [Hkt.out, show min x y = x by omega, show max x y = y by omega]; exact HT2.out.set12 x y)⟩
                  | exact ⟨rfl, Lib.hid (by rw [Hkt.out, show min x y = y by omega, show max x y = x by omega]; exact HT2.out.set12 y x)⟩
                  | exact ⟨rfl, Lib.hid (by rw [Hkt.out, show min x y = x by omega, show max x y = x by omega]; exact HT2.out.set12 x x)⟩
                  | exact ⟨rfl, Lib.hid (by rw [Hkt.out, show min x y = y by omega, show max x y = y by omega]; exact HT2.out.set12 y y)⟩)
          · rw [if_neg h35] at Hkt
            have q3 : (op == 3) = false := by rw [beq_eq_false_iff_ne]; exact fun e => h35 (Or.inl e)
            have q4 : (op == 5) = false := by rw [beq_eq_false_iff_ne]; exact fun e => h35 (Or.inr e)
            clear h35
            go_wp2
            go_meet
            case rel => exact ⟨rfl, by rw [Hkt.out]; exact HT2⟩
        · have hkt : kT fs ⟨op, ta, tb, tv⟩ = ⟨op, 0, 0, tv⟩ := if_neg h2
          have Hkt := Lib.hid hkt
          have h2d : decide (2 < op) = false := decide_eq_false h2
          rw [h2d]
          clear hkt h2d
          go_wp2
          go_meet
          case rel => exact ⟨rfl, by rw [Hkt.out]; exact HTw⟩
      case rest =>
        obtain ⟨rfl, hT2⟩ := hcut
        have hin := kT_in hk (by omega) Hbd.out ⟨op, ta, tb, tv⟩ ho1 ho6 hon hov hv hob
        generalize kT fs ⟨op, ta, tb, tv⟩ = y at *
        obtain ⟨yl, hyl⟩ := keyOfT y hin
        have Hyl := Lib.hid hyl
        obtain ⟨p0, p1, p2, p3⟩ := hT2.out.at4
        clear e0 e1 e2 e3 HTw Hgg hyl hin
        have Hfl := Lib.hid hfl
        have Hkl := Lib.hid hkl
        have hmu := @run_makeMap Try.prog
        clear hmu hfl
        by_cases hm : y ∈ ks
        · have hkn := knownF_yes hm
          have Hko := Lib.hid (knownF_old hm)
          clear hm
          go_wp2_with (at_lookup; refine wpList_lookOk rfl _ _ _ rfl keyedT Try.underlying84 (zero_int _) rfl hT2.out.mp y rfl Hyl.out ?_)
          have HTz := Lib.hid (hT2.out.put (f' := knownF (ks ++ [y])) (n' := k + 1) (by rw [Hko.out]; exact hT2.out.mp.mono (Nat.le_succ k)) (World.grownBy.refl wc _))
          obtain ⟨wz, rfl⟩ : ∃ wz : World, wz = wc := ⟨_, rfl⟩
          generalize ((ks.idxOf y : Nat) : Int) = jx at *
          clear hkn hT2 p0 p1 p2 p3 hkl
          refine wp_region_held_drew (S := fun w' => w'.cell? ⟨s8 + 1, 0, none⟩ = some (.int .i64 y.op) ∧ w'.cell? ⟨s8 + 1, 1, none⟩ = some (.int .i64 y.a) ∧ w'.cell? ⟨s8 + 1, 2, none⟩ = some (.int .i64 y.b) ∧ w'.cell? ⟨s8 + 1, 3, none⟩ = some (.int .i64 y.val)) (by kernel_rfl) HTz.out.drew.at4 (fun hH0 => ?_)
          have HT0 := Lib.hid HTz.out.drew
          generalize wz.drew = w0 at *
          refine wpAnyH_take (i := 0) (oi := { dst := some 73, op := Go.Op.move (Go.Operand.tmp 5), type := 23, pos := "value.go:26", after := #[], guard := none }) rfl (by kernel_rfl) (by kernel_rfl) (by kernel_rfl) (fun _ _ _ h => h) (Or.inl ⟨by rfl, fun w hw => by (go_simp; try with_reducible rfl)⟩) (by assumption) ?_
          try simp only [Act.put, List.setIfInBounds_toArray, List.set_cons_zero, List.set_cons_succ]
          refine wpAnyH_take (i := 1) (oi := { dst := some 74, op := Go.Op.move (Go.Operand.tmp 10), type := 3, pos := "value.go:26", after := #[], guard := none }) rfl (by kernel_rfl) (by kernel_rfl) (by kernel_rfl) (fun _ _ _ h => h) (Or.inl ⟨by rfl, fun w hw => by (go_simp; try with_reducible rfl)⟩) (by assumption) ?_
          try simp only [Act.put, List.setIfInBounds_toArray, List.set_cons_zero, List.set_cons_succ]
          refine wpAnyH_take (i := 4) (oi := { dst := some 77, op := Go.Op.move (Go.Operand.tmp 6), type := 22, pos := "value.go:26", after := #[], guard := none }) rfl (by kernel_rfl) (by kernel_rfl) (by kernel_rfl) (fun _ _ _ h => h) (Or.inl ⟨by rfl, fun w hw => by (go_simp; try with_reducible rfl)⟩) (by assumption) ?_
          try simp only [Act.put, List.setIfInBounds_toArray, List.set_cons_zero, List.set_cons_succ]
          refine wpAnyH_take (i := 5) (oi := { dst := some 78, op := Go.Op.load 37 (Go.Operand.tmp 9), type := 37, pos := "value.go:26", after := #[], guard := none }) rfl (by kernel_rfl) (by kernel_rfl) (by kernel_rfl) (fun _ _ _ h => h) (Or.inl ⟨by rfl, fun w hw => by (obtain ⟨p0, p1, p2, p3⟩ := hw; go_simp; try with_reducible rfl)⟩) (by assumption) ?_
          try simp only [Act.put, List.setIfInBounds_toArray, List.set_cons_zero, List.set_cons_succ]
          refine wpAnyH_ready (rs := [2, 6]) (by kernel_rfl) (by simp) ?_
          refine AllReadyH.cons (o := { dst := some 75, op := Go.Op.buildSlice 23 1 #[(0, Go.Operand.tmp 74)], type := 23, pos := "value.go:26", after := #[{ on := 1, ground := Go.Ground.data }], guard := none }) rfl (fun K hK => ?_) ?_
          · go_simp
            have HT1 := Lib.hid (HT0.out.alloc (.cells #[Value.int IntKind.i64 jx] 3))
            have HN11 := Lib.hid (Nb.new HT0.out [Value.int IntKind.i64 jx] 3)
            refine hK.out _ _ HT1.out.at4 (fun hH1 => ?_)
            generalize w0.alloc (Obj.cells #[Value.int IntKind.i64 jx] 3) = w1 at *
            generalize w0.heap.size = s1 at *
            clear hK
            try simp only [Act.put, List.setIfInBounds_toArray, List.set_cons_zero, List.set_cons_succ]
            refine wpAnyH_ready (rs := [3, 6]) (by kernel_rfl) (by simp) ?_
            refine AllReadyH.cons (o := { dst := some 76, op := Go.Op.call { callee := Go.Callee.builtin Go.Builtin.append, args := #[Go.Operand.tmp 73, Go.Operand.tmp 75], argTypes := #[23, 23] }, type := 23, pos := "value.go:26", after := #[{ on := 0, ground := Go.Ground.data }, { on := 2, ground := Go.Ground.data }], guard := none }) rfl (fun K hK => ?_) ?_
            · obtain ⟨v5, w2, hrun, hown, hgrow, hat⟩ := run_app1 (P := Try.prog) (w := w1) 23 23 intCells 1 8 3 (.int .i64 0) Try.underlying23 infoInt rfl (by decide) intCells_len intCells_one (w.heap.size + 1) u5 fs jx HT1.out.ri s1 1 (fun j hj => HN11.out.cs j (by simpa using hj)) (by have := Hfl.out; unfold maxLen; omega) (by have := Hfl.out; omega) (by have := HT1.out.hg; omega)
              rw [if_pos (by rfl)]
              refine wp_app_run 23 _ _ rfl rfl rfl hrun ?_
              have HT2 := Lib.hid (HT1.out.appI hown hgrow hat)
              refine hK.out _ _ HT2.out.at4 (fun hH2 => ?_)
              clear hK hrun hown hgrow hat
              try simp only [Act.put, List.setIfInBounds_toArray, List.set_cons_zero, List.set_cons_succ]
              refine wpAnyH_ready (rs := [6]) (by kernel_rfl) (by simp) ?_
              refine AllReadyH.cons (o := { dst := some 79, op := Go.Op.buildSlice 22 1 #[(0, Go.Operand.tmp 78)], type := 22, pos := "value.go:26", after := #[{ on := 5, ground := Go.Ground.data }], guard := none }) rfl (fun K hK => ?_) AllReadyH.nil
              go_simp
              have HT3 := Lib.hid (HT2.out.alloc (.cells #[Value.int IntKind.i64 y.op, Value.int IntKind.i64 y.a, Value.int IntKind.i64 y.b, Value.int IntKind.i64 y.val] 37))
              have HN23 := Lib.hid (Nb.new HT2.out [Value.int IntKind.i64 y.op, Value.int IntKind.i64 y.a, Value.int IntKind.i64 y.b, Value.int IntKind.i64 y.val] 37)
              refine hK.out _ _ HT3.out.at4 (fun hH3 => ?_)
              generalize w2.alloc (Obj.cells #[Value.int IntKind.i64 y.op, Value.int IntKind.i64 y.a, Value.int IntKind.i64 y.b, Value.int IntKind.i64 y.val] 37) = w3 at *
              generalize w2.heap.size = s2 at *
              clear hK
              try simp only [Act.put, List.setIfInBounds_toArray, List.set_cons_zero, List.set_cons_succ]
              refine wpAnyH_ready (rs := [7]) (by kernel_rfl) (by simp) ?_
              refine AllReadyH.cons (o := { dst := some 80, op := Go.Op.call { callee := Go.Callee.builtin Go.Builtin.append, args := #[Go.Operand.tmp 77, Go.Operand.tmp 79], argTypes := #[22, 22] }, type := 22, pos := "value.go:26", after := #[{ on := 4, ground := Go.Ground.data }, { on := 6, ground := Go.Ground.data }, { on := 3, ground := Go.Ground.chain }], guard := none }) rfl (fun K hK => ?_) AllReadyH.nil
              obtain ⟨v6, w4, hrun, hown, hgrow, hat⟩ := run_app1 (P := Try.prog) (w := w3) 22 22 Term.cells 4 32 37 (Term.mk 0 0 0 0).agg Try.underlying22 infoTerm rfl (by decide) termCells_len termCells_one (w.heap.size + 1) u6 ks y HT3.out.rt s2 1 (fun j hj => HN23.out.cs j (by simpa using hj)) (by have := Hkl.out; unfold maxLen; omega) (by have := Hkl.out; omega) (by have := HT3.out.hg; omega)
              rw [if_pos (by rfl)]
              refine wp_app_run 22 _ _ rfl rfl rfl hrun ?_
              have HT4 := Lib.hid (HT3.out.appT hown hgrow hat)
              refine hK.out _ _ HT4.out.at4 (fun hH4 => ?_)
              clear hK hrun hown hgrow hat
              try simp only [Act.put, List.setIfInBounds_toArray, List.set_cons_zero, List.set_cons_succ]
              refine wpAnyH_take (i := 8) (oi := { dst := some 5, op := Go.Op.assign (Go.Operand.tmp 76), type := 23, pos := "value.go:26", after := #[{ on := 3, ground := Go.Ground.data }, { on := 7, ground := Go.Ground.chain }, { on := 0, ground := Go.Ground.phase }, { on := 1, ground := Go.Ground.phase }, { on := 2, ground := Go.Ground.phase }, { on := 3, ground := Go.Ground.phase }, { on := 4, ground := Go.Ground.textOnly Go.Departure.lateStores }, { on := 5, ground := Go.Ground.textOnly Go.Departure.lateStores }, { on := 6, ground := Go.Ground.textOnly Go.Departure.lateStores }, { on := 7, ground := Go.Ground.textOnly Go.Departure.lateStoresUnsure }], guard := none }) rfl (by kernel_rfl) (by kernel_rfl) (by kernel_rfl) (fun _ _ _ h => h) (Or.inl ⟨by rfl, fun w hw => by (go_simp; try with_reducible rfl)⟩) (by assumption) ?_
              try simp only [Act.put, List.setIfInBounds_toArray, List.set_cons_zero, List.set_cons_succ]
              refine wpAnyH_take (i := 9) (oi := { dst := some 6, op := Go.Op.assign (Go.Operand.tmp 80), type := 22, pos := "value.go:26", after := #[{ on := 7, ground := Go.Ground.data }, { on := 8, ground := Go.Ground.chain }, { on := 0, ground := Go.Ground.phase }, { on := 1, ground := Go.Ground.phase }, { on := 2, ground := Go.Ground.phase }, { on := 3, ground := Go.Ground.phase }, { on := 4, ground := Go.Ground.phase }, { on := 5, ground := Go.Ground.phase }, { on := 6, ground := Go.Ground.phase }, { on := 7, ground := Go.Ground.phase }, { on := 8, ground := Go.Ground.phase }], guard := none }) rfl (by kernel_rfl) (by kernel_rfl) (by kernel_rfl) (fun _ _ _ h => h) (Or.inl ⟨by rfl, fun w hw => by (go_simp; try with_reducible rfl)⟩) (by assumption) ?_
              try simp only [Act.put, List.setIfInBounds_toArray, List.set_cons_zero, List.set_cons_succ]
              refine wpAnyH_done (by kernel_rfl) ?_ _
              clear hH0 hH1 hH2 hH3 hH4
              go_wp2
              go_roundw
              case rel => exact ⟨k + 1, by omega, by go_num, by rw [Hf.out]; exact HT4.out.ri, by rw [Hk.out]; exact HT4.out.rt, by rw [Hk.out]; exact HT4.out.mp, HT4.out.bl⟩
              case measure => simp [intOf]; omega
            refine AllReadyH.cons (o := { dst := some 79, op := Go.Op.buildSlice 22 1 #[(0, Go.Operand.tmp 78)], type := 22, pos := "value.go:26", after := #[{ on := 5, ground := Go.Ground.data }], guard := none }) rfl (fun K hK => ?_) AllReadyH.nil
            go_simp
            have HT2 := Lib.hid (HT1.out.alloc (.cells #[Value.int IntKind.i64 y.op, Value.int IntKind.i64 y.a, Value.int IntKind.i64 y.b, Value.int IntKind.i64 y.val] 37))
            have HN22 := Lib.hid (Nb.new HT1.out [Value.int IntKind.i64 y.op, Value.int IntKind.i64 y.a, Value.int IntKind.i64 y.b, Value.int IntKind.i64 y.val] 37)
            have HN12 := Lib.hid (HN11.out.grown (World.grownBy_alloc w1 (.cells #[Value.int IntKind.i64 y.op, Value.int IntKind.i64 y.a, Value.int IntKind.i64 y.b, Value.int IntKind.i64 y.val] 37) none) (by simp) (Or.inl rfl) (Or.inl rfl))
            refine hK.out _ _ HT2.out.at4 (fun hH2 => ?_)
            generalize w1.alloc (Obj.cells #[Value.int IntKind.i64 y.op, Value.int IntKind.i64 y.a, Value.int IntKind.i64 y.b, Value.int IntKind.i64 y.val] 37) = w2 at *
            generalize w1.heap.size = s2 at *
            clear hK
            try simp only [Act.put, List.setIfInBounds_toArray, List.set_cons_zero, List.set_cons_succ]
            refine wpAnyH_ready (rs := [3]) (by kernel_rfl) (by simp) ?_
            refine AllReadyH.cons (o := { dst := some 76, op := Go.Op.call { callee := Go.Callee.builtin Go.Builtin.append, args := #[Go.Operand.tmp 73, Go.Operand.tmp 75], argTypes := #[23, 23] }, type := 23, pos := "value.go:26", after := #[{ on := 0, ground := Go.Ground.data }, { on := 2, ground := Go.Ground.data }], guard := none }) rfl (fun K hK => ?_) AllReadyH.nil
            obtain ⟨v5, w3, hrun, hown, hgrow, hat⟩ := run_app1 (P := Try.prog) (w := w2) 23 23 intCells 1 8 3 (.int .i64 0) Try.underlying23 infoInt rfl (by decide) intCells_len intCells_one (w.heap.size + 1) u5 fs jx HT2.out.ri s1 1 (fun j hj => HN12.out.cs j (by simpa using hj)) (by have := Hfl.out; unfold maxLen; omega) (by have := Hfl.out; omega) (by have := HT2.out.hg; omega)
            rw [if_pos (by rfl)]
            refine wp_app_run 23 _ _ rfl rfl rfl hrun ?_
            have HT3 := Lib.hid (HT2.out.appI hown hgrow hat)
            have HN23 := Lib.hid (HN22.out.grown hgrow HN22.out.n5 hat (Or.inl rfl))
            refine hK.out _ _ HT3.out.at4 (fun hH3 => ?_)
            clear hK hrun hown hgrow hat
            try simp only [Act.put, List.setIfInBounds_toArray, List.set_cons_zero, List.set_cons_succ]
            refine wpAnyH_ready (rs := [7]) (by kernel_rfl) (by simp) ?_
            refine AllReadyH.cons (o := { dst := some 80, op := Go.Op.call { callee := Go.Callee.builtin Go.Builtin.append, args := #[Go.Operand.tmp 77, Go.Operand.tmp 79], argTypes := #[22, 22] }, type := 22, pos := "value.go:26", after := #[{ on := 4, ground := Go.Ground.data }, { on := 6, ground := Go.Ground.data }, { on := 3, ground := Go.Ground.chain }], guard := none }) rfl (fun K hK => ?_) AllReadyH.nil
            obtain ⟨v6, w4, hrun, hown, hgrow, hat⟩ := run_app1 (P := Try.prog) (w := w3) 22 22 Term.cells 4 32 37 (Term.mk 0 0 0 0).agg Try.underlying22 infoTerm rfl (by decide) termCells_len termCells_one (w.heap.size + 1) u6 ks y HT3.out.rt s2 1 (fun j hj => HN23.out.cs j (by simpa using hj)) (by have := Hkl.out; unfold maxLen; omega) (by have := Hkl.out; omega) (by have := HT3.out.hg; omega)
            rw [if_pos (by rfl)]
            refine wp_app_run 22 _ _ rfl rfl rfl hrun ?_
            have HT4 := Lib.hid (HT3.out.appT hown hgrow hat)
            refine hK.out _ _ HT4.out.at4 (fun hH4 => ?_)
            clear hK hrun hown hgrow hat
            try simp only [Act.put, List.setIfInBounds_toArray, List.set_cons_zero, List.set_cons_succ]
            refine wpAnyH_take (i := 8) (oi := { dst := some 5, op := Go.Op.assign (Go.Operand.tmp 76), type := 23, pos := "value.go:26", after := #[{ on := 3, ground := Go.Ground.data }, { on := 7, ground := Go.Ground.chain }, { on := 0, ground := Go.Ground.phase }, { on := 1, ground := Go.Ground.phase }, { on := 2, ground := Go.Ground.phase }, { on := 3, ground := Go.Ground.phase }, { on := 4, ground := Go.Ground.textOnly Go.Departure.lateStores }, { on := 5, ground := Go.Ground.textOnly Go.Departure.lateStores }, { on := 6, ground := Go.Ground.textOnly Go.Departure.lateStores }, { on := 7, ground := Go.Ground.textOnly Go.Departure.lateStoresUnsure }], guard := none }) rfl (by kernel_rfl) (by kernel_rfl) (by kernel_rfl) (fun _ _ _ h => h) (Or.inl ⟨by rfl, fun w hw => by (go_simp; try with_reducible rfl)⟩) (by assumption) ?_
            try simp only [Act.put, List.setIfInBounds_toArray, List.set_cons_zero, List.set_cons_succ]
            refine wpAnyH_take (i := 9) (oi := { dst := some 6, op := Go.Op.assign (Go.Operand.tmp 80), type := 22, pos := "value.go:26", after := #[{ on := 7, ground := Go.Ground.data }, { on := 8, ground := Go.Ground.chain }, { on := 0, ground := Go.Ground.phase }, { on := 1, ground := Go.Ground.phase }, { on := 2, ground := Go.Ground.phase }, { on := 3, ground := Go.Ground.phase }, { on := 4, ground := Go.Ground.phase }, { on := 5, ground := Go.Ground.phase }, { on := 6, ground := Go.Ground.phase }, { on := 7, ground := Go.Ground.phase }, { on := 8, ground := Go.Ground.phase }], guard := none }) rfl (by kernel_rfl) (by kernel_rfl) (by kernel_rfl) (fun _ _ _ h => h) (Or.inl ⟨by rfl, fun w hw => by (go_simp; try with_reducible rfl)⟩) (by assumption) ?_
            try simp only [Act.put, List.setIfInBounds_toArray, List.set_cons_zero, List.set_cons_succ]
            refine wpAnyH_done (by kernel_rfl) ?_ _
            clear hH0 hH1 hH2 hH3 hH4
            go_wp2
            go_roundw
            case rel => exact ⟨k + 1, by omega, by go_num, by rw [Hf.out]; exact HT4.out.ri, by rw [Hk.out]; exact HT4.out.rt, by rw [Hk.out]; exact HT4.out.mp, HT4.out.bl⟩
            case measure => simp [intOf]; omega
          refine AllReadyH.cons (o := { dst := some 79, op := Go.Op.buildSlice 22 1 #[(0, Go.Operand.tmp 78)], type := 22, pos := "value.go:26", after := #[{ on := 5, ground := Go.Ground.data }], guard := none }) rfl (fun K hK => ?_) AllReadyH.nil
          go_simp
          have HT1 := Lib.hid (HT0.out.alloc (.cells #[Value.int IntKind.i64 y.op, Value.int IntKind.i64 y.a, Value.int IntKind.i64 y.b, Value.int IntKind.i64 y.val] 37))
          have HN21 := Lib.hid (Nb.new HT0.out [Value.int IntKind.i64 y.op, Value.int IntKind.i64 y.a, Value.int IntKind.i64 y.b, Value.int IntKind.i64 y.val] 37)
          refine hK.out _ _ HT1.out.at4 (fun hH1 => ?_)
          generalize w0.alloc (Obj.cells #[Value.int IntKind.i64 y.op, Value.int IntKind.i64 y.a, Value.int IntKind.i64 y.b, Value.int IntKind.i64 y.val] 37) = w1 at *
          generalize w0.heap.size = s2 at *
          clear hK
          try simp only [Act.put, List.setIfInBounds_toArray, List.set_cons_zero, List.set_cons_succ]
          refine wpAnyH_ready (rs := [2]) (by kernel_rfl) (by simp) ?_
          refine AllReadyH.cons (o := { dst := some 75, op := Go.Op.buildSlice 23 1 #[(0, Go.Operand.tmp 74)], type := 23, pos := "value.go:26", after := #[{ on := 1, ground := Go.Ground.data }], guard := none }) rfl (fun K hK => ?_) AllReadyH.nil
          go_simp
          have HT2 := Lib.hid (HT1.out.alloc (.cells #[Value.int IntKind.i64 jx] 3))
          have HN12 := Lib.hid (Nb.new HT1.out [Value.int IntKind.i64 jx] 3)
          have HN22 := Lib.hid (HN21.out.grown (World.grownBy_alloc w1 (.cells #[Value.int IntKind.i64 jx] 3) none) (by simp) (Or.inl rfl) (Or.inl rfl))
          refine hK.out _ _ HT2.out.at4 (fun hH2 => ?_)
          generalize w1.alloc (Obj.cells #[Value.int IntKind.i64 jx] 3) = w2 at *
          generalize w1.heap.size = s1 at *
          clear hK
          try simp only [Act.put, List.setIfInBounds_toArray, List.set_cons_zero, List.set_cons_succ]
          refine wpAnyH_ready (rs := [3]) (by kernel_rfl) (by simp) ?_
          refine AllReadyH.cons (o := { dst := some 76, op := Go.Op.call { callee := Go.Callee.builtin Go.Builtin.append, args := #[Go.Operand.tmp 73, Go.Operand.tmp 75], argTypes := #[23, 23] }, type := 23, pos := "value.go:26", after := #[{ on := 0, ground := Go.Ground.data }, { on := 2, ground := Go.Ground.data }], guard := none }) rfl (fun K hK => ?_) AllReadyH.nil
          obtain ⟨v5, w3, hrun, hown, hgrow, hat⟩ := run_app1 (P := Try.prog) (w := w2) 23 23 intCells 1 8 3 (.int .i64 0) Try.underlying23 infoInt rfl (by decide) intCells_len intCells_one (w.heap.size + 1) u5 fs jx HT2.out.ri s1 1 (fun j hj => HN12.out.cs j (by simpa using hj)) (by have := Hfl.out; unfold maxLen; omega) (by have := Hfl.out; omega) (by have := HT2.out.hg; omega)
          rw [if_pos (by rfl)]
          refine wp_app_run 23 _ _ rfl rfl rfl hrun ?_
          have HT3 := Lib.hid (HT2.out.appI hown hgrow hat)
          have HN23 := Lib.hid (HN22.out.grown hgrow HN22.out.n5 hat (Or.inl rfl))
          refine hK.out _ _ HT3.out.at4 (fun hH3 => ?_)
          clear hK hrun hown hgrow hat
          try simp only [Act.put, List.setIfInBounds_toArray, List.set_cons_zero, List.set_cons_succ]
          refine wpAnyH_ready (rs := [7]) (by kernel_rfl) (by simp) ?_
          refine AllReadyH.cons (o := { dst := some 80, op := Go.Op.call { callee := Go.Callee.builtin Go.Builtin.append, args := #[Go.Operand.tmp 77, Go.Operand.tmp 79], argTypes := #[22, 22] }, type := 22, pos := "value.go:26", after := #[{ on := 4, ground := Go.Ground.data }, { on := 6, ground := Go.Ground.data }, { on := 3, ground := Go.Ground.chain }], guard := none }) rfl (fun K hK => ?_) AllReadyH.nil
          obtain ⟨v6, w4, hrun, hown, hgrow, hat⟩ := run_app1 (P := Try.prog) (w := w3) 22 22 Term.cells 4 32 37 (Term.mk 0 0 0 0).agg Try.underlying22 infoTerm rfl (by decide) termCells_len termCells_one (w.heap.size + 1) u6 ks y HT3.out.rt s2 1 (fun j hj => HN23.out.cs j (by simpa using hj)) (by have := Hkl.out; unfold maxLen; omega) (by have := Hkl.out; omega) (by have := HT3.out.hg; omega)
          rw [if_pos (by rfl)]
          refine wp_app_run 22 _ _ rfl rfl rfl hrun ?_
          have HT4 := Lib.hid (HT3.out.appT hown hgrow hat)
          refine hK.out _ _ HT4.out.at4 (fun hH4 => ?_)
          clear hK hrun hown hgrow hat
          try simp only [Act.put, List.setIfInBounds_toArray, List.set_cons_zero, List.set_cons_succ]
          refine wpAnyH_take (i := 8) (oi := { dst := some 5, op := Go.Op.assign (Go.Operand.tmp 76), type := 23, pos := "value.go:26", after := #[{ on := 3, ground := Go.Ground.data }, { on := 7, ground := Go.Ground.chain }, { on := 0, ground := Go.Ground.phase }, { on := 1, ground := Go.Ground.phase }, { on := 2, ground := Go.Ground.phase }, { on := 3, ground := Go.Ground.phase }, { on := 4, ground := Go.Ground.textOnly Go.Departure.lateStores }, { on := 5, ground := Go.Ground.textOnly Go.Departure.lateStores }, { on := 6, ground := Go.Ground.textOnly Go.Departure.lateStores }, { on := 7, ground := Go.Ground.textOnly Go.Departure.lateStoresUnsure }], guard := none }) rfl (by kernel_rfl) (by kernel_rfl) (by kernel_rfl) (fun _ _ _ h => h) (Or.inl ⟨by rfl, fun w hw => by (go_simp; try with_reducible rfl)⟩) (by assumption) ?_
          try simp only [Act.put, List.setIfInBounds_toArray, List.set_cons_zero, List.set_cons_succ]
          refine wpAnyH_take (i := 9) (oi := { dst := some 6, op := Go.Op.assign (Go.Operand.tmp 80), type := 22, pos := "value.go:26", after := #[{ on := 7, ground := Go.Ground.data }, { on := 8, ground := Go.Ground.chain }, { on := 0, ground := Go.Ground.phase }, { on := 1, ground := Go.Ground.phase }, { on := 2, ground := Go.Ground.phase }, { on := 3, ground := Go.Ground.phase }, { on := 4, ground := Go.Ground.phase }, { on := 5, ground := Go.Ground.phase }, { on := 6, ground := Go.Ground.phase }, { on := 7, ground := Go.Ground.phase }, { on := 8, ground := Go.Ground.phase }], guard := none }) rfl (by kernel_rfl) (by kernel_rfl) (by kernel_rfl) (fun _ _ _ h => h) (Or.inl ⟨by rfl, fun w hw => by (go_simp; try with_reducible rfl)⟩) (by assumption) ?_
          try simp only [Act.put, List.setIfInBounds_toArray, List.set_cons_zero, List.set_cons_succ]
          refine wpAnyH_done (by kernel_rfl) ?_ _
          clear hH0 hH1 hH2 hH3 hH4
          go_wp2
          go_roundw
          case rel => exact ⟨k + 1, by omega, by go_num, by rw [Hf.out]; exact HT4.out.ri, by rw [Hk.out]; exact HT4.out.rt, by rw [Hk.out]; exact HT4.out.mp, HT4.out.bl⟩
          case measure => simp [intOf]; omega
        · have hkn := knownF_no hm
          have Hko := Lib.hid (knownF_new hm)
          have Hix := Lib.hid (show ks.idxOf y = ks.length from List.idxOf_eq_length hm)
          clear hm
          go_wp2_with (first
            | (at_lookup; refine wpList_lookOk rfl _ _ _ rfl keyedT Try.underlying84 (zero_int _) rfl hT2.out.mp y rfl Hyl.out ?_)
            | (at_mapUpdate; refine wpList_put rfl _ _ _ _ rfl keyedT aggT_inj Try.underlying84 rfl hT2.out.mp (by unfold maxLen; omega) y (.int .i64 k) rfl rfl Hyl.out ?_; intro wz hmz hgz))
          have HTz := Lib.hid (hT2.out.put (f' := knownF (ks ++ [y])) (n' := k + 1) (by rw [Hko.out, Hkl.out]; exact hmz) hgz)
          rw [Hix.out, Hkl.out] at Hf
          clear hkn hT2 p0 p1 p2 p3 hmz hgz hkl
          refine wp_region_held_drew (S := fun w' => w'.cell? ⟨s8 + 1, 0, none⟩ = some (.int .i64 y.op) ∧ w'.cell? ⟨s8 + 1, 1, none⟩ = some (.int .i64 y.a) ∧ w'.cell? ⟨s8 + 1, 2, none⟩ = some (.int .i64 y.b) ∧ w'.cell? ⟨s8 + 1, 3, none⟩ = some (.int .i64 y.val)) (by kernel_rfl) HTz.out.drew.at4 (fun hH0 => ?_)
          have HT0 := Lib.hid HTz.out.drew
          generalize wz.drew = w0 at *
          refine wpAnyH_take (i := 0) (oi := { dst := some 73, op := Go.Op.move (Go.Operand.tmp 5), type := 23, pos := "value.go:26", after := #[], guard := none }) rfl (by kernel_rfl) (by kernel_rfl) (by kernel_rfl) (fun _ _ _ h => h) (Or.inl ⟨by rfl, fun w hw => by (go_simp; try with_reducible rfl)⟩) (by assumption) ?_
          try simp only [Act.put, List.setIfInBounds_toArray, List.set_cons_zero, List.set_cons_succ]
          refine wpAnyH_take (i := 1) (oi := { dst := some 74, op := Go.Op.move (Go.Operand.tmp 10), type := 3, pos := "value.go:26", after := #[], guard := none }) rfl (by kernel_rfl) (by kernel_rfl) (by kernel_rfl) (fun _ _ _ h => h) (Or.inl ⟨by rfl, fun w hw => by (go_simp; try with_reducible rfl)⟩) (by assumption) ?_
          try simp only [Act.put, List.setIfInBounds_toArray, List.set_cons_zero, List.set_cons_succ]
          refine wpAnyH_take (i := 4) (oi := { dst := some 77, op := Go.Op.move (Go.Operand.tmp 6), type := 22, pos := "value.go:26", after := #[], guard := none }) rfl (by kernel_rfl) (by kernel_rfl) (by kernel_rfl) (fun _ _ _ h => h) (Or.inl ⟨by rfl, fun w hw => by (go_simp; try with_reducible rfl)⟩) (by assumption) ?_
          try simp only [Act.put, List.setIfInBounds_toArray, List.set_cons_zero, List.set_cons_succ]
          refine wpAnyH_take (i := 5) (oi := { dst := some 78, op := Go.Op.load 37 (Go.Operand.tmp 9), type := 37, pos := "value.go:26", after := #[], guard := none }) rfl (by kernel_rfl) (by kernel_rfl) (by kernel_rfl) (fun _ _ _ h => h) (Or.inl ⟨by rfl, fun w hw => by (obtain ⟨p0, p1, p2, p3⟩ := hw; go_simp; try with_reducible rfl)⟩) (by assumption) ?_
          try simp only [Act.put, List.setIfInBounds_toArray, List.set_cons_zero, List.set_cons_succ]
          refine wpAnyH_ready (rs := [2, 6]) (by kernel_rfl) (by simp) ?_
          refine AllReadyH.cons (o := { dst := some 75, op := Go.Op.buildSlice 23 1 #[(0, Go.Operand.tmp 74)], type := 23, pos := "value.go:26", after := #[{ on := 1, ground := Go.Ground.data }], guard := none }) rfl (fun K hK => ?_) ?_
          · go_simp
            have HT1 := Lib.hid (HT0.out.alloc (.cells #[Value.int IntKind.i64 ((k : Nat) : Int)] 3))
            have HN11 := Lib.hid (Nb.new HT0.out [Value.int IntKind.i64 ((k : Nat) : Int)] 3)
            refine hK.out _ _ HT1.out.at4 (fun hH1 => ?_)
            generalize w0.alloc (Obj.cells #[Value.int IntKind.i64 ((k : Nat) : Int)] 3) = w1 at *
            generalize w0.heap.size = s1 at *
            clear hK
            try simp only [Act.put, List.setIfInBounds_toArray, List.set_cons_zero, List.set_cons_succ]
            refine wpAnyH_ready (rs := [3, 6]) (by kernel_rfl) (by simp) ?_
            refine AllReadyH.cons (o := { dst := some 76, op := Go.Op.call { callee := Go.Callee.builtin Go.Builtin.append, args := #[Go.Operand.tmp 73, Go.Operand.tmp 75], argTypes := #[23, 23] }, type := 23, pos := "value.go:26", after := #[{ on := 0, ground := Go.Ground.data }, { on := 2, ground := Go.Ground.data }], guard := none }) rfl (fun K hK => ?_) ?_
            · obtain ⟨v5, w2, hrun, hown, hgrow, hat⟩ := run_app1 (P := Try.prog) (w := w1) 23 23 intCells 1 8 3 (.int .i64 0) Try.underlying23 infoInt rfl (by decide) intCells_len intCells_one (w.heap.size + 1) u5 fs ((k : Nat) : Int) HT1.out.ri s1 1 (fun j hj => HN11.out.cs j (by simpa using hj)) (by have := Hfl.out; unfold maxLen; omega) (by have := Hfl.out; omega) (by have := HT1.out.hg; omega)
              rw [if_pos (by rfl)]
              refine wp_app_run 23 _ _ rfl rfl rfl hrun ?_
              have HT2 := Lib.hid (HT1.out.appI hown hgrow hat)
              refine hK.out _ _ HT2.out.at4 (fun hH2 => ?_)
              clear hK hrun hown hgrow hat
              try simp only [Act.put, List.setIfInBounds_toArray, List.set_cons_zero, List.set_cons_succ]
              refine wpAnyH_ready (rs := [6]) (by kernel_rfl) (by simp) ?_
              refine AllReadyH.cons (o := { dst := some 79, op := Go.Op.buildSlice 22 1 #[(0, Go.Operand.tmp 78)], type := 22, pos := "value.go:26", after := #[{ on := 5, ground := Go.Ground.data }], guard := none }) rfl (fun K hK => ?_) AllReadyH.nil
              go_simp
              have HT3 := Lib.hid (HT2.out.alloc (.cells #[Value.int IntKind.i64 y.op, Value.int IntKind.i64 y.a, Value.int IntKind.i64 y.b, Value.int IntKind.i64 y.val] 37))
              have HN23 := Lib.hid (Nb.new HT2.out [Value.int IntKind.i64 y.op, Value.int IntKind.i64 y.a, Value.int IntKind.i64 y.b, Value.int IntKind.i64 y.val] 37)
              refine hK.out _ _ HT3.out.at4 (fun hH3 => ?_)
              generalize w2.alloc (Obj.cells #[Value.int IntKind.i64 y.op, Value.int IntKind.i64 y.a, Value.int IntKind.i64 y.b, Value.int IntKind.i64 y.val] 37) = w3 at *
              generalize w2.heap.size = s2 at *
              clear hK
              try simp only [Act.put, List.setIfInBounds_toArray, List.set_cons_zero, List.set_cons_succ]
              refine wpAnyH_ready (rs := [7]) (by kernel_rfl) (by simp) ?_
              refine AllReadyH.cons (o := { dst := some 80, op := Go.Op.call { callee := Go.Callee.builtin Go.Builtin.append, args := #[Go.Operand.tmp 77, Go.Operand.tmp 79], argTypes := #[22, 22] }, type := 22, pos := "value.go:26", after := #[{ on := 4, ground := Go.Ground.data }, { on := 6, ground := Go.Ground.data }, { on := 3, ground := Go.Ground.chain }], guard := none }) rfl (fun K hK => ?_) AllReadyH.nil
              obtain ⟨v6, w4, hrun, hown, hgrow, hat⟩ := run_app1 (P := Try.prog) (w := w3) 22 22 Term.cells 4 32 37 (Term.mk 0 0 0 0).agg Try.underlying22 infoTerm rfl (by decide) termCells_len termCells_one (w.heap.size + 1) u6 ks y HT3.out.rt s2 1 (fun j hj => HN23.out.cs j (by simpa using hj)) (by have := Hkl.out; unfold maxLen; omega) (by have := Hkl.out; omega) (by have := HT3.out.hg; omega)
              rw [if_pos (by rfl)]
              refine wp_app_run 22 _ _ rfl rfl rfl hrun ?_
              have HT4 := Lib.hid (HT3.out.appT hown hgrow hat)
              refine hK.out _ _ HT4.out.at4 (fun hH4 => ?_)
              clear hK hrun hown hgrow hat
              try simp only [Act.put, List.setIfInBounds_toArray, List.set_cons_zero, List.set_cons_succ]
              refine wpAnyH_take (i := 8) (oi := { dst := some 5, op := Go.Op.assign (Go.Operand.tmp 76), type := 23, pos := "value.go:26", after := #[{ on := 3, ground := Go.Ground.data }, { on := 7, ground := Go.Ground.chain }, { on := 0, ground := Go.Ground.phase }, { on := 1, ground := Go.Ground.phase }, { on := 2, ground := Go.Ground.phase }, { on := 3, ground := Go.Ground.phase }, { on := 4, ground := Go.Ground.textOnly Go.Departure.lateStores }, { on := 5, ground := Go.Ground.textOnly Go.Departure.lateStores }, { on := 6, ground := Go.Ground.textOnly Go.Departure.lateStores }, { on := 7, ground := Go.Ground.textOnly Go.Departure.lateStoresUnsure }], guard := none }) rfl (by kernel_rfl) (by kernel_rfl) (by kernel_rfl) (fun _ _ _ h => h) (Or.inl ⟨by rfl, fun w hw => by (go_simp; try with_reducible rfl)⟩) (by assumption) ?_
              try simp only [Act.put, List.setIfInBounds_toArray, List.set_cons_zero, List.set_cons_succ]
              refine wpAnyH_take (i := 9) (oi := { dst := some 6, op := Go.Op.assign (Go.Operand.tmp 80), type := 22, pos := "value.go:26", after := #[{ on := 7, ground := Go.Ground.data }, { on := 8, ground := Go.Ground.chain }, { on := 0, ground := Go.Ground.phase }, { on := 1, ground := Go.Ground.phase }, { on := 2, ground := Go.Ground.phase }, { on := 3, ground := Go.Ground.phase }, { on := 4, ground := Go.Ground.phase }, { on := 5, ground := Go.Ground.phase }, { on := 6, ground := Go.Ground.phase }, { on := 7, ground := Go.Ground.phase }, { on := 8, ground := Go.Ground.phase }], guard := none }) rfl (by kernel_rfl) (by kernel_rfl) (by kernel_rfl) (fun _ _ _ h => h) (Or.inl ⟨by rfl, fun w hw => by (go_simp; try with_reducible rfl)⟩) (by assumption) ?_
              try simp only [Act.put, List.setIfInBounds_toArray, List.set_cons_zero, List.set_cons_succ]
              refine wpAnyH_done (by kernel_rfl) ?_ _
              clear hH0 hH1 hH2 hH3 hH4
              go_wp2
              go_roundw
              case rel => exact ⟨k + 1, by omega, by go_num, by rw [Hf.out]; exact HT4.out.ri, by rw [Hk.out]; exact HT4.out.rt, by rw [Hk.out]; exact HT4.out.mp, HT4.out.bl⟩
              case measure => simp [intOf]; omega
            refine AllReadyH.cons (o := { dst := some 79, op := Go.Op.buildSlice 22 1 #[(0, Go.Operand.tmp 78)], type := 22, pos := "value.go:26", after := #[{ on := 5, ground := Go.Ground.data }], guard := none }) rfl (fun K hK => ?_) AllReadyH.nil
            go_simp
            have HT2 := Lib.hid (HT1.out.alloc (.cells #[Value.int IntKind.i64 y.op, Value.int IntKind.i64 y.a, Value.int IntKind.i64 y.b, Value.int IntKind.i64 y.val] 37))
            have HN22 := Lib.hid (Nb.new HT1.out [Value.int IntKind.i64 y.op, Value.int IntKind.i64 y.a, Value.int IntKind.i64 y.b, Value.int IntKind.i64 y.val] 37)
            have HN12 := Lib.hid (HN11.out.grown (World.grownBy_alloc w1 (.cells #[Value.int IntKind.i64 y.op, Value.int IntKind.i64 y.a, Value.int IntKind.i64 y.b, Value.int IntKind.i64 y.val] 37) none) (by simp) (Or.inl rfl) (Or.inl rfl))
            refine hK.out _ _ HT2.out.at4 (fun hH2 => ?_)
            generalize w1.alloc (Obj.cells #[Value.int IntKind.i64 y.op, Value.int IntKind.i64 y.a, Value.int IntKind.i64 y.b, Value.int IntKind.i64 y.val] 37) = w2 at *
            generalize w1.heap.size = s2 at *
            clear hK
            try simp only [Act.put, List.setIfInBounds_toArray, List.set_cons_zero, List.set_cons_succ]
            refine wpAnyH_ready (rs := [3]) (by kernel_rfl) (by simp) ?_
            refine AllReadyH.cons (o := { dst := some 76, op := Go.Op.call { callee := Go.Callee.builtin Go.Builtin.append, args := #[Go.Operand.tmp 73, Go.Operand.tmp 75], argTypes := #[23, 23] }, type := 23, pos := "value.go:26", after := #[{ on := 0, ground := Go.Ground.data }, { on := 2, ground := Go.Ground.data }], guard := none }) rfl (fun K hK => ?_) AllReadyH.nil
            obtain ⟨v5, w3, hrun, hown, hgrow, hat⟩ := run_app1 (P := Try.prog) (w := w2) 23 23 intCells 1 8 3 (.int .i64 0) Try.underlying23 infoInt rfl (by decide) intCells_len intCells_one (w.heap.size + 1) u5 fs ((k : Nat) : Int) HT2.out.ri s1 1 (fun j hj => HN12.out.cs j (by simpa using hj)) (by have := Hfl.out; unfold maxLen; omega) (by have := Hfl.out; omega) (by have := HT2.out.hg; omega)
            rw [if_pos (by rfl)]
            refine wp_app_run 23 _ _ rfl rfl rfl hrun ?_
            have HT3 := Lib.hid (HT2.out.appI hown hgrow hat)
            have HN23 := Lib.hid (HN22.out.grown hgrow HN22.out.n5 hat (Or.inl rfl))
            refine hK.out _ _ HT3.out.at4 (fun hH3 => ?_)
            clear hK hrun hown hgrow hat
            try simp only [Act.put, List.setIfInBounds_toArray, List.set_cons_zero, List.set_cons_succ]
            refine wpAnyH_ready (rs := [7]) (by kernel_rfl) (by simp) ?_
            refine AllReadyH.cons (o := { dst := some 80, op := Go.Op.call { callee := Go.Callee.builtin Go.Builtin.append, args := #[Go.Operand.tmp 77, Go.Operand.tmp 79], argTypes := #[22, 22] }, type := 22, pos := "value.go:26", after := #[{ on := 4, ground := Go.Ground.data }, { on := 6, ground := Go.Ground.data }, { on := 3, ground := Go.Ground.chain }], guard := none }) rfl (fun K hK => ?_) AllReadyH.nil
            obtain ⟨v6, w4, hrun, hown, hgrow, hat⟩ := run_app1 (P := Try.prog) (w := w3) 22 22 Term.cells 4 32 37 (Term.mk 0 0 0 0).agg Try.underlying22 infoTerm rfl (by decide) termCells_len termCells_one (w.heap.size + 1) u6 ks y HT3.out.rt s2 1 (fun j hj => HN23.out.cs j (by simpa using hj)) (by have := Hkl.out; unfold maxLen; omega) (by have := Hkl.out; omega) (by have := HT3.out.hg; omega)
            rw [if_pos (by rfl)]
            refine wp_app_run 22 _ _ rfl rfl rfl hrun ?_
            have HT4 := Lib.hid (HT3.out.appT hown hgrow hat)
            refine hK.out _ _ HT4.out.at4 (fun hH4 => ?_)
            clear hK hrun hown hgrow hat
            try simp only [Act.put, List.setIfInBounds_toArray, List.set_cons_zero, List.set_cons_succ]
            refine wpAnyH_take (i := 8) (oi := { dst := some 5, op := Go.Op.assign (Go.Operand.tmp 76), type := 23, pos := "value.go:26", after := #[{ on := 3, ground := Go.Ground.data }, { on := 7, ground := Go.Ground.chain }, { on := 0, ground := Go.Ground.phase }, { on := 1, ground := Go.Ground.phase }, { on := 2, ground := Go.Ground.phase }, { on := 3, ground := Go.Ground.phase }, { on := 4, ground := Go.Ground.textOnly Go.Departure.lateStores }, { on := 5, ground := Go.Ground.textOnly Go.Departure.lateStores }, { on := 6, ground := Go.Ground.textOnly Go.Departure.lateStores }, { on := 7, ground := Go.Ground.textOnly Go.Departure.lateStoresUnsure }], guard := none }) rfl (by kernel_rfl) (by kernel_rfl) (by kernel_rfl) (fun _ _ _ h => h) (Or.inl ⟨by rfl, fun w hw => by (go_simp; try with_reducible rfl)⟩) (by assumption) ?_
            try simp only [Act.put, List.setIfInBounds_toArray, List.set_cons_zero, List.set_cons_succ]
            refine wpAnyH_take (i := 9) (oi := { dst := some 6, op := Go.Op.assign (Go.Operand.tmp 80), type := 22, pos := "value.go:26", after := #[{ on := 7, ground := Go.Ground.data }, { on := 8, ground := Go.Ground.chain }, { on := 0, ground := Go.Ground.phase }, { on := 1, ground := Go.Ground.phase }, { on := 2, ground := Go.Ground.phase }, { on := 3, ground := Go.Ground.phase }, { on := 4, ground := Go.Ground.phase }, { on := 5, ground := Go.Ground.phase }, { on := 6, ground := Go.Ground.phase }, { on := 7, ground := Go.Ground.phase }, { on := 8, ground := Go.Ground.phase }], guard := none }) rfl (by kernel_rfl) (by kernel_rfl) (by kernel_rfl) (fun _ _ _ h => h) (Or.inl ⟨by rfl, fun w hw => by (go_simp; try with_reducible rfl)⟩) (by assumption) ?_
            try simp only [Act.put, List.setIfInBounds_toArray, List.set_cons_zero, List.set_cons_succ]
            refine wpAnyH_done (by kernel_rfl) ?_ _
            clear hH0 hH1 hH2 hH3 hH4
            go_wp2
            go_roundw
            case rel => exact ⟨k + 1, by omega, by go_num, by rw [Hf.out]; exact HT4.out.ri, by rw [Hk.out]; exact HT4.out.rt, by rw [Hk.out]; exact HT4.out.mp, HT4.out.bl⟩
            case measure => simp [intOf]; omega
          refine AllReadyH.cons (o := { dst := some 79, op := Go.Op.buildSlice 22 1 #[(0, Go.Operand.tmp 78)], type := 22, pos := "value.go:26", after := #[{ on := 5, ground := Go.Ground.data }], guard := none }) rfl (fun K hK => ?_) AllReadyH.nil
          go_simp
          have HT1 := Lib.hid (HT0.out.alloc (.cells #[Value.int IntKind.i64 y.op, Value.int IntKind.i64 y.a, Value.int IntKind.i64 y.b, Value.int IntKind.i64 y.val] 37))
          have HN21 := Lib.hid (Nb.new HT0.out [Value.int IntKind.i64 y.op, Value.int IntKind.i64 y.a, Value.int IntKind.i64 y.b, Value.int IntKind.i64 y.val] 37)
          refine hK.out _ _ HT1.out.at4 (fun hH1 => ?_)
          generalize w0.alloc (Obj.cells #[Value.int IntKind.i64 y.op, Value.int IntKind.i64 y.a, Value.int IntKind.i64 y.b, Value.int IntKind.i64 y.val] 37) = w1 at *
          generalize w0.heap.size = s2 at *
          clear hK
          try simp only [Act.put, List.setIfInBounds_toArray, List.set_cons_zero, List.set_cons_succ]
          refine wpAnyH_ready (rs := [2]) (by kernel_rfl) (by simp) ?_
          refine AllReadyH.cons (o := { dst := some 75, op := Go.Op.buildSlice 23 1 #[(0, Go.Operand.tmp 74)], type := 23, pos := "value.go:26", after := #[{ on := 1, ground := Go.Ground.data }], guard := none }) rfl (fun K hK => ?_) AllReadyH.nil
          go_simp
          have HT2 := Lib.hid (HT1.out.alloc (.cells #[Value.int IntKind.i64 ((k : Nat) : Int)] 3))
          have HN12 := Lib.hid (Nb.new HT1.out [Value.int IntKind.i64 ((k : Nat) : Int)] 3)
          have HN22 := Lib.hid (HN21.out.grown (World.grownBy_alloc w1 (.cells #[Value.int IntKind.i64 ((k : Nat) : Int)] 3) none) (by simp) (Or.inl rfl) (Or.inl rfl))
          refine hK.out _ _ HT2.out.at4 (fun hH2 => ?_)
          generalize w1.alloc (Obj.cells #[Value.int IntKind.i64 ((k : Nat) : Int)] 3) = w2 at *
          generalize w1.heap.size = s1 at *
          clear hK
          try simp only [Act.put, List.setIfInBounds_toArray, List.set_cons_zero, List.set_cons_succ]
          refine wpAnyH_ready (rs := [3]) (by kernel_rfl) (by simp) ?_
          refine AllReadyH.cons (o := { dst := some 76, op := Go.Op.call { callee := Go.Callee.builtin Go.Builtin.append, args := #[Go.Operand.tmp 73, Go.Operand.tmp 75], argTypes := #[23, 23] }, type := 23, pos := "value.go:26", after := #[{ on := 0, ground := Go.Ground.data }, { on := 2, ground := Go.Ground.data }], guard := none }) rfl (fun K hK => ?_) AllReadyH.nil
          obtain ⟨v5, w3, hrun, hown, hgrow, hat⟩ := run_app1 (P := Try.prog) (w := w2) 23 23 intCells 1 8 3 (.int .i64 0) Try.underlying23 infoInt rfl (by decide) intCells_len intCells_one (w.heap.size + 1) u5 fs ((k : Nat) : Int) HT2.out.ri s1 1 (fun j hj => HN12.out.cs j (by simpa using hj)) (by have := Hfl.out; unfold maxLen; omega) (by have := Hfl.out; omega) (by have := HT2.out.hg; omega)
          rw [if_pos (by rfl)]
          refine wp_app_run 23 _ _ rfl rfl rfl hrun ?_
          have HT3 := Lib.hid (HT2.out.appI hown hgrow hat)
          have HN23 := Lib.hid (HN22.out.grown hgrow HN22.out.n5 hat (Or.inl rfl))
          refine hK.out _ _ HT3.out.at4 (fun hH3 => ?_)
          clear hK hrun hown hgrow hat
          try simp only [Act.put, List.setIfInBounds_toArray, List.set_cons_zero, List.set_cons_succ]
          refine wpAnyH_ready (rs := [7]) (by kernel_rfl) (by simp) ?_
          refine AllReadyH.cons (o := { dst := some 80, op := Go.Op.call { callee := Go.Callee.builtin Go.Builtin.append, args := #[Go.Operand.tmp 77, Go.Operand.tmp 79], argTypes := #[22, 22] }, type := 22, pos := "value.go:26", after := #[{ on := 4, ground := Go.Ground.data }, { on := 6, ground := Go.Ground.data }, { on := 3, ground := Go.Ground.chain }], guard := none }) rfl (fun K hK => ?_) AllReadyH.nil
          obtain ⟨v6, w4, hrun, hown, hgrow, hat⟩ := run_app1 (P := Try.prog) (w := w3) 22 22 Term.cells 4 32 37 (Term.mk 0 0 0 0).agg Try.underlying22 infoTerm rfl (by decide) termCells_len termCells_one (w.heap.size + 1) u6 ks y HT3.out.rt s2 1 (fun j hj => HN23.out.cs j (by simpa using hj)) (by have := Hkl.out; unfold maxLen; omega) (by have := Hkl.out; omega) (by have := HT3.out.hg; omega)
          rw [if_pos (by rfl)]
          refine wp_app_run 22 _ _ rfl rfl rfl hrun ?_
          have HT4 := Lib.hid (HT3.out.appT hown hgrow hat)
          refine hK.out _ _ HT4.out.at4 (fun hH4 => ?_)
          clear hK hrun hown hgrow hat
          try simp only [Act.put, List.setIfInBounds_toArray, List.set_cons_zero, List.set_cons_succ]
          refine wpAnyH_take (i := 8) (oi := { dst := some 5, op := Go.Op.assign (Go.Operand.tmp 76), type := 23, pos := "value.go:26", after := #[{ on := 3, ground := Go.Ground.data }, { on := 7, ground := Go.Ground.chain }, { on := 0, ground := Go.Ground.phase }, { on := 1, ground := Go.Ground.phase }, { on := 2, ground := Go.Ground.phase }, { on := 3, ground := Go.Ground.phase }, { on := 4, ground := Go.Ground.textOnly Go.Departure.lateStores }, { on := 5, ground := Go.Ground.textOnly Go.Departure.lateStores }, { on := 6, ground := Go.Ground.textOnly Go.Departure.lateStores }, { on := 7, ground := Go.Ground.textOnly Go.Departure.lateStoresUnsure }], guard := none }) rfl (by kernel_rfl) (by kernel_rfl) (by kernel_rfl) (fun _ _ _ h => h) (Or.inl ⟨by rfl, fun w hw => by (go_simp; try with_reducible rfl)⟩) (by assumption) ?_
          try simp only [Act.put, List.setIfInBounds_toArray, List.set_cons_zero, List.set_cons_succ]
          refine wpAnyH_take (i := 9) (oi := { dst := some 6, op := Go.Op.assign (Go.Operand.tmp 80), type := 22, pos := "value.go:26", after := #[{ on := 7, ground := Go.Ground.data }, { on := 8, ground := Go.Ground.chain }, { on := 0, ground := Go.Ground.phase }, { on := 1, ground := Go.Ground.phase }, { on := 2, ground := Go.Ground.phase }, { on := 3, ground := Go.Ground.phase }, { on := 4, ground := Go.Ground.phase }, { on := 5, ground := Go.Ground.phase }, { on := 6, ground := Go.Ground.phase }, { on := 7, ground := Go.Ground.phase }, { on := 8, ground := Go.Ground.phase }], guard := none }) rfl (by kernel_rfl) (by kernel_rfl) (by kernel_rfl) (fun _ _ _ h => h) (Or.inl ⟨by rfl, fun w hw => by (go_simp; try with_reducible rfl)⟩) (by assumption) ?_
          try simp only [Act.put, List.setIfInBounds_toArray, List.set_cons_zero, List.set_cons_succ]
          refine wpAnyH_done (by kernel_rfl) ?_ _
          clear hH0 hH1 hH2 hH3 hH4
          go_wp2
          go_roundw
          case rel => exact ⟨k + 1, by omega, by go_num, by rw [Hf.out]; exact HT4.out.ri, by rw [Hk.out]; exact HT4.out.rt, by rw [Hk.out]; exact HT4.out.mp, HT4.out.bl⟩
          case measure => simp [intOf]; omega
    · have : k = l.length := by omega
      subst this
      go_wp2
      go_ret2
      exact ⟨_, _, rfl, Own.base_ HI.out (by omega), Own.base_ HT.out (by omega), HW.out⟩
end Go.Proofs.Ytmglhppfdhphbaa
