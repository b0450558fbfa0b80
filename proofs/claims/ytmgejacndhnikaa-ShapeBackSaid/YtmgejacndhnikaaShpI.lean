/- (*flat).list walked (written by shpi.py out of shpi.txt). -/
import Derived.Test.YtmgejacndhnikaaShpH
namespace Go.Proofs.Ytmgejacndhnikaa
set_option maxRecDepth 100000
open Go.RowKit

theorem both_facts {d : Nat} {thn els : List Shp} {q s1 s2 : List Blk} {n a1 a2 : Nat} {test : Int} (hn : n < q.length)
    (h1 : flatL d thn (setG (q ++ [nbl] ++ [nbl]) n test (q.length : Nat) ((q.length + 1 : Nat) : Int)) q.length = (s1, a1)) (h2 : flatL d els s1 (q.length + 1) = (s2, a2)) :
    (a1 < s1.length ∧ q.length + 2 ≤ s1.length ∧ s1.length ≤ q.length + 2 + 3 * cntL d thn ∧ manyB s1 ≤ manyB q + stepsL d thn) ∧ (a2 < s2.length ∧ s1.length ≤ s2.length ∧ s2.length ≤ s1.length + 3 * cntL d els ∧ manyB s2 ≤ manyB s1 + stepsL d els) ∧ a1 ≠ a2 := by
  have hl : (setG (q ++ [nbl] ++ [nbl]) n test (q.length : Nat) ((q.length + 1 : Nat) : Int)).length = q.length + 2 := by rw [setG_len]; simp
  have f1 := flat_fr d thn _ q.length (show q.length < (setG (q ++ [nbl] ++ [nbl]) n test (q.length : Nat) ((q.length + 1 : Nat) : Int)).length by omega)
  have l1 := flat_len d thn (setG (q ++ [nbl] ++ [nbl]) n test (q.length : Nat) ((q.length + 1 : Nat) : Int)) q.length
  have m1 := flat_many d thn _ q.length (show q.length < (setG (q ++ [nbl] ++ [nbl]) n test (q.length : Nat) ((q.length + 1 : Nat) : Int)).length by omega)
  rw [h1] at f1 l1 m1
  rw [manyB_setG (by simp; omega), manyB_nbl, manyB_nbl] at m1
  have b1 := f1.len
  have b2 := f1.lt
  rw [hl] at b1 l1
  dsimp only at b1 b2 l1 m1
  have f2 := flat_fr d els s1 (q.length + 1) (by omega)
  have l2 := flat_len d els s1 (q.length + 1)
  have m2 := flat_many d els s1 (q.length + 1) (by omega)
  rw [h2] at f2 l2 m2
  exact ⟨⟨b2, b1, l1, m1⟩, ⟨f2.lt, f2.len, l2, m2⟩, by have c1 := f1.at_; have c2 := f2.at_; rw [hl] at c1; dsimp only at c1 c2; omega⟩
theorem while_facts {d : Nat} {thn : List Shp} {q s1 : List Blk} {n a1 : Nat} {test : Int} (hn : n < q.length)
    (h1 : flatL d thn ((setT (q ++ [zbl] ++ [nbl] ++ [nbl]) n (q.length : Nat)).set q.length ⟨[], test, ((q.length + 1 : Nat) : Int), ((q.length + 2 : Nat) : Int)⟩) (q.length + 1) = (s1, a1)) :
    a1 < s1.length ∧ q.length + 3 ≤ s1.length ∧ s1.length ≤ q.length + 3 + 3 * cntL d thn ∧ manyB s1 ≤ manyB q + stepsL d thn := by
  have hl : ((setT (q ++ [zbl] ++ [nbl] ++ [nbl]) n (q.length : Nat)).set q.length ⟨[], test, ((q.length + 1 : Nat) : Int), ((q.length + 2 : Nat) : Int)⟩).length = q.length + 3 := by rw [List.length_set, setT_len]; simp
  have f1 := flat_fr d thn _ (q.length + 1) (show q.length + 1 < ((setT (q ++ [zbl] ++ [nbl] ++ [nbl]) n (q.length : Nat)).set q.length ⟨[], test, ((q.length + 1 : Nat) : Int), ((q.length + 2 : Nat) : Int)⟩).length by omega)
  have l1 := flat_len d thn ((setT (q ++ [zbl] ++ [nbl] ++ [nbl]) n (q.length : Nat)).set q.length ⟨[], test, ((q.length + 1 : Nat) : Int), ((q.length + 2 : Nat) : Int)⟩) (q.length + 1)
  have m1 := flat_many d thn _ (q.length + 1) (show q.length + 1 < ((setT (q ++ [zbl] ++ [nbl] ++ [nbl]) n (q.length : Nat)).set q.length ⟨[], test, ((q.length + 1 : Nat) : Int), ((q.length + 2 : Nat) : Int)⟩).length by omega)
  rw [h1] at f1 l1 m1
  have hs := manyB_set (b := (⟨[], test, ((q.length + 1 : Nat) : Int), ((q.length + 2 : Nat) : Int)⟩ : Blk)) (show q.length < (setT (q ++ [zbl] ++ [nbl] ++ [nbl]) n (q.length : Nat)).length by rw [setT_len]; simp)
  rw [manyB_setT (by simp; omega), manyB_nbl, manyB_nbl, manyB_zbl] at hs
  have b1 := f1.len
  have b2 := f1.lt
  rw [hl] at b1 l1
  have hz : ([] : List Step).length = 0 := rfl
  dsimp only at b1 b2 l1 m1 hs
  exact ⟨b2, b1, l1, by omega⟩
def ListE (w0 : World) (T : Nat) (d : Nat) (l : List Shp) (p : List Blk) (i : Nat) (w : World) (e : Ending) (w' : World) : Prop :=
  e = .returned (.int .i64 ((flatL d l p i).2 : Nat)) ∧ ∃ g cap raws, FS w0 w' T g cap raws (flatL d l p i).1 ∧ FrS w w'
def shpV (x : Shp) (A1 A2 A3 : Option Addr) (c1 c2 c3 : Nat) : Obj := .cells #[.int .i64 x.kind, .int .i64 x.test, .slice A1 x.code.length c1, .slice A2 x.thn.length c2, .slice A3 x.els.length c3] 59
set_option maxHeartbeats 32000000 in
theorem flist_calls (w0 : World) (T : Nat) (vars : Int) : ∀ (N d : Nat), d < N → ∀ (A : Option Addr) (l : List Shp) (lc : Nat) (w : World) (g cap : Nat) (raws : List RB) (p : List Blk) (i : Nat), RdSh w0 d A l → l.length ≤ 2199023255552 → OkS vars d l → FS w0 w T g cap raws p → i < p.length → p.length + 3 * cntL d l ≤ 1000 → manyB p + stepsL d l ≤ 1000 →
    Calls Try.prog 78 #[.pointer (some ⟨T, 0, none⟩), .slice A l.length lc, .int .i64 (i : Nat)] w (ListE w0 T d l p i w) := by
  intro N
  induction N with
  | zero => intro d h; omega
  | succ N ih =>
    intro d hd A l lc w g cap raws p i hA hl hok hS hi hc hm
    have HA := Lib.hid hA
    have HS := Lib.hid hS
    have Hok := Lib.hid hok
    have IH := Lib.hid ih
    have HM : Hid (manyB p + stepsL d l ≤ 1000) := Lib.hid hm
    have HC : Hid (p.length + 3 * cntL d l ≤ 1000) := Lib.hid hc
    have HI : Hid (i < p.length) := Lib.hid hi
    clear hA ih hS hok hc hm hi
    go_enter Try.func78, Try.ntmps78
    go_wp2
    go_loopw [2, 17] (fun a i' wr => ∃ (j n : Nat) (q : List Blk) (g cap : Nat) (raws : List RB), j ≤ l.length ∧ i' = .int .i64 (j : Nat) ∧ a = .int .i64 (n : Nat) ∧ Hid (FS w0 wr T g cap raws q) ∧ Hid (FrS w wr) ∧ Hid (n < q.length ∧ q.length + 3 * cntL d (l.drop j) ≤ 1000 ∧ manyB q + stepsL d (l.drop j) ≤ 1000) ∧ Hid (flatL d l p i = flatL d (l.drop j) q n)) (fun _ i' _ => l.length - (intOf i').toNat)
    case atStart => exact ⟨0, i, p, g, cap, raws, Nat.zero_le _, rfl, rfl, HS, Lib.hid (FrS.refl _), Lib.hid ⟨HI.out, HC.out, HM.out⟩, Lib.hid rfl⟩
    case round =>
      clear HS HM HC HI
      obtain ⟨j, n, q, g, cap, raws, hj, rfl, rfl, HS, HF, HB, HJ⟩ := hrel
      by_cases hlt : j < l.length
      · obtain ⟨d', hdd, b, off, A1, c1, A2, c2, A3, c3, rfl, hb, e0, e1, e2, e3, e4, r1, r2, r3, bc, bt, be⟩ := RdSh.at_ HA.out hlt
        have hX : OkX vars d' l[j] := by have := Hok.out; rw [hdd] at this; exact OkS_get hlt this
        have hdn : d' < N := by omega
        have HD : Hid (l.drop j = l[j] :: l.drop (j + 1)) := Lib.hid (List.drop_eq_getElem_cons hlt)
        rw [← HS.out.bel.cell hb] at e0 e1 e2 e3 e4
        have hbl : b < wr.heap.size := by have := HS.out.bel.size; omega
        have q3 : ((j : Nat) : Int) < ((l.length : Nat) : Int) := by omega
        have R1 := Lib.hid r1
        have R2 := Lib.hid r2
        have R3 := Lib.hid r3
        clear r1 r2 r3
        obtain ⟨r, hr⟩ : ∃ r, r = l.drop (j + 1) := ⟨_, rfl⟩
        rw [← hr] at HD
        have Hr := Lib.hid hr
        clear hr
        have HBc : Hid (cntL d (l.drop j) = 1 + cntL d' l[j].thn + cntL d' l[j].els + cntL d r) := Lib.hid (by rw [HD.out, hdd]; exact cntL_cons _ _)
        have HBs : Hid (stepsL d (l.drop j) = l[j].code.length + stepsL d' l[j].thn + stepsL d' l[j].els + stepsL d r) := Lib.hid (by rw [HD.out, hdd]; exact stepsL_cons _ _)
        have HJ2 : Hid (flatL d l p i = flatL (d' + 1) (l[j] :: r) q n) := Lib.hid (by rw [HJ.out, HD.out, hdd])
        have Hdd := Lib.hid hdd
        clear hdd HJ HD
        generalize l[j] = x at *
        obtain ⟨kind, test, code, thn, els⟩ := x
        obtain ⟨hk13, -, -, hok1, hok2⟩ := hX
        dsimp only [Shp.kind, Shp.test, Shp.code, Shp.thn, Shp.els] at *
        have okt := Lib.hid hok1
        have oke := Lib.hid hok2
        clear hok1 hok2
        have HSa := Lib.hid (HS.out.alloc (.cells #[.int .i64 kind, .int .i64 test, .slice A1 code.length c1, .slice A2 thn.length c2, .slice A3 els.length c3] 59))
        have HFa := Lib.hid (HF.out.alloc (.cells #[.int .i64 kind, .int .i64 test, .slice A1 code.length c1, .slice A2 thn.length c2, .slice A3 els.length c3] 59))
        have HN := Lib.hid (heap_alloc_new wr (.cells #[.int .i64 kind, .int .i64 test, .slice A1 code.length c1, .slice A2 thn.length c2, .slice A3 els.length c3] 59))
        obtain ⟨X, hX⟩ : ∃ X, X = wr.heap.size := ⟨_, rfl⟩
        obtain ⟨w1, hw1⟩ : ∃ w1, w1 = wr.alloc (.cells #[.int .i64 kind, .int .i64 test, .slice A1 code.length c1, .slice A2 thn.length c2, .slice A3 els.length c3] 59) := ⟨_, rfl⟩
        rw [← hw1] at HSa HFa HN
        rw [← hX] at HN
        have HBn := Lib.hid HB.out.1
        have HBl : q.length ≤ 1000 := by have := HB.out.2.1; omega
        have HCl : Hid (code.length ≤ 1000) := Lib.hid (by have := HB.out.2.2; have := HBs.out; omega)
        have hk : kind = 1 ∨ kind = 2 ∨ kind = 3 := by omega
        rcases hk with rfl | rfl | rfl
        · have hmn : (q.getD n bnul).code.length + code.length ≤ 1000 := by
            have h1 := HB.out.2.2
            have h2 := HBs.out
            have h3 := manyB_mem (List.getElem_mem HBn.out)
            rw [bget HBn.out]
            omega
          obtain ⟨cv, Av, nv, kv, w5, cg1, hrun, ⟨cg5, fg5⟩, cT5, hF5, r9, hS9, hF9⟩ := HSa.out.drew.adC HBn.out c1 R1.out hmn
          have Hrun := Lib.hid hrun
          have cT1 := HSa.out.tcell
          have HK1 : Hid (w1.drew.cell? ⟨T, 0, none⟩ = some (.slice (some ⟨g, 0, none⟩) q.length cap) ∧ w1.drew.cell? ⟨X, 2, none⟩ = some (.slice A1 code.length c1)) := Lib.hid ⟨cT1, cell_h HN.out 2⟩
          have HN5 := hF5.shp X _ HN.out
          have HN9 := hF9.shp X _ HN.out
          have HK5 := Lib.hid (⟨cT5, cell_h HN5 2⟩ : _ ∧ _)
          have HS9 := Lib.hid hS9
          have HF9 := Lib.hid (HFa.out.drew.trans hF9)
          have HK9 := Lib.hid (⟨by have := hS9.tcell; rw [addC_len] at this; exact this, cell_h HN9 2⟩ : _ ∧ _)
          have hn1 : ((n : Nat) : Int) < ((q.length : Nat) : Int) := by have := HBn.out; omega
          have HB9 : Hid (n < (addC q n code).length ∧ (addC q n code).length + 3 * cntL d r ≤ 1000 ∧ manyB (addC q n code) + stepsL d r ≤ 1000) := Lib.hid (by
            have h1 := HB.out
            have h2 := HBs.out
            have h3 := HBc.out
            have e := manyB_set (b := { q.getD n bnul with code := (q.getD n bnul).code ++ code }) HBn.out
            have e : manyB (addC q n code) + (q.getD n bnul).code.length = manyB q + ((q.getD n bnul).code ++ code).length := e
            rw [List.length_append] at e
            rw [addC_len]
            omega)
          have HJ9 : Hid (flatL d l p i = flatL d r (addC q n code) n) := Lib.hid (by rw [HJ2.out, flatL_code rfl, Hdd.out]; rfl)
          clear hrun hF5 hS9 hF9 HN5 HN9 hmn cT5 HS HF HB HBs HBc HSa HFa okt oke
          generalize hql : q.length = ql at *
          go_wp2
          rw [← hX, ← hw1]
          clear hX hw1 e0 e1 e2 e3 e4 hbl
          refine wp_region_held_drew (S := fun w' => w'.cell? ⟨T, 0, none⟩ = some (.slice (some ⟨g, 0, none⟩) ql cap) ∧ w'.cell? ⟨X, 2, none⟩ = some (.slice A1 code.length c1)) (by kernel_rfl) HK1.out (fun hH0 => ?_)
          refine wpAnyH_take (i := 0) (oi := { dst := some 25, op := Go.Op.move (Go.Operand.tmp 0), type := 140, pos := "shape.go:144", after := #[], guard := none }) rfl (by kernel_rfl) (by kernel_rfl) (by kernel_rfl) (fun _ _ _ h => h) (Or.inl ⟨by rfl, fun w hw => by (go_simp; try with_reducible rfl)⟩) (by assumption) ?_
          try simp only [Act.put, List.setIfInBounds_toArray, List.set_cons_zero, List.set_cons_succ]
          refine wpAnyH_take (i := 1) (oi := { dst := some 26, op := Go.Op.nilCheck (Go.Operand.tmp 25), type := 0, pos := "shape.go:144", after := #[{ on := 0, ground := Go.Ground.data }], guard := none }) rfl (by kernel_rfl) (by kernel_rfl) (by kernel_rfl) (fun _ _ _ h => h) (Or.inl ⟨by rfl, fun w hw => by (go_simp; try with_reducible rfl)⟩) (by assumption) ?_
          try simp only [Act.put, List.setIfInBounds_toArray, List.set_cons_zero, List.set_cons_succ]
          refine wpAnyH_take (i := 2) (oi := { dst := some 27, op := Go.Op.fieldAddr 142 (Go.Operand.tmp 26) 0, type := 0, pos := "shape.go:144", after := #[{ on := 1, ground := Go.Ground.data }], guard := none }) rfl (by kernel_rfl) (by kernel_rfl) (by kernel_rfl) (fun _ _ _ h => h) (Or.inl ⟨by rfl, fun w hw => by (go_simp; try with_reducible rfl)⟩) (by assumption) ?_
          try simp only [Act.put, List.setIfInBounds_toArray, List.set_cons_zero, List.set_cons_succ]
          refine wpAnyH_take (i := 3) (oi := { dst := some 28, op := Go.Op.load 22 (Go.Operand.tmp 27), type := 22, pos := "shape.go:144", after := #[{ on := 2, ground := Go.Ground.data }], guard := none }) rfl (by kernel_rfl) (by kernel_rfl) (by kernel_rfl) (fun _ _ _ h => h) (Or.inl ⟨by rfl, fun w hw => by (obtain ⟨p0, p1⟩ := hw; go_simp; try with_reducible rfl)⟩) (by assumption) ?_
          try simp only [Act.put, List.setIfInBounds_toArray, List.set_cons_zero, List.set_cons_succ]
          refine wpAnyH_take (i := 4) (oi := { dst := some 29, op := Go.Op.move (Go.Operand.tmp 2), type := 3, pos := "shape.go:144", after := #[], guard := none }) rfl (by kernel_rfl) (by kernel_rfl) (by kernel_rfl) (fun _ _ _ h => h) (Or.inl ⟨by rfl, fun w hw => by (go_simp; try with_reducible rfl)⟩) (by assumption) ?_
          try simp only [Act.put, List.setIfInBounds_toArray, List.set_cons_zero, List.set_cons_succ]
          refine wpAnyH_take (i := 5) (oi := { dst := some 30, op := Go.Op.move (Go.Operand.tmp 0), type := 140, pos := "shape.go:144", after := #[], guard := none }) rfl (by kernel_rfl) (by kernel_rfl) (by kernel_rfl) (fun _ _ _ h => h) (Or.inl ⟨by rfl, fun w hw => by (go_simp; try with_reducible rfl)⟩) (by assumption) ?_
          try simp only [Act.put, List.setIfInBounds_toArray, List.set_cons_zero, List.set_cons_succ]
          refine wpAnyH_take (i := 6) (oi := { dst := some 31, op := Go.Op.nilCheck (Go.Operand.tmp 30), type := 0, pos := "shape.go:144", after := #[{ on := 5, ground := Go.Ground.data }], guard := none }) rfl (by kernel_rfl) (by kernel_rfl) (by kernel_rfl) (fun _ _ _ h => h) (Or.inl ⟨by rfl, fun w hw => by (go_simp; try with_reducible rfl)⟩) (by assumption) ?_
          try simp only [Act.put, List.setIfInBounds_toArray, List.set_cons_zero, List.set_cons_succ]
          refine wpAnyH_take (i := 7) (oi := { dst := some 32, op := Go.Op.fieldAddr 142 (Go.Operand.tmp 31) 0, type := 0, pos := "shape.go:144", after := #[{ on := 6, ground := Go.Ground.data }], guard := none }) rfl (by kernel_rfl) (by kernel_rfl) (by kernel_rfl) (fun _ _ _ h => h) (Or.inl ⟨by rfl, fun w hw => by (go_simp; try with_reducible rfl)⟩) (by assumption) ?_
          try simp only [Act.put, List.setIfInBounds_toArray, List.set_cons_zero, List.set_cons_succ]
          refine wpAnyH_take (i := 8) (oi := { dst := some 33, op := Go.Op.load 22 (Go.Operand.tmp 32), type := 22, pos := "shape.go:144", after := #[{ on := 7, ground := Go.Ground.data }], guard := none }) rfl (by kernel_rfl) (by kernel_rfl) (by kernel_rfl) (fun _ _ _ h => h) (Or.inl ⟨by rfl, fun w hw => by (obtain ⟨p0, p1⟩ := hw; go_simp; try with_reducible rfl)⟩) (by assumption) ?_
          try simp only [Act.put, List.setIfInBounds_toArray, List.set_cons_zero, List.set_cons_succ]
          refine wpAnyH_take (i := 9) (oi := { dst := some 34, op := Go.Op.move (Go.Operand.tmp 2), type := 3, pos := "shape.go:144", after := #[], guard := none }) rfl (by kernel_rfl) (by kernel_rfl) (by kernel_rfl) (fun _ _ _ h => h) (Or.inl ⟨by rfl, fun w hw => by (go_simp; try with_reducible rfl)⟩) (by assumption) ?_
          try simp only [Act.put, List.setIfInBounds_toArray, List.set_cons_zero, List.set_cons_succ]
          refine wpAnyH_take (i := 10) (oi := { dst := some 35, op := Go.Op.indexAddr 22 (Go.Operand.tmp 33) (Go.Operand.tmp 34), type := 0, pos := "shape.go:144", after := #[{ on := 8, ground := Go.Ground.data }, { on := 9, ground := Go.Ground.data }], guard := none }) rfl (by kernel_rfl) (by kernel_rfl) (by kernel_rfl) (fun _ _ _ h => h) (Or.inl ⟨by rfl, fun w hw => by (go_simp; try with_reducible rfl)⟩) (by assumption) ?_
          try simp only [Act.put, List.setIfInBounds_toArray, List.set_cons_zero, List.set_cons_succ]
          refine wpAnyH_take (i := 11) (oi := { dst := some 36, op := Go.Op.fieldAddr 85 (Go.Operand.tmp 35) 0, type := 0, pos := "shape.go:144", after := #[{ on := 10, ground := Go.Ground.data }], guard := none }) rfl (by kernel_rfl) (by kernel_rfl) (by kernel_rfl) (fun _ _ _ h => h) (Or.inl ⟨by rfl, fun w hw => by (go_simp; try with_reducible rfl)⟩) (by assumption) ?_
          try simp only [Act.put, List.setIfInBounds_toArray, List.set_cons_zero, List.set_cons_succ]
          refine wpAnyH_take (i := 13) (oi := { dst := some 38, op := Go.Op.fieldAddr 59 (Go.Operand.tmp 8) 2, type := 0, pos := "shape.go:144", after := #[], guard := none }) rfl (by kernel_rfl) (by kernel_rfl) (by kernel_rfl) (fun _ _ _ h => h) (Or.inl ⟨by rfl, fun w hw => by (go_simp; try with_reducible rfl)⟩) (by assumption) ?_
          try simp only [Act.put, List.setIfInBounds_toArray, List.set_cons_zero, List.set_cons_succ]
          refine wpAnyH_take (i := 14) (oi := { dst := some 39, op := Go.Op.load 48 (Go.Operand.tmp 38), type := 48, pos := "shape.go:144", after := #[{ on := 13, ground := Go.Ground.data }], guard := none }) rfl (by kernel_rfl) (by kernel_rfl) (by kernel_rfl) (fun _ _ _ h => h) (Or.inl ⟨by rfl, fun w hw => by (obtain ⟨p0, p1⟩ := hw; go_simp; try with_reducible rfl)⟩) (by assumption) ?_
          try simp only [Act.put, List.setIfInBounds_toArray, List.set_cons_zero, List.set_cons_succ]
          refine wpAnyH_ready (rs := [12]) (by kernel_rfl) (by simp) ?_
          refine AllReadyH.cons (o := { dst := some 37, op := Go.Op.load 48 (Go.Operand.tmp 36), type := 48, pos := "shape.go:144", after := #[{ on := 11, ground := Go.Ground.data }], guard := none }) rfl (fun K hK => ?_) AllReadyH.nil
          have c9 := cg1
          go_simp
          clear c9
          refine hK.out _ _ hH0 (fun hH1 => ?_)
          clear hK hH0
          have hH0 := hH1
          clear hH1
          try simp only [Act.put, List.setIfInBounds_toArray, List.set_cons_zero, List.set_cons_succ]
          refine wpAnyH_ready (rs := [15]) (by kernel_rfl) (by simp) ?_
          refine AllReadyH.cons (o := { dst := some 40, op := Go.Op.call { callee := Go.Callee.builtin Go.Builtin.append, args := #[Go.Operand.tmp 37, Go.Operand.tmp 39], argTypes := #[48, 48] }, type := 48, pos := "shape.go:144", after := #[{ on := 12, ground := Go.Ground.data }, { on := 14, ground := Go.Ground.data }], guard := none }) rfl (fun K hK => ?_) AllReadyH.nil
          rw [if_pos (by rfl)]
          refine wp_app_run 48 _ _ rfl rfl rfl Hrun.out ?_
          refine hK.out _ _ HK5.out (fun hH1 => ?_)
          clear hK hH0
          have hH0 := hH1
          clear hH1
          try simp only [Act.put, List.setIfInBounds_toArray, List.set_cons_zero, List.set_cons_succ]
          refine wpAnyH_take (i := 16) (oi := { dst := some 41, op := Go.Op.indexAddr 22 (Go.Operand.tmp 28) (Go.Operand.tmp 29), type := 0, pos := "shape.go:144", after := #[{ on := 3, ground := Go.Ground.data }, { on := 4, ground := Go.Ground.data }, { on := 0, ground := Go.Ground.phase }, { on := 1, ground := Go.Ground.phase }, { on := 2, ground := Go.Ground.phase }, { on := 3, ground := Go.Ground.phase }, { on := 4, ground := Go.Ground.phase }, { on := 5, ground := Go.Ground.phase }, { on := 6, ground := Go.Ground.phase }, { on := 7, ground := Go.Ground.phase }, { on := 8, ground := Go.Ground.phase }, { on := 9, ground := Go.Ground.phase }, { on := 10, ground := Go.Ground.phase }, { on := 11, ground := Go.Ground.phase }, { on := 12, ground := Go.Ground.phase }, { on := 13, ground := Go.Ground.phase }, { on := 14, ground := Go.Ground.phase }, { on := 15, ground := Go.Ground.phase }], guard := none }) rfl (by kernel_rfl) (by kernel_rfl) (by kernel_rfl) (fun _ _ _ h => h) (Or.inl ⟨by rfl, fun w hw => by (go_simp; try with_reducible rfl)⟩) (by assumption) ?_
          try simp only [Act.put, List.setIfInBounds_toArray, List.set_cons_zero, List.set_cons_succ]
          refine wpAnyH_take (i := 17) (oi := { dst := some 42, op := Go.Op.fieldAddr 85 (Go.Operand.tmp 41) 0, type := 0, pos := "shape.go:144", after := #[{ on := 16, ground := Go.Ground.data }, { on := 0, ground := Go.Ground.phase }, { on := 1, ground := Go.Ground.phase }, { on := 2, ground := Go.Ground.phase }, { on := 3, ground := Go.Ground.phase }, { on := 4, ground := Go.Ground.phase }, { on := 5, ground := Go.Ground.phase }, { on := 6, ground := Go.Ground.phase }, { on := 7, ground := Go.Ground.phase }, { on := 8, ground := Go.Ground.phase }, { on := 9, ground := Go.Ground.phase }, { on := 10, ground := Go.Ground.phase }, { on := 11, ground := Go.Ground.phase }, { on := 12, ground := Go.Ground.phase }, { on := 13, ground := Go.Ground.phase }, { on := 14, ground := Go.Ground.phase }, { on := 15, ground := Go.Ground.phase }], guard := none }) rfl (by kernel_rfl) (by kernel_rfl) (by kernel_rfl) (fun _ _ _ h => h) (Or.inl ⟨by rfl, fun w hw => by (go_simp; try with_reducible rfl)⟩) (by assumption) ?_
          try simp only [Act.put, List.setIfInBounds_toArray, List.set_cons_zero, List.set_cons_succ]
          refine wpAnyH_ready (rs := [18]) (by kernel_rfl) (by simp) ?_
          refine AllReadyH.cons (o := { dst := none, op := Go.Op.store 48 (Go.Operand.tmp 42) (Go.Operand.tmp 40), type := 0, pos := "shape.go:144", after := #[{ on := 17, ground := Go.Ground.data }, { on := 15, ground := Go.Ground.data }, { on := 15, ground := Go.Ground.chain }, { on := 0, ground := Go.Ground.phase }, { on := 1, ground := Go.Ground.phase }, { on := 2, ground := Go.Ground.phase }, { on := 3, ground := Go.Ground.phase }, { on := 4, ground := Go.Ground.phase }, { on := 5, ground := Go.Ground.phase }, { on := 6, ground := Go.Ground.phase }, { on := 7, ground := Go.Ground.phase }, { on := 8, ground := Go.Ground.phase }, { on := 9, ground := Go.Ground.phase }, { on := 10, ground := Go.Ground.phase }, { on := 11, ground := Go.Ground.phase }, { on := 12, ground := Go.Ground.phase }, { on := 13, ground := Go.Ground.phase }, { on := 14, ground := Go.Ground.phase }, { on := 15, ground := Go.Ground.phase }], guard := none }) rfl (fun K hK => ?_) AllReadyH.nil
          have c9 := cg5
          have f9 := fg5
          go_simp
          clear c9 f9
          refine hK.out _ _ HK9.out (fun hH1 => ?_)
          clear hK hH0 hH1
          try simp only [Act.put, List.setIfInBounds_toArray, List.set_cons_zero, List.set_cons_succ]
          refine wpAnyH_done (by kernel_rfl) ?_ _
          go_wp2
          go_roundw
          case rel => exact ⟨j + 1, n, _, _, _, _, by omega, by go_num, rfl, HS9, HF9, Lib.hid (by rw [← Hr.out]; exact HB9.out), Lib.hid (by rw [← Hr.out]; exact HJ9.out)⟩
          case measure => simp [intOf]; omega
        · have HY1 := Lib.hid (fput_calls HSa.out HBl (-1) (-1) 0)
          clear HS HF
          generalize hql : q.length = ql at *
          go_wp2_with fail
          rw [← hX, ← hw1]
          clear hX hw1 e0 e1 e2 e3 e4 hbl
          (with_reducible refine HY1.out.mono ?_)
          rintro e w2 ⟨rfl, g2, cap2, raws2, hS2, hF2⟩
          have hq1 : (q ++ [nbl]).length = ql + 1 := by simp [hql]
          have HY2 := Lib.hid (fput_calls hS2 (show (q ++ [nbl]).length ≤ 1000 by have := HB.out; have := HBc.out; omega) (-1) (-1) 0)
          have HN2 := Lib.hid (hF2.shp X _ HN.out)
          have HF2 := Lib.hid (HFa.out.trans hF2)
          clear hS2 hF2 HY1 HSa HFa HN
          rw [hql]
          go_wp2_with fail
          (with_reducible refine HY2.out.mono ?_)
          rintro e w3 ⟨rfl, g3, cap3, raws3, hS3, hF3⟩
          have HN3 := Lib.hid (hF3.shp X _ HN2.out)
          have HF3 := Lib.hid (HF2.out.trans hF3)
          have hS3 : FS w0 w3 T g3 cap3 raws3 (q ++ [nbl] ++ [nbl]) := hS3
          rw [show (q ++ [(⟨[], -1, -1, 0⟩ : Blk)]).length = ql + 1 from hq1]
          obtain ⟨m1, hm1⟩ : ∃ m1, m1 = ql + 1 := ⟨_, rfl⟩
          rw [← hm1]
          obtain ⟨m2, hm2⟩ : ∃ m2, m2 = ql + 2 := ⟨_, rfl⟩
          have hq2 : (q ++ [nbl] ++ [nbl]).length = m2 := by simp [hql]; omega
          have hnq : n < ql := by have := HBn.out; omega
          obtain ⟨ra, la, rb, lb, rc, ⟨d1, f1, h1, k1⟩, ⟨d2, f2, h2, k2⟩, d3, f3, h3⟩ := hS3.drew.stG (i := n) (by omega) test (ql : Nat) (m1 : Nat)
          have HX3 := Lib.hid (hS3.set4c (i := n) (by omega))
          have hfr1 := hS3.drew.fr (FrS.refl w3.drew) (n * 4 + 1) (.int .i64 test)
          have hfr2 := h1.fr hfr1 (n * 4 + 2) (.int .i64 (ql : Nat))
          have hfr3 := h2.fr hfr2 (n * 4 + 3) (.int .i64 (m1 : Nat))
          have hXn : w3.drew.heap[X]? = _ := HN3.out
          have HKa : Hid (w3.drew.cell? ⟨T, 0, none⟩ = some (.slice (some ⟨g3, 0, none⟩) m2 cap3) ∧ w3.drew.cell? ⟨X, 1, none⟩ = some (.int .i64 test)) := Lib.hid ⟨by rw [← hq2]; exact hS3.tcell, cell_h hXn 1⟩
          have HKb := Lib.hid (⟨h1.tcell, cell_h (hfr1.shp X _ hXn) 1⟩ : _ ∧ _)
          rw [k1, hq2] at HKb
          have HKc := Lib.hid (⟨h2.tcell, cell_h (hfr2.shp X _ hXn) 1⟩ : _ ∧ _)
          rw [k2, hq2] at HKc
          have HKd := Lib.hid (⟨h3.tcell, cell_h (hfr3.shp X _ hXn) 1⟩ : _ ∧ _)
          rw [setG_len, hq2] at HKd
          have HC1 := Lib.hid (⟨d1, f1⟩ : _ ∧ _)
          have HC2 := Lib.hid (⟨d2, f2⟩ : _ ∧ _)
          have HC3 := Lib.hid (⟨d3, f3⟩ : _ ∧ _)
          obtain ⟨w4, hw4⟩ : ∃ w4, w4 = ((w3.setCell ⟨g3, n * 4 + 1, none⟩ (.int .i64 test)).setCell ⟨g3, n * 4 + 2, none⟩ (.int .i64 (ql : Nat))).setCell ⟨g3, n * 4 + 3, none⟩ (.int .i64 (m1 : Nat)) := ⟨_, rfl⟩
          have HS4 : Hid (FS w0 w4.drew T g3 cap3 rc (setG (q ++ [nbl] ++ [nbl]) n test (ql : Nat) (m1 : Nat))) := Lib.hid (by rw [hw4]; exact h3)
          have HF4 : Hid (FrS w w4.drew) := Lib.hid (by rw [hw4]; exact (HF3.out.drew).trans hfr3)
          have HN4 : Hid (w4.drew.heap[X]? = some (.cells #[.int .i64 2, .int .i64 test, .slice A1 code.length c1, .slice A2 thn.length c2, .slice A3 els.length c3] 59 (0, 0))) := Lib.hid (by rw [hw4]; exact hfr3.shp X _ hXn)
          have HK4 : Hid (w4.drew.drew.cell? ⟨X, 3, none⟩ = some (.slice A2 thn.length c2) ∧ w4.drew.drew.cell? ⟨X, 4, none⟩ = some (.slice A3 els.length c3)) := Lib.hid ⟨cell_h HN4.out 3, cell_h HN4.out 4⟩
          have hn1 : ((n : Nat) : Int) < ((m2 : Nat) : Int) := by omega
          obtain ⟨⟨s1, a1⟩, hy1⟩ : ∃ y, flatL d' thn (setG (q ++ [nbl] ++ [nbl]) n test (ql : Nat) (m1 : Nat)) ql = y := ⟨_, rfl⟩
          obtain ⟨⟨s2, a2⟩, hy2⟩ : ∃ y, flatL d' els s1 m1 = y := ⟨_, rfl⟩
          have HBF := Lib.hid (both_facts (q := q) (n := n) (test := test) (thn := thn) (els := els) (d := d') (s1 := s1) (s2 := s2) (a1 := a1) (a2 := a2) (by rw [hql]; exact hnq) (by rw [hql, ← hm1]; exact hy1) (by rw [hql, ← hm1]; exact hy2))
          have HJ9 : Hid (flatL d l p i = flatL (d' + 1) r (setT (setT (s2 ++ [nbl]) a1 (s2.length : Nat)) a2 (s2.length : Nat)) s2.length) := Lib.hid (by
            rw [HJ2.out]
            exact flatL_both rfl (by rw [hql, ← hm1]; exact hy1) (by rw [hql, ← hm1]; exact hy2))
          have HI1 := IH.out d' hdn A2 thn c2 _ _ _ _ _ ql R2.out bt okt.out HS4.out.drew (by rw [setG_len, hq2]; omega) (by rw [setG_len, hq2]; have := HB.out; have := HBc.out; omega) (by rw [manyB_setG (by rw [hq2]; omega), manyB_nbl, manyB_nbl]; have := HB.out; have := HBs.out; omega)
          unfold ListE at HI1
          rw [hy1] at HI1
          dsimp only at HI1
          have HI1 := Lib.hid HI1
          have Hy2 := Lib.hid hy2
          have Hm1 := Lib.hid hm1
          have Hql := Lib.hid hql
          rw [hql] at HBF
          clear h1 h2 h3 hfr1 hfr2 hfr3 hXn d1 d2 d3 f1 f2 f3 k1 k2 hS3 hF3 HY2 HF2 HN2 HF3 HN3 hm1 hm2 hq1 hq2 hql hy1 hy2 hnq
          go_wp2
          refine wp_region_held_drew (S := fun w' => w'.cell? ⟨T, 0, none⟩ = some (.slice (some ⟨g3, 0, none⟩) m2 cap3) ∧ w'.cell? ⟨X, 1, none⟩ = some (.int .i64 test)) (by kernel_rfl) HKa.out (fun hH0 => ?_)
          refine wpAnyH_take (i := 0) (oi := { dst := some 51, op := Go.Op.move (Go.Operand.tmp 0), type := 140, pos := "shape.go:147", after := #[], guard := none }) rfl (by kernel_rfl) (by kernel_rfl) (by kernel_rfl) (fun _ _ _ h => h) (Or.inl ⟨by rfl, fun w hw => by (go_simp; try with_reducible rfl)⟩) (by assumption) ?_
          try simp only [Act.put, List.setIfInBounds_toArray, List.set_cons_zero, List.set_cons_succ]
          refine wpAnyH_take (i := 1) (oi := { dst := some 52, op := Go.Op.nilCheck (Go.Operand.tmp 51), type := 0, pos := "shape.go:147", after := #[{ on := 0, ground := Go.Ground.data }], guard := none }) rfl (by kernel_rfl) (by kernel_rfl) (by kernel_rfl) (fun _ _ _ h => h) (Or.inl ⟨by rfl, fun w hw => by (go_simp; try with_reducible rfl)⟩) (by assumption) ?_
          try simp only [Act.put, List.setIfInBounds_toArray, List.set_cons_zero, List.set_cons_succ]
          refine wpAnyH_take (i := 2) (oi := { dst := some 53, op := Go.Op.fieldAddr 142 (Go.Operand.tmp 52) 0, type := 0, pos := "shape.go:147", after := #[{ on := 1, ground := Go.Ground.data }], guard := none }) rfl (by kernel_rfl) (by kernel_rfl) (by kernel_rfl) (fun _ _ _ h => h) (Or.inl ⟨by rfl, fun w hw => by (go_simp; try with_reducible rfl)⟩) (by assumption) ?_
          try simp only [Act.put, List.setIfInBounds_toArray, List.set_cons_zero, List.set_cons_succ]
          refine wpAnyH_take (i := 3) (oi := { dst := some 54, op := Go.Op.load 22 (Go.Operand.tmp 53), type := 22, pos := "shape.go:147", after := #[{ on := 2, ground := Go.Ground.data }], guard := none }) rfl (by kernel_rfl) (by kernel_rfl) (by kernel_rfl) (fun _ _ _ h => h) (Or.inl ⟨by rfl, fun w hw => by (obtain ⟨p0, p1⟩ := hw; go_simp; try with_reducible rfl)⟩) (by assumption) ?_
          try simp only [Act.put, List.setIfInBounds_toArray, List.set_cons_zero, List.set_cons_succ]
          refine wpAnyH_take (i := 4) (oi := { dst := some 55, op := Go.Op.move (Go.Operand.tmp 2), type := 3, pos := "shape.go:147", after := #[], guard := none }) rfl (by kernel_rfl) (by kernel_rfl) (by kernel_rfl) (fun _ _ _ h => h) (Or.inl ⟨by rfl, fun w hw => by (go_simp; try with_reducible rfl)⟩) (by assumption) ?_
          try simp only [Act.put, List.setIfInBounds_toArray, List.set_cons_zero, List.set_cons_succ]
          refine wpAnyH_take (i := 5) (oi := { dst := some 56, op := Go.Op.move (Go.Operand.tmp 0), type := 140, pos := "shape.go:147", after := #[], guard := none }) rfl (by kernel_rfl) (by kernel_rfl) (by kernel_rfl) (fun _ _ _ h => h) (Or.inl ⟨by rfl, fun w hw => by (go_simp; try with_reducible rfl)⟩) (by assumption) ?_
          try simp only [Act.put, List.setIfInBounds_toArray, List.set_cons_zero, List.set_cons_succ]
          refine wpAnyH_take (i := 6) (oi := { dst := some 57, op := Go.Op.nilCheck (Go.Operand.tmp 56), type := 0, pos := "shape.go:147", after := #[{ on := 5, ground := Go.Ground.data }], guard := none }) rfl (by kernel_rfl) (by kernel_rfl) (by kernel_rfl) (fun _ _ _ h => h) (Or.inl ⟨by rfl, fun w hw => by (go_simp; try with_reducible rfl)⟩) (by assumption) ?_
          try simp only [Act.put, List.setIfInBounds_toArray, List.set_cons_zero, List.set_cons_succ]
          refine wpAnyH_take (i := 7) (oi := { dst := some 58, op := Go.Op.fieldAddr 142 (Go.Operand.tmp 57) 0, type := 0, pos := "shape.go:147", after := #[{ on := 6, ground := Go.Ground.data }], guard := none }) rfl (by kernel_rfl) (by kernel_rfl) (by kernel_rfl) (fun _ _ _ h => h) (Or.inl ⟨by rfl, fun w hw => by (go_simp; try with_reducible rfl)⟩) (by assumption) ?_
          try simp only [Act.put, List.setIfInBounds_toArray, List.set_cons_zero, List.set_cons_succ]
          refine wpAnyH_take (i := 8) (oi := { dst := some 59, op := Go.Op.load 22 (Go.Operand.tmp 58), type := 22, pos := "shape.go:147", after := #[{ on := 7, ground := Go.Ground.data }], guard := none }) rfl (by kernel_rfl) (by kernel_rfl) (by kernel_rfl) (fun _ _ _ h => h) (Or.inl ⟨by rfl, fun w hw => by (obtain ⟨p0, p1⟩ := hw; go_simp; try with_reducible rfl)⟩) (by assumption) ?_
          try simp only [Act.put, List.setIfInBounds_toArray, List.set_cons_zero, List.set_cons_succ]
          refine wpAnyH_take (i := 9) (oi := { dst := some 60, op := Go.Op.move (Go.Operand.tmp 2), type := 3, pos := "shape.go:147", after := #[{ on := 21, ground := Go.Ground.gcOnly Go.Departure.lateStores }], guard := none }) rfl (by kernel_rfl) (by kernel_rfl) (by kernel_rfl) (fun _ _ _ h => h) (Or.inl ⟨by rfl, fun w hw => by (go_simp; try with_reducible rfl)⟩) (by assumption) ?_
          try simp only [Act.put, List.setIfInBounds_toArray, List.set_cons_zero, List.set_cons_succ]
          refine wpAnyH_take (i := 10) (oi := { dst := some 61, op := Go.Op.move (Go.Operand.tmp 0), type := 140, pos := "shape.go:147", after := #[], guard := none }) rfl (by kernel_rfl) (by kernel_rfl) (by kernel_rfl) (fun _ _ _ h => h) (Or.inl ⟨by rfl, fun w hw => by (go_simp; try with_reducible rfl)⟩) (by assumption) ?_
          try simp only [Act.put, List.setIfInBounds_toArray, List.set_cons_zero, List.set_cons_succ]
          refine wpAnyH_take (i := 11) (oi := { dst := some 62, op := Go.Op.nilCheck (Go.Operand.tmp 61), type := 0, pos := "shape.go:147", after := #[{ on := 10, ground := Go.Ground.data }], guard := none }) rfl (by kernel_rfl) (by kernel_rfl) (by kernel_rfl) (fun _ _ _ h => h) (Or.inl ⟨by rfl, fun w hw => by (go_simp; try with_reducible rfl)⟩) (by assumption) ?_
          try simp only [Act.put, List.setIfInBounds_toArray, List.set_cons_zero, List.set_cons_succ]
          refine wpAnyH_take (i := 12) (oi := { dst := some 63, op := Go.Op.fieldAddr 142 (Go.Operand.tmp 62) 0, type := 0, pos := "shape.go:147", after := #[{ on := 11, ground := Go.Ground.data }], guard := none }) rfl (by kernel_rfl) (by kernel_rfl) (by kernel_rfl) (fun _ _ _ h => h) (Or.inl ⟨by rfl, fun w hw => by (go_simp; try with_reducible rfl)⟩) (by assumption) ?_
          try simp only [Act.put, List.setIfInBounds_toArray, List.set_cons_zero, List.set_cons_succ]
          refine wpAnyH_take (i := 13) (oi := { dst := some 64, op := Go.Op.load 22 (Go.Operand.tmp 63), type := 22, pos := "shape.go:147", after := #[{ on := 12, ground := Go.Ground.data }], guard := none }) rfl (by kernel_rfl) (by kernel_rfl) (by kernel_rfl) (fun _ _ _ h => h) (Or.inl ⟨by rfl, fun w hw => by (obtain ⟨p0, p1⟩ := hw; go_simp; try with_reducible rfl)⟩) (by assumption) ?_
          try simp only [Act.put, List.setIfInBounds_toArray, List.set_cons_zero, List.set_cons_succ]
          refine wpAnyH_take (i := 14) (oi := { dst := some 65, op := Go.Op.move (Go.Operand.tmp 2), type := 3, pos := "shape.go:147", after := #[{ on := 24, ground := Go.Ground.gcOnly Go.Departure.lateStores }], guard := none }) rfl (by kernel_rfl) (by kernel_rfl) (by kernel_rfl) (fun _ _ _ h => h) (Or.inl ⟨by rfl, fun w hw => by (go_simp; try with_reducible rfl)⟩) (by assumption) ?_
          try simp only [Act.put, List.setIfInBounds_toArray, List.set_cons_zero, List.set_cons_succ]
          refine wpAnyH_take (i := 15) (oi := { dst := some 66, op := Go.Op.fieldAddr 59 (Go.Operand.tmp 8) 1, type := 0, pos := "shape.go:147", after := #[], guard := none }) rfl (by kernel_rfl) (by kernel_rfl) (by kernel_rfl) (fun _ _ _ h => h) (Or.inl ⟨by rfl, fun w hw => by (go_simp; try with_reducible rfl)⟩) (by assumption) ?_
          try simp only [Act.put, List.setIfInBounds_toArray, List.set_cons_zero, List.set_cons_succ]
          refine wpAnyH_take (i := 16) (oi := { dst := some 67, op := Go.Op.load 3 (Go.Operand.tmp 66), type := 3, pos := "shape.go:147", after := #[{ on := 15, ground := Go.Ground.data }], guard := none }) rfl (by kernel_rfl) (by kernel_rfl) (by kernel_rfl) (fun _ _ _ h => h) (Or.inl ⟨by rfl, fun w hw => by (obtain ⟨p0, p1⟩ := hw; go_simp; try with_reducible rfl)⟩) (by assumption) ?_
          try simp only [Act.put, List.setIfInBounds_toArray, List.set_cons_zero, List.set_cons_succ]
          refine wpAnyH_take (i := 17) (oi := { dst := some 68, op := Go.Op.move (Go.Operand.tmp 9), type := 3, pos := "shape.go:147", after := #[{ on := 21, ground := Go.Ground.gcOnly Go.Departure.lateStores }], guard := none }) rfl (by kernel_rfl) (by kernel_rfl) (by kernel_rfl) (fun _ _ _ h => h) (Or.inl ⟨by rfl, fun w hw => by (go_simp; try with_reducible rfl)⟩) (by assumption) ?_
          try simp only [Act.put, List.setIfInBounds_toArray, List.set_cons_zero, List.set_cons_succ]
          refine wpAnyH_take (i := 18) (oi := { dst := some 69, op := Go.Op.move (Go.Operand.tmp 10), type := 3, pos := "shape.go:147", after := #[{ on := 24, ground := Go.Ground.gcOnly Go.Departure.lateStores }], guard := none }) rfl (by kernel_rfl) (by kernel_rfl) (by kernel_rfl) (fun _ _ _ h => h) (Or.inl ⟨by rfl, fun w hw => by (go_simp; try with_reducible rfl)⟩) (by assumption) ?_
          try simp only [Act.put, List.setIfInBounds_toArray, List.set_cons_zero, List.set_cons_succ]
          refine wpAnyH_take (i := 19) (oi := { dst := some 70, op := Go.Op.indexAddr 22 (Go.Operand.tmp 54) (Go.Operand.tmp 55), type := 0, pos := "shape.go:147", after := #[{ on := 3, ground := Go.Ground.data }, { on := 4, ground := Go.Ground.data }, { on := 0, ground := Go.Ground.phase }, { on := 1, ground := Go.Ground.phase }, { on := 2, ground := Go.Ground.phase }, { on := 3, ground := Go.Ground.phase }, { on := 4, ground := Go.Ground.phase }, { on := 5, ground := Go.Ground.textOnly Go.Departure.lateStores }, { on := 6, ground := Go.Ground.textOnly Go.Departure.lateStoresUnsure }, { on := 7, ground := Go.Ground.textOnly Go.Departure.lateStoresUnsure }, { on := 8, ground := Go.Ground.phase }, { on := 9, ground := Go.Ground.textOnly Go.Departure.lateStores }, { on := 10, ground := Go.Ground.textOnly Go.Departure.lateStores }, { on := 11, ground := Go.Ground.textOnly Go.Departure.lateStoresUnsure }, { on := 12, ground := Go.Ground.textOnly Go.Departure.lateStoresUnsure }, { on := 13, ground := Go.Ground.phase }, { on := 14, ground := Go.Ground.textOnly Go.Departure.lateStores }, { on := 15, ground := Go.Ground.phase }, { on := 16, ground := Go.Ground.phase }, { on := 17, ground := Go.Ground.textOnly Go.Departure.lateStores }, { on := 18, ground := Go.Ground.textOnly Go.Departure.lateStores }], guard := none }) rfl (by kernel_rfl) (by kernel_rfl) (by kernel_rfl) (fun _ _ _ h => h) (Or.inl ⟨by rfl, fun w hw => by (go_simp; try with_reducible rfl)⟩) (by assumption) ?_
          try simp only [Act.put, List.setIfInBounds_toArray, List.set_cons_zero, List.set_cons_succ]
          refine wpAnyH_take (i := 20) (oi := { dst := some 71, op := Go.Op.fieldAddr 85 (Go.Operand.tmp 70) 1, type := 0, pos := "shape.go:147", after := #[{ on := 19, ground := Go.Ground.data }, { on := 0, ground := Go.Ground.phase }, { on := 1, ground := Go.Ground.phase }, { on := 2, ground := Go.Ground.phase }, { on := 3, ground := Go.Ground.phase }, { on := 4, ground := Go.Ground.phase }, { on := 5, ground := Go.Ground.textOnly Go.Departure.lateStores }, { on := 6, ground := Go.Ground.textOnly Go.Departure.lateStoresUnsure }, { on := 7, ground := Go.Ground.textOnly Go.Departure.lateStoresUnsure }, { on := 8, ground := Go.Ground.phase }, { on := 9, ground := Go.Ground.textOnly Go.Departure.lateStores }, { on := 10, ground := Go.Ground.textOnly Go.Departure.lateStores }, { on := 11, ground := Go.Ground.textOnly Go.Departure.lateStoresUnsure }, { on := 12, ground := Go.Ground.textOnly Go.Departure.lateStoresUnsure }, { on := 13, ground := Go.Ground.phase }, { on := 14, ground := Go.Ground.textOnly Go.Departure.lateStores }, { on := 15, ground := Go.Ground.phase }, { on := 16, ground := Go.Ground.phase }, { on := 17, ground := Go.Ground.textOnly Go.Departure.lateStores }, { on := 18, ground := Go.Ground.textOnly Go.Departure.lateStores }], guard := none }) rfl (by kernel_rfl) (by kernel_rfl) (by kernel_rfl) (fun _ _ _ h => h) (Or.inl ⟨by rfl, fun w hw => by (go_simp; try with_reducible rfl)⟩) (by assumption) ?_
          try simp only [Act.put, List.setIfInBounds_toArray, List.set_cons_zero, List.set_cons_succ]
          refine wpAnyH_ready (rs := [21]) (by kernel_rfl) (by simp) ?_
          refine AllReadyH.cons (o := { dst := none, op := Go.Op.store 3 (Go.Operand.tmp 71) (Go.Operand.tmp 67), type := 0, pos := "shape.go:147", after := #[{ on := 20, ground := Go.Ground.data }, { on := 16, ground := Go.Ground.data }, { on := 0, ground := Go.Ground.phase }, { on := 1, ground := Go.Ground.phase }, { on := 2, ground := Go.Ground.phase }, { on := 3, ground := Go.Ground.phase }, { on := 4, ground := Go.Ground.phase }, { on := 5, ground := Go.Ground.textOnly Go.Departure.lateStores }, { on := 6, ground := Go.Ground.textOnly Go.Departure.lateStoresUnsure }, { on := 7, ground := Go.Ground.textOnly Go.Departure.lateStoresUnsure }, { on := 8, ground := Go.Ground.phase }, { on := 9, ground := Go.Ground.textOnly Go.Departure.lateStores }, { on := 10, ground := Go.Ground.textOnly Go.Departure.lateStores }, { on := 11, ground := Go.Ground.textOnly Go.Departure.lateStoresUnsure }, { on := 12, ground := Go.Ground.textOnly Go.Departure.lateStoresUnsure }, { on := 13, ground := Go.Ground.phase }, { on := 14, ground := Go.Ground.textOnly Go.Departure.lateStores }, { on := 15, ground := Go.Ground.phase }, { on := 16, ground := Go.Ground.phase }, { on := 17, ground := Go.Ground.textOnly Go.Departure.lateStores }, { on := 18, ground := Go.Ground.textOnly Go.Departure.lateStores }], guard := none }) rfl (fun K hK => ?_) AllReadyH.nil
          obtain ⟨cc9, c9⟩ := HC1.out.1
          have f9 := HC1.out.2
          obtain ⟨y0, y1, y2, y3, x0, x1, x2, x3, xf⟩ := HX3.out
          go_simp
          clear c9 f9 cc9 x0 x1 x2 x3 xf y0 y1 y2 y3
          refine hK.out _ _ HKb.out (fun hH1 => ?_)
          clear hK hH0
          have hH0 := hH1
          clear hH1
          try simp only [Act.put, List.setIfInBounds_toArray, List.set_cons_zero, List.set_cons_succ]
          refine wpAnyH_take (i := 22) (oi := { dst := some 72, op := Go.Op.indexAddr 22 (Go.Operand.tmp 59) (Go.Operand.tmp 60), type := 0, pos := "shape.go:147", after := #[{ on := 8, ground := Go.Ground.data }, { on := 9, ground := Go.Ground.data }, { on := 0, ground := Go.Ground.phase }, { on := 1, ground := Go.Ground.phase }, { on := 2, ground := Go.Ground.phase }, { on := 3, ground := Go.Ground.phase }, { on := 4, ground := Go.Ground.phase }, { on := 5, ground := Go.Ground.phase }, { on := 6, ground := Go.Ground.phase }, { on := 7, ground := Go.Ground.phase }, { on := 8, ground := Go.Ground.phase }, { on := 9, ground := Go.Ground.phase }, { on := 10, ground := Go.Ground.textOnly Go.Departure.lateStores }, { on := 11, ground := Go.Ground.textOnly Go.Departure.lateStoresUnsure }, { on := 12, ground := Go.Ground.textOnly Go.Departure.lateStoresUnsure }, { on := 13, ground := Go.Ground.phase }, { on := 14, ground := Go.Ground.textOnly Go.Departure.lateStores }, { on := 15, ground := Go.Ground.phase }, { on := 16, ground := Go.Ground.phase }, { on := 17, ground := Go.Ground.phase }, { on := 18, ground := Go.Ground.textOnly Go.Departure.lateStores }, { on := 19, ground := Go.Ground.phase }, { on := 20, ground := Go.Ground.phase }, { on := 21, ground := Go.Ground.phase }], guard := none }) rfl (by kernel_rfl) (by kernel_rfl) (by kernel_rfl) (fun _ _ _ h => h) (Or.inl ⟨by rfl, fun w hw => by (go_simp; try with_reducible rfl)⟩) (by assumption) ?_
          try simp only [Act.put, List.setIfInBounds_toArray, List.set_cons_zero, List.set_cons_succ]
          refine wpAnyH_take (i := 23) (oi := { dst := some 73, op := Go.Op.fieldAddr 85 (Go.Operand.tmp 72) 2, type := 0, pos := "shape.go:147", after := #[{ on := 22, ground := Go.Ground.data }, { on := 0, ground := Go.Ground.phase }, { on := 1, ground := Go.Ground.phase }, { on := 2, ground := Go.Ground.phase }, { on := 3, ground := Go.Ground.phase }, { on := 4, ground := Go.Ground.phase }, { on := 5, ground := Go.Ground.phase }, { on := 6, ground := Go.Ground.phase }, { on := 7, ground := Go.Ground.phase }, { on := 8, ground := Go.Ground.phase }, { on := 9, ground := Go.Ground.phase }, { on := 10, ground := Go.Ground.textOnly Go.Departure.lateStores }, { on := 11, ground := Go.Ground.textOnly Go.Departure.lateStoresUnsure }, { on := 12, ground := Go.Ground.textOnly Go.Departure.lateStoresUnsure }, { on := 13, ground := Go.Ground.phase }, { on := 14, ground := Go.Ground.textOnly Go.Departure.lateStores }, { on := 15, ground := Go.Ground.phase }, { on := 16, ground := Go.Ground.phase }, { on := 17, ground := Go.Ground.phase }, { on := 18, ground := Go.Ground.textOnly Go.Departure.lateStores }, { on := 19, ground := Go.Ground.phase }, { on := 20, ground := Go.Ground.phase }, { on := 21, ground := Go.Ground.phase }], guard := none }) rfl (by kernel_rfl) (by kernel_rfl) (by kernel_rfl) (fun _ _ _ h => h) (Or.inl ⟨by rfl, fun w hw => by (go_simp; try with_reducible rfl)⟩) (by assumption) ?_
          try simp only [Act.put, List.setIfInBounds_toArray, List.set_cons_zero, List.set_cons_succ]
          refine wpAnyH_ready (rs := [24]) (by kernel_rfl) (by simp) ?_
          refine AllReadyH.cons (o := { dst := none, op := Go.Op.store 3 (Go.Operand.tmp 73) (Go.Operand.tmp 68), type := 0, pos := "shape.go:147", after := #[{ on := 23, ground := Go.Ground.data }, { on := 17, ground := Go.Ground.data }, { on := 21, ground := Go.Ground.chain }, { on := 0, ground := Go.Ground.phase }, { on := 1, ground := Go.Ground.phase }, { on := 2, ground := Go.Ground.phase }, { on := 3, ground := Go.Ground.phase }, { on := 4, ground := Go.Ground.phase }, { on := 5, ground := Go.Ground.phase }, { on := 6, ground := Go.Ground.phase }, { on := 7, ground := Go.Ground.phase }, { on := 8, ground := Go.Ground.phase }, { on := 9, ground := Go.Ground.phase }, { on := 10, ground := Go.Ground.textOnly Go.Departure.lateStores }, { on := 11, ground := Go.Ground.textOnly Go.Departure.lateStoresUnsure }, { on := 12, ground := Go.Ground.textOnly Go.Departure.lateStoresUnsure }, { on := 13, ground := Go.Ground.phase }, { on := 14, ground := Go.Ground.textOnly Go.Departure.lateStores }, { on := 15, ground := Go.Ground.phase }, { on := 16, ground := Go.Ground.phase }, { on := 17, ground := Go.Ground.phase }, { on := 18, ground := Go.Ground.textOnly Go.Departure.lateStores }, { on := 19, ground := Go.Ground.phase }, { on := 20, ground := Go.Ground.phase }, { on := 21, ground := Go.Ground.phase }], guard := none }) rfl (fun K hK => ?_) AllReadyH.nil
          obtain ⟨cc9, c9⟩ := HC2.out.1
          have f9 := HC2.out.2
          obtain ⟨y0, y1, y2, y3, x0, x1, x2, x3, xf⟩ := HX3.out
          go_simp
          clear c9 f9 cc9 x0 x1 x2 x3 xf y0 y1 y2 y3
          refine hK.out _ _ HKc.out (fun hH1 => ?_)
          clear hK hH0
          have hH0 := hH1
          clear hH1
          try simp only [Act.put, List.setIfInBounds_toArray, List.set_cons_zero, List.set_cons_succ]
          refine wpAnyH_take (i := 25) (oi := { dst := some 74, op := Go.Op.indexAddr 22 (Go.Operand.tmp 64) (Go.Operand.tmp 65), type := 0, pos := "shape.go:147", after := #[{ on := 13, ground := Go.Ground.data }, { on := 14, ground := Go.Ground.data }, { on := 0, ground := Go.Ground.phase }, { on := 1, ground := Go.Ground.phase }, { on := 2, ground := Go.Ground.phase }, { on := 3, ground := Go.Ground.phase }, { on := 4, ground := Go.Ground.phase }, { on := 5, ground := Go.Ground.phase }, { on := 6, ground := Go.Ground.phase }, { on := 7, ground := Go.Ground.phase }, { on := 8, ground := Go.Ground.phase }, { on := 9, ground := Go.Ground.phase }, { on := 10, ground := Go.Ground.phase }, { on := 11, ground := Go.Ground.phase }, { on := 12, ground := Go.Ground.phase }, { on := 13, ground := Go.Ground.phase }, { on := 14, ground := Go.Ground.phase }, { on := 15, ground := Go.Ground.phase }, { on := 16, ground := Go.Ground.phase }, { on := 17, ground := Go.Ground.phase }, { on := 18, ground := Go.Ground.phase }, { on := 19, ground := Go.Ground.phase }, { on := 20, ground := Go.Ground.phase }, { on := 21, ground := Go.Ground.phase }, { on := 22, ground := Go.Ground.phase }, { on := 23, ground := Go.Ground.phase }, { on := 24, ground := Go.Ground.phase }], guard := none }) rfl (by kernel_rfl) (by kernel_rfl) (by kernel_rfl) (fun _ _ _ h => h) (Or.inl ⟨by rfl, fun w hw => by (go_simp; try with_reducible rfl)⟩) (by assumption) ?_
          try simp only [Act.put, List.setIfInBounds_toArray, List.set_cons_zero, List.set_cons_succ]
          refine wpAnyH_take (i := 26) (oi := { dst := some 75, op := Go.Op.fieldAddr 85 (Go.Operand.tmp 74) 3, type := 0, pos := "shape.go:147", after := #[{ on := 25, ground := Go.Ground.data }, { on := 0, ground := Go.Ground.phase }, { on := 1, ground := Go.Ground.phase }, { on := 2, ground := Go.Ground.phase }, { on := 3, ground := Go.Ground.phase }, { on := 4, ground := Go.Ground.phase }, { on := 5, ground := Go.Ground.phase }, { on := 6, ground := Go.Ground.phase }, { on := 7, ground := Go.Ground.phase }, { on := 8, ground := Go.Ground.phase }, { on := 9, ground := Go.Ground.phase }, { on := 10, ground := Go.Ground.phase }, { on := 11, ground := Go.Ground.phase }, { on := 12, ground := Go.Ground.phase }, { on := 13, ground := Go.Ground.phase }, { on := 14, ground := Go.Ground.phase }, { on := 15, ground := Go.Ground.phase }, { on := 16, ground := Go.Ground.phase }, { on := 17, ground := Go.Ground.phase }, { on := 18, ground := Go.Ground.phase }, { on := 19, ground := Go.Ground.phase }, { on := 20, ground := Go.Ground.phase }, { on := 21, ground := Go.Ground.phase }, { on := 22, ground := Go.Ground.phase }, { on := 23, ground := Go.Ground.phase }, { on := 24, ground := Go.Ground.phase }], guard := none }) rfl (by kernel_rfl) (by kernel_rfl) (by kernel_rfl) (fun _ _ _ h => h) (Or.inl ⟨by rfl, fun w hw => by (go_simp; try with_reducible rfl)⟩) (by assumption) ?_
          try simp only [Act.put, List.setIfInBounds_toArray, List.set_cons_zero, List.set_cons_succ]
          refine wpAnyH_ready (rs := [27]) (by kernel_rfl) (by simp) ?_
          refine AllReadyH.cons (o := { dst := none, op := Go.Op.store 3 (Go.Operand.tmp 75) (Go.Operand.tmp 69), type := 0, pos := "shape.go:147", after := #[{ on := 26, ground := Go.Ground.data }, { on := 18, ground := Go.Ground.data }, { on := 24, ground := Go.Ground.chain }, { on := 0, ground := Go.Ground.phase }, { on := 1, ground := Go.Ground.phase }, { on := 2, ground := Go.Ground.phase }, { on := 3, ground := Go.Ground.phase }, { on := 4, ground := Go.Ground.phase }, { on := 5, ground := Go.Ground.phase }, { on := 6, ground := Go.Ground.phase }, { on := 7, ground := Go.Ground.phase }, { on := 8, ground := Go.Ground.phase }, { on := 9, ground := Go.Ground.phase }, { on := 10, ground := Go.Ground.phase }, { on := 11, ground := Go.Ground.phase }, { on := 12, ground := Go.Ground.phase }, { on := 13, ground := Go.Ground.phase }, { on := 14, ground := Go.Ground.phase }, { on := 15, ground := Go.Ground.phase }, { on := 16, ground := Go.Ground.phase }, { on := 17, ground := Go.Ground.phase }, { on := 18, ground := Go.Ground.phase }, { on := 19, ground := Go.Ground.phase }, { on := 20, ground := Go.Ground.phase }, { on := 21, ground := Go.Ground.phase }, { on := 22, ground := Go.Ground.phase }, { on := 23, ground := Go.Ground.phase }, { on := 24, ground := Go.Ground.phase }], guard := none }) rfl (fun K hK => ?_) AllReadyH.nil
          obtain ⟨cc9, c9⟩ := HC3.out.1
          have f9 := HC3.out.2
          obtain ⟨y0, y1, y2, y3, x0, x1, x2, x3, xf⟩ := HX3.out
          go_simp
          clear c9 f9 cc9 x0 x1 x2 x3 xf y0 y1 y2 y3
          refine hK.out _ _ HKd.out (fun hH1 => ?_)
          clear hK hH0
          have hH0 := hH1
          clear hH1
          try simp only [Act.put, List.setIfInBounds_toArray, List.set_cons_zero, List.set_cons_succ]
          refine wpAnyH_done (by kernel_rfl) ?_ _
          clear hH0
          go_wp2
          rw [← hw4]
          clear hw4
          refine wp_region_held_drew (S := fun w' => w'.cell? ⟨X, 3, none⟩ = some (.slice A2 thn.length c2) ∧ w'.cell? ⟨X, 4, none⟩ = some (.slice A3 els.length c3)) (by kernel_rfl) HK4.out (fun hH0 => ?_)
          refine wpAnyH_take (i := 0) (oi := { dst := some 76, op := Go.Op.move (Go.Operand.tmp 0), type := 140, pos := "shape.go:148", after := #[], guard := none }) rfl (by kernel_rfl) (by kernel_rfl) (by kernel_rfl) (fun _ _ _ h => h) (Or.inl ⟨by rfl, fun w hw => by (go_simp; try with_reducible rfl)⟩) (by assumption) ?_
          try simp only [Act.put, List.setIfInBounds_toArray, List.set_cons_zero, List.set_cons_succ]
          refine wpAnyH_take (i := 1) (oi := { dst := some 77, op := Go.Op.fieldAddr 59 (Go.Operand.tmp 8) 3, type := 0, pos := "shape.go:148", after := #[], guard := none }) rfl (by kernel_rfl) (by kernel_rfl) (by kernel_rfl) (fun _ _ _ h => h) (Or.inl ⟨by rfl, fun w hw => by (go_simp; try with_reducible rfl)⟩) (by assumption) ?_
          try simp only [Act.put, List.setIfInBounds_toArray, List.set_cons_zero, List.set_cons_succ]
          refine wpAnyH_take (i := 2) (oi := { dst := some 78, op := Go.Op.load 57 (Go.Operand.tmp 77), type := 57, pos := "shape.go:148", after := #[{ on := 1, ground := Go.Ground.data }], guard := none }) rfl (by kernel_rfl) (by kernel_rfl) (by kernel_rfl) (fun _ _ _ h => h) (Or.inl ⟨by rfl, fun w hw => by (obtain ⟨p0, p1⟩ := hw; go_simp; try with_reducible rfl)⟩) (by assumption) ?_
          try simp only [Act.put, List.setIfInBounds_toArray, List.set_cons_zero, List.set_cons_succ]
          refine wpAnyH_take (i := 3) (oi := { dst := some 79, op := Go.Op.move (Go.Operand.tmp 9), type := 3, pos := "shape.go:148", after := #[], guard := none }) rfl (by kernel_rfl) (by kernel_rfl) (by kernel_rfl) (fun _ _ _ h => h) (Or.inl ⟨by rfl, fun w hw => by (go_simp; try with_reducible rfl)⟩) (by assumption) ?_
          try simp only [Act.put, List.setIfInBounds_toArray, List.set_cons_zero, List.set_cons_succ]
          refine wpAnyH_take (i := 5) (oi := { dst := some 81, op := Go.Op.move (Go.Operand.tmp 0), type := 140, pos := "shape.go:148", after := #[], guard := none }) rfl (by kernel_rfl) (by kernel_rfl) (by kernel_rfl) (fun _ _ _ h => h) (Or.inl ⟨by rfl, fun w hw => by (go_simp; try with_reducible rfl)⟩) (by assumption) ?_
          try simp only [Act.put, List.setIfInBounds_toArray, List.set_cons_zero, List.set_cons_succ]
          refine wpAnyH_take (i := 6) (oi := { dst := some 82, op := Go.Op.fieldAddr 59 (Go.Operand.tmp 8) 4, type := 0, pos := "shape.go:148", after := #[], guard := none }) rfl (by kernel_rfl) (by kernel_rfl) (by kernel_rfl) (fun _ _ _ h => h) (Or.inl ⟨by rfl, fun w hw => by (go_simp; try with_reducible rfl)⟩) (by assumption) ?_
          try simp only [Act.put, List.setIfInBounds_toArray, List.set_cons_zero, List.set_cons_succ]
          refine wpAnyH_take (i := 7) (oi := { dst := some 83, op := Go.Op.load 57 (Go.Operand.tmp 82), type := 57, pos := "shape.go:148", after := #[{ on := 6, ground := Go.Ground.data }], guard := none }) rfl (by kernel_rfl) (by kernel_rfl) (by kernel_rfl) (fun _ _ _ h => h) (Or.inl ⟨by rfl, fun w hw => by (obtain ⟨p0, p1⟩ := hw; go_simp; try with_reducible rfl)⟩) (by assumption) ?_
          try simp only [Act.put, List.setIfInBounds_toArray, List.set_cons_zero, List.set_cons_succ]
          refine wpAnyH_take (i := 8) (oi := { dst := some 84, op := Go.Op.move (Go.Operand.tmp 10), type := 3, pos := "shape.go:148", after := #[], guard := none }) rfl (by kernel_rfl) (by kernel_rfl) (by kernel_rfl) (fun _ _ _ h => h) (Or.inl ⟨by rfl, fun w hw => by (go_simp; try with_reducible rfl)⟩) (by assumption) ?_
          try simp only [Act.put, List.setIfInBounds_toArray, List.set_cons_zero, List.set_cons_succ]
          refine wpAnyH_ready (rs := [4]) (by kernel_rfl) (by simp) ?_
          refine AllReadyH.cons (o := { dst := some 80, op := Go.Op.call { callee := Go.Callee.value (Go.Operand.func 78), args := #[Go.Operand.tmp 76, Go.Operand.tmp 78, Go.Operand.tmp 79], argTypes := #[140, 57, 3] }, type := 3, pos := "shape.go:148", after := #[{ on := 0, ground := Go.Ground.data }, { on := 2, ground := Go.Ground.data }, { on := 3, ground := Go.Ground.data }], guard := none }) rfl (fun K hK => ?_) AllReadyH.nil
          go_simp
          go_at_call 78
          (with_reducible refine HI1.out.mono ?_)
          rintro e w5 ⟨rfl, g5, cap5, raws5, hS5, hF5⟩
          have HN5 := Lib.hid (hF5.shp X _ HN4.out)
          have HK5 := Lib.hid (⟨cell_h HN5.out 3, cell_h HN5.out 4⟩ : _ ∧ _)
          have HF5 := Lib.hid (HF4.out.drew.trans hF5)
          have HI2 := IH.out d' hdn A3 els c3 _ _ _ _ _ m1 R3.out be oke.out hS5 (by have := HBF.out; have := Hm1.out; omega) (by have := HBF.out; have := HB.out; have := HBc.out; have := HBs.out; omega) (by have := HBF.out; have := HB.out; have := HBc.out; have := HBs.out; omega)
          unfold ListE at HI2
          rw [Hy2.out] at HI2
          dsimp only at HI2
          have HI2 := Lib.hid HI2
          clear hS5 hF5
          dsimp only
          refine hK.out _ _ HK5.out (fun hH1 => ?_)
          clear hK hH0
          have hH0 := hH1
          clear hH1
          try simp only [Act.put, List.setIfInBounds_toArray, List.set_cons_zero, List.set_cons_succ]
          refine wpAnyH_ready (rs := [9]) (by kernel_rfl) (by simp) ?_
          refine AllReadyH.cons (o := { dst := some 85, op := Go.Op.call { callee := Go.Callee.value (Go.Operand.func 78), args := #[Go.Operand.tmp 81, Go.Operand.tmp 83, Go.Operand.tmp 84], argTypes := #[140, 57, 3] }, type := 3, pos := "shape.go:148", after := #[{ on := 5, ground := Go.Ground.data }, { on := 7, ground := Go.Ground.data }, { on := 8, ground := Go.Ground.data }, { on := 4, ground := Go.Ground.chain }], guard := none }) rfl (fun K hK => ?_) AllReadyH.nil
          go_simp
          go_at_call 78
          (with_reducible refine HI2.out.mono ?_)
          rintro e w6 ⟨rfl, g6, cap6, raws6, hS6, hF6⟩
          have HN6 := Lib.hid (hF6.shp X _ HN5.out)
          have HK6 := Lib.hid (⟨cell_h HN6.out 3, cell_h HN6.out 4⟩ : _ ∧ _)
          have HF6 := Lib.hid (HF5.out.trans hF6)
          have HS6 := Lib.hid hS6
          have HY7 := Lib.hid (fput_calls hS6 (by have := HBF.out; have := HB.out; have := HBc.out; omega) (-1) (-1) 0)
          clear hS6 hF6
          dsimp only
          refine hK.out _ _ HK6.out (fun hH1 => ?_)
          clear hK hH0
          have hH0 := hH1
          clear hH1
          try simp only [Act.put, List.setIfInBounds_toArray, List.set_cons_zero, List.set_cons_succ]
          refine wpAnyH_take (i := 10) (oi := { dst := some 9, op := Go.Op.assign (Go.Operand.tmp 80), type := 3, pos := "shape.go:148", after := #[{ on := 4, ground := Go.Ground.data }, { on := 9, ground := Go.Ground.chain }, { on := 0, ground := Go.Ground.phase }, { on := 1, ground := Go.Ground.phase }, { on := 2, ground := Go.Ground.phase }, { on := 3, ground := Go.Ground.phase }, { on := 4, ground := Go.Ground.phase }, { on := 5, ground := Go.Ground.textOnly Go.Departure.lateStores }, { on := 6, ground := Go.Ground.textOnly Go.Departure.lateStores }, { on := 7, ground := Go.Ground.textOnly Go.Departure.lateStores }, { on := 8, ground := Go.Ground.textOnly Go.Departure.lateStores }, { on := 9, ground := Go.Ground.textOnly Go.Departure.lateStoresUnsure }], guard := none }) rfl (by kernel_rfl) (by kernel_rfl) (by kernel_rfl) (fun _ _ _ h => h) (Or.inl ⟨by rfl, fun w hw => by (go_simp; try with_reducible rfl)⟩) (by assumption) ?_
          try simp only [Act.put, List.setIfInBounds_toArray, List.set_cons_zero, List.set_cons_succ]
          refine wpAnyH_take (i := 11) (oi := { dst := some 10, op := Go.Op.assign (Go.Operand.tmp 85), type := 3, pos := "shape.go:148", after := #[{ on := 9, ground := Go.Ground.data }, { on := 10, ground := Go.Ground.chain }, { on := 0, ground := Go.Ground.phase }, { on := 1, ground := Go.Ground.phase }, { on := 2, ground := Go.Ground.phase }, { on := 3, ground := Go.Ground.phase }, { on := 4, ground := Go.Ground.phase }, { on := 5, ground := Go.Ground.phase }, { on := 6, ground := Go.Ground.phase }, { on := 7, ground := Go.Ground.phase }, { on := 8, ground := Go.Ground.phase }, { on := 9, ground := Go.Ground.phase }, { on := 10, ground := Go.Ground.phase }], guard := none }) rfl (by kernel_rfl) (by kernel_rfl) (by kernel_rfl) (fun _ _ _ h => h) (Or.inl ⟨by rfl, fun w hw => by (go_simp; try with_reducible rfl)⟩) (by assumption) ?_
          try simp only [Act.put, List.setIfInBounds_toArray, List.set_cons_zero, List.set_cons_succ]
          refine wpAnyH_done (by kernel_rfl) ?_ _
          clear hH0
          go_wp2_with fail
          (with_reducible refine HY7.out.mono ?_)
          rintro e w7 ⟨rfl, g7, cap7, raws7, hS7, hF7⟩
          have hS7 : FS w0 w7 T g7 cap7 raws7 (s2 ++ [nbl]) := hS7
          have hq7 : (s2 ++ [nbl]).length = s2.length + 1 := by simp
          obtain ⟨m7, hm7⟩ : ∃ m7, m7 = s2.length + 1 := ⟨_, rfl⟩
          have hbf := HBF.out
          obtain ⟨⟨d1, cc1⟩, f1, ra7, h1⟩ := hS7.drew.stT (i := a1) (by rw [hq7]; omega) (s2.length : Nat)
          obtain ⟨⟨d2, cc2⟩, f2, rb7, h2⟩ := h1.stT (i := a2) (by rw [setT_len, hq7]; omega) (s2.length : Nat)
          have hfr1 := hS7.drew.fr (FrS.refl w7.drew) (a1 * 4 + 2) (.int .i64 (s2.length : Nat))
          have hfr2 := h1.fr hfr1 (a2 * 4 + 2) (.int .i64 (s2.length : Nat))
          have HKa : Hid (w7.drew.cell? ⟨T, 0, none⟩ = some (.slice (some ⟨g7, 0, none⟩) m7 cap7)) := Lib.hid (by rw [hm7, ← hq7]; exact hS7.tcell)
          have HKb := Lib.hid h1.tcell
          rw [setT_len, hq7, ← hm7] at HKb
          have HKc := Lib.hid h2.tcell
          rw [setT_len, setT_len, hq7, ← hm7] at HKc
          have HX7 := Lib.hid (hS7.set4c (i := a2) (by rw [hq7]; omega))
          have hne := hbf.2.2
          have hne2 : a2 ≠ a1 := fun e => hne e.symm
          have HC1 := Lib.hid (⟨⟨d1, cc1⟩, f1⟩ : (∃ v, _) ∧ _)
          have HC2 := Lib.hid (⟨⟨d2, cc2⟩, f2⟩ : (∃ v, _) ∧ _)
          have HS8 := Lib.hid h2
          have HF8 := Lib.hid ((HF6.out.trans hF7).drew.trans hfr2)
          have HB8 : Hid (s2.length < (setT (setT (s2 ++ [nbl]) a1 (s2.length : Nat)) a2 (s2.length : Nat)).length ∧ (setT (setT (s2 ++ [nbl]) a1 (s2.length : Nat)) a2 (s2.length : Nat)).length + 3 * cntL d r ≤ 1000 ∧ manyB (setT (setT (s2 ++ [nbl]) a1 (s2.length : Nat)) a2 (s2.length : Nat)) + stepsL d r ≤ 1000) := Lib.hid (by
            have h1 := HB.out
            have h2 := HBs.out
            have h3 := HBc.out
            rw [manyB_setT (by rw [setT_len, hq7]; omega), manyB_setT (by rw [hq7]; omega), manyB_nbl, setT_len, setT_len, hq7]
            omega)
          have hn7 : ((a1 : Nat) : Int) < ((m7 : Nat) : Int) := by omega
          have hn8 : ((a2 : Nat) : Int) < ((m7 : Nat) : Int) := by omega
          clear hS7 hF7 h1 h2 hfr1 hfr2 cc1 cc2 f1 f2 hq7 hm7 hbf
          have HJ8 : Hid (flatL d l p i = flatL d r (setT (setT (s2 ++ [nbl]) a1 (s2.length : Nat)) a2 (s2.length : Nat)) s2.length) := Lib.hid (by rw [HJ9.out, Hdd.out])
          generalize s2.length = ml at *
          go_wp2
          refine wp_region_held_drew (S := fun w' => w'.cell? ⟨T, 0, none⟩ = some (.slice (some ⟨g7, 0, none⟩) m7 cap7)) (by kernel_rfl) HKa.out (fun hH0 => ?_)
          refine wpAnyH_take (i := 0) (oi := { dst := some 89, op := Go.Op.move (Go.Operand.tmp 0), type := 140, pos := "shape.go:150", after := #[], guard := none }) rfl (by kernel_rfl) (by kernel_rfl) (by kernel_rfl) (fun _ _ _ h => h) (Or.inl ⟨by rfl, fun w hw => by (go_simp; try with_reducible rfl)⟩) (by assumption) ?_
          try simp only [Act.put, List.setIfInBounds_toArray, List.set_cons_zero, List.set_cons_succ]
          refine wpAnyH_take (i := 1) (oi := { dst := some 90, op := Go.Op.nilCheck (Go.Operand.tmp 89), type := 0, pos := "shape.go:150", after := #[{ on := 0, ground := Go.Ground.data }], guard := none }) rfl (by kernel_rfl) (by kernel_rfl) (by kernel_rfl) (fun _ _ _ h => h) (Or.inl ⟨by rfl, fun w hw => by (go_simp; try with_reducible rfl)⟩) (by assumption) ?_
          try simp only [Act.put, List.setIfInBounds_toArray, List.set_cons_zero, List.set_cons_succ]
          refine wpAnyH_take (i := 2) (oi := { dst := some 91, op := Go.Op.fieldAddr 142 (Go.Operand.tmp 90) 0, type := 0, pos := "shape.go:150", after := #[{ on := 1, ground := Go.Ground.data }], guard := none }) rfl (by kernel_rfl) (by kernel_rfl) (by kernel_rfl) (fun _ _ _ h => h) (Or.inl ⟨by rfl, fun w hw => by (go_simp; try with_reducible rfl)⟩) (by assumption) ?_
          try simp only [Act.put, List.setIfInBounds_toArray, List.set_cons_zero, List.set_cons_succ]
          refine wpAnyH_take (i := 3) (oi := { dst := some 92, op := Go.Op.load 22 (Go.Operand.tmp 91), type := 22, pos := "shape.go:150", after := #[{ on := 2, ground := Go.Ground.data }], guard := none }) rfl (by kernel_rfl) (by kernel_rfl) (by kernel_rfl) (fun _ _ _ h => h) (Or.inl ⟨by rfl, fun w hw => by (have c9 := hw; go_simp; try with_reducible rfl)⟩) (by assumption) ?_
          try simp only [Act.put, List.setIfInBounds_toArray, List.set_cons_zero, List.set_cons_succ]
          refine wpAnyH_take (i := 4) (oi := { dst := some 93, op := Go.Op.move (Go.Operand.tmp 9), type := 3, pos := "shape.go:150", after := #[], guard := none }) rfl (by kernel_rfl) (by kernel_rfl) (by kernel_rfl) (fun _ _ _ h => h) (Or.inl ⟨by rfl, fun w hw => by (go_simp; try with_reducible rfl)⟩) (by assumption) ?_
          try simp only [Act.put, List.setIfInBounds_toArray, List.set_cons_zero, List.set_cons_succ]
          refine wpAnyH_take (i := 5) (oi := { dst := some 94, op := Go.Op.move (Go.Operand.tmp 0), type := 140, pos := "shape.go:150", after := #[], guard := none }) rfl (by kernel_rfl) (by kernel_rfl) (by kernel_rfl) (fun _ _ _ h => h) (Or.inl ⟨by rfl, fun w hw => by (go_simp; try with_reducible rfl)⟩) (by assumption) ?_
          try simp only [Act.put, List.setIfInBounds_toArray, List.set_cons_zero, List.set_cons_succ]
          refine wpAnyH_take (i := 6) (oi := { dst := some 95, op := Go.Op.nilCheck (Go.Operand.tmp 94), type := 0, pos := "shape.go:150", after := #[{ on := 5, ground := Go.Ground.data }], guard := none }) rfl (by kernel_rfl) (by kernel_rfl) (by kernel_rfl) (fun _ _ _ h => h) (Or.inl ⟨by rfl, fun w hw => by (go_simp; try with_reducible rfl)⟩) (by assumption) ?_
          try simp only [Act.put, List.setIfInBounds_toArray, List.set_cons_zero, List.set_cons_succ]
          refine wpAnyH_take (i := 7) (oi := { dst := some 96, op := Go.Op.fieldAddr 142 (Go.Operand.tmp 95) 0, type := 0, pos := "shape.go:150", after := #[{ on := 6, ground := Go.Ground.data }], guard := none }) rfl (by kernel_rfl) (by kernel_rfl) (by kernel_rfl) (fun _ _ _ h => h) (Or.inl ⟨by rfl, fun w hw => by (go_simp; try with_reducible rfl)⟩) (by assumption) ?_
          try simp only [Act.put, List.setIfInBounds_toArray, List.set_cons_zero, List.set_cons_succ]
          refine wpAnyH_take (i := 8) (oi := { dst := some 97, op := Go.Op.load 22 (Go.Operand.tmp 96), type := 22, pos := "shape.go:150", after := #[{ on := 7, ground := Go.Ground.data }], guard := none }) rfl (by kernel_rfl) (by kernel_rfl) (by kernel_rfl) (fun _ _ _ h => h) (Or.inl ⟨by rfl, fun w hw => by (have c9 := hw; go_simp; try with_reducible rfl)⟩) (by assumption) ?_
          try simp only [Act.put, List.setIfInBounds_toArray, List.set_cons_zero, List.set_cons_succ]
          refine wpAnyH_take (i := 9) (oi := { dst := some 98, op := Go.Op.move (Go.Operand.tmp 10), type := 3, pos := "shape.go:150", after := #[{ on := 14, ground := Go.Ground.gcOnly Go.Departure.lateStores }], guard := none }) rfl (by kernel_rfl) (by kernel_rfl) (by kernel_rfl) (fun _ _ _ h => h) (Or.inl ⟨by rfl, fun w hw => by (go_simp; try with_reducible rfl)⟩) (by assumption) ?_
          try simp only [Act.put, List.setIfInBounds_toArray, List.set_cons_zero, List.set_cons_succ]
          refine wpAnyH_take (i := 10) (oi := { dst := some 99, op := Go.Op.move (Go.Operand.tmp 2), type := 3, pos := "shape.go:150", after := #[], guard := none }) rfl (by kernel_rfl) (by kernel_rfl) (by kernel_rfl) (fun _ _ _ h => h) (Or.inl ⟨by rfl, fun w hw => by (go_simp; try with_reducible rfl)⟩) (by assumption) ?_
          try simp only [Act.put, List.setIfInBounds_toArray, List.set_cons_zero, List.set_cons_succ]
          refine wpAnyH_take (i := 11) (oi := { dst := some 100, op := Go.Op.move (Go.Operand.tmp 2), type := 3, pos := "shape.go:150", after := #[{ on := 14, ground := Go.Ground.gcOnly Go.Departure.lateStores }], guard := none }) rfl (by kernel_rfl) (by kernel_rfl) (by kernel_rfl) (fun _ _ _ h => h) (Or.inl ⟨by rfl, fun w hw => by (go_simp; try with_reducible rfl)⟩) (by assumption) ?_
          try simp only [Act.put, List.setIfInBounds_toArray, List.set_cons_zero, List.set_cons_succ]
          refine wpAnyH_take (i := 12) (oi := { dst := some 101, op := Go.Op.indexAddr 22 (Go.Operand.tmp 92) (Go.Operand.tmp 93), type := 0, pos := "shape.go:150", after := #[{ on := 3, ground := Go.Ground.data }, { on := 4, ground := Go.Ground.data }, { on := 0, ground := Go.Ground.phase }, { on := 1, ground := Go.Ground.phase }, { on := 2, ground := Go.Ground.phase }, { on := 3, ground := Go.Ground.phase }, { on := 4, ground := Go.Ground.phase }, { on := 5, ground := Go.Ground.textOnly Go.Departure.lateStores }, { on := 6, ground := Go.Ground.textOnly Go.Departure.lateStoresUnsure }, { on := 7, ground := Go.Ground.textOnly Go.Departure.lateStoresUnsure }, { on := 8, ground := Go.Ground.phase }, { on := 9, ground := Go.Ground.textOnly Go.Departure.lateStores }, { on := 10, ground := Go.Ground.phase }, { on := 11, ground := Go.Ground.textOnly Go.Departure.lateStores }], guard := none }) rfl (by kernel_rfl) (by kernel_rfl) (by kernel_rfl) (fun _ _ _ h => h) (Or.inl ⟨by rfl, fun w hw => by (go_simp; try with_reducible rfl)⟩) (by assumption) ?_
          try simp only [Act.put, List.setIfInBounds_toArray, List.set_cons_zero, List.set_cons_succ]
          refine wpAnyH_take (i := 13) (oi := { dst := some 102, op := Go.Op.fieldAddr 85 (Go.Operand.tmp 101) 2, type := 0, pos := "shape.go:150", after := #[{ on := 12, ground := Go.Ground.data }, { on := 0, ground := Go.Ground.phase }, { on := 1, ground := Go.Ground.phase }, { on := 2, ground := Go.Ground.phase }, { on := 3, ground := Go.Ground.phase }, { on := 4, ground := Go.Ground.phase }, { on := 5, ground := Go.Ground.textOnly Go.Departure.lateStores }, { on := 6, ground := Go.Ground.textOnly Go.Departure.lateStoresUnsure }, { on := 7, ground := Go.Ground.textOnly Go.Departure.lateStoresUnsure }, { on := 8, ground := Go.Ground.phase }, { on := 9, ground := Go.Ground.textOnly Go.Departure.lateStores }, { on := 10, ground := Go.Ground.phase }, { on := 11, ground := Go.Ground.textOnly Go.Departure.lateStores }], guard := none }) rfl (by kernel_rfl) (by kernel_rfl) (by kernel_rfl) (fun _ _ _ h => h) (Or.inl ⟨by rfl, fun w hw => by (go_simp; try with_reducible rfl)⟩) (by assumption) ?_
          try simp only [Act.put, List.setIfInBounds_toArray, List.set_cons_zero, List.set_cons_succ]
          refine wpAnyH_ready (rs := [14]) (by kernel_rfl) (by simp) ?_
          refine AllReadyH.cons (o := { dst := none, op := Go.Op.store 3 (Go.Operand.tmp 102) (Go.Operand.tmp 99), type := 0, pos := "shape.go:150", after := #[{ on := 13, ground := Go.Ground.data }, { on := 10, ground := Go.Ground.data }, { on := 0, ground := Go.Ground.phase }, { on := 1, ground := Go.Ground.phase }, { on := 2, ground := Go.Ground.phase }, { on := 3, ground := Go.Ground.phase }, { on := 4, ground := Go.Ground.phase }, { on := 5, ground := Go.Ground.textOnly Go.Departure.lateStores }, { on := 6, ground := Go.Ground.textOnly Go.Departure.lateStoresUnsure }, { on := 7, ground := Go.Ground.textOnly Go.Departure.lateStoresUnsure }, { on := 8, ground := Go.Ground.phase }, { on := 9, ground := Go.Ground.textOnly Go.Departure.lateStores }, { on := 10, ground := Go.Ground.phase }, { on := 11, ground := Go.Ground.textOnly Go.Departure.lateStores }], guard := none }) rfl (fun K hK => ?_) AllReadyH.nil
          obtain ⟨cc9, c9⟩ := HC1.out.1
          have f9 := HC1.out.2
          go_simp
          clear c9 f9 cc9
          refine hK.out _ _ HKb.out (fun hH1 => ?_)
          clear hK hH0
          have hH0 := hH1
          clear hH1
          try simp only [Act.put, List.setIfInBounds_toArray, List.set_cons_zero, List.set_cons_succ]
          refine wpAnyH_take (i := 15) (oi := { dst := some 103, op := Go.Op.indexAddr 22 (Go.Operand.tmp 97) (Go.Operand.tmp 98), type := 0, pos := "shape.go:150", after := #[{ on := 8, ground := Go.Ground.data }, { on := 9, ground := Go.Ground.data }, { on := 0, ground := Go.Ground.phase }, { on := 1, ground := Go.Ground.phase }, { on := 2, ground := Go.Ground.phase }, { on := 3, ground := Go.Ground.phase }, { on := 4, ground := Go.Ground.phase }, { on := 5, ground := Go.Ground.phase }, { on := 6, ground := Go.Ground.phase }, { on := 7, ground := Go.Ground.phase }, { on := 8, ground := Go.Ground.phase }, { on := 9, ground := Go.Ground.phase }, { on := 10, ground := Go.Ground.phase }, { on := 11, ground := Go.Ground.phase }, { on := 12, ground := Go.Ground.phase }, { on := 13, ground := Go.Ground.phase }, { on := 14, ground := Go.Ground.phase }], guard := none }) rfl (by kernel_rfl) (by kernel_rfl) (by kernel_rfl) (fun _ _ _ h => h) (Or.inl ⟨by rfl, fun w hw => by (go_simp; try with_reducible rfl)⟩) (by assumption) ?_
          try simp only [Act.put, List.setIfInBounds_toArray, List.set_cons_zero, List.set_cons_succ]
          refine wpAnyH_take (i := 16) (oi := { dst := some 104, op := Go.Op.fieldAddr 85 (Go.Operand.tmp 103) 2, type := 0, pos := "shape.go:150", after := #[{ on := 15, ground := Go.Ground.data }, { on := 0, ground := Go.Ground.phase }, { on := 1, ground := Go.Ground.phase }, { on := 2, ground := Go.Ground.phase }, { on := 3, ground := Go.Ground.phase }, { on := 4, ground := Go.Ground.phase }, { on := 5, ground := Go.Ground.phase }, { on := 6, ground := Go.Ground.phase }, { on := 7, ground := Go.Ground.phase }, { on := 8, ground := Go.Ground.phase }, { on := 9, ground := Go.Ground.phase }, { on := 10, ground := Go.Ground.phase }, { on := 11, ground := Go.Ground.phase }, { on := 12, ground := Go.Ground.phase }, { on := 13, ground := Go.Ground.phase }, { on := 14, ground := Go.Ground.phase }], guard := none }) rfl (by kernel_rfl) (by kernel_rfl) (by kernel_rfl) (fun _ _ _ h => h) (Or.inl ⟨by rfl, fun w hw => by (go_simp; try with_reducible rfl)⟩) (by assumption) ?_
          try simp only [Act.put, List.setIfInBounds_toArray, List.set_cons_zero, List.set_cons_succ]
          refine wpAnyH_ready (rs := [17]) (by kernel_rfl) (by simp) ?_
          refine AllReadyH.cons (o := { dst := none, op := Go.Op.store 3 (Go.Operand.tmp 104) (Go.Operand.tmp 100), type := 0, pos := "shape.go:150", after := #[{ on := 16, ground := Go.Ground.data }, { on := 11, ground := Go.Ground.data }, { on := 14, ground := Go.Ground.chain }, { on := 0, ground := Go.Ground.phase }, { on := 1, ground := Go.Ground.phase }, { on := 2, ground := Go.Ground.phase }, { on := 3, ground := Go.Ground.phase }, { on := 4, ground := Go.Ground.phase }, { on := 5, ground := Go.Ground.phase }, { on := 6, ground := Go.Ground.phase }, { on := 7, ground := Go.Ground.phase }, { on := 8, ground := Go.Ground.phase }, { on := 9, ground := Go.Ground.phase }, { on := 10, ground := Go.Ground.phase }, { on := 11, ground := Go.Ground.phase }, { on := 12, ground := Go.Ground.phase }, { on := 13, ground := Go.Ground.phase }, { on := 14, ground := Go.Ground.phase }], guard := none }) rfl (fun K hK => ?_) AllReadyH.nil
          obtain ⟨cc9, c9⟩ := HC2.out.1
          have f9 := HC2.out.2
          obtain ⟨y0, y1, y2, y3, x0, x1, x2, x3, xf⟩ := HX7.out
          go_simp
          clear c9 f9 cc9 x0 x1 x2 x3 xf y0 y1 y2 y3
          refine hK.out _ _ HKc.out (fun hH1 => ?_)
          clear hK hH0
          have hH0 := hH1
          clear hH1
          try simp only [Act.put, List.setIfInBounds_toArray, List.set_cons_zero, List.set_cons_succ]
          refine wpAnyH_done (by kernel_rfl) ?_ _
          go_wp2
          go_roundw
          case rel => exact ⟨j + 1, ml, _, _, _, _, by omega, by go_num, rfl, HS8, HF8, Lib.hid (by rw [← Hr.out]; exact HB8.out), Lib.hid (by rw [← Hr.out]; exact HJ8.out)⟩
          case measure => simp [intOf]; omega
        · have HY1 := Lib.hid (fput_calls HSa.out HBl 0 0 0)
          clear HS HF
          generalize hql : q.length = ql at *
          go_wp2_with fail
          rw [← hX, ← hw1]
          clear hX hw1 e0 e1 e2 e3 e4 hbl
          (with_reducible refine HY1.out.mono ?_)
          rintro e w2 ⟨rfl, g2, cap2, raws2, hS2, hF2⟩
          have hq1 : (q ++ [zbl]).length = ql + 1 := by simp [hql]
          have HY2 := Lib.hid (fput_calls hS2 (show (q ++ [zbl]).length ≤ 1000 by have := HB.out; have := HBc.out; omega) (-1) (-1) 0)
          have HN2 := Lib.hid (hF2.shp X _ HN.out)
          have HF2 := Lib.hid (HFa.out.trans hF2)
          clear hS2 hF2 HY1 HSa HFa HN
          rw [hql]
          go_wp2_with fail
          (with_reducible refine HY2.out.mono ?_)
          rintro e w3 ⟨rfl, g3, cap3, raws3, hS3, hF3⟩
          have HN3 := Lib.hid (hF3.shp X _ HN2.out)
          have HF3 := Lib.hid (HF2.out.trans hF3)
          have hS3 : FS w0 w3 T g3 cap3 raws3 (q ++ [zbl] ++ [nbl]) := hS3
          rw [show (q ++ [(⟨[], 0, 0, 0⟩ : Blk)]).length = ql + 1 from hq1]
          obtain ⟨m1, hm1⟩ : ∃ m1, m1 = ql + 1 := ⟨_, rfl⟩
          rw [← hm1]
          have hq2 : (q ++ [zbl] ++ [nbl]).length = ql + 2 := by simp [hql]
          have HY3 := Lib.hid (fput_calls hS3 (by have := HB.out; have := HBc.out; omega) (-1) (-1) 0)
          clear hS3 hF3 HY2 HN2 HF2
          have Hm1 := Lib.hid hm1
          clear hm1
          go_wp2_with fail
          (with_reducible refine HY3.out.mono ?_)
          rintro e w4 ⟨rfl, g4, cap4, raws4, hS4, hF4⟩
          have HN4 := Lib.hid (hF4.shp X _ HN3.out)
          have HF4 := Lib.hid (HF3.out.trans hF4)
          have hS4 : FS w0 w4 T g4 cap4 raws4 (q ++ [zbl] ++ [nbl] ++ [nbl]) := hS4
          rw [hq2]
          obtain ⟨m2, hm2⟩ : ∃ m2, m2 = ql + 2 := ⟨_, rfl⟩
          rw [← hm2]
          obtain ⟨m3, hm3⟩ : ∃ m3, m3 = ql + 3 := ⟨_, rfl⟩
          have hq3 : (q ++ [zbl] ++ [nbl] ++ [nbl]).length = m3 := by simp [hql]; omega
          have hnq : n < ql := by have := HBn.out; omega
          have cT4 := hS4.tcell
          rw [hq3] at cT4
          obtain ⟨⟨vA, d1⟩, f1, ra, h5⟩ := hS4.stT (i := n) (by omega) (ql : Nat)
          have hfr5 := hS4.fr (FrS.refl w4) (n * 4 + 2) (.int .i64 (ql : Nat))
          have HN5 := Lib.hid (hfr5.shp X _ HN4.out)
          have HF5 := Lib.hid (HF4.out.trans hfr5)
          have HS5 := Lib.hid h5
          have hn1 : ((n : Nat) : Int) < ((m3 : Nat) : Int) := by omega
          obtain ⟨w5, hw5⟩ : ∃ w5, w5 = w4.setCell ⟨g4, n * 4 + 2, none⟩ (.int .i64 (ql : Nat)) := ⟨_, rfl⟩
          rw [← hw5] at HN5 HF5 HS5
          have cT5 := HS5.out.tcell
          rw [setT_len, hq3] at cT5
          obtain ⟨rb, h6, hfr6⟩ := HS5.out.drew.set4 (i := ql) (by rw [setT_len]; omega) test (m1 : Nat) (m2 : Nat)
          have hfr6 := hfr6 _ (FrS.refl w5.drew)
          have HX5 := Lib.hid (HS5.out.set4c (i := ql) (by rw [setT_len]; omega))
          have HK5 : Hid (w5.drew.cell? ⟨T, 0, none⟩ = some (.slice (some ⟨g4, 0, none⟩) m3 cap4) ∧ w5.drew.cell? ⟨X, 1, none⟩ = some (.int .i64 test)) := Lib.hid ⟨cT5, cell_h HN5.out 1⟩
          have HN6 := hfr6.shp X _ (show w5.drew.heap[X]? = _ from HN5.out)
          have HK6 := Lib.hid (⟨h6.tcell, cell_h HN6 1⟩ : _ ∧ _)
          rw [List.length_set, setT_len, hq3] at HK6
          obtain ⟨w6, hw6⟩ : ∃ w6, w6 = (((w5.setCell ⟨g4, ql * 4, none⟩ (.slice none 0 0)).setCell ⟨g4, ql * 4 + 1, none⟩ (.int .i64 test)).setCell ⟨g4, ql * 4 + 2, none⟩ (.int .i64 (m1 : Nat))).setCell ⟨g4, ql * 4 + 3, none⟩ (.int .i64 (m2 : Nat)) := ⟨_, rfl⟩
          have HS6 : Hid (FS w0 w6.drew T g4 cap4 rb ((setT (q ++ [zbl] ++ [nbl] ++ [nbl]) n (ql : Nat)).set ql ⟨[], test, (m1 : Nat), (m2 : Nat)⟩)) := Lib.hid (by rw [hw6]; exact h6)
          have HF6 : Hid (FrS w w6.drew) := Lib.hid (by rw [hw6]; exact HF5.out.drew.trans hfr6)
          have HN6 : Hid (w6.drew.heap[X]? = some (.cells #[.int .i64 3, .int .i64 test, .slice A1 code.length c1, .slice A2 thn.length c2, .slice A3 els.length c3] 59 (0, 0))) := Lib.hid (by rw [hw6]; exact HN6)
          have cX6 : w6.cell? ⟨X, 3, none⟩ = some (.slice A2 thn.length c2) := cell_h (show w6.heap[X]? = _ from HN6.out) 3
          obtain ⟨⟨s1, a1⟩, hy1⟩ : ∃ y, flatL d' thn ((setT (q ++ [zbl] ++ [nbl] ++ [nbl]) n (ql : Nat)).set ql ⟨[], test, (m1 : Nat), (m2 : Nat)⟩) m1 = y := ⟨_, rfl⟩
          have hm1 := Hm1.out
          have hy2 : flatL d' thn ((setT (q ++ [zbl] ++ [nbl] ++ [nbl]) n (q.length : Nat)).set q.length ⟨[], test, ((q.length + 1 : Nat) : Int), ((q.length + 2 : Nat) : Int)⟩) (q.length + 1) = (s1, a1) := by rw [hql, ← hm1, ← hm2]; exact hy1
          have HBF := Lib.hid (while_facts (by rw [hql]; exact hnq) hy2)
          have HJ9 : Hid (flatL d l p i = flatL d r (setT s1 a1 (ql : Nat)) m2) := Lib.hid (by
            rw [HJ2.out, Hdd.out, hm2, ← hql]
            exact flatL_while rfl hy2)
          have HI1 := IH.out d' hdn A2 thn c2 _ _ _ _ _ m1 R2.out bt okt.out HS6.out (by rw [List.length_set, setT_len, hq3]; omega) (by rw [List.length_set, setT_len, hq3]; have := HB.out; have := HBc.out; omega) (by
            have hs := manyB_set (b := (⟨[], test, (m1 : Nat), (m2 : Nat)⟩ : Blk)) (show ql < (setT (q ++ [zbl] ++ [nbl] ++ [nbl]) n (ql : Nat)).length by rw [setT_len, hq3]; omega)
            rw [manyB_setT (by rw [hq3]; omega), manyB_nbl, manyB_nbl, manyB_zbl] at hs
            have hz : ([] : List Step).length = 0 := rfl
            dsimp only at hs
            have := HB.out
            have := HBs.out
            omega)
          unfold ListE at HI1
          rw [hy1] at HI1
          dsimp only at HI1
          have HI1 := Lib.hid HI1
          rw [hql] at HBF
          have hn2 : ((ql : Nat) : Int) < ((m3 : Nat) : Int) := by omega
          have Hm2 := Lib.hid hm2
          clear h5 h6 hfr5 hfr6 hq1 hq2 hq3 hql hm1 hm2 hm3 hnq hy1 hy2 HY3 hS4 hF4 HN3 HF3 HF4 HN4
          go_wp2
          rw [← hw5]
          refine wp_region_held_drew (S := fun w' => w'.cell? ⟨T, 0, none⟩ = some (.slice (some ⟨g4, 0, none⟩) m3 cap4) ∧ w'.cell? ⟨X, 1, none⟩ = some (.int .i64 test)) (by kernel_rfl) HK5.out (fun hH0 => ?_)
          clear d1 f1 cT4 hw5
          refine wpAnyH_take (i := 0) (oi := { dst := some 124, op := Go.Op.move (Go.Operand.tmp 0), type := 140, pos := "shape.go:154", after := #[], guard := none }) rfl (by kernel_rfl) (by kernel_rfl) (by kernel_rfl) (fun _ _ _ h => h) (Or.inl ⟨by rfl, fun w hw => by (go_simp; try with_reducible rfl)⟩) (by assumption) ?_
          try simp only [Act.put, List.setIfInBounds_toArray, List.set_cons_zero, List.set_cons_succ]
          refine wpAnyH_take (i := 1) (oi := { dst := some 125, op := Go.Op.nilCheck (Go.Operand.tmp 124), type := 0, pos := "shape.go:154", after := #[{ on := 0, ground := Go.Ground.data }], guard := none }) rfl (by kernel_rfl) (by kernel_rfl) (by kernel_rfl) (fun _ _ _ h => h) (Or.inl ⟨by rfl, fun w hw => by (go_simp; try with_reducible rfl)⟩) (by assumption) ?_
          try simp only [Act.put, List.setIfInBounds_toArray, List.set_cons_zero, List.set_cons_succ]
          refine wpAnyH_take (i := 2) (oi := { dst := some 126, op := Go.Op.fieldAddr 142 (Go.Operand.tmp 125) 0, type := 0, pos := "shape.go:154", after := #[{ on := 1, ground := Go.Ground.data }], guard := none }) rfl (by kernel_rfl) (by kernel_rfl) (by kernel_rfl) (fun _ _ _ h => h) (Or.inl ⟨by rfl, fun w hw => by (go_simp; try with_reducible rfl)⟩) (by assumption) ?_
          try simp only [Act.put, List.setIfInBounds_toArray, List.set_cons_zero, List.set_cons_succ]
          refine wpAnyH_take (i := 3) (oi := { dst := some 127, op := Go.Op.load 22 (Go.Operand.tmp 126), type := 22, pos := "shape.go:154", after := #[{ on := 2, ground := Go.Ground.data }], guard := none }) rfl (by kernel_rfl) (by kernel_rfl) (by kernel_rfl) (fun _ _ _ h => h) (Or.inl ⟨by rfl, fun w hw => by (obtain ⟨p0, p1⟩ := hw; go_simp; try with_reducible rfl)⟩) (by assumption) ?_
          try simp only [Act.put, List.setIfInBounds_toArray, List.set_cons_zero, List.set_cons_succ]
          refine wpAnyH_take (i := 4) (oi := { dst := some 128, op := Go.Op.move (Go.Operand.tmp 11), type := 3, pos := "shape.go:154", after := #[], guard := none }) rfl (by kernel_rfl) (by kernel_rfl) (by kernel_rfl) (fun _ _ _ h => h) (Or.inl ⟨by rfl, fun w hw => by (go_simp; try with_reducible rfl)⟩) (by assumption) ?_
          try simp only [Act.put, List.setIfInBounds_toArray, List.set_cons_zero, List.set_cons_succ]
          refine wpAnyH_take (i := 5) (oi := { dst := some 129, op := Go.Op.fieldAddr 59 (Go.Operand.tmp 8) 1, type := 0, pos := "shape.go:154", after := #[], guard := none }) rfl (by kernel_rfl) (by kernel_rfl) (by kernel_rfl) (fun _ _ _ h => h) (Or.inl ⟨by rfl, fun w hw => by (go_simp; try with_reducible rfl)⟩) (by assumption) ?_
          try simp only [Act.put, List.setIfInBounds_toArray, List.set_cons_zero, List.set_cons_succ]
          refine wpAnyH_take (i := 6) (oi := { dst := some 130, op := Go.Op.load 3 (Go.Operand.tmp 129), type := 3, pos := "shape.go:154", after := #[{ on := 5, ground := Go.Ground.data }], guard := none }) rfl (by kernel_rfl) (by kernel_rfl) (by kernel_rfl) (fun _ _ _ h => h) (Or.inl ⟨by rfl, fun w hw => by (obtain ⟨p0, p1⟩ := hw; go_simp; try with_reducible rfl)⟩) (by assumption) ?_
          try simp only [Act.put, List.setIfInBounds_toArray, List.set_cons_zero, List.set_cons_succ]
          refine wpAnyH_take (i := 7) (oi := { dst := some 131, op := Go.Op.move (Go.Operand.tmp 12), type := 3, pos := "shape.go:154", after := #[], guard := none }) rfl (by kernel_rfl) (by kernel_rfl) (by kernel_rfl) (fun _ _ _ h => h) (Or.inl ⟨by rfl, fun w hw => by (go_simp; try with_reducible rfl)⟩) (by assumption) ?_
          try simp only [Act.put, List.setIfInBounds_toArray, List.set_cons_zero, List.set_cons_succ]
          refine wpAnyH_take (i := 8) (oi := { dst := some 132, op := Go.Op.move (Go.Operand.tmp 13), type := 3, pos := "shape.go:154", after := #[], guard := none }) rfl (by kernel_rfl) (by kernel_rfl) (by kernel_rfl) (fun _ _ _ h => h) (Or.inl ⟨by rfl, fun w hw => by (go_simp; try with_reducible rfl)⟩) (by assumption) ?_
          try simp only [Act.put, List.setIfInBounds_toArray, List.set_cons_zero, List.set_cons_succ]
          refine wpAnyH_take (i := 9) (oi := { dst := some 133, op := Go.Op.build 85 #[(1, Go.Operand.tmp 130), (2, Go.Operand.tmp 131), (3, Go.Operand.tmp 132)], type := 85, pos := "shape.go:154", after := #[{ on := 6, ground := Go.Ground.data }, { on := 7, ground := Go.Ground.data }, { on := 8, ground := Go.Ground.data }], guard := none }) rfl (by kernel_rfl) (by kernel_rfl) (by kernel_rfl) (fun _ _ _ h => h) (Or.inl ⟨by rfl, fun w hw => by (go_simp; try with_reducible rfl)⟩) (by assumption) ?_
          try simp only [Act.put, List.setIfInBounds_toArray, List.set_cons_zero, List.set_cons_succ]
          refine wpAnyH_take (i := 10) (oi := { dst := some 134, op := Go.Op.indexAddr 22 (Go.Operand.tmp 127) (Go.Operand.tmp 128), type := 0, pos := "shape.go:154", after := #[{ on := 3, ground := Go.Ground.data }, { on := 4, ground := Go.Ground.data }, { on := 0, ground := Go.Ground.phase }, { on := 1, ground := Go.Ground.phase }, { on := 2, ground := Go.Ground.phase }, { on := 3, ground := Go.Ground.phase }, { on := 4, ground := Go.Ground.phase }, { on := 5, ground := Go.Ground.phase }, { on := 6, ground := Go.Ground.phase }, { on := 7, ground := Go.Ground.phase }, { on := 8, ground := Go.Ground.phase }, { on := 9, ground := Go.Ground.phase }], guard := none }) rfl (by kernel_rfl) (by kernel_rfl) (by kernel_rfl) (fun _ _ _ h => h) (Or.inl ⟨by rfl, fun w hw => by (go_simp; try with_reducible rfl)⟩) (by assumption) ?_
          try simp only [Act.put, List.setIfInBounds_toArray, List.set_cons_zero, List.set_cons_succ]
          refine wpAnyH_ready (rs := [11]) (by kernel_rfl) (by simp) ?_
          refine AllReadyH.cons (o := { dst := none, op := Go.Op.store 85 (Go.Operand.tmp 134) (Go.Operand.tmp 133), type := 0, pos := "shape.go:154", after := #[{ on := 10, ground := Go.Ground.data }, { on := 9, ground := Go.Ground.data }, { on := 0, ground := Go.Ground.phase }, { on := 1, ground := Go.Ground.phase }, { on := 2, ground := Go.Ground.phase }, { on := 3, ground := Go.Ground.phase }, { on := 4, ground := Go.Ground.phase }, { on := 5, ground := Go.Ground.phase }, { on := 6, ground := Go.Ground.phase }, { on := 7, ground := Go.Ground.phase }, { on := 8, ground := Go.Ground.phase }, { on := 9, ground := Go.Ground.phase }], guard := none }) rfl (fun K hK => ?_) AllReadyH.nil
          obtain ⟨y0, y1, y2, y3, x0, x1, x2, x3, xf⟩ := HX5.out
          go_simp
          clear y0 y1 y2 y3 x0 x1 x2 x3 xf
          refine hK.out _ _ HK6.out (fun hH1 => ?_)
          clear hK hH0
          have hH0 := hH1
          clear hH1
          try simp only [Act.put, List.setIfInBounds_toArray, List.set_cons_zero, List.set_cons_succ]
          refine wpAnyH_done (by kernel_rfl) ?_ _
          clear hH0
          rw [← hw6]
          clear hw6
          go_wp2_with fail
          (with_reducible refine HI1.out.mono ?_)
          rintro e w7 ⟨rfl, g7, cap7, raws7, hS7, hF7⟩
          have hbf := HBF.out
          obtain ⟨⟨v8, d8⟩, f8, ra8, h8⟩ := hS7.stT (i := a1) hbf.1 (ql : Nat)
          have hfr8 := hS7.fr (FrS.refl w7) (a1 * 4 + 2) (.int .i64 (ql : Nat))
          have cT7 := hS7.tcell
          have HS8 := Lib.hid h8
          have HF8 := Lib.hid ((HF6.out.trans hF7).trans hfr8)
          have HB8 : Hid (m2 < (setT s1 a1 (ql : Nat)).length ∧ (setT s1 a1 (ql : Nat)).length + 3 * cntL d r ≤ 1000 ∧ manyB (setT s1 a1 (ql : Nat)) + stepsL d r ≤ 1000) := Lib.hid (by
            have h1 := HB.out
            have h2 := HBs.out
            have h3 := HBc.out
            have h4 := Hm2.out
            rw [manyB_setT hbf.1, setT_len]
            omega)
          have hn8 : ((a1 : Nat) : Int) < ((s1.length : Nat) : Int) := by have := hbf.1; omega
          clear hS7 hF7 h8 hfr8 hbf
          generalize s1.length = sl at *
          go_wp2
          go_roundw
          case rel => exact ⟨j + 1, m2, _, _, _, _, by omega, by go_num, rfl, HS8, HF8, Lib.hid (by rw [← Hr.out]; exact HB8.out), Lib.hid (by rw [← Hr.out]; exact HJ9.out)⟩
          case measure => simp [intOf]; omega
      · have hje : j = l.length := by omega
        subst hje
        have hz : flatL d l p i = (q, n) := by
          rw [HJ.out, List.drop_length, flatL_nil]
        have HZ := Lib.hid hz
        clear hlt hz
        go_wp2
        go_ret
        unfold ListE
        rw [HZ.out]
        exact ⟨rfl, g, cap, raws, HS.out, HF.out⟩
end Go.Proofs.Ytmgejacndhnikaa
