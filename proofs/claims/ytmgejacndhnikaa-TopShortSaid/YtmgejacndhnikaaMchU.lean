/- mach.Code walked (written by mchu.py out of mchu.txt). -/
import Derived.Test.YtmgejacndhnikaaMchT
import Derived.Test.YtmgejacndhnikaaBlkI
import Derived.Deep.RegionHeld3
import Derived.Laws.EntriesVeiled
namespace Go.Proofs.Ytmgejacndhnikaa
set_option maxRecDepth 100000
open Go.RowKit Go.Maps

def CodeEnd (vars : Int) (p : List Blk) (w : World) (e : Ending) (w' : World) : Prop :=
  Below w.heap.size w w' ∧ ((pkErr vars p ≠ 0 ∧ e = .returned (.tuple #[.slice none 0 0, .int .i64 (pkErr vars p)])) ∨ (pkErr vars p = 0 ∧ ∃ v, e = .returned (.tuple #[v, .int .i64 0]) ∧ OwnB w' w.heap.size v (progY p)))
theorem begs_snoc (p : List Blk) (k : Nat) : ((List.range (k + 1)).map fun i => ((begY p i : Nat) : Int)) = ((List.range k).map fun i => ((begY p i : Nat) : Int)) ++ [((begY p k : Nat) : Int)] := by
  rw [List.range_succ, List.map_append]; rfl
def begsL (p : List Blk) (k : Nat) : List Int := (List.range k).map fun i => ((begY p i : Nat) : Int)
theorem begsL_succ (p : List Blk) (k : Nat) : begsL p (k + 1) = begsL p k ++ [((begY p k : Nat) : Int)] := begs_snoc p k
theorem begsL_len (p : List Blk) (k : Nat) : (begsL p k).length = k := by simp [begsL]
theorem StM.start (w : World) (w0 : World) (hb : Below w0.heap.size w0 w) : StM w0 (((w.alloc (.cells #[.slice none 0 0] 25)).alloc (.map #[] 0)).alloc (.cells #[.map (some (w.heap.size + 1))] 82)) w.heap.size (w.heap.size + 1 + 1) (w.heap.size + 1) (w.heap.size + 3) (.slice none 0 0) [] [] := by
  have h1 : ((w.alloc (.cells #[.slice none 0 0] 25)).alloc (.map #[] 0)).heap[w.heap.size]? = some (.cells #[.slice none 0 0] 25 (0, 0)) := (Below.heap_alloc _ _ _ (by simp)).trans (heap_alloc_new w _)
  have hs := hb.size
  refine ⟨((hb.alloc (by omega) _).alloc (by simp; omega) _).alloc (by simp; omega) _, (Below.heap_alloc _ _ _ (by simp; omega)).trans h1, ?_, Own.nil_ _ _ _, ?_, by simp; omega⟩
  · have := heap_alloc_new ((w.alloc (.cells #[.slice none 0 0] 25)).alloc (.map #[] 0)) (.cells #[.map (some (w.heap.size + 1))] 82)
    rw [World.size_alloc, World.size_alloc] at this
    exact this
  · have := (OwnM.made encI (w.alloc (.cells #[.slice none 0 0] 25)) 3).alloc (.cells #[.map (some (w.heap.size + 1))] 82)
    rw [World.size_alloc] at this
    exact this
theorem own_off {α : Type} {f : α → List Value} {size base E E' : Nat} {w : World} {v : Value} {l : List α} (h : Own f size w base E v l) {T : Nat} {cs : Array Value} (hT : w.heap[T]? = some (.cells cs E' (0, 0))) (hE : E ≠ E') : v.ownBlock ≠ some T := by
  rcases h.2 with ⟨rfl, _⟩ | ⟨g, cap, cur, rfl, _, hh, _⟩
  · intro e; cases e
  · intro e
    have e : some g = some T := e
    injection e with e
    subst e
    rw [hh] at hT
    injection hT with hT
    injection hT with _ h2 _
    exact hE h2
theorem own_two {α β : Type} {f : α → List Value} {f' : β → List Value} {size size' base base' E E' : Nat} {w : World} {v v' : Value} {l : List α} {l' : List β} (h : Own f size w base E v l) (h' : Own f' size' w base' E' v' l') (hE : E ≠ E') : v.ownBlock = none ∨ v.ownBlock ≠ v'.ownBlock := by
  rcases h'.2 with ⟨rfl, _⟩ | ⟨g, cap, cur, rfl, _, hh, _⟩
  · rcases h.2 with ⟨rfl, _⟩ | ⟨g, cap, cur, rfl, _, hh, _⟩
    · exact .inl rfl
    · exact .inr (fun e => by cases e)
  · exact .inr (own_off h hh hE)
theorem StM.grownI {w0 w w' : World} {C M W B : Nat} {v vb : Value} {code : List Int} {L : List (Nat × Int)} {bl : List Int} (h : StM w0 w C M W B v code L) (hb : OwnI w B 3 vb bl) (hg : w.grownBy w' vb.ownBlock) : StM w0 w' C M W B v code L := by
  have hl := h.lt
  have hB : ∀ g, vb.ownBlock = some g → B ≤ g := fun g e => (own_lt' hb g e).1
  exact ⟨h.bel.grown hg (by omega) (fun k e => by have := hB k e; omega), (hg.block C (lt_h h.hC) (fun e => by have := hB C e.symm; omega)).trans h.hC, (hg.block M (lt_h h.hM) (fun e => by have := hB M e.symm; omega)).trans h.hM, h.own.kept hg (own_two h.own hb (by decide)), h.mp.kept hg (fun e => by have := hB W e.symm; omega), by have := hg.size; omega⟩
theorem codeY_take {l : List Step} {j : Nat} (h : j < l.length) : codeY (l.take (j + 1)) = codeY (l.take j) ++ stepY l[j] := by
  unfold codeY
  rw [List.take_succ_eq_append_getElem h, List.map_append, List.flatten_append]
  simp
theorem preZ_at {p : List Blk} {k : Nat} {b : Blk} (h : p.getD k bnul = b) : preZ p (k + 1) = preZ p k ++ codeY b.code ++ tstZ b ++ endZ k b := by
  rw [preZ_succ, h]; unfold blkZ; simp only [List.append_assoc]
theorem preP_at' {p : List Blk} {k : Nat} {b : Blk} (h : p.getD k bnul = b) : preP p (k + 1) = preP p k ++ tstP (begY p k) b ++ endP (begY p k) k b := by
  rw [preP_succ, h]; unfold blkP; simp only [List.append_assoc]
theorem preP_many (p : List Blk) : ∀ k, (preP p k).length ≤ 2 * k
  | 0 => Nat.le_refl _
  | k + 1 => by
    have h := preP_many p k
    rw [preP_at' rfl, List.length_append, List.length_append]
    have h1 : (tstP (begY p k) (p.getD k bnul)).length ≤ 1 := by unfold tstP; split <;> simp
    have h2 : (endP (begY p k) k (p.getD k bnul)).length ≤ 1 := by unfold endP; split; simp; split <;> simp
    omega
theorem preP_in {vars : Int} {p : List Blk} (hp : POk vars p) : ∀ n, n ≤ p.length → ∀ q ∈ preP p n, 0 ≤ q.2 ∧ q.2 < p.length
  | 0, _, q, hq => by cases hq
  | n + 1, h, q, hq => by
    have hb := hp.bs _ (List.getElem_mem (by omega : n < p.length))
    rw [preP_at' (bget (by omega)), List.mem_append, List.mem_append] at hq
    rcases hq with (hq | hq) | hq
    · exact preP_in hp n (by omega) q hq
    · unfold tstP at hq
      split at hq
      · rename_i h0
        have e : q = _ := List.mem_singleton.1 hq
        subst e
        exact (hb.two h0).2
      · cases hq
    · unfold endP at hq
      split at hq
      · cases hq
      · rename_i h0
        split at hq
        · have e : q = _ := List.mem_singleton.1 hq
          subst e
          dsimp only
          by_cases ht : 0 ≤ p[n].test
          · exact (hb.two ht).1
          · have := hb.one (by have := hb.lo; omega)
            omega
        · cases hq
/-- Addresses that are not yet laid. -/
def PatY (p : List Blk) (left : Int → Prop) (c : List Int) : Prop := c.length = (progY p).length ∧ ∀ j, c.getD j 0 = (progY p).getD j 0 ∨ ∃ q ∈ preP p p.length, left (q.1 : Int) ∧ (j = q.1 ∨ j = q.1 + 1)
theorem ob_none (x : Option Nat) : x = none ∨ x ≠ none := by cases x <;> simp
theorem PatY.start {vars : Int} {p : List Blk} (hp : POk vars p) : PatY p (fun x => in64 x ∧ ∃ v, fM (preP p p.length) x = some v) (preZ p p.length) := by
  refine ⟨by unfold progY; rw [preZ_len, preY_len], fun j => ?_⟩
  rcases pre_alike p p.length j with h | ⟨q, hq, h⟩
  · exact .inl h
  · refine .inr ⟨q, hq, ⟨?_, fM_mem hq⟩, h⟩
    obtain ⟨h1, _⟩ := preP_at p.length (Nat.le_refl _) q hq
    have := progY_len hp
    exact ⟨by omega, by omega⟩
theorem PatY.done {p : List Blk} {left : Int → Prop} {c : List Int} (h : PatY p left c) (hl : ∀ x, ¬ left x) : c = progY p := by
  refine List.ext_getElem h.1 fun j h1 h2 => ?_
  rcases h.2 j with e | ⟨q, _, hq, _⟩
  · rw [List.getD_eq_getElem?_getD, List.getD_eq_getElem?_getD, List.getElem?_eq_getElem h1, List.getElem?_eq_getElem h2] at e
    exact e
  · exact absurd hq (hl _)
theorem getD_set {l : List Int} {i j : Nat} {x : Int} (h : i < l.length) : (l.set i x).getD j 0 = if i = j then x else l.getD j 0 := by
  rw [List.getD_eq_getElem?_getD, List.getD_eq_getElem?_getD, List.getElem?_set]
  by_cases e : i = j
  · subst e; rw [if_pos rfl, if_pos rfl, if_pos h]; rfl
  · rw [if_neg e, if_neg e]
theorem PatY.step {p : List Blk} {left : Int → Prop} {c : List Int} (h : PatY p left c) {q : Nat × Int} (hq : q ∈ preP p p.length) : PatY p (fun z => left z ∧ z ≠ (q.1 : Int)) ((c.set q.1 (loY (begY p q.2.toNat))).set (q.1 + 1) (hiY (begY p q.2.toNat))) := by
  obtain ⟨_, h2, h3, h4⟩ := preP_at p.length (Nat.le_refl _) q hq
  have hl := h.1
  refine ⟨by rw [List.length_set, List.length_set]; exact hl, fun j => ?_⟩
  rw [getD_set (by rw [List.length_set]; omega), getD_set (by omega)]
  by_cases e1 : q.1 + 1 = j
  · rw [if_pos e1, ← e1, h4]; exact .inl rfl
  · rw [if_neg e1]
    by_cases e0 : q.1 = j
    · rw [if_pos e0, ← e0, h3]; exact .inl rfl
    · rw [if_neg e0]
      rcases h.2 j with e | ⟨r, hr, hlr, hj⟩
      · exact .inl e
      · exact .inr ⟨r, hr, ⟨hlr, fun e => by omega⟩, hj⟩
set_option maxHeartbeats 8000000 in
theorem code_calls (vars : Int) (A : Option Addr) (p : List Blk) (cap : Nat) (w : World) (hA : RdBk w A p) (hm : p.length ≤ maxLen) (hmc : smallB p) :
    Calls Try.prog 13 #[.int .i64 vars, .slice A p.length cap] w (CodeEnd vars p w) := by
  have HC := Lib.hid (blkCheck_calls vars A p cap w hA hm hmc)
  have HA := Lib.hid hA
  clear hA hm hmc
  by_cases h0 : pkErr vars p = 0
  · have hp := pok_of h0
    have HP := Lib.hid hp
    have H0 := Lib.hid h0
    have hn8 := hp.n8
    clear h0 hp
    have hmm := @run_makeMap Try.prog
    go_enter Try.func13, Try.ntmps13
    go_wp2_with (go_at_call 41; refine HC.out.mono ?_; rintro e w1 ⟨rfl, hW⟩; rw [H0.out]; have HW := Lib.hid hW; have HS := Lib.hid (StM.start w1 w hW); clear hW)
    clear hmm HC
    go_loopw [8, 27] (fun vb i wr => ∃ (k : Nat) (vc : Value), k ≤ p.length ∧ i = .int .i64 k ∧ Hid (StM w wr w1.heap.size (w1.heap.size + 1 + 1) (w1.heap.size + 1) (w1.heap.size + 3) vc (preZ p k) (preP p k)) ∧ Hid (OwnI wr (w1.heap.size + 3) 3 vb (begsL p k))) (fun _ i _ => p.length - (intOf i).toNat)
    case atStart => exact ⟨0, _, Nat.zero_le _, rfl, HS, Lib.hid (Own.nil_ _ _ _)⟩
    case round =>
      clear HS
      obtain ⟨k, vc, hk, rfl, HS, HB⟩ := hrel
      generalize w1.heap.size = C at *
      by_cases hlt : k < p.length
      · obtain ⟨b, off, A', cap', rfl, hb, c0, c1, c2, c3, hR⟩ := RdBk.at_ HA.out hlt
        obtain ⟨Ac, cc, rfl, -⟩ := Own.form byteCells_len HS.out.own
        have hpl := preZ_len p k
        rw [hpl] at HS
        have HBs := Lib.hid (begsL_succ p k)
        obtain ⟨Ab, cb, rfl, -⟩ := OwnI.rd HB.out
        rw [begsL_len p k] at HB
        rw [begsL_len p k]
        have hb108 := begY_108 HP.out (i := k) (by omega)
        have hlt1 : ((k : Nat) : Int) < ((p.length : Nat) : Int) := by omega
        have cC := (cell_h HS.out.hC 0).trans (show _ = some (Value.slice Ac (begY p k) cc) from rfl)
        have hl := HS.out.lt
        have hCl : C < wr.heap.size := by omega
        have hTB : C + 3 ≤ wr.heap.size := by omega
        have HR := Lib.hid hR
        have hbo := HP.out.bs _ (List.getElem_mem hlt)
        have hmany : p[k].code.length ≤ 20 := by
          have h1 := manyB_mem (List.getElem_mem hlt)
          have h2 := HP.out.many
          omega
        have HBo := Lib.hid hbo
        have Hgk := Lib.hid (bget hlt)
        have Hpl := Lib.hid hpl
        clear hR hbo hpl hl
        generalize p[k] = bk at *
        obtain ⟨code, test, thn, els⟩ := bk
        dsimp only at c0 c1 c2 c3 hmany
        have HTa : Hid ((wr.alloc (.cells #[.slice A' code.length cap', .int .i64 test, .int .i64 thn, .int .i64 els] 85)).heap[wr.heap.size]? = some (.cells #[.slice A' code.length cap', .int .i64 test, .int .i64 thn, .int .i64 els] 85 (0, 0))) := Lib.hid (heap_alloc_new wr _)
        rw [← HS.out.bel.cell hb] at c0 c1 c2 c3
        have hb' : b < wr.heap.size := by have := HS.out.bel.size; omega
        have HSa := Lib.hid (HS.out.alloc (.cells #[.slice A' code.length cap', .int .i64 test, .int .i64 thn, .int .i64 els] 85))
        have HBa := Lib.hid (show OwnI (wr.alloc (.cells #[.slice A' code.length cap', .int .i64 test, .int .i64 thn, .int .i64 els] 85)) (C + 3) 3 (.slice Ab k cb) (begsL p k) from HB.out.alloc _)
        have hbk : (begsL p k).length < 1000000 := by rw [begsL_len]; omega
        go_wp2_with (at_builtin; refine wpList_appI rfl _ _ rfl (C + 3) _ _ ((begY p k : Nat) : Int) rfl (HBa.out.alloc _) _ _ rfl (cell_new _ _ _ _ (by simp) _) hbk (by simp; omega) ?_; intro v5 w5 hB5 hg5
                     have HS5 := Lib.hid ((HSa.out.alloc (.cells #[.int .i64 (begY p k : Nat)] 3)).grownI (HBa.out.alloc _) hg5)
                     have HB5 : Hid (OwnI w5 (C + 3) 3 v5 (begsL p (k + 1))) := Lib.hid (by rw [HBs.out]; exact hB5)
                     have HT5 := Lib.hid ((hg5.block wr.heap.size (by simp; omega) (fun e => own_off HBa.out HTa.out (by decide) e.symm)).trans ((Below.heap_alloc _ _ _ (lt_h HTa.out)).trans HTa.out))
                     have p0 := cell_h HT5.out 0
                     have p1 := cell_h HT5.out 1
                     have p2 := cell_h HT5.out 2
                     have p3 := cell_h HT5.out 3
                     clear hB5 hg5)
        generalize wr.heap.size = T at *
        clear HS HB HSa HBa HTa c0 c1 c2 c3 cC hCl hb'
        go_loopw [40] (fun i wi => ∃ (j : Nat) (vc : Value), j ≤ code.length ∧ i = .int .i64 j ∧ Hid (StM w wi C (C + 1 + 1) (C + 1) (C + 3) vc (preZ p k ++ codeY (code.take j)) (preP p k)) ∧ Hid (OwnI wi (C + 3) 3 v5 (begsL p (k + 1))) ∧ Hid (wi.heap[T]? = some (.cells #[.slice A' code.length cap', .int .i64 test, .int .i64 thn, .int .i64 els] 85 (0, 0)))) (fun i _ => code.length - (intOf i).toNat)
        case atStart => exact ⟨0, _, Nat.zero_le _, rfl, Lib.hid (by rw [List.take_zero, show codeY [] = [] from rfl, List.append_nil]; exact HS5.out), HB5, HT5⟩
        case round =>
          clear HS5 HB5 HT5 p0 p1 p2 p3
          obtain ⟨j, vc, hj, rfl, HS, HB, HT⟩ := hrel
          by_cases hlj : j < code.length
          · obtain ⟨b2, off2, rfl, hb2, e0, e1, e2, e3, e4⟩ := RdSt.at5 HR.out hlj
            obtain ⟨Ac, cc, rfl, -⟩ := Own.form byteCells_len HS.out.own
            rw [← HS.out.bel.cell hb2] at e0 e1 e2 e3 e4
            have hb2' : b2 < wr.heap.size := by have := HS.out.bel.size; omega
            have hlen : (preZ p k ++ codeY (code.take j)).length ≤ 200 := by
              rw [List.length_append, Hpl.out]
              have := codeY_len (code.take j)
              rw [List.length_take] at this
              omega
            have Htk := Lib.hid (codeY_take hlj)
            have hso := HBo.out.code _ (List.getElem_mem hlj)
            have hlj1 : ((j : Nat) : Int) < ((code.length : Nat) : Int) := by omega
            have hll := stepY_len code[j]
            generalize code[j] = st at *
            have HStp := Lib.hid (fun w' => mstep_calls vars st w' HP.out.v6 hso)
            clear hso
            have hl := HS.out.lt
            obtain ⟨op, sto, sa, sb, sv⟩ := st
            dsimp only at e0 e1 e2 e3 e4
            unfold Step.agg at HStp
            dsimp only at HStp
            have HSs := Lib.hid (HS.out.alloc (.cells #[.int .i64 op, .int .i64 sto, .int .i64 sa, .int .i64 sb, .int .i64 sv] 87)).drew
            have HBs2 := Lib.hid (show OwnI (wr.alloc (.cells #[.int .i64 op, .int .i64 sto, .int .i64 sa, .int .i64 sb, .int .i64 sv] 87)).drew (C + 3) 3 v5 (begsL p (k + 1)) from HB.out.alloc _)
            have hTs := (Below.heap_alloc wr (.cells #[.int .i64 op, .int .i64 sto, .int .i64 sa, .int .i64 sb, .int .i64 sv] 87) T (lt_h HT.out)).trans HT.out
            have hNs := heap_alloc_new wr (.cells #[.int .i64 op, .int .i64 sto, .int .i64 sa, .int .i64 sb, .int .i64 sv] 87)
            have hTl := lt_h HT.out
            go_wp2
            obtain ⟨S, hS⟩ : ∃ S, S = wr.heap.size := ⟨_, rfl⟩
            have hBS : C + 3 ≤ S := by omega
            obtain ⟨ws, hws⟩ : ∃ ws, ws = wr.alloc (.cells #[.int .i64 op, .int .i64 sto, .int .i64 sa, .int .i64 sb, .int .i64 sv] 87) := ⟨_, rfl⟩
            rw [← hws] at HSs HBs2 hTs hNs
            rw [← hS] at hNs
            rw [← hS, ← hws]
            have HN := Lib.hid (show ws.drew.heap[S]? = _ from hNs)
            have HTs := Lib.hid (show ws.drew.heap[T]? = _ from hTs)
            clear HS HB HT e0 e1 e2 e3 e4 hb2' hl hNs hTs hTl hS hws
            have cC : ws.cell? ⟨C, 0, none⟩ = some (Value.slice Ac (preZ p k ++ codeY (code.take j)).length cc) := cell_h HSs.out.hC 0
            have HKs : Hid (∀ w' : World, w'.heap[S]? = ws.drew.heap[S]? → w'.cell? ⟨S, 0, none⟩ = some (.int .i64 op) ∧ w'.cell? ⟨S, 1, none⟩ = some (.int .i64 sto) ∧ w'.cell? ⟨S, 2, none⟩ = some (.int .i64 sa) ∧ w'.cell? ⟨S, 3, none⟩ = some (.int .i64 sb) ∧ w'.cell? ⟨S, 4, none⟩ = some (.int .i64 sv)) := Lib.hid (fun w' e => ⟨cell_h (e.trans HN.out) 0, cell_h (e.trans HN.out) 1, cell_h (e.trans HN.out) 2, cell_h (e.trans HN.out) 3, cell_h (e.trans HN.out) 4⟩)
            have HK0 := Lib.hid (HKs.out ws.drew rfl)
            generalize hnl : (preZ p k ++ codeY (code.take j)).length = nl at *
            have Hnl := Lib.hid hnl
            clear hnl
            refine wp_region_held_drew (S := fun w' => w'.cell? ⟨S, 0, none⟩ = some (.int .i64 op) ∧ w'.cell? ⟨S, 1, none⟩ = some (.int .i64 sto) ∧ w'.cell? ⟨S, 2, none⟩ = some (.int .i64 sa) ∧ w'.cell? ⟨S, 3, none⟩ = some (.int .i64 sb) ∧ w'.cell? ⟨S, 4, none⟩ = some (.int .i64 sv)) (by kernel_rfl) HK0.out (fun hH0 => ?_)
            refine wpAnyH_take (i := 1) (oi := { dst := some 45, op := Go.Op.load 87 (Go.Operand.tmp 14), type := 87, pos := "mach.go:154", after := #[], guard := none }) rfl (by kernel_rfl) (by kernel_rfl) (by kernel_rfl) (fun _ _ _ h => h) (Or.inl ⟨by rfl, fun w hw => by (obtain ⟨p0, p1, p2, p3, p4⟩ := hw; go_simp; try with_reducible rfl)⟩) (by assumption) ?_
            try simp only [Act.put, List.setIfInBounds_toArray, List.set_cons_zero, List.set_cons_succ]
            refine wpAnyH_ready (rs := [0, 2]) (by kernel_rfl) (by simp) ?_
            refine AllReadyH.cons (o := { dst := some 44, op := Go.Op.load 25 (Go.Operand.tmp 7), type := 25, pos := "mach.go:154", after := #[], guard := none }) rfl (fun K hK => ?_) ?_
            · have c9 := cC
              go_simp
              clear c9
              refine hK.out _ _ hH0 (fun hH1 => ?_)
              clear hK hH0
              have hH0 := hH1
              clear hH1
              try simp only [Act.put, List.setIfInBounds_toArray, List.set_cons_zero, List.set_cons_succ]
              refine wpAnyH_ready (rs := [2]) (by kernel_rfl) (by simp) ?_
              refine AllReadyH.cons (o := { dst := some 46, op := Go.Op.call { callee := Go.Callee.value (Go.Operand.func 43), args := #[Go.Operand.tmp 45], argTypes := #[87] }, type := 25, pos := "mach.go:154", after := #[{ on := 1, ground := Go.Ground.data }], guard := none }) rfl (fun K hK => ?_) AllReadyH.nil
              go_simp
              go_at_call 43
              (with_reducible refine (HStp.out _).mono ?_)
              rintro e w5 ⟨A5, cap5, rfl, hR5, hb5⟩
              have HS5 := Lib.hid (HSs.out.below hb5)
              have HB5 : Hid (OwnI w5 (C + 3) 3 v5 (begsL p (k + 1))) := Lib.hid (Own.below HBs2.out hb5)
              have HT5 := Lib.hid ((hb5.block T (lt_h HTs.out)).trans HTs.out)
              have HN5 := Lib.hid ((hb5.block S (lt_h HN.out)).trans HN.out)
              have HK5 := Lib.hid (HKs.out w5 (hb5.block S (lt_h HN.out)))
              have cC5 : w5.cell? ⟨C, 0, none⟩ = some (Value.slice Ac nl cc) := cell_h HS5.out.hC 0
              obtain ⟨v7, w7, hrun, hS7, hKp, d7, z7, -, -, hg7, hO7⟩ := HS5.out.app A5 _ cap5 hR5 (by have := Hnl.out; omega)
              obtain ⟨A7, c7, e7, -⟩ := Own.form byteCells_len hO7
              generalize (preZ p k ++ codeY (code.take j) ++ stepY _).length = n7 at e7
              subst e7
              have hoS := own_off HS5.out.own HN5.out (by decide)
              have hoT := own_off HS5.out.own HT5.out (by decide)
              have HS7 := Lib.hid hS7
              have HB7 : Hid (OwnI _ (C + 3) 3 v5 (begsL p (k + 1))) := Lib.hid (hKp.own HB5.out (by omega) (by omega) (own_two HB5.out HS5.out.own (by decide)))
              have HT7 := Lib.hid (hKp.heap HT5.out (by omega) (by omega) hoT)
              have HK7 := Lib.hid (HKs.out w7 ((hg7.block S (lt_h HN5.out) (fun e => hoS e.symm)).trans (HN5.out.trans HN.out.symm)))
              have HK8 := Lib.hid (HKs.out _ ((hKp.heap HN5.out (by omega) (by omega) hoS).trans HN.out.symm))
              have Hrun := Lib.hid hrun
              clear hS7 hKp hg7 hO7 hoS hoT hR5 hb5 hrun
              refine hK.out _ _ HK5.out (fun hH1 => ?_)
              clear hK hH0
              have hH0 := hH1
              clear hH1
              try simp only [Act.put, List.setIfInBounds_toArray, List.set_cons_zero, List.set_cons_succ]
              refine wpAnyH_ready (rs := [3]) (by kernel_rfl) (by simp) ?_
              refine AllReadyH.cons (o := { dst := some 47, op := Go.Op.call { callee := Go.Callee.builtin Go.Builtin.append, args := #[Go.Operand.tmp 44, Go.Operand.tmp 46], argTypes := #[25, 25] }, type := 25, pos := "mach.go:154", after := #[{ on := 0, ground := Go.Ground.data }, { on := 2, ground := Go.Ground.data }, { on := 2, ground := Go.Ground.chain }], guard := none }) rfl (fun K hK => ?_) AllReadyH.nil
              rw [if_pos (by rfl)]
              refine wp_app_run 25 _ _ rfl rfl rfl Hrun.out ?_
              refine hK.out _ _ HK7.out (fun hH1 => ?_)
              clear hK hH0
              have hH0 := hH1
              clear hH1
              try simp only [Act.put, List.setIfInBounds_toArray, List.set_cons_zero, List.set_cons_succ]
              refine wpAnyH_ready (rs := [4]) (by kernel_rfl) (by simp) ?_
              refine AllReadyH.cons (o := { dst := none, op := Go.Op.store 25 (Go.Operand.tmp 7) (Go.Operand.tmp 47), type := 0, pos := "mach.go:154", after := #[{ on := 3, ground := Go.Ground.data }, { on := 3, ground := Go.Ground.chain }, { on := 0, ground := Go.Ground.phase }, { on := 1, ground := Go.Ground.phase }, { on := 2, ground := Go.Ground.phase }, { on := 3, ground := Go.Ground.phase }], guard := none }) rfl (fun K hK => ?_) AllReadyH.nil
              have c9 := d7
              have f9 := z7
              go_simp
              clear c9 f9
              refine hK.out _ _ HK8.out (fun hH1 => ?_)
              clear hK hH0 hH1
              try simp only [Act.put, List.setIfInBounds_toArray, List.set_cons_zero, List.set_cons_succ]
              refine wpAnyH_done (by kernel_rfl) ?_ _
              go_wp2
              go_roundw
              case rel => exact ⟨j + 1, _, by omega, by go_num, Lib.hid (by rw [Htk.out, ← List.append_assoc]; exact HS7.out), HB7, HT7⟩
              case measure => simp [intOf]; omega
            refine AllReadyH.cons (o := { dst := some 46, op := Go.Op.call { callee := Go.Callee.value (Go.Operand.func 43), args := #[Go.Operand.tmp 45], argTypes := #[87] }, type := 25, pos := "mach.go:154", after := #[{ on := 1, ground := Go.Ground.data }], guard := none }) rfl (fun K hK => ?_) AllReadyH.nil
            go_simp
            go_at_call 43
            (with_reducible refine (HStp.out _).mono ?_)
            rintro e w5 ⟨A5, cap5, rfl, hR5, hb5⟩
            have HS5 := Lib.hid (HSs.out.below hb5)
            have HB5 : Hid (OwnI w5 (C + 3) 3 v5 (begsL p (k + 1))) := Lib.hid (Own.below HBs2.out hb5)
            have HT5 := Lib.hid ((hb5.block T (lt_h HTs.out)).trans HTs.out)
            have HN5 := Lib.hid ((hb5.block S (lt_h HN.out)).trans HN.out)
            have HK5 := Lib.hid (HKs.out w5 (hb5.block S (lt_h HN.out)))
            have cC5 : w5.cell? ⟨C, 0, none⟩ = some (Value.slice Ac nl cc) := cell_h HS5.out.hC 0
            obtain ⟨v7, w7, hrun, hS7, hKp, d7, z7, -, -, hg7, hO7⟩ := HS5.out.app A5 _ cap5 hR5 (by have := Hnl.out; omega)
            obtain ⟨A7, c7, e7, -⟩ := Own.form byteCells_len hO7
            generalize (preZ p k ++ codeY (code.take j) ++ stepY _).length = n7 at e7
            subst e7
            have hoS := own_off HS5.out.own HN5.out (by decide)
            have hoT := own_off HS5.out.own HT5.out (by decide)
            have HS7 := Lib.hid hS7
            have HB7 : Hid (OwnI _ (C + 3) 3 v5 (begsL p (k + 1))) := Lib.hid (hKp.own HB5.out (by omega) (by omega) (own_two HB5.out HS5.out.own (by decide)))
            have HT7 := Lib.hid (hKp.heap HT5.out (by omega) (by omega) hoT)
            have HK7 := Lib.hid (HKs.out w7 ((hg7.block S (lt_h HN5.out) (fun e => hoS e.symm)).trans (HN5.out.trans HN.out.symm)))
            have HK8 := Lib.hid (HKs.out _ ((hKp.heap HN5.out (by omega) (by omega) hoS).trans HN.out.symm))
            have Hrun := Lib.hid hrun
            clear hS7 hKp hg7 hO7 hoS hoT hR5 hb5 hrun
            refine hK.out _ _ HK5.out (fun hH1 => ?_)
            clear hK hH0
            have hH0 := hH1
            clear hH1
            try simp only [Act.put, List.setIfInBounds_toArray, List.set_cons_zero, List.set_cons_succ]
            refine wpAnyH_ready (rs := [0]) (by kernel_rfl) (by simp) ?_
            refine AllReadyH.cons (o := { dst := some 44, op := Go.Op.load 25 (Go.Operand.tmp 7), type := 25, pos := "mach.go:154", after := #[], guard := none }) rfl (fun K hK => ?_) AllReadyH.nil
            have c9 := cC5
            go_simp
            clear c9
            refine hK.out _ _ hH0 (fun hH1 => ?_)
            clear hK hH0
            have hH0 := hH1
            clear hH1
            try simp only [Act.put, List.setIfInBounds_toArray, List.set_cons_zero, List.set_cons_succ]
            refine wpAnyH_ready (rs := [3]) (by kernel_rfl) (by simp) ?_
            refine AllReadyH.cons (o := { dst := some 47, op := Go.Op.call { callee := Go.Callee.builtin Go.Builtin.append, args := #[Go.Operand.tmp 44, Go.Operand.tmp 46], argTypes := #[25, 25] }, type := 25, pos := "mach.go:154", after := #[{ on := 0, ground := Go.Ground.data }, { on := 2, ground := Go.Ground.data }, { on := 2, ground := Go.Ground.chain }], guard := none }) rfl (fun K hK => ?_) AllReadyH.nil
            rw [if_pos (by rfl)]
            refine wp_app_run 25 _ _ rfl rfl rfl Hrun.out ?_
            refine hK.out _ _ HK7.out (fun hH1 => ?_)
            clear hK hH0
            have hH0 := hH1
            clear hH1
            try simp only [Act.put, List.setIfInBounds_toArray, List.set_cons_zero, List.set_cons_succ]
            refine wpAnyH_ready (rs := [4]) (by kernel_rfl) (by simp) ?_
            refine AllReadyH.cons (o := { dst := none, op := Go.Op.store 25 (Go.Operand.tmp 7) (Go.Operand.tmp 47), type := 0, pos := "mach.go:154", after := #[{ on := 3, ground := Go.Ground.data }, { on := 3, ground := Go.Ground.chain }, { on := 0, ground := Go.Ground.phase }, { on := 1, ground := Go.Ground.phase }, { on := 2, ground := Go.Ground.phase }, { on := 3, ground := Go.Ground.phase }], guard := none }) rfl (fun K hK => ?_) AllReadyH.nil
            have c9 := d7
            have f9 := z7
            go_simp
            clear c9 f9
            refine hK.out _ _ HK8.out (fun hH1 => ?_)
            clear hK hH0 hH1
            try simp only [Act.put, List.setIfInBounds_toArray, List.set_cons_zero, List.set_cons_succ]
            refine wpAnyH_done (by kernel_rfl) ?_ _
            go_wp2
            go_roundw
            case rel => exact ⟨j + 1, _, by omega, by go_num, Lib.hid (by rw [Htk.out, ← List.append_assoc]; exact HS7.out), HB7, HT7⟩
            case measure => simp [intOf]; omega
          · have hje : j = code.length := by omega
            subst hje
            rw [List.take_length] at HS
            clear hlj hj
            have hlC : (codeY code).length ≤ 60 := by have := codeY_len code; omega
            have hlP : (preZ p k ++ codeY code).length = begY p k + (codeY code).length := by rw [List.length_append, Hpl.out]
            have hmp := preP_many p k
            have v6 := HP.out.v6
            have hlo := HBo.out.lo
            have hhi := HBo.out.hi
            have htwo := HBo.out.two
            have hone := HBo.out.one
            dsimp only at hlo hhi htwo hone
            have hl := HS.out.lt
            have p1 := (cell_h HT.out 1).trans (show _ = some (Value.int .i64 test) from rfl)
            have p2 := (cell_h HT.out 2).trans (show _ = some (Value.int .i64 thn) from rfl)
            have p3 := (cell_h HT.out 3).trans (show _ = some (Value.int .i64 els) from rfl)
            have hT1 := lt_h HT.out
            have HZ := Lib.hid (preZ_at Hgk.out)
            have HQ := Lib.hid (preP_at' Hgk.out)
            by_cases ht : 0 ≤ test
            · have dt : decide (0 ≤ test) = true := decide_eq_true ht
              have u7 : IntKind.i64.wrap (72 + test) = 72 + test := IntWalk.i64_in _ (by omega)
              have u8 : IntKind.u8.wrap (72 + test) = 72 + test := wrap_u8_in (by omega) (by omega)
              have HTo8 := Lib.hid (to_calls HS.out (72 + test) els (by omega) (by omega))
              go_wp2_with fail
              (with_reducible refine HTo8.out.mono ?_)
              rintro e w8 ⟨⟨u9, rfl⟩, v8, hS8, hK8, -⟩
              have HB8 : Hid (OwnI w8 (C + 3) 3 v5 (begsL p (k + 1))) := Lib.hid (hK8.own HB.out (by omega) (by omega) (own_two HB.out HS.out.own (by decide)))
              have HT8 := Lib.hid (hK8.heap HT.out (by omega) (by omega) (own_off HS.out.own HT.out (by decide)))
              have HS8 := Lib.hid hS8
              clear hS8 hK8 p1 p2 p3 HTo8
              have p2 := (cell_h HT8.out 2).trans (show _ = some (Value.int .i64 thn) from rfl)
              have hT8 := lt_h HT8.out
              have Htz : Hid (tstZ ⟨code, test, thn, els⟩ = [72 + test, 0, 0]) := Lib.hid (by unfold tstZ; rw [if_pos ht])
              have Htp : Hid (tstP (begY p k) ⟨code, test, thn, els⟩ = [(begY p k + (codeY code).length + 1, els)]) := Lib.hid (by unfold tstP; rw [if_pos ht])
              have hlen : (preZ p k ++ codeY code ++ [72 + test, 0, 0]).length ≤ 200 := by simp only [List.length_append, Hpl.out, List.length_cons, List.length_nil]; omega
              have hmm : (preP p k ++ [((preZ p k ++ codeY code).length + 1, els)]).length ≤ 100 := by simp only [List.length_append, List.length_cons, List.length_nil]; omega
              by_cases h0 : thn < 0
              · exact absurd (htwo ht).1.1 (by omega)
              · have d0 : decide (thn < 0) = false := decide_eq_false h0
                by_cases h1 : thn = (k : Int) + 1
                · have d1 : (thn != (k : Int) + 1) = false := by rw [bne_eq_false_iff_eq]; exact h1
                  have u1 : IntKind.i64.wrap ((k : Int) + 1) = (k : Int) + 1 := IntWalk.i64_in _ (by omega)
                  have Hez : Hid (endZ k ⟨code, test, thn, els⟩ = []) := Lib.hid (by unfold endZ; rw [if_neg h0, if_neg (by rw [ne_eq, Classical.not_not]; exact h1)])
                  have Hep : Hid (endP (begY p k) k ⟨code, test, thn, els⟩ = []) := Lib.hid (by unfold endP; rw [if_neg h0, if_neg (by rw [ne_eq, Classical.not_not]; exact h1)])
                  clear h1
                  go_wp2_with fail
                  go_roundw
                  case rel => exact ⟨k + 1, _, by omega, by go_num, Lib.hid (by rw [HZ.out, HQ.out, Htz.out, Htp.out, Hez.out, Hep.out]; simpa only [List.append_nil, List.append_assoc, hlP] using HS8.out), HB8⟩
                  case measure => simp [intOf]; omega
                · have d1 : (thn != (k : Int) + 1) = true := by rw [bne_iff_ne]; exact h1
                  have u1 : IntKind.i64.wrap ((k : Int) + 1) = (k : Int) + 1 := IntWalk.i64_in _ (by omega)
                  have HTo := Lib.hid (to_calls HS8.out 64 thn (by omega) (by omega))
                  have Hez : Hid (endZ k ⟨code, test, thn, els⟩ = [64, 0, 0]) := Lib.hid (by unfold endZ; rw [if_neg h0, if_pos h1])
                  have Hep : Hid (endP (begY p k) k ⟨code, test, thn, els⟩ = [(begY p k + (codeY code).length + (tstZ ⟨code, test, thn, els⟩).length + 1, thn)]) := Lib.hid (by unfold endP; rw [if_neg h0, if_pos h1])
                  go_wp2_with fail
                  (with_reducible refine HTo.out.mono ?_)
                  rintro e w9 ⟨⟨u9, rfl⟩, v9, hS9, hK9, -⟩
                  have HB9 : Hid (OwnI _ (C + 3) 3 v5 (begsL p (k + 1))) := Lib.hid (hK9.own HB8.out (by omega) (by omega) (own_two HB8.out HS8.out.own (by decide)))
                  have HS9 := Lib.hid hS9
                  clear hS9 hK9
                  go_wp2_with fail
                  go_roundw
                  case rel => exact ⟨k + 1, _, by omega, by go_num, Lib.hid (by rw [HZ.out, HQ.out, Htz.out, Htp.out, Hez.out, Hep.out, Htz.out]; simpa only [List.append_nil, List.append_assoc, List.length_append, Hpl.out, List.length_cons, List.length_nil, Nat.zero_add, Nat.add_zero, Nat.reduceAdd, Nat.add_assoc] using HS9.out), HB9⟩
                  case measure => simp [intOf]; omega
            · have dt : decide (0 ≤ test) = false := decide_eq_false ht
              have Htz : Hid (tstZ ⟨code, test, thn, els⟩ = []) := Lib.hid (by unfold tstZ; rw [if_neg ht])
              have Htp : Hid (tstP (begY p k) ⟨code, test, thn, els⟩ = []) := Lib.hid (by unfold tstP; rw [if_neg ht])
              have hlen : (preZ p k ++ codeY code).length ≤ 200 := by rw [hlP]; omega
              have hmm : (preP p k).length ≤ 100 := by omega
              by_cases h0 : thn < 0
              · have d0 : decide (thn < 0) = true := decide_eq_true h0
                obtain ⟨A8, c8, rfl, -⟩ := Own.form byteCells_len HS.out.own
                generalize hnl : (preZ p k ++ codeY code).length = nl at HS hlen
                have Hnl := Lib.hid hnl
                clear hnl
                have hSa := HS.out.alloc (.cells #[.int .u8 0] 5)
                have hKa : KpM C (C + 1) (.slice A8 nl c8) wr (wr.alloc (.cells #[.int .u8 0] 5)) := KpM.of_below ((Below.refl _ _).alloc (Nat.le_refl _) _)
                obtain ⟨v9, w9, hrun, hS9, hK9, d9, z9, -, -, hg9, hO9⟩ := hSa.app (some ⟨wr.heap.size, 0, none⟩) [0] 1 (rdB_new _ _ _ _ _ rfl rfl) (by have := Hnl.out; simp only [List.length_cons, List.length_nil]; omega)
                obtain ⟨A9, c9, e9, -⟩ := Own.form byteCells_len hO9
                generalize (preZ p k ++ codeY code ++ [0]).length = n9 at e9
                subst e9
                have hKt := hKa.trans hK9 (.inl rfl)
                have HB9 : Hid (OwnI _ (C + 3) 3 v5 (begsL p (k + 1))) := Lib.hid (hKt.own HB.out (by omega) (by omega) (own_two HB.out HS.out.own (by decide)))
                have HS9 := Lib.hid hS9
                have Hrun := Lib.hid hrun
                have cC : wr.cell? ⟨C, 0, none⟩ = some (Value.slice A8 nl c8) := cell_h HS.out.hC 0
                have hCl : C < wr.heap.size := lt_h HS.out.hC
                have Hez : Hid (endZ k ⟨code, test, thn, els⟩ = [0]) := Lib.hid (by unfold endZ; rw [if_pos h0])
                have Hep : Hid (endP (begY p k) k ⟨code, test, thn, els⟩ = []) := Lib.hid (by unfold endP; rw [if_pos h0])
                clear hSa hKa hS9 hK9 hg9 hO9 hrun hKt
                go_wp2_with (at_builtin; refine wpList_app_run rfl 25 _ _ rfl rfl rfl Hrun.out ?_)
                go_roundw
                case rel => exact ⟨k + 1, _, by omega, by go_num, Lib.hid (by rw [HZ.out, HQ.out, Htz.out, Htp.out, Hez.out, Hep.out]; simpa only [List.append_nil, List.append_assoc, hlP] using HS9.out), HB9⟩
                case measure => simp [intOf]; omega
              · have d0 : decide (thn < 0) = false := decide_eq_false h0
                by_cases h1 : thn = (k : Int) + 1
                · have d1 : (thn != (k : Int) + 1) = false := by rw [bne_eq_false_iff_eq]; exact h1
                  have u1 : IntKind.i64.wrap ((k : Int) + 1) = (k : Int) + 1 := IntWalk.i64_in _ (by omega)
                  have Hez : Hid (endZ k ⟨code, test, thn, els⟩ = []) := Lib.hid (by unfold endZ; rw [if_neg h0, if_neg (by rw [ne_eq, Classical.not_not]; exact h1)])
                  have Hep : Hid (endP (begY p k) k ⟨code, test, thn, els⟩ = []) := Lib.hid (by unfold endP; rw [if_neg h0, if_neg (by rw [ne_eq, Classical.not_not]; exact h1)])
                  clear h1
                  go_wp2
                  go_roundw
                  case rel => exact ⟨k + 1, _, by omega, by go_num, Lib.hid (by rw [HZ.out, HQ.out, Htz.out, Htp.out, Hez.out, Hep.out]; simpa only [List.append_nil, List.append_assoc, hlP] using HS.out), HB⟩
                  case measure => simp [intOf]; omega
                · have d1 : (thn != (k : Int) + 1) = true := by rw [bne_iff_ne]; exact h1
                  have u1 : IntKind.i64.wrap ((k : Int) + 1) = (k : Int) + 1 := IntWalk.i64_in _ (by omega)
                  have HTo := Lib.hid (to_calls HS.out 64 thn (by omega) (by omega))
                  have Hez : Hid (endZ k ⟨code, test, thn, els⟩ = [64, 0, 0]) := Lib.hid (by unfold endZ; rw [if_neg h0, if_pos h1])
                  have Hep : Hid (endP (begY p k) k ⟨code, test, thn, els⟩ = [(begY p k + (codeY code).length + (tstZ ⟨code, test, thn, els⟩).length + 1, thn)]) := Lib.hid (by unfold endP; rw [if_neg h0, if_pos h1])
                  go_wp2_with fail
                  (with_reducible refine HTo.out.mono ?_)
                  rintro e w9 ⟨⟨u9, rfl⟩, v9, hS9, hK9, -⟩
                  have HB9 : Hid (OwnI _ (C + 3) 3 v5 (begsL p (k + 1))) := Lib.hid (hK9.own HB.out (by omega) (by omega) (own_two HB.out HS.out.own (by decide)))
                  have HS9 := Lib.hid hS9
                  clear hS9 hK9
                  go_wp2_with fail
                  go_roundw
                  case rel => exact ⟨k + 1, _, by omega, by go_num, Lib.hid (by rw [HZ.out, HQ.out, Htz.out, Htp.out, Hez.out, Hep.out, Htz.out]; simpa only [List.append_nil, List.append_assoc, List.length_append, Hpl.out, List.length_cons, List.length_nil, Nat.zero_add, Nat.add_zero, Nat.reduceAdd, Nat.add_assoc] using HS9.out), HB9⟩
                  case measure => simp [intOf]; omega
      · have hke : k = p.length := by omega
        subst hke
        obtain ⟨Ac, cc, rfl, -⟩ := Own.form byteCells_len HS.out.own
        obtain ⟨Ab, cb, rfl, -⟩ := OwnI.rd HB.out
        rw [begsL_len p p.length] at HB ⊢
        have hpl := preZ_len p p.length
        generalize (preZ p p.length).length = n at hpl HS ⊢
        have HPa := Lib.hid (PatY.start HP.out)
        have hl := HS.out.lt
        have cM : wr.cell? ⟨C + 1 + 1, 0, none⟩ = some (.map (some (C + 1))) := cell_h HS.out.hM 0
        have hn108 : n ≤ 108 := by rw [hpl]; exact begY_108 HP.out (Nat.le_refl _)
        have hlM := lt_h HS.out.hM
        have Hpl := Lib.hid hpl
        clear hlt hpl
        go_wp2_with (at_range; refine wpList_rangeI rfl _ Try.underlying82 rfl rfl HS.out.mp ?_; intro w4 cnt hr hg hsz)
        try go_frame
        have Hr4 := Lib.hid hr
        have hCh := (hg.block C (lt_h HS.out.hC) (by simp)).trans HS.out.hC
        have HC4 := Lib.hid hCh
        have HO4 := Lib.hid (show OwnB w4 (C + 3) (.slice Ac n cc) (preZ p p.length) from HS.out.own.kept hg (ob_none _))
        have HB4 := Lib.hid (show OwnI w4 (C + 3) 3 (.slice Ab p.length cb) (begsL p p.length) from HB.out.kept hg (ob_none _))
        have HW4 := Lib.hid (HS.out.bel.grown hg HS.out.bel.size (fun k e => by cases e))
        have hwC : w.heap.size ≤ C := hl.1
        have hsz4 := hg.size
        obtain ⟨R, hR⟩ : ∃ R, R = wr.heap.size := ⟨_, rfl⟩
        have hRC : C + 3 ≤ R := by omega
        have hgR : ∀ g, (Value.slice Ac n cc).ownBlock = some g → C + 3 ≤ g ∧ g < R := fun g e => by have := HS.out.ownB g e; omega
        have hgR2 : ∀ g, (Value.slice Ab p.length cb).ownBlock = some g → C + 3 ≤ g ∧ g < R := fun g e => by have := own_lt' HB.out g e; omega
        have HgR := Lib.hid hgR
        have HgR2 := Lib.hid hgR2
        rw [← hR] at Hr4 ⊢
        clear hg hr hsz HS HB cM hCh hl hlM hgR hgR2 hR hsz4
        go_loopw [15] (fun _ wr => ∃ (left : Int → Prop) (cnt : Nat) (c : List Int), Hid (RngI wr (C + 1) R (fM (preP p p.length)) left cnt) ∧ Hid (OwnB wr (C + 3) (.slice Ac n cc) c) ∧ Hid (PatY p left c) ∧ Hid (Below w.heap.size w wr) ∧ Hid (wr.heap[C]? = some (.cells #[.slice Ac n cc] 25 (0, 0))) ∧ Hid (OwnI wr (C + 3) 3 (.slice Ab p.length cb) (begsL p p.length))) (fun _ wr => wr.rangeLeft (C + 1) R)
        case atStart => exact ⟨_, cnt, _, Hr4, HO4, HPa, HW4, HC4, HB4⟩
        case round =>
          clear Hr4 HO4 HPa HW4 HC4 HB4
          obtain ⟨left, cnt2, c, Hr, HO, HPa, HW, HC, HB⟩ := hrel
          obtain ⟨wp, rfl⟩ : ∃ wp : World, wp = wr := ⟨_, rfl⟩
          go_wp2_with (at_next; refine wpList_nextI rfl _ rfl rfl Hr.out ?_ ?_)
          · intro hl0
            have HE := Lib.hid (HPa.out.done hl0)
            have cC : wp.cell? ⟨C, 0, none⟩ = some (.slice Ac n cc) := cell_h HC.out 0
            clear hl0
            go_wp2
            go_ret2
            exact ⟨HW.out, .inr ⟨H0.out, _, rfl, by have := HO.out; rw [HE.out] at this; exact Own.base_ this (by omega)⟩⟩
          · intro x cv w5 cnt5 hlx hfx hr5 hlt5 hg5 hsz5 hen
            obtain ⟨q, hq, rfl, rfl⟩ := fM_some hfx
            have HPn := Lib.hid (HPa.out.step hq)
            obtain ⟨q1, q2⟩ := preP_in HP.out p.length (Nat.le_refl _) q hq
            obtain ⟨-, q3, -, -⟩ := preP_at p.length (Nat.le_refl _) q hq
            obtain ⟨K, bi⟩ := q
            dsimp only at q1 q2 q3 hen hr5 HPn ⊢
            obtain ⟨i, rfl⟩ := Int.eq_ofNat_of_zero_le q1
            rw [Int.toNat_natCast] at HPn
            have hcl : c.length = n := by rw [HPa.out.1, Hpl.out]; unfold progY; rw [preY_len]
            have hK1 : K + 1 < n := by rw [← hcl, HPa.out.1]; exact q3
            have hi : i < p.length := by omega
            have Hr5 := Lib.hid hr5
            have hrow : ∀ g, some R = some g → C + 3 ≤ g := fun g e => by injection e with e; omega
            have HO5 := Lib.hid (show OwnB w5 (C + 3) (.slice Ac n cc) c from HO.out.kept hg5 (.inr (fun e => by have := HgR.out R e; omega)))
            have HB5 := Lib.hid (show OwnI w5 (C + 3) 3 (.slice Ab p.length cb) (begsL p p.length) from HB.out.kept hg5 (.inr (fun e => by have := HgR2.out R e; omega)))
            have HW5 := Lib.hid (HW.out.grown hg5 HW.out.size (fun k e => by have := hrow k e; omega))
            have HC5 := Lib.hid ((hg5.block C (lt_h HC.out) (fun e => by injection e with e; omega)).trans HC.out)
            have Hlt5 := Lib.hid hlt5
            have Hleft := Lib.hid Hr.out.left_eq
            have HC' := HC5.out
            clear hlx hfx hr5 hlt5 hg5 hsz5 hrow HPa hq q1 HO HB HW HC Hr HC'
            obtain ⟨g, rfl, hg1, hg2, -, hfz, hce⟩ := OwnB.at2 HO5.out (by omega)
            obtain ⟨gb, rfl, hb1, hb2, -, -, hbe⟩ := OwnI.at2 HB5.out (by rw [begsL_len]; omega)
            have hgg : g < R := (HgR.out g rfl).2
            have hne : gb ≠ g := fun e => by
              rcases own_two HB5.out HO5.out (by decide) with h | h
              · cases h
              · exact h (by rw [e]; rfl)
            have b0 := hbe i (by rw [begsL_len]; exact hi)
            have eb : (begsL p p.length)[i]'(by rw [begsL_len]; exact hi) = ((begY p i : Nat) : Int) := by simp [begsL]
            rw [eb] at b0
            have hy108 := begY_108 HP.out (i := i) (by omega)
            have HS5 : Hid (w5.drew.cell? ⟨C, 0, none⟩ = some (.slice (some ⟨g, 0, none⟩) n cc) ∧ w5.drew.cell? ⟨gb, i, none⟩ = some (.int .i64 ((begY p i : Nat) : Int))) := Lib.hid ⟨cell_h HC5.out 0, b0⟩
            have z1 := hfz K
            have z2 := hfz (K + 1)
            have k1 := hce K (by omega)
            have k2 := hce (K + 1) (by omega)
            have u1 : IntKind.i64.wrap ((K : Int) + 1) = (K : Int) + 1 := IntWalk.i64_in _ (by omega)
            have u3 : IntKind.u8.wrap ((begY p i : Nat) : Int) = loY (begY p i) := by rw [IntKind.wrap_u8]; unfold loY; omega
            have u4 : IntKind.u8.wrap (((begY p i : Nat) : Int) / 256) = hiY (begY p i) := by rw [IntKind.wrap_u8]; unfold hiY; omega
            have l1 : (K : Int) < (n : Int) := by omega
            have l2 : (K : Int) + 1 < (n : Int) := by omega
            have l0 : (0 : Int) ≤ (K : Int) + 1 := by omega
            have l3 : (i : Int) < (p.length : Int) := by omega
            clear hbe b0 eb hfz hce
            generalize hy : begY p i = y at *
            have HOA : Hid (OwnB ((w5.setCell ⟨g, K, none⟩ (.int .u8 (loY y))).setCell ⟨g, K + 1, none⟩ (.int .u8 (hiY y))) (C + 3) (.slice (some ⟨g, 0, none⟩) n cc) ((c.set K (loY y)).set (K + 1) (hiY y))) := Lib.hid ((HO5.out.set_ (by omega) _).set_ (by rw [List.length_set]; omega) _)
            have HOB : Hid (OwnB ((w5.setCell ⟨g, K + 1, none⟩ (.int .u8 (hiY y))).setCell ⟨g, K, none⟩ (.int .u8 (loY y))) (C + 3) (.slice (some ⟨g, 0, none⟩) n cc) ((c.set K (loY y)).set (K + 1) (hiY y))) := Lib.hid (by
              have := ((HO5.out.set_ (k := K + 1) (by omega) (hiY y)).set_ (k := K) (by rw [List.length_set]; omega) (loY y))
              rwa [List.set_comm _ _ (by omega : K + 1 ≠ K)] at this)
            have HFar : Hid (∀ (w6 : World) (j : Nat) (u : Value), RngI w6 (C + 1) R (fM (preP p p.length)) (fun z => left z ∧ z ≠ (K : Int)) cnt5 ∧ Below w.heap.size w w6 ∧ w6.heap[C]? = some (.cells #[.slice (some ⟨g, 0, none⟩) n cc] 25 (0, 0)) ∧ OwnI w6 (C + 3) 3 (.slice (some ⟨gb, 0, none⟩) p.length cb) (begsL p p.length) →
                RngI (w6.setCell ⟨g, j, none⟩ u) (C + 1) R (fM (preP p p.length)) (fun z => left z ∧ z ≠ (K : Int)) cnt5 ∧ Below w.heap.size w (w6.setCell ⟨g, j, none⟩ u) ∧ (w6.setCell ⟨g, j, none⟩ u).heap[C]? = some (.cells #[.slice (some ⟨g, 0, none⟩) n cc] 25 (0, 0)) ∧ OwnI (w6.setCell ⟨g, j, none⟩ u) (C + 3) 3 (.slice (some ⟨gb, 0, none⟩) p.length cb) (begsL p p.length)) := Lib.hid (fun w6 j u ⟨h1, h2, h3, h4⟩ => ⟨h1.kept (row := some g) ⟨rfl, rfl, rfl, by simp [World.setCell], fun k _ hk => Below.heap_setCell w6 ⟨g, j, none⟩ u k (fun e => hk (by rw [e]))⟩ (fun e => by injection e with e; omega) (fun e => by injection e with e; omega), h2.setCell (p := ⟨g, j, none⟩) (by show _ ≤ g; omega) u, (Below.heap_setCell w6 ⟨g, j, none⟩ u C (by show C ≠ g; omega)).trans h3, h4.far (p := ⟨g, j, none⟩) (fun e => hne (by injection e)) u⟩)
            have HF0 := Lib.hid (⟨Hr5.out, HW5.out, HC5.out, HB5.out⟩ : _ ∧ _ ∧ _ ∧ _)
            have HFA := Lib.hid (HFar.out _ (K + 1) (.int .u8 (hiY y)) (HFar.out _ K (.int .u8 (loY y)) HF0.out))
            have HFB := Lib.hid (HFar.out _ K (.int .u8 (loY y)) (HFar.out _ (K + 1) (.int .u8 (hiY y)) HF0.out))
            have HKp : Hid (∀ (w6 : World) (j : Nat) (u : Value), w6.cell? ⟨C, 0, none⟩ = some (.slice (some ⟨g, 0, none⟩) n cc) ∧ w6.cell? ⟨gb, i, none⟩ = some (.int .i64 ((y : Nat) : Int)) → (w6.setCell ⟨g, j, none⟩ u).cell? ⟨C, 0, none⟩ = some (.slice (some ⟨g, 0, none⟩) n cc) ∧ (w6.setCell ⟨g, j, none⟩ u).cell? ⟨gb, i, none⟩ = some (.int .i64 ((y : Nat) : Int))) := Lib.hid (fun w6 j u h => ⟨(World.cell?_setCell_far _ _ _ _ (by show g ≠ C; omega)).trans h.1, (World.cell?_setCell_far _ _ _ _ (by exact hne.symm)).trans h.2⟩)
            have Hml : Hid (∀ w6, RngI w6 (C + 1) R (fM (preP p p.length)) (fun z => left z ∧ z ≠ (K : Int)) cnt5 → w6.rangeLeft (C + 1) R = cnt5) := Lib.hid (fun w6 h => h.left_eq)
            go_wp2
            clear hen
            refine wp_region_held_drew (S := fun w' => w'.cell? ⟨C, 0, none⟩ = some (.slice (some ⟨g, 0, none⟩) n cc) ∧ w'.cell? ⟨gb, i, none⟩ = some (.int .i64 ((y : Nat) : Int))) (by kernel_rfl) HS5.out (fun hH0 => ?_)
            refine wpAnyH_take (i := 0) (oi := { dst := some 85, op := Go.Op.load 25 (Go.Operand.tmp 7), type := 25, pos := "mach.go:167", after := #[], guard := none }) rfl (by kernel_rfl) (by kernel_rfl) (by kernel_rfl) (fun _ _ _ h => h) (Or.inl ⟨by rfl, fun w hw => by (obtain ⟨p0, p1⟩ := hw; go_simp; try with_reducible rfl)⟩) (by assumption) ?_
            try simp only [Act.put, List.setIfInBounds_toArray, List.set_cons_zero, List.set_cons_succ]
            refine wpAnyH_take (i := 1) (oi := { dst := some 86, op := Go.Op.move (Go.Operand.tmp 15), type := 3, pos := "mach.go:167", after := #[], guard := none }) rfl (by kernel_rfl) (by kernel_rfl) (by kernel_rfl) (fun _ _ _ h => h) (Or.inl ⟨by rfl, fun w hw => by (go_simp; try with_reducible rfl)⟩) (by assumption) ?_
            try simp only [Act.put, List.setIfInBounds_toArray, List.set_cons_zero, List.set_cons_succ]
            refine wpAnyH_take (i := 2) (oi := { dst := some 87, op := Go.Op.load 25 (Go.Operand.tmp 7), type := 25, pos := "mach.go:167", after := #[], guard := none }) rfl (by kernel_rfl) (by kernel_rfl) (by kernel_rfl) (fun _ _ _ h => h) (Or.inl ⟨by rfl, fun w hw => by (obtain ⟨p0, p1⟩ := hw; go_simp; try with_reducible rfl)⟩) (by assumption) ?_
            try simp only [Act.put, List.setIfInBounds_toArray, List.set_cons_zero, List.set_cons_succ]
            refine wpAnyH_take (i := 3) (oi := { dst := some 88, op := Go.Op.move (Go.Operand.tmp 15), type := 3, pos := "mach.go:167", after := #[{ on := 17, ground := Go.Ground.gcOnly Go.Departure.lateStores }], guard := none }) rfl (by kernel_rfl) (by kernel_rfl) (by kernel_rfl) (fun _ _ _ h => h) (Or.inl ⟨by rfl, fun w hw => by (go_simp; try with_reducible rfl)⟩) (by assumption) ?_
            try simp only [Act.put, List.setIfInBounds_toArray, List.set_cons_zero, List.set_cons_succ]
            refine wpAnyH_take (i := 4) (oi := { dst := some 89, op := Go.Op.binOp Go.BinOp.add 3 (Go.Operand.tmp 88) (Go.Operand.const (Go.Value.int Go.IntKind.i64 1)) 3, type := 3, pos := "mach.go:167", after := #[{ on := 3, ground := Go.Ground.data }, { on := 17, ground := Go.Ground.gcOnly Go.Departure.lateStores }], guard := none }) rfl (by kernel_rfl) (by kernel_rfl) (by kernel_rfl) (fun _ _ _ h => h) (Or.inl ⟨by rfl, fun w hw => by (go_simp; try with_reducible rfl)⟩) (by assumption) ?_
            try simp only [Act.put, List.setIfInBounds_toArray, List.set_cons_zero, List.set_cons_succ]
            refine wpAnyH_take (i := 5) (oi := { dst := some 90, op := Go.Op.move (Go.Operand.tmp 8), type := 23, pos := "mach.go:167", after := #[], guard := none }) rfl (by kernel_rfl) (by kernel_rfl) (by kernel_rfl) (fun _ _ _ h => h) (Or.inl ⟨by rfl, fun w hw => by (go_simp; try with_reducible rfl)⟩) (by assumption) ?_
            try simp only [Act.put, List.setIfInBounds_toArray, List.set_cons_zero, List.set_cons_succ]
            refine wpAnyH_take (i := 6) (oi := { dst := some 91, op := Go.Op.move (Go.Operand.tmp 16), type := 3, pos := "mach.go:167", after := #[], guard := none }) rfl (by kernel_rfl) (by kernel_rfl) (by kernel_rfl) (fun _ _ _ h => h) (Or.inl ⟨by rfl, fun w hw => by (go_simp; try with_reducible rfl)⟩) (by assumption) ?_
            try simp only [Act.put, List.setIfInBounds_toArray, List.set_cons_zero, List.set_cons_succ]
            refine wpAnyH_take (i := 7) (oi := { dst := some 92, op := Go.Op.indexAddr 23 (Go.Operand.tmp 90) (Go.Operand.tmp 91), type := 0, pos := "mach.go:167", after := #[{ on := 5, ground := Go.Ground.data }, { on := 6, ground := Go.Ground.data }], guard := none }) rfl (by kernel_rfl) (by kernel_rfl) (by kernel_rfl) (fun _ _ _ h => h) (Or.inl ⟨by rfl, fun w hw => by (go_simp; try with_reducible rfl)⟩) (by assumption) ?_
            try simp only [Act.put, List.setIfInBounds_toArray, List.set_cons_zero, List.set_cons_succ]
            refine wpAnyH_take (i := 8) (oi := { dst := some 93, op := Go.Op.load 3 (Go.Operand.tmp 92), type := 3, pos := "mach.go:167", after := #[{ on := 7, ground := Go.Ground.data }], guard := none }) rfl (by kernel_rfl) (by kernel_rfl) (by kernel_rfl) (fun _ _ _ h => h) (Or.inl ⟨by rfl, fun w hw => by (obtain ⟨p0, p1⟩ := hw; go_simp; try with_reducible rfl)⟩) (by assumption) ?_
            try simp only [Act.put, List.setIfInBounds_toArray, List.set_cons_zero, List.set_cons_succ]
            refine wpAnyH_take (i := 9) (oi := { dst := some 94, op := Go.Op.convert 3 5 (Go.Operand.tmp 93), type := 5, pos := "mach.go:167", after := #[{ on := 8, ground := Go.Ground.data }], guard := none }) rfl (by kernel_rfl) (by kernel_rfl) (by kernel_rfl) (fun _ _ _ h => h) (Or.inl ⟨by rfl, fun w hw => by (go_simp; try with_reducible rfl)⟩) (by assumption) ?_
            try simp only [Act.put, List.setIfInBounds_toArray, List.set_cons_zero, List.set_cons_succ]
            refine wpAnyH_take (i := 10) (oi := { dst := some 95, op := Go.Op.move (Go.Operand.tmp 8), type := 23, pos := "mach.go:167", after := #[], guard := none }) rfl (by kernel_rfl) (by kernel_rfl) (by kernel_rfl) (fun _ _ _ h => h) (Or.inl ⟨by rfl, fun w hw => by (go_simp; try with_reducible rfl)⟩) (by assumption) ?_
            try simp only [Act.put, List.setIfInBounds_toArray, List.set_cons_zero, List.set_cons_succ]
            refine wpAnyH_take (i := 11) (oi := { dst := some 96, op := Go.Op.move (Go.Operand.tmp 16), type := 3, pos := "mach.go:167", after := #[], guard := none }) rfl (by kernel_rfl) (by kernel_rfl) (by kernel_rfl) (fun _ _ _ h => h) (Or.inl ⟨by rfl, fun w hw => by (go_simp; try with_reducible rfl)⟩) (by assumption) ?_
            try simp only [Act.put, List.setIfInBounds_toArray, List.set_cons_zero, List.set_cons_succ]
            refine wpAnyH_take (i := 12) (oi := { dst := some 97, op := Go.Op.indexAddr 23 (Go.Operand.tmp 95) (Go.Operand.tmp 96), type := 0, pos := "mach.go:167", after := #[{ on := 10, ground := Go.Ground.data }, { on := 11, ground := Go.Ground.data }], guard := none }) rfl (by kernel_rfl) (by kernel_rfl) (by kernel_rfl) (fun _ _ _ h => h) (Or.inl ⟨by rfl, fun w hw => by (go_simp; try with_reducible rfl)⟩) (by assumption) ?_
            try simp only [Act.put, List.setIfInBounds_toArray, List.set_cons_zero, List.set_cons_succ]
            refine wpAnyH_take (i := 13) (oi := { dst := some 98, op := Go.Op.load 3 (Go.Operand.tmp 97), type := 3, pos := "mach.go:167", after := #[{ on := 12, ground := Go.Ground.data }], guard := none }) rfl (by kernel_rfl) (by kernel_rfl) (by kernel_rfl) (fun _ _ _ h => h) (Or.inl ⟨by rfl, fun w hw => by (obtain ⟨p0, p1⟩ := hw; go_simp; try with_reducible rfl)⟩) (by assumption) ?_
            try simp only [Act.put, List.setIfInBounds_toArray, List.set_cons_zero, List.set_cons_succ]
            refine wpAnyH_take (i := 14) (oi := { dst := some 99, op := Go.Op.binOp Go.BinOp.shr 3 (Go.Operand.tmp 98) (Go.Operand.const (Go.Value.int Go.IntKind.u64 8)) 89, type := 3, pos := "mach.go:167", after := #[{ on := 13, ground := Go.Ground.data }], guard := none }) rfl (by kernel_rfl) (by kernel_rfl) (by kernel_rfl) (fun _ _ _ h => h) (Or.inl ⟨by rfl, fun w hw => by (go_simp; try with_reducible rfl)⟩) (by assumption) ?_
            try simp only [Act.put, List.setIfInBounds_toArray, List.set_cons_zero, List.set_cons_succ]
            refine wpAnyH_take (i := 15) (oi := { dst := some 100, op := Go.Op.convert 3 5 (Go.Operand.tmp 99), type := 5, pos := "mach.go:167", after := #[{ on := 14, ground := Go.Ground.data }], guard := none }) rfl (by kernel_rfl) (by kernel_rfl) (by kernel_rfl) (fun _ _ _ h => h) (Or.inl ⟨by rfl, fun w hw => by (go_simp; try with_reducible rfl)⟩) (by assumption) ?_
            try simp only [Act.put, List.setIfInBounds_toArray, List.set_cons_zero, List.set_cons_succ]
            refine wpAnyH_take (i := 16) (oi := { dst := some 101, op := Go.Op.indexAddr 25 (Go.Operand.tmp 85) (Go.Operand.tmp 86), type := 0, pos := "mach.go:167", after := #[{ on := 0, ground := Go.Ground.data }, { on := 1, ground := Go.Ground.data }, { on := 0, ground := Go.Ground.phase }, { on := 1, ground := Go.Ground.phase }, { on := 2, ground := Go.Ground.textOnly Go.Departure.inlinedCapture }, { on := 3, ground := Go.Ground.textOnly Go.Departure.lateStores }, { on := 4, ground := Go.Ground.textOnly Go.Departure.lateStores }, { on := 5, ground := Go.Ground.phase }, { on := 6, ground := Go.Ground.phase }, { on := 7, ground := Go.Ground.phase }, { on := 8, ground := Go.Ground.phase }, { on := 9, ground := Go.Ground.phase }, { on := 10, ground := Go.Ground.textOnly Go.Departure.lateStores }, { on := 11, ground := Go.Ground.textOnly Go.Departure.lateStores }, { on := 12, ground := Go.Ground.textOnly Go.Departure.lateStoresUnsure }, { on := 13, ground := Go.Ground.phase }, { on := 14, ground := Go.Ground.textOnly Go.Departure.lateStoresUnsure }, { on := 15, ground := Go.Ground.textOnly Go.Departure.lateStoresUnsure }], guard := none }) rfl (by kernel_rfl) (by kernel_rfl) (by kernel_rfl) (fun _ _ _ h => h) (Or.inl ⟨by rfl, fun w hw => by (go_simp; try with_reducible rfl)⟩) (by assumption) ?_
            try simp only [Act.put, List.setIfInBounds_toArray, List.set_cons_zero, List.set_cons_succ]
            refine wpAnyH_ready (rs := [17]) (by kernel_rfl) (by simp) ?_
            refine AllReadyH.cons (o := { dst := none, op := Go.Op.store 5 (Go.Operand.tmp 101) (Go.Operand.tmp 94), type := 0, pos := "mach.go:167", after := #[{ on := 16, ground := Go.Ground.data }, { on := 9, ground := Go.Ground.data }, { on := 0, ground := Go.Ground.phase }, { on := 1, ground := Go.Ground.phase }, { on := 2, ground := Go.Ground.textOnly Go.Departure.inlinedCapture }, { on := 3, ground := Go.Ground.textOnly Go.Departure.lateStores }, { on := 4, ground := Go.Ground.textOnly Go.Departure.lateStores }, { on := 5, ground := Go.Ground.phase }, { on := 6, ground := Go.Ground.phase }, { on := 7, ground := Go.Ground.phase }, { on := 8, ground := Go.Ground.phase }, { on := 9, ground := Go.Ground.phase }, { on := 10, ground := Go.Ground.textOnly Go.Departure.lateStores }, { on := 11, ground := Go.Ground.textOnly Go.Departure.lateStores }, { on := 12, ground := Go.Ground.textOnly Go.Departure.lateStoresUnsure }, { on := 13, ground := Go.Ground.phase }, { on := 14, ground := Go.Ground.textOnly Go.Departure.lateStoresUnsure }, { on := 15, ground := Go.Ground.textOnly Go.Departure.lateStoresUnsure }], guard := none }) rfl (fun K hK => ?_) AllReadyH.nil
            go_simp
            refine hK.out _ _ (HKp.out _ _ _ hH0) (fun hH1 => ?_)
            clear hK hH0
            have hH0 := hH1
            clear hH1
            try simp only [Act.put, List.setIfInBounds_toArray, List.set_cons_zero, List.set_cons_succ]
            refine wpAnyH_take (i := 18) (oi := { dst := some 102, op := Go.Op.indexAddr 25 (Go.Operand.tmp 87) (Go.Operand.tmp 89), type := 0, pos := "mach.go:167", after := #[{ on := 2, ground := Go.Ground.data }, { on := 4, ground := Go.Ground.data }, { on := 0, ground := Go.Ground.phase }, { on := 1, ground := Go.Ground.phase }, { on := 2, ground := Go.Ground.phase }, { on := 3, ground := Go.Ground.phase }, { on := 4, ground := Go.Ground.phase }, { on := 5, ground := Go.Ground.phase }, { on := 6, ground := Go.Ground.phase }, { on := 7, ground := Go.Ground.phase }, { on := 8, ground := Go.Ground.phase }, { on := 9, ground := Go.Ground.phase }, { on := 10, ground := Go.Ground.phase }, { on := 11, ground := Go.Ground.phase }, { on := 12, ground := Go.Ground.phase }, { on := 13, ground := Go.Ground.phase }, { on := 14, ground := Go.Ground.phase }, { on := 15, ground := Go.Ground.phase }, { on := 16, ground := Go.Ground.phase }, { on := 17, ground := Go.Ground.phase }], guard := none }) rfl (by kernel_rfl) (by kernel_rfl) (by kernel_rfl) (fun _ _ _ h => h) (Or.inl ⟨by rfl, fun w hw => by (go_simp; try with_reducible rfl)⟩) (by assumption) ?_
            try simp only [Act.put, List.setIfInBounds_toArray, List.set_cons_zero, List.set_cons_succ]
            refine wpAnyH_ready (rs := [19]) (by kernel_rfl) (by simp) ?_
            refine AllReadyH.cons (o := { dst := none, op := Go.Op.store 5 (Go.Operand.tmp 102) (Go.Operand.tmp 100), type := 0, pos := "mach.go:167", after := #[{ on := 18, ground := Go.Ground.data }, { on := 15, ground := Go.Ground.data }, { on := 17, ground := Go.Ground.chain }, { on := 0, ground := Go.Ground.phase }, { on := 1, ground := Go.Ground.phase }, { on := 2, ground := Go.Ground.phase }, { on := 3, ground := Go.Ground.phase }, { on := 4, ground := Go.Ground.phase }, { on := 5, ground := Go.Ground.phase }, { on := 6, ground := Go.Ground.phase }, { on := 7, ground := Go.Ground.phase }, { on := 8, ground := Go.Ground.phase }, { on := 9, ground := Go.Ground.phase }, { on := 10, ground := Go.Ground.phase }, { on := 11, ground := Go.Ground.phase }, { on := 12, ground := Go.Ground.phase }, { on := 13, ground := Go.Ground.phase }, { on := 14, ground := Go.Ground.phase }, { on := 15, ground := Go.Ground.phase }, { on := 16, ground := Go.Ground.phase }, { on := 17, ground := Go.Ground.phase }], guard := none }) rfl (fun K hK => ?_) AllReadyH.nil
            go_simp
            refine hK.out _ _ (HKp.out _ _ _ hH0) (fun hH1 => ?_)
            clear hK hH0 hH1
            try simp only [Act.put, List.setIfInBounds_toArray, List.set_cons_zero, List.set_cons_succ]
            refine wpAnyH_done (by kernel_rfl) ?_ _
            go_wp2
            go_roundw
            case rel => exact ⟨_, cnt5, _, Lib.hid HFA.out.1.drew, HOA, HPn, Lib.hid HFA.out.2.1.drew, Lib.hid HFA.out.2.2.1, Lib.hid HFA.out.2.2.2⟩
            case measure => rw [Hml.out _ HFA.out.1.drew, Hleft.out]; exact Hlt5.out
  · have H0 := Lib.hid h0
    obtain ⟨E, hE⟩ : ∃ E, E = pkErr vars p := ⟨_, rfl⟩
    have q2 : (E != 0) = true := by rw [bne_iff_ne, hE]; exact h0
    have HE := Lib.hid hE
    clear hE h0
    go_enter Try.func13, Try.ntmps13
    go_wp2_with (go_at_call 41; refine HC.out.mono ?_; rintro e w1 ⟨rfl, hW⟩; rw [← HE.out]; have HW := Lib.hid hW; clear hW)
    go_ret2
    exact ⟨HW.out, .inl ⟨H0.out, by rw [← HE.out]; rfl⟩⟩
end Go.Proofs.Ytmgejacndhnikaa
