/- need.Code walked: (*coder).put, that calls itself. -/
import Derived.Test.YtmglhppfdhphbaaPutP
import Derived.Test.YtmglhppfdhphbaaRecK
import Derived.Test.YtmglhppfdhphbaaAppRun
import Derived.Test.YtmglhppfdhphbaaAppN
import Derived.BigQuiet
import Derived.Deep.QuietTactic
import Derived.Deep.RegionHeld3
namespace Go.Proofs.Ytmglhppfdhphbaa
open Go.RowKit

/-- Between two steps of need.Code: the coder's block K. -/
structure StP (w0 w : World) (K B : Nat) (A : Option Addr) (cap : Nat) (An : Option Addr) (cn : Nat) (l : List Term) (v : Value) (code : List Step) : Prop where
  bel : Below w0.heap.size w0 w
  hK : w.heap[K]? = some (.cells #[.slice A l.length cap, .slice An l.length cn, v] 75 (0, 0))
  out : OwnSt w B 44 v code
  lt : w0.heap.size ≤ K ∧ K < B ∧ B ≤ w.heap.size
section
variable {w0 w w' : World} {K B : Nat} {A : Option Addr} {cap : Nat} {An : Option Addr} {cn : Nat} {l : List Term} {v v' : Value} {code code' : List Step}
theorem StP.own (h : StP w0 w K B A cap An cn l v code) : ∀ g, v.ownBlock = some g → B ≤ g ∧ g < w.heap.size := own_lt' h.out
theorem StP.alloc (h : StP w0 w K B A cap An cn l v code) (o : Obj) : StP w0 (w.alloc o) K B A cap An cn l v code :=
  ⟨h.bel.alloc h.bel.size o, (Below.heap_alloc w o K (lt_h h.hK)).trans h.hK, h.out.alloc o, by have := h.lt; rw [World.size_alloc]; omega⟩
theorem StP.drew (h : StP w0 w K B A cap An cn l v code) : StP w0 w.drew K B A cap An cn l v code := ⟨h.bel.drew, h.hK, h.out.drew, h.lt⟩
theorem StP.drewN (h : StP w0 w K B A cap An cn l v code) (n : Nat) : StP w0 (w.drewN n) K B A cap An cn l v code := ⟨below_dN h.bel n, h.hK, h.out.drewN n, h.lt⟩
/-- Behind append and the store into the coder. -/
theorem StP.put (h : StP w0 w K B A cap An cn l v code) (hg : w.grownBy w' v.ownBlock) (hown : OwnSt w' B 44 v' code') (hv : v'.ownBlock = v.ownBlock ∨ v'.ownBlock = some w.heap.size) : StP w0 (w'.setCell ⟨K, 2, none⟩ v') K B A cap An cn l v' code' := by
  have hl := h.lt
  have hk : w'.heap[K]? = _ := (hg.block K (lt_h h.hK) (fun e => by have := (h.own K e.symm).1; omega)).trans h.hK
  have hvK : v'.ownBlock ≠ some K := fun e => by
    rcases hv with hv | hv
    · have := (h.own K (hv.symm.trans e)).1; omega
    · rw [hv] at e; injection e with e; omega
  have hsz : (w'.setCell ⟨K, 2, none⟩ v').heap.size = w'.heap.size := by simp [World.setCell]
  refine ⟨(h.bel.grown hg (by omega) (fun k e => by have := (h.own k e).1; omega)).setCell (p := ⟨K, 2, none⟩) (by show _ ≤ K; omega) _, ?_, hown.far (p := ⟨K, 2, none⟩) hvK _, by
    rw [hsz]; have := hg.size; omega⟩
  exact heap_setCell_ w' K 2 v' _ _ hk
end
set_option maxRecDepth 100000 in
set_option maxHeartbeats 8000000 in
theorem put_calls {vars : Int} {w0 : World} {K B : Nat} {A : Option Addr} {cap : Nat} {An : Option Addr} {cn : Nat} {l : List Term} (hA : RdT w0 A l) (hN : RdI w0 An (accTo need1 l l.length)) (h16 : l.length ≤ 1000) (hok : ∀ k (h : k < l.length), TOk vars k l[k]) : ∀ n i : Nat, i < n → i < l.length → ∀ (to : Nat) (w : World) (v : Value) (code : List Step), to ≤ 1000 - i → StP w0 w K B A cap An cn l v code → code.length + (putT l i to).length ≤ 1000 →
    Calls Try.prog 46 #[.pointer (some ⟨K, 0, none⟩), .int .i64 i, .int .i64 to] w fun e w' => (∃ u, e = .returned u) ∧ ∃ v', StP w0 w' K B A cap An cn l v' (code ++ putT l i to) ∧ Kp2 K v w w' ∧ (v'.ownBlock = v.ownBlock ∨ ∃ m, v'.ownBlock = some m ∧ w.heap.size ≤ m) := by
  have HA := Lib.hid hA
  have HN := Lib.hid hN
  have Hok := Lib.hid hok
  clear hA hN hok
  intro n
  induction n with
  | zero => intro i h; omega
  | succ n ih =>
    intro i hin hi to w v code hto hS hlen
    have IH := Lib.hid ih
    clear ih
    obtain ⟨A0, c0, rfl, -⟩ := Own.form stepCells_len hS.out
    have HS := Lib.hid hS
    have hl := hS.lt
    obtain ⟨bK, offK, rfl, hbK, -⟩ := RdT.at4 HA.out hi
    obtain ⟨bK', offK', eA, _, k0, k1, k2, k3⟩ := RdT.at4 (Rd.below HA.out hS.bel) hi
    injection eA with eA
    injection eA with e1 e2 _
    subst e1 e2
    have cK0 := (cell_h hS.hK 0).trans (show _ = some (Value.slice (some ⟨bK, offK, none⟩) l.length cap) from rfl)
    have cK1 := (cell_h hS.hK 1).trans (show _ = some (Value.slice An l.length cn) from rfl)
    have cK2 := (cell_h hS.hK 2).trans (show _ = some (Value.slice A0 code.length c0) from rfl)
    have q1 : ((i : Nat) : Int) < ((l.length : Nat) : Int) := by omega
    have hKl : K < w.heap.size := by omega
    have et : l.getD i tnul = l[i] := getD_at hi
    obtain ⟨o1, o6, _, _, hob⟩ := Hok.out i hi
    have Hnode := Lib.hid (fun a b : Nat => @putT_node l vars Hok.out i a b to hi)
    have Hleaf := Lib.hid (@putT_leaf l i to)
    rw [et] at Hnode Hleaf
    clear hS
    generalize l[i] = t at *
    obtain ⟨op, ta, tb, tv⟩ := t
    dsimp only at *
    by_cases h2 : 2 < op
    · obtain ⟨a, b, ea, eb, la, lb⟩ := ab_of Hok.out hi (by rw [et]; exact h2)
      rw [et] at ea eb
      dsimp only at ea eb
      subst ea eb
      have hlaid0 := Hnode.out a b h2 rfl rfl
      have hd : decide (op ≤ 2) = false := decide_eq_false (by omega)
      have hnl : (accTo need1 l l.length).length = l.length := accTo_len need1 (Nat.le_refl _)
      obtain ⟨bN, offN, rfl, hbN, n1⟩ := RdI.at1 (Rd.below HN.out HS.out.bel) (k := a) (by omega)
      obtain ⟨bN', offN', eN, _, n2⟩ := RdI.at1 (Rd.below HN.out HS.out.bel) (k := b) (by omega)
      injection eN with eN
      injection eN with e1 e2 _
      subst e1 e2
      rw [show (accTo need1 l l.length)[a]'(by omega) = ndT l a from (getD_get (by omega)).symm] at n1
      rw [show (accTo need1 l l.length)[b]'(by omega) = ndT l b from (getD_get (by omega)).symm] at n2
      have qa : ((a : Nat) : Int) < ((l.length : Nat) : Int) := by omega
      have qb : ((b : Nat) : Int) < ((l.length : Nat) : Int) := by omega
      have hv0 := HS.out.own
      have hNC : w.heap.size ≠ K := by omega
      have hvN : (Value.slice A0 code.length c0).ownBlock ≠ some w.heap.size := fun e => by have := (hv0 _ e).2; omega
      have HS1 := Lib.hid (HS.out.alloc (.cells #[.int .i64 op, .int .i64 (a : Nat), .int .i64 (b : Nat), .int .i64 tv] 37))
      have HN1 : Hid ((w.alloc (.cells #[.int .i64 op, .int .i64 (a : Nat), .int .i64 (b : Nat), .int .i64 tv] 37)).heap[w.heap.size]? = some (.cells #[.int .i64 op, .int .i64 (a : Nat), .int .i64 (b : Nat), .int .i64 tv] 37 (0, 0))) := Lib.hid (heap_alloc_new w _)
      have HK1 := Lib.hid ((Kp2.refl K (.slice A0 code.length c0) w).alloc (.cells #[.int .i64 op, .int .i64 (a : Nat), .int .i64 (b : Nat), .int .i64 tv] 37))
      clear hv0 hnl
      by_cases hle : ndT l b ≤ ndT l a
      · have hdl : decide (ndT l b ≤ ndT l a) = true := decide_eq_true hle
        have hlaid := hlaid0
        rw [if_pos hle] at hlaid
        have hlen' := hlen
        rw [hlaid, List.length_append, List.length_append, List.length_singleton] at hlen'
        rw [hlaid]
        clear hlaid hlaid0
        go_enter Try.func46, Try.ntmps46
        go_wp2
        go_quiet (fail)
        have HSq := Lib.hid (HS1.out.drewN nq)
        have HIu := Lib.hid (IH.out a (by omega) (by omega) to _ _ _ (by omega) HSq.out (by omega))
        have HKq : Hid (Kp2 K (.slice A0 code.length c0) w ((w.alloc (.cells #[.int .i64 op, .int .i64 (a : Nat), .int .i64 (b : Nat), .int .i64 tv] 37)).drewN nq)) := Lib.hid ⟨HK1.out.size, HK1.out.block⟩
        have HNq : Hid (((w.alloc (.cells #[.int .i64 op, .int .i64 (a : Nat), .int .i64 (b : Nat), .int .i64 tv] 37)).drewN nq).heap[w.heap.size]? = some (.cells #[.int .i64 op, .int .i64 (a : Nat), .int .i64 (b : Nat), .int .i64 tv] 37 (0, 0))) := Lib.hid HN1.out
        have hwq : ((w.alloc (.cells #[.int .i64 op, .int .i64 (a : Nat), .int .i64 (b : Nat), .int .i64 tv] 37)).drewN nq).heap.size = w.heap.size + 1 := by simp
        have Hwq := Lib.hid hwq
        have nq1 := (cell_h HNq.out 1).trans (show _ = some (Value.int .i64 (a : Nat)) from rfl)
        have nq2 := (cell_h HNq.out 2).trans (show _ = some (Value.int .i64 (b : Nat)) from rfl)
        clear hwq
        generalize (w.alloc (.cells #[.int .i64 op, .int .i64 (a : Nat), .int .i64 (b : Nat), .int .i64 tv] 37)).drewN nq = wq at *
        clear cK0 cK1 cK2 k0 k1 k2 k3 n1 n2 HS1 HK1 HN1
        go_wp2_with fail
        refine HIu.out.mono ?_
        rintro e w1 ⟨⟨u1, rfl⟩, v1, hS1, hK1, ha1⟩
        obtain ⟨code1, hc1⟩ : ∃ c1, c1 = code ++ putT l a to := ⟨_, rfl⟩
        rw [← hc1] at hS1
        have hb1 : code1.length + (putT l b (to + 1)).length + 1 ≤ 1000 := by rw [hc1, List.length_append]; omega
        have Hc1 := Lib.hid hc1
        clear hc1 hlen'
        obtain ⟨A1, c1, rfl, -⟩ := Own.form stepCells_len hS1.out
        have hn1 := hK1.heap HNq.out hNC hvN
        have n11 := (cell_h hn1 1).trans (show _ = some (Value.int .i64 (a : Nat)) from rfl)
        have n12 := (cell_h hn1 2).trans (show _ = some (Value.int .i64 (b : Nat)) from rfl)
        have HN2 := Lib.hid hn1
        have HK1 := Lib.hid (HKq.out.trans hK1 (Or.inl rfl))
        have Ha1 : Hid ((Value.slice A1 code1.length c1).ownBlock = (Value.slice A0 code.length c0).ownBlock ∨ ∃ m, (Value.slice A1 code1.length c1).ownBlock = some m ∧ w.heap.size < m) := Lib.hid (ha1.imp id (fun ⟨m, h1, h2⟩ => ⟨m, h1, by have := Hwq.out; omega⟩))
        have hIv := IH.out b (by omega) (by omega) (to + 1) _ _ _ (by omega) hS1 (by omega)
        rw [show ((to + 1 : Nat) : Int) = (to : Int) + 1 by omega] at hIv
        have HIv := Lib.hid hIv
        clear hIv
        have hw1 : w.heap.size < w1.heap.size := by have := hK1.size; have := Hwq.out; omega
        clear HIu hS1 hK1 ha1 hn1 nq1 nq2
        go_wp2_with fail
        refine HIv.out.mono ?_
        rintro e w2 ⟨⟨u2, rfl⟩, v2, hS2, hK2, ha2⟩
        obtain ⟨code2, hc2⟩ : ∃ c2, c2 = code1 ++ putT l b (to + 1) := ⟨_, rfl⟩
        rw [← hc2] at hS2
        have hb2 : code2.length + 1 ≤ 1000 := by rw [hc2, List.length_append]; omega
        have Hc2 := Lib.hid hc2
        clear hc2 hb1
        obtain ⟨A2, c2, rfl, -⟩ := Own.form stepCells_len hS2.out
        have hv1N : (Value.slice A1 code1.length c1).ownBlock ≠ some w.heap.size := fun e => by
          rcases Ha1.out with h | ⟨m, h, hm⟩
          · exact hvN (h.symm.trans e)
          · rw [h] at e; injection e with e; omega
        have hn2 := hK2.heap HN2.out hNC hv1N
        have Ha2 : Hid ((Value.slice A2 code2.length c2).ownBlock = (Value.slice A0 code.length c0).ownBlock ∨ ∃ m, (Value.slice A2 code2.length c2).ownBlock = some m ∧ w.heap.size < m) := Lib.hid (by
          rcases ha2 with h | ⟨m, h1, h2⟩
          · rw [h]; exact Ha1.out
          · exact Or.inr ⟨m, h1, by omega⟩)
        have hv2N : (Value.slice A2 code2.length c2).ownBlock ≠ some w.heap.size := fun e => by
          rcases Ha2.out with h | ⟨m, h, hm⟩
          · exact hvN (h.symm.trans e)
          · rw [h] at e; injection e with e; omega
        have HK2 := Lib.hid (HK1.out.trans hK2 (Ha1.out.imp id (fun ⟨m, h1, h2⟩ => ⟨m, h1, by omega⟩)))
        have HS2 := Lib.hid hS2.drew
        have Hn2 : Hid (w2.drew.heap[w.heap.size]? = some (.cells #[.int .i64 op, .int .i64 (a : Nat), .int .i64 (b : Nat), .int .i64 tv] 37 (0, 0))) := Lib.hid hn2
        have HKd := Lib.hid HK2.out.drew
        have Hv2N := Lib.hid hv2N
        clear HIv hS2 hK2 ha2 hn2 n11 n12 hv1N hv2N HK2 HK1 HKq HSq HNq HN2
        go_wp2
        refine wp_region_held_drew (S := fun w' => w'.cell? ⟨w.heap.size, 0, none⟩ = some (.int .i64 op) ∧ True) (by kernel_rfl) ⟨cell_h Hn2.out 0, trivial⟩ (fun hH0 => ?_)
        have Hsz : Hid True := Lib.hid trivial
        have hw2 : w.heap.size < w2.drew.heap.size := lt_h Hn2.out
        generalize w2.drew = wa at *
        have hK2l : K < wa.heap.size := lt_h HS2.out.hK
        have Hk2 : Hid (wa.cell? ⟨K, 2, none⟩ = some (.slice A2 code2.length c2)) := Lib.hid (cell_h HS2.out.hK 2)
        have Hk2b : Hid ((wa.alloc (.cells #[.int .i64 op, .int .i64 (to : Nat), .int .i64 (to : Nat), .int .i64 ((to : Nat) + 1), .int .i64 0] 44)).cell? ⟨K, 2, none⟩ = some (.slice A2 code2.length c2)) := Lib.hid (cell_h (HS2.out.alloc _).hK 2)
        have Hka : Hid ((wa.cell? ⟨w.heap.size, 0, none⟩ = some (.int .i64 op) ∧ True) → ((wa.alloc (.cells #[.int .i64 op, .int .i64 (to : Nat), .int .i64 (to : Nat), .int .i64 ((to : Nat) + 1), .int .i64 0] 44)).cell? ⟨w.heap.size, 0, none⟩ = some (.int .i64 op) ∧ True)) := Lib.hid fun ⟨h1, h2⟩ => ⟨by rw [World.cell?_alloc_some _ _ _ (by rw [h1]; rfl)]; exact h1, trivial⟩
        obtain ⟨v9, w9, hrun, hown9, hg9, hat9⟩ := run_app1 (P := Try.prog) (w := wa.alloc (.cells #[.int .i64 op, .int .i64 (to : Nat), .int .i64 (to : Nat), .int .i64 ((to : Nat) + 1), .int .i64 0] 44)) 40 40 Step.cells 5 40 44 (Step.mk 0 0 0 0 0).agg Try.underlying40 infoStep rfl (by decide) stepCells_len stepCells_one B _ code2 ⟨op, (to : Nat), (to : Nat), ((to : Nat) + 1), 0⟩ (HS2.out.alloc _).out wa.heap.size 1 (fun j _ => cellSt_new wa ⟨op, (to : Nat), (to : Nat), ((to : Nat) + 1), 0⟩ _ _ _ rfl rfl j) (by unfold maxLen; omega) (by omega) (HS2.out.alloc _).lt.2.2
        obtain ⟨A9, c9', rfl, -⟩ := Own.form stepCells_len hown9
        rw [List.length_append, List.length_singleton] at hrun hown9 hat9
        have Hrun := Lib.hid hrun
        have HSf := Lib.hid ((HS2.out.alloc _).put hg9 hown9 hat9)
        have hK9 := (hg9.block K (lt_h (HS2.out.alloc (.cells #[.int .i64 op, .int .i64 (to : Nat), .int .i64 (to : Nat), .int .i64 ((to : Nat) + 1), .int .i64 0] 44)).hK) (fun e => by have := ((HS2.out.alloc (.cells #[.int .i64 op, .int .i64 (to : Nat), .int .i64 (to : Nat), .int .i64 ((to : Nat) + 1), .int .i64 0] 44)).own K e.symm).1; have := HS2.out.lt; omega)).trans (HS2.out.alloc _).hK
        have Hc9 : Hid (w9.cell? ⟨K, 2, none⟩ = some (.slice A2 code2.length c2)) := Lib.hid (cell_h hK9 2)
        have Hf9 := Lib.hid (fz_h hK9 2)
        have hn9 : w9.heap[w.heap.size]? = _ := (hg9.block w.heap.size (by rw [World.size_alloc]; omega) (fun e => Hv2N.out e.symm)).trans ((Below.heap_alloc wa _ _ hw2).trans Hn2.out)
        have Hs9 : Hid (w9.cell? ⟨w.heap.size, 0, none⟩ = some (.int .i64 op) ∧ True) := Lib.hid ⟨cell_h hn9 0, trivial⟩
        have Hsf : Hid ((w9.setCell ⟨K, 2, none⟩ (.slice A9 (code2.length + 1) c9')).cell? ⟨w.heap.size, 0, none⟩ = some (.int .i64 op) ∧ True) := Lib.hid (by
          rw [World.cell?_setCell_far _ _ _ _ (by show K ≠ w.heap.size; omega)]; exact Hs9.out)
        have HK9 := Lib.hid ((((HKd.out.alloc (.cells #[.int .i64 op, .int .i64 (to : Nat), .int .i64 (to : Nat), .int .i64 ((to : Nat) + 1), .int .i64 0] 44)).grown hg9 (Ha2.out.imp id (fun ⟨m, h1, h2⟩ => ⟨m, h1, by omega⟩))).set_ (p := ⟨K, 2, none⟩) (Or.inl rfl) (.slice A9 (code2.length + 1) c9')))
        have Ha9 : Hid ((Value.slice A9 (code2.length + 1) c9').ownBlock = (Value.slice A0 code.length c0).ownBlock ∨ ∃ m, (Value.slice A9 (code2.length + 1) c9').ownBlock = some m ∧ w.heap.size ≤ m) := Lib.hid (by
          rcases hat9 with h | h
          · rw [h]; exact Ha2.out.imp id (fun ⟨m, h1, h2⟩ => ⟨m, h1, by omega⟩)
          · exact Or.inr ⟨_, h, by rw [World.size_alloc]; omega⟩)
        have HSf : Hid (StP w0 (w9.setCell ⟨K, 2, none⟩ (.slice A9 (code2.length + 1) c9')) K B (some ⟨bK, offK, none⟩) cap (some ⟨bN, offN, none⟩) cn l (.slice A9 (code2.length + 1) c9') (code ++ (putT l a to ++ putT l b (to + 1) ++ [⟨op, (to : Nat), (to : Nat), ((to : Nat) + 1), 0⟩]))) := Lib.hid (by rw [← List.append_assoc, ← List.append_assoc, ← Hc1.out, ← Hc2.out]; exact HSf.out)
        clear hrun hown9 hg9 hat9 hK9 hn9
        -- region 10
        refine wpAnyH_take (i := 0) (oi := { dst := some 78, op := Go.Op.move (Go.Operand.tmp 0), type := 73, pos := "need.go:85", after := #[], guard := none }) rfl (by kernel_rfl) (by kernel_rfl) (by kernel_rfl) (fun _ _ _ h => h) (Or.inl ⟨by rfl, fun w hw => by (go_simp; try with_reducible rfl)⟩) (by assumption) ?_
        try simp only [Act.put, List.setIfInBounds_toArray, List.set_cons_zero, List.set_cons_succ]
        refine wpAnyH_take (i := 1) (oi := { dst := some 79, op := Go.Op.move (Go.Operand.tmp 0), type := 73, pos := "need.go:85", after := #[], guard := none }) rfl (by kernel_rfl) (by kernel_rfl) (by kernel_rfl) (fun _ _ _ h => h) (Or.inl ⟨by rfl, fun w hw => by (go_simp; try with_reducible rfl)⟩) (by assumption) ?_
        try simp only [Act.put, List.setIfInBounds_toArray, List.set_cons_zero, List.set_cons_succ]
        refine wpAnyH_take (i := 2) (oi := { dst := some 80, op := Go.Op.nilCheck (Go.Operand.tmp 79), type := 0, pos := "need.go:85", after := #[{ on := 1, ground := Go.Ground.data }], guard := none }) rfl (by kernel_rfl) (by kernel_rfl) (by kernel_rfl) (fun _ _ _ h => h) (Or.inl ⟨by rfl, fun w hw => by (go_simp; try with_reducible rfl)⟩) (by assumption) ?_
        try simp only [Act.put, List.setIfInBounds_toArray, List.set_cons_zero, List.set_cons_succ]
        refine wpAnyH_take (i := 3) (oi := { dst := some 81, op := Go.Op.fieldAddr 75 (Go.Operand.tmp 80) 2, type := 0, pos := "need.go:85", after := #[{ on := 2, ground := Go.Ground.data }], guard := none }) rfl (by kernel_rfl) (by kernel_rfl) (by kernel_rfl) (fun _ _ _ h => h) (Or.inl ⟨by rfl, fun w hw => by (go_simp; try with_reducible rfl)⟩) (by assumption) ?_
        try simp only [Act.put, List.setIfInBounds_toArray, List.set_cons_zero, List.set_cons_succ]
        refine wpAnyH_take (i := 5) (oi := { dst := some 83, op := Go.Op.fieldAddr 37 (Go.Operand.tmp 6) 0, type := 0, pos := "need.go:85", after := #[], guard := none }) rfl (by kernel_rfl) (by kernel_rfl) (by kernel_rfl) (fun _ _ _ h => h) (Or.inl ⟨by rfl, fun w hw => by (go_simp; try with_reducible rfl)⟩) (by assumption) ?_
        try simp only [Act.put, List.setIfInBounds_toArray, List.set_cons_zero, List.set_cons_succ]
        refine wpAnyH_take (i := 6) (oi := { dst := some 84, op := Go.Op.load 3 (Go.Operand.tmp 83), type := 3, pos := "need.go:85", after := #[{ on := 5, ground := Go.Ground.data }], guard := none }) rfl (by kernel_rfl) (by kernel_rfl) (by kernel_rfl) (fun _ _ _ h => h) (Or.inl ⟨by rfl, fun w hw => by (obtain ⟨p0, p1⟩ := hw; go_simp; try with_reducible rfl)⟩) (by assumption) ?_
        try simp only [Act.put, List.setIfInBounds_toArray, List.set_cons_zero, List.set_cons_succ]
        refine wpAnyH_take (i := 7) (oi := { dst := some 85, op := Go.Op.move (Go.Operand.tmp 2), type := 3, pos := "need.go:85", after := #[], guard := none }) rfl (by kernel_rfl) (by kernel_rfl) (by kernel_rfl) (fun _ _ _ h => h) (Or.inl ⟨by rfl, fun w hw => by (go_simp; try with_reducible rfl)⟩) (by assumption) ?_
        try simp only [Act.put, List.setIfInBounds_toArray, List.set_cons_zero, List.set_cons_succ]
        refine wpAnyH_take (i := 8) (oi := { dst := some 86, op := Go.Op.move (Go.Operand.tmp 7), type := 3, pos := "need.go:85", after := #[], guard := none }) rfl (by kernel_rfl) (by kernel_rfl) (by kernel_rfl) (fun _ _ _ h => h) (Or.inl ⟨by rfl, fun w hw => by (go_simp; try with_reducible rfl)⟩) (by assumption) ?_
        try simp only [Act.put, List.setIfInBounds_toArray, List.set_cons_zero, List.set_cons_succ]
        refine wpAnyH_take (i := 9) (oi := { dst := some 87, op := Go.Op.move (Go.Operand.tmp 8), type := 3, pos := "need.go:85", after := #[], guard := none }) rfl (by kernel_rfl) (by kernel_rfl) (by kernel_rfl) (fun _ _ _ h => h) (Or.inl ⟨by rfl, fun w hw => by (go_simp; try with_reducible rfl)⟩) (by assumption) ?_
        try simp only [Act.put, List.setIfInBounds_toArray, List.set_cons_zero, List.set_cons_succ]
        refine wpAnyH_take (i := 10) (oi := { dst := some 88, op := Go.Op.build 44 #[(0, Go.Operand.tmp 84), (1, Go.Operand.tmp 85), (2, Go.Operand.tmp 86), (3, Go.Operand.tmp 87)], type := 44, pos := "need.go:85", after := #[{ on := 6, ground := Go.Ground.data }, { on := 7, ground := Go.Ground.data }, { on := 8, ground := Go.Ground.data }, { on := 9, ground := Go.Ground.data }], guard := none }) rfl (by kernel_rfl) (by kernel_rfl) (by kernel_rfl) (fun _ _ _ h => h) (Or.inl ⟨by rfl, fun w hw => by (go_simp; try with_reducible rfl)⟩) (by assumption) ?_
        try simp only [Act.put, List.setIfInBounds_toArray, List.set_cons_zero, List.set_cons_succ]
        refine wpAnyH_ready (rs := [4, 11]) (by kernel_rfl) (by simp) ?_
        refine AllReadyH.cons (o := { dst := some 82, op := Go.Op.load 40 (Go.Operand.tmp 81), type := 40, pos := "need.go:85", after := #[{ on := 3, ground := Go.Ground.data }], guard := none }) rfl (fun K hK => ?_) ?_
        · have cc := Hk2.out
          go_simp
          clear cc
          refine hK.out _ _ hH0 (fun hH1 => ?_)
          clear hK hH0
          have hH0 := hH1
          clear hH1
          try simp only [Act.put, List.setIfInBounds_toArray, List.set_cons_zero, List.set_cons_succ]
          refine wpAnyH_ready (rs := [11]) (by kernel_rfl) (by simp) ?_
          refine AllReadyH.cons (o := { dst := some 89, op := Go.Op.buildSlice 40 1 #[(0, Go.Operand.tmp 88)], type := 40, pos := "need.go:85", after := #[{ on := 10, ground := Go.Ground.data }], guard := none }) rfl (fun K hK => ?_) AllReadyH.nil
          have zz := Hsz.out
          go_simp
          refine hK.out _ _ (Hka.out hH0) (fun hH1 => ?_)
          clear hK hH0 zz
          have hH0 := hH1
          clear hH1
          try simp only [Act.put, List.setIfInBounds_toArray, List.set_cons_zero, List.set_cons_succ]
          refine wpAnyH_ready (rs := [12]) (by kernel_rfl) (by simp) ?_
          refine AllReadyH.cons (o := { dst := some 90, op := Go.Op.call { callee := Go.Callee.builtin Go.Builtin.append, args := #[Go.Operand.tmp 82, Go.Operand.tmp 89], argTypes := #[40, 40] }, type := 40, pos := "need.go:85", after := #[{ on := 4, ground := Go.Ground.data }, { on := 11, ground := Go.Ground.data }], guard := none }) rfl (fun K hK => ?_) AllReadyH.nil
          rw [if_pos (by rfl)]
          refine wp_app_run 40 _ _ rfl rfl rfl Hrun.out ?_
          refine hK.out _ _ (Hs9.out) (fun hH1 => ?_)
          clear hK hH0
          have hH0 := hH1
          clear hH1
          try simp only [Act.put, List.setIfInBounds_toArray, List.set_cons_zero, List.set_cons_succ]
          refine wpAnyH_take (i := 13) (oi := { dst := some 91, op := Go.Op.nilCheck (Go.Operand.tmp 78), type := 0, pos := "need.go:85", after := #[{ on := 0, ground := Go.Ground.data }, { on := 0, ground := Go.Ground.phase }, { on := 1, ground := Go.Ground.phase }, { on := 2, ground := Go.Ground.phase }, { on := 3, ground := Go.Ground.phase }, { on := 4, ground := Go.Ground.phase }, { on := 5, ground := Go.Ground.phase }, { on := 6, ground := Go.Ground.phase }, { on := 7, ground := Go.Ground.phase }, { on := 8, ground := Go.Ground.phase }, { on := 9, ground := Go.Ground.phase }, { on := 10, ground := Go.Ground.phase }, { on := 11, ground := Go.Ground.phase }, { on := 12, ground := Go.Ground.phase }], guard := none }) rfl (by kernel_rfl) (by kernel_rfl) (by kernel_rfl) (fun _ _ _ h => h) (Or.inl ⟨by rfl, fun w hw => by (go_simp; try with_reducible rfl)⟩) (by assumption) ?_
          try simp only [Act.put, List.setIfInBounds_toArray, List.set_cons_zero, List.set_cons_succ]
          refine wpAnyH_take (i := 14) (oi := { dst := some 92, op := Go.Op.fieldAddr 75 (Go.Operand.tmp 91) 2, type := 0, pos := "need.go:85", after := #[{ on := 13, ground := Go.Ground.data }, { on := 0, ground := Go.Ground.phase }, { on := 1, ground := Go.Ground.phase }, { on := 2, ground := Go.Ground.phase }, { on := 3, ground := Go.Ground.phase }, { on := 4, ground := Go.Ground.phase }, { on := 5, ground := Go.Ground.phase }, { on := 6, ground := Go.Ground.phase }, { on := 7, ground := Go.Ground.phase }, { on := 8, ground := Go.Ground.phase }, { on := 9, ground := Go.Ground.phase }, { on := 10, ground := Go.Ground.phase }, { on := 11, ground := Go.Ground.phase }, { on := 12, ground := Go.Ground.phase }], guard := none }) rfl (by kernel_rfl) (by kernel_rfl) (by kernel_rfl) (fun _ _ _ h => h) (Or.inl ⟨by rfl, fun w hw => by (go_simp; try with_reducible rfl)⟩) (by assumption) ?_
          try simp only [Act.put, List.setIfInBounds_toArray, List.set_cons_zero, List.set_cons_succ]
          refine wpAnyH_ready (rs := [15]) (by kernel_rfl) (by simp) ?_
          refine AllReadyH.cons (o := { dst := none, op := Go.Op.store 40 (Go.Operand.tmp 92) (Go.Operand.tmp 90), type := 0, pos := "need.go:85", after := #[{ on := 14, ground := Go.Ground.data }, { on := 12, ground := Go.Ground.data }, { on := 12, ground := Go.Ground.chain }, { on := 0, ground := Go.Ground.phase }, { on := 1, ground := Go.Ground.phase }, { on := 2, ground := Go.Ground.phase }, { on := 3, ground := Go.Ground.phase }, { on := 4, ground := Go.Ground.phase }, { on := 5, ground := Go.Ground.phase }, { on := 6, ground := Go.Ground.phase }, { on := 7, ground := Go.Ground.phase }, { on := 8, ground := Go.Ground.phase }, { on := 9, ground := Go.Ground.phase }, { on := 10, ground := Go.Ground.phase }, { on := 11, ground := Go.Ground.phase }, { on := 12, ground := Go.Ground.phase }], guard := none }) rfl (fun K hK => ?_) AllReadyH.nil
          have cc := Hc9.out
          have ff := Hf9.out
          go_simp
          clear cc ff
          refine hK.out _ _ (Hsf.out) (fun hH1 => ?_)
          clear hK hH0
          try simp only [Act.put, List.setIfInBounds_toArray, List.set_cons_zero, List.set_cons_succ]
          refine wpAnyH_done (by kernel_rfl) ?_ _
          clear hH1
          go_wp2
          first | go_end0 | refine bodyPost_ret (results_none rfl _ _ _) rfl ?_
          exact ⟨⟨_, rfl⟩, _, HSf.out, HK9.out, Ha9.out⟩
        refine AllReadyH.cons (o := { dst := some 89, op := Go.Op.buildSlice 40 1 #[(0, Go.Operand.tmp 88)], type := 40, pos := "need.go:85", after := #[{ on := 10, ground := Go.Ground.data }], guard := none }) rfl (fun K hK => ?_) AllReadyH.nil
        have zz := Hsz.out
        go_simp
        refine hK.out _ _ (Hka.out hH0) (fun hH1 => ?_)
        clear hK hH0 zz
        have hH0 := hH1
        clear hH1
        try simp only [Act.put, List.setIfInBounds_toArray, List.set_cons_zero, List.set_cons_succ]
        refine wpAnyH_ready (rs := [4]) (by kernel_rfl) (by simp) ?_
        refine AllReadyH.cons (o := { dst := some 82, op := Go.Op.load 40 (Go.Operand.tmp 81), type := 40, pos := "need.go:85", after := #[{ on := 3, ground := Go.Ground.data }], guard := none }) rfl (fun K hK => ?_) AllReadyH.nil
        have cc := Hk2b.out
        go_simp
        clear cc
        refine hK.out _ _ hH0 (fun hH1 => ?_)
        clear hK hH0
        have hH0 := hH1
        clear hH1
        try simp only [Act.put, List.setIfInBounds_toArray, List.set_cons_zero, List.set_cons_succ]
        refine wpAnyH_ready (rs := [12]) (by kernel_rfl) (by simp) ?_
        refine AllReadyH.cons (o := { dst := some 90, op := Go.Op.call { callee := Go.Callee.builtin Go.Builtin.append, args := #[Go.Operand.tmp 82, Go.Operand.tmp 89], argTypes := #[40, 40] }, type := 40, pos := "need.go:85", after := #[{ on := 4, ground := Go.Ground.data }, { on := 11, ground := Go.Ground.data }], guard := none }) rfl (fun K hK => ?_) AllReadyH.nil
        rw [if_pos (by rfl)]
        refine wp_app_run 40 _ _ rfl rfl rfl Hrun.out ?_
        refine hK.out _ _ (Hs9.out) (fun hH1 => ?_)
        clear hK hH0
        have hH0 := hH1
        clear hH1
        try simp only [Act.put, List.setIfInBounds_toArray, List.set_cons_zero, List.set_cons_succ]
        refine wpAnyH_take (i := 13) (oi := { dst := some 91, op := Go.Op.nilCheck (Go.Operand.tmp 78), type := 0, pos := "need.go:85", after := #[{ on := 0, ground := Go.Ground.data }, { on := 0, ground := Go.Ground.phase }, { on := 1, ground := Go.Ground.phase }, { on := 2, ground := Go.Ground.phase }, { on := 3, ground := Go.Ground.phase }, { on := 4, ground := Go.Ground.phase }, { on := 5, ground := Go.Ground.phase }, { on := 6, ground := Go.Ground.phase }, { on := 7, ground := Go.Ground.phase }, { on := 8, ground := Go.Ground.phase }, { on := 9, ground := Go.Ground.phase }, { on := 10, ground := Go.Ground.phase }, { on := 11, ground := Go.Ground.phase }, { on := 12, ground := Go.Ground.phase }], guard := none }) rfl (by kernel_rfl) (by kernel_rfl) (by kernel_rfl) (fun _ _ _ h => h) (Or.inl ⟨by rfl, fun w hw => by (go_simp; try with_reducible rfl)⟩) (by assumption) ?_
        try simp only [Act.put, List.setIfInBounds_toArray, List.set_cons_zero, List.set_cons_succ]
        refine wpAnyH_take (i := 14) (oi := { dst := some 92, op := Go.Op.fieldAddr 75 (Go.Operand.tmp 91) 2, type := 0, pos := "need.go:85", after := #[{ on := 13, ground := Go.Ground.data }, { on := 0, ground := Go.Ground.phase }, { on := 1, ground := Go.Ground.phase }, { on := 2, ground := Go.Ground.phase }, { on := 3, ground := Go.Ground.phase }, { on := 4, ground := Go.Ground.phase }, { on := 5, ground := Go.Ground.phase }, { on := 6, ground := Go.Ground.phase }, { on := 7, ground := Go.Ground.phase }, { on := 8, ground := Go.Ground.phase }, { on := 9, ground := Go.Ground.phase }, { on := 10, ground := Go.Ground.phase }, { on := 11, ground := Go.Ground.phase }, { on := 12, ground := Go.Ground.phase }], guard := none }) rfl (by kernel_rfl) (by kernel_rfl) (by kernel_rfl) (fun _ _ _ h => h) (Or.inl ⟨by rfl, fun w hw => by (go_simp; try with_reducible rfl)⟩) (by assumption) ?_
        try simp only [Act.put, List.setIfInBounds_toArray, List.set_cons_zero, List.set_cons_succ]
        refine wpAnyH_ready (rs := [15]) (by kernel_rfl) (by simp) ?_
        refine AllReadyH.cons (o := { dst := none, op := Go.Op.store 40 (Go.Operand.tmp 92) (Go.Operand.tmp 90), type := 0, pos := "need.go:85", after := #[{ on := 14, ground := Go.Ground.data }, { on := 12, ground := Go.Ground.data }, { on := 12, ground := Go.Ground.chain }, { on := 0, ground := Go.Ground.phase }, { on := 1, ground := Go.Ground.phase }, { on := 2, ground := Go.Ground.phase }, { on := 3, ground := Go.Ground.phase }, { on := 4, ground := Go.Ground.phase }, { on := 5, ground := Go.Ground.phase }, { on := 6, ground := Go.Ground.phase }, { on := 7, ground := Go.Ground.phase }, { on := 8, ground := Go.Ground.phase }, { on := 9, ground := Go.Ground.phase }, { on := 10, ground := Go.Ground.phase }, { on := 11, ground := Go.Ground.phase }, { on := 12, ground := Go.Ground.phase }], guard := none }) rfl (fun K hK => ?_) AllReadyH.nil
        have cc := Hc9.out
        have ff := Hf9.out
        go_simp
        clear cc ff
        refine hK.out _ _ (Hsf.out) (fun hH1 => ?_)
        clear hK hH0
        try simp only [Act.put, List.setIfInBounds_toArray, List.set_cons_zero, List.set_cons_succ]
        refine wpAnyH_done (by kernel_rfl) ?_ _
        clear hH1
        go_wp2
        first | go_end0 | refine bodyPost_ret (results_none rfl _ _ _) rfl ?_
        exact ⟨⟨_, rfl⟩, _, HSf.out, HK9.out, Ha9.out⟩
        -- end region 10
      · have hdl : decide (ndT l b ≤ ndT l a) = false := decide_eq_false hle
        have hlaid := hlaid0
        rw [if_neg hle] at hlaid
        have hlen' := hlen
        rw [hlaid, List.length_append, List.length_append, List.length_singleton] at hlen'
        rw [hlaid]
        clear hlaid hlaid0
        go_enter Try.func46, Try.ntmps46
        go_wp2
        go_quiet (fail)
        have HSq := Lib.hid (HS1.out.drewN nq)
        have HIu := Lib.hid (IH.out b (by omega) (by omega) to _ _ _ (by omega) HSq.out (by omega))
        have HKq : Hid (Kp2 K (.slice A0 code.length c0) w ((w.alloc (.cells #[.int .i64 op, .int .i64 (a : Nat), .int .i64 (b : Nat), .int .i64 tv] 37)).drewN nq)) := Lib.hid ⟨HK1.out.size, HK1.out.block⟩
        have HNq : Hid (((w.alloc (.cells #[.int .i64 op, .int .i64 (a : Nat), .int .i64 (b : Nat), .int .i64 tv] 37)).drewN nq).heap[w.heap.size]? = some (.cells #[.int .i64 op, .int .i64 (a : Nat), .int .i64 (b : Nat), .int .i64 tv] 37 (0, 0))) := Lib.hid HN1.out
        have hwq : ((w.alloc (.cells #[.int .i64 op, .int .i64 (a : Nat), .int .i64 (b : Nat), .int .i64 tv] 37)).drewN nq).heap.size = w.heap.size + 1 := by simp
        have Hwq := Lib.hid hwq
        have nq1 := (cell_h HNq.out 1).trans (show _ = some (Value.int .i64 (a : Nat)) from rfl)
        have nq2 := (cell_h HNq.out 2).trans (show _ = some (Value.int .i64 (b : Nat)) from rfl)
        clear hwq
        generalize (w.alloc (.cells #[.int .i64 op, .int .i64 (a : Nat), .int .i64 (b : Nat), .int .i64 tv] 37)).drewN nq = wq at *
        clear cK0 cK1 cK2 k0 k1 k2 k3 n1 n2 HS1 HK1 HN1
        go_wp2_with fail
        refine HIu.out.mono ?_
        rintro e w1 ⟨⟨u1, rfl⟩, v1, hS1, hK1, ha1⟩
        obtain ⟨code1, hc1⟩ : ∃ c1, c1 = code ++ putT l b to := ⟨_, rfl⟩
        rw [← hc1] at hS1
        have hb1 : code1.length + (putT l a (to + 1)).length + 1 ≤ 1000 := by rw [hc1, List.length_append]; omega
        have Hc1 := Lib.hid hc1
        clear hc1 hlen'
        obtain ⟨A1, c1, rfl, -⟩ := Own.form stepCells_len hS1.out
        have hn1 := hK1.heap HNq.out hNC hvN
        have n11 := (cell_h hn1 1).trans (show _ = some (Value.int .i64 (a : Nat)) from rfl)
        have n12 := (cell_h hn1 2).trans (show _ = some (Value.int .i64 (b : Nat)) from rfl)
        have HN2 := Lib.hid hn1
        have HK1 := Lib.hid (HKq.out.trans hK1 (Or.inl rfl))
        have Ha1 : Hid ((Value.slice A1 code1.length c1).ownBlock = (Value.slice A0 code.length c0).ownBlock ∨ ∃ m, (Value.slice A1 code1.length c1).ownBlock = some m ∧ w.heap.size < m) := Lib.hid (ha1.imp id (fun ⟨m, h1, h2⟩ => ⟨m, h1, by have := Hwq.out; omega⟩))
        have hIv := IH.out a (by omega) (by omega) (to + 1) _ _ _ (by omega) hS1 (by omega)
        rw [show ((to + 1 : Nat) : Int) = (to : Int) + 1 by omega] at hIv
        have HIv := Lib.hid hIv
        clear hIv
        have hw1 : w.heap.size < w1.heap.size := by have := hK1.size; have := Hwq.out; omega
        clear HIu hS1 hK1 ha1 hn1 nq1 nq2
        go_wp2_with fail
        refine HIv.out.mono ?_
        rintro e w2 ⟨⟨u2, rfl⟩, v2, hS2, hK2, ha2⟩
        obtain ⟨code2, hc2⟩ : ∃ c2, c2 = code1 ++ putT l a (to + 1) := ⟨_, rfl⟩
        rw [← hc2] at hS2
        have hb2 : code2.length + 1 ≤ 1000 := by rw [hc2, List.length_append]; omega
        have Hc2 := Lib.hid hc2
        clear hc2 hb1
        obtain ⟨A2, c2, rfl, -⟩ := Own.form stepCells_len hS2.out
        have hv1N : (Value.slice A1 code1.length c1).ownBlock ≠ some w.heap.size := fun e => by
          rcases Ha1.out with h | ⟨m, h, hm⟩
          · exact hvN (h.symm.trans e)
          · rw [h] at e; injection e with e; omega
        have hn2 := hK2.heap HN2.out hNC hv1N
        have Ha2 : Hid ((Value.slice A2 code2.length c2).ownBlock = (Value.slice A0 code.length c0).ownBlock ∨ ∃ m, (Value.slice A2 code2.length c2).ownBlock = some m ∧ w.heap.size < m) := Lib.hid (by
          rcases ha2 with h | ⟨m, h1, h2⟩
          · rw [h]; exact Ha1.out
          · exact Or.inr ⟨m, h1, by omega⟩)
        have hv2N : (Value.slice A2 code2.length c2).ownBlock ≠ some w.heap.size := fun e => by
          rcases Ha2.out with h | ⟨m, h, hm⟩
          · exact hvN (h.symm.trans e)
          · rw [h] at e; injection e with e; omega
        have HK2 := Lib.hid (HK1.out.trans hK2 (Ha1.out.imp id (fun ⟨m, h1, h2⟩ => ⟨m, h1, by omega⟩)))
        have HS2 := Lib.hid hS2.drew
        have Hn2 : Hid (w2.drew.heap[w.heap.size]? = some (.cells #[.int .i64 op, .int .i64 (a : Nat), .int .i64 (b : Nat), .int .i64 tv] 37 (0, 0))) := Lib.hid hn2
        have HKd := Lib.hid HK2.out.drew
        have Hv2N := Lib.hid hv2N
        clear HIv hS2 hK2 ha2 hn2 n11 n12 hv1N hv2N HK2 HK1 HKq HSq HNq HN2
        go_wp2
        refine wp_region_held_drew (S := fun w' => w'.cell? ⟨w.heap.size, 0, none⟩ = some (.int .i64 op) ∧ True) (by kernel_rfl) ⟨cell_h Hn2.out 0, trivial⟩ (fun hH0 => ?_)
        have Hsz : Hid True := Lib.hid trivial
        have hw2 : w.heap.size < w2.drew.heap.size := lt_h Hn2.out
        generalize w2.drew = wa at *
        have hK2l : K < wa.heap.size := lt_h HS2.out.hK
        have Hk2 : Hid (wa.cell? ⟨K, 2, none⟩ = some (.slice A2 code2.length c2)) := Lib.hid (cell_h HS2.out.hK 2)
        have Hk2b : Hid ((wa.alloc (.cells #[.int .i64 op, .int .i64 (to : Nat), .int .i64 ((to : Nat) + 1), .int .i64 (to : Nat), .int .i64 0] 44)).cell? ⟨K, 2, none⟩ = some (.slice A2 code2.length c2)) := Lib.hid (cell_h (HS2.out.alloc _).hK 2)
        have Hka : Hid ((wa.cell? ⟨w.heap.size, 0, none⟩ = some (.int .i64 op) ∧ True) → ((wa.alloc (.cells #[.int .i64 op, .int .i64 (to : Nat), .int .i64 ((to : Nat) + 1), .int .i64 (to : Nat), .int .i64 0] 44)).cell? ⟨w.heap.size, 0, none⟩ = some (.int .i64 op) ∧ True)) := Lib.hid fun ⟨h1, h2⟩ => ⟨by rw [World.cell?_alloc_some _ _ _ (by rw [h1]; rfl)]; exact h1, trivial⟩
        obtain ⟨v9, w9, hrun, hown9, hg9, hat9⟩ := run_app1 (P := Try.prog) (w := wa.alloc (.cells #[.int .i64 op, .int .i64 (to : Nat), .int .i64 ((to : Nat) + 1), .int .i64 (to : Nat), .int .i64 0] 44)) 40 40 Step.cells 5 40 44 (Step.mk 0 0 0 0 0).agg Try.underlying40 infoStep rfl (by decide) stepCells_len stepCells_one B _ code2 ⟨op, (to : Nat), ((to : Nat) + 1), (to : Nat), 0⟩ (HS2.out.alloc _).out wa.heap.size 1 (fun j _ => cellSt_new wa ⟨op, (to : Nat), ((to : Nat) + 1), (to : Nat), 0⟩ _ _ _ rfl rfl j) (by unfold maxLen; omega) (by omega) (HS2.out.alloc _).lt.2.2
        obtain ⟨A9, c9', rfl, -⟩ := Own.form stepCells_len hown9
        rw [List.length_append, List.length_singleton] at hrun hown9 hat9
        have Hrun := Lib.hid hrun
        have HSf := Lib.hid ((HS2.out.alloc _).put hg9 hown9 hat9)
        have hK9 := (hg9.block K (lt_h (HS2.out.alloc (.cells #[.int .i64 op, .int .i64 (to : Nat), .int .i64 ((to : Nat) + 1), .int .i64 (to : Nat), .int .i64 0] 44)).hK) (fun e => by have := ((HS2.out.alloc (.cells #[.int .i64 op, .int .i64 (to : Nat), .int .i64 ((to : Nat) + 1), .int .i64 (to : Nat), .int .i64 0] 44)).own K e.symm).1; have := HS2.out.lt; omega)).trans (HS2.out.alloc _).hK
        have Hc9 : Hid (w9.cell? ⟨K, 2, none⟩ = some (.slice A2 code2.length c2)) := Lib.hid (cell_h hK9 2)
        have Hf9 := Lib.hid (fz_h hK9 2)
        have hn9 : w9.heap[w.heap.size]? = _ := (hg9.block w.heap.size (by rw [World.size_alloc]; omega) (fun e => Hv2N.out e.symm)).trans ((Below.heap_alloc wa _ _ hw2).trans Hn2.out)
        have Hs9 : Hid (w9.cell? ⟨w.heap.size, 0, none⟩ = some (.int .i64 op) ∧ True) := Lib.hid ⟨cell_h hn9 0, trivial⟩
        have Hsf : Hid ((w9.setCell ⟨K, 2, none⟩ (.slice A9 (code2.length + 1) c9')).cell? ⟨w.heap.size, 0, none⟩ = some (.int .i64 op) ∧ True) := Lib.hid (by
          rw [World.cell?_setCell_far _ _ _ _ (by show K ≠ w.heap.size; omega)]; exact Hs9.out)
        have HK9 := Lib.hid ((((HKd.out.alloc (.cells #[.int .i64 op, .int .i64 (to : Nat), .int .i64 ((to : Nat) + 1), .int .i64 (to : Nat), .int .i64 0] 44)).grown hg9 (Ha2.out.imp id (fun ⟨m, h1, h2⟩ => ⟨m, h1, by omega⟩))).set_ (p := ⟨K, 2, none⟩) (Or.inl rfl) (.slice A9 (code2.length + 1) c9')))
        have Ha9 : Hid ((Value.slice A9 (code2.length + 1) c9').ownBlock = (Value.slice A0 code.length c0).ownBlock ∨ ∃ m, (Value.slice A9 (code2.length + 1) c9').ownBlock = some m ∧ w.heap.size ≤ m) := Lib.hid (by
          rcases hat9 with h | h
          · rw [h]; exact Ha2.out.imp id (fun ⟨m, h1, h2⟩ => ⟨m, h1, by omega⟩)
          · exact Or.inr ⟨_, h, by rw [World.size_alloc]; omega⟩)
        have HSf : Hid (StP w0 (w9.setCell ⟨K, 2, none⟩ (.slice A9 (code2.length + 1) c9')) K B (some ⟨bK, offK, none⟩) cap (some ⟨bN, offN, none⟩) cn l (.slice A9 (code2.length + 1) c9') (code ++ (putT l b to ++ putT l a (to + 1) ++ [⟨op, (to : Nat), ((to : Nat) + 1), (to : Nat), 0⟩]))) := Lib.hid (by rw [← List.append_assoc, ← List.append_assoc, ← Hc1.out, ← Hc2.out]; exact HSf.out)
        clear hrun hown9 hg9 hat9 hK9 hn9
        -- region 10
        refine wpAnyH_take (i := 0) (oi := { dst := some 78, op := Go.Op.move (Go.Operand.tmp 0), type := 73, pos := "need.go:85", after := #[], guard := none }) rfl (by kernel_rfl) (by kernel_rfl) (by kernel_rfl) (fun _ _ _ h => h) (Or.inl ⟨by rfl, fun w hw => by (go_simp; try with_reducible rfl)⟩) (by assumption) ?_
        try simp only [Act.put, List.setIfInBounds_toArray, List.set_cons_zero, List.set_cons_succ]
        refine wpAnyH_take (i := 1) (oi := { dst := some 79, op := Go.Op.move (Go.Operand.tmp 0), type := 73, pos := "need.go:85", after := #[], guard := none }) rfl (by kernel_rfl) (by kernel_rfl) (by kernel_rfl) (fun _ _ _ h => h) (Or.inl ⟨by rfl, fun w hw => by (go_simp; try with_reducible rfl)⟩) (by assumption) ?_
        try simp only [Act.put, List.setIfInBounds_toArray, List.set_cons_zero, List.set_cons_succ]
        refine wpAnyH_take (i := 2) (oi := { dst := some 80, op := Go.Op.nilCheck (Go.Operand.tmp 79), type := 0, pos := "need.go:85", after := #[{ on := 1, ground := Go.Ground.data }], guard := none }) rfl (by kernel_rfl) (by kernel_rfl) (by kernel_rfl) (fun _ _ _ h => h) (Or.inl ⟨by rfl, fun w hw => by (go_simp; try with_reducible rfl)⟩) (by assumption) ?_
        try simp only [Act.put, List.setIfInBounds_toArray, List.set_cons_zero, List.set_cons_succ]
        refine wpAnyH_take (i := 3) (oi := { dst := some 81, op := Go.Op.fieldAddr 75 (Go.Operand.tmp 80) 2, type := 0, pos := "need.go:85", after := #[{ on := 2, ground := Go.Ground.data }], guard := none }) rfl (by kernel_rfl) (by kernel_rfl) (by kernel_rfl) (fun _ _ _ h => h) (Or.inl ⟨by rfl, fun w hw => by (go_simp; try with_reducible rfl)⟩) (by assumption) ?_
        try simp only [Act.put, List.setIfInBounds_toArray, List.set_cons_zero, List.set_cons_succ]
        refine wpAnyH_take (i := 5) (oi := { dst := some 83, op := Go.Op.fieldAddr 37 (Go.Operand.tmp 6) 0, type := 0, pos := "need.go:85", after := #[], guard := none }) rfl (by kernel_rfl) (by kernel_rfl) (by kernel_rfl) (fun _ _ _ h => h) (Or.inl ⟨by rfl, fun w hw => by (go_simp; try with_reducible rfl)⟩) (by assumption) ?_
        try simp only [Act.put, List.setIfInBounds_toArray, List.set_cons_zero, List.set_cons_succ]
        refine wpAnyH_take (i := 6) (oi := { dst := some 84, op := Go.Op.load 3 (Go.Operand.tmp 83), type := 3, pos := "need.go:85", after := #[{ on := 5, ground := Go.Ground.data }], guard := none }) rfl (by kernel_rfl) (by kernel_rfl) (by kernel_rfl) (fun _ _ _ h => h) (Or.inl ⟨by rfl, fun w hw => by (obtain ⟨p0, p1⟩ := hw; go_simp; try with_reducible rfl)⟩) (by assumption) ?_
        try simp only [Act.put, List.setIfInBounds_toArray, List.set_cons_zero, List.set_cons_succ]
        refine wpAnyH_take (i := 7) (oi := { dst := some 85, op := Go.Op.move (Go.Operand.tmp 2), type := 3, pos := "need.go:85", after := #[], guard := none }) rfl (by kernel_rfl) (by kernel_rfl) (by kernel_rfl) (fun _ _ _ h => h) (Or.inl ⟨by rfl, fun w hw => by (go_simp; try with_reducible rfl)⟩) (by assumption) ?_
        try simp only [Act.put, List.setIfInBounds_toArray, List.set_cons_zero, List.set_cons_succ]
        refine wpAnyH_take (i := 8) (oi := { dst := some 86, op := Go.Op.move (Go.Operand.tmp 7), type := 3, pos := "need.go:85", after := #[], guard := none }) rfl (by kernel_rfl) (by kernel_rfl) (by kernel_rfl) (fun _ _ _ h => h) (Or.inl ⟨by rfl, fun w hw => by (go_simp; try with_reducible rfl)⟩) (by assumption) ?_
        try simp only [Act.put, List.setIfInBounds_toArray, List.set_cons_zero, List.set_cons_succ]
        refine wpAnyH_take (i := 9) (oi := { dst := some 87, op := Go.Op.move (Go.Operand.tmp 8), type := 3, pos := "need.go:85", after := #[], guard := none }) rfl (by kernel_rfl) (by kernel_rfl) (by kernel_rfl) (fun _ _ _ h => h) (Or.inl ⟨by rfl, fun w hw => by (go_simp; try with_reducible rfl)⟩) (by assumption) ?_
        try simp only [Act.put, List.setIfInBounds_toArray, List.set_cons_zero, List.set_cons_succ]
        refine wpAnyH_take (i := 10) (oi := { dst := some 88, op := Go.Op.build 44 #[(0, Go.Operand.tmp 84), (1, Go.Operand.tmp 85), (2, Go.Operand.tmp 86), (3, Go.Operand.tmp 87)], type := 44, pos := "need.go:85", after := #[{ on := 6, ground := Go.Ground.data }, { on := 7, ground := Go.Ground.data }, { on := 8, ground := Go.Ground.data }, { on := 9, ground := Go.Ground.data }], guard := none }) rfl (by kernel_rfl) (by kernel_rfl) (by kernel_rfl) (fun _ _ _ h => h) (Or.inl ⟨by rfl, fun w hw => by (go_simp; try with_reducible rfl)⟩) (by assumption) ?_
        try simp only [Act.put, List.setIfInBounds_toArray, List.set_cons_zero, List.set_cons_succ]
        refine wpAnyH_ready (rs := [4, 11]) (by kernel_rfl) (by simp) ?_
        refine AllReadyH.cons (o := { dst := some 82, op := Go.Op.load 40 (Go.Operand.tmp 81), type := 40, pos := "need.go:85", after := #[{ on := 3, ground := Go.Ground.data }], guard := none }) rfl (fun K hK => ?_) ?_
        · have cc := Hk2.out
          go_simp
          clear cc
          refine hK.out _ _ hH0 (fun hH1 => ?_)
          clear hK hH0
          have hH0 := hH1
          clear hH1
          try simp only [Act.put, List.setIfInBounds_toArray, List.set_cons_zero, List.set_cons_succ]
          refine wpAnyH_ready (rs := [11]) (by kernel_rfl) (by simp) ?_
          refine AllReadyH.cons (o := { dst := some 89, op := Go.Op.buildSlice 40 1 #[(0, Go.Operand.tmp 88)], type := 40, pos := "need.go:85", after := #[{ on := 10, ground := Go.Ground.data }], guard := none }) rfl (fun K hK => ?_) AllReadyH.nil
          have zz := Hsz.out
          go_simp
          refine hK.out _ _ (Hka.out hH0) (fun hH1 => ?_)
          clear hK hH0 zz
          have hH0 := hH1
          clear hH1
          try simp only [Act.put, List.setIfInBounds_toArray, List.set_cons_zero, List.set_cons_succ]
          refine wpAnyH_ready (rs := [12]) (by kernel_rfl) (by simp) ?_
          refine AllReadyH.cons (o := { dst := some 90, op := Go.Op.call { callee := Go.Callee.builtin Go.Builtin.append, args := #[Go.Operand.tmp 82, Go.Operand.tmp 89], argTypes := #[40, 40] }, type := 40, pos := "need.go:85", after := #[{ on := 4, ground := Go.Ground.data }, { on := 11, ground := Go.Ground.data }], guard := none }) rfl (fun K hK => ?_) AllReadyH.nil
          rw [if_pos (by rfl)]
          refine wp_app_run 40 _ _ rfl rfl rfl Hrun.out ?_
          refine hK.out _ _ (Hs9.out) (fun hH1 => ?_)
          clear hK hH0
          have hH0 := hH1
          clear hH1
          try simp only [Act.put, List.setIfInBounds_toArray, List.set_cons_zero, List.set_cons_succ]
          refine wpAnyH_take (i := 13) (oi := { dst := some 91, op := Go.Op.nilCheck (Go.Operand.tmp 78), type := 0, pos := "need.go:85", after := #[{ on := 0, ground := Go.Ground.data }, { on := 0, ground := Go.Ground.phase }, { on := 1, ground := Go.Ground.phase }, { on := 2, ground := Go.Ground.phase }, { on := 3, ground := Go.Ground.phase }, { on := 4, ground := Go.Ground.phase }, { on := 5, ground := Go.Ground.phase }, { on := 6, ground := Go.Ground.phase }, { on := 7, ground := Go.Ground.phase }, { on := 8, ground := Go.Ground.phase }, { on := 9, ground := Go.Ground.phase }, { on := 10, ground := Go.Ground.phase }, { on := 11, ground := Go.Ground.phase }, { on := 12, ground := Go.Ground.phase }], guard := none }) rfl (by kernel_rfl) (by kernel_rfl) (by kernel_rfl) (fun _ _ _ h => h) (Or.inl ⟨by rfl, fun w hw => by (go_simp; try with_reducible rfl)⟩) (by assumption) ?_
          try simp only [Act.put, List.setIfInBounds_toArray, List.set_cons_zero, List.set_cons_succ]
          refine wpAnyH_take (i := 14) (oi := { dst := some 92, op := Go.Op.fieldAddr 75 (Go.Operand.tmp 91) 2, type := 0, pos := "need.go:85", after := #[{ on := 13, ground := Go.Ground.data }, { on := 0, ground := Go.Ground.phase }, { on := 1, ground := Go.Ground.phase }, { on := 2, ground := Go.Ground.phase }, { on := 3, ground := Go.Ground.phase }, { on := 4, ground := Go.Ground.phase }, { on := 5, ground := Go.Ground.phase }, { on := 6, ground := Go.Ground.phase }, { on := 7, ground := Go.Ground.phase }, { on := 8, ground := Go.Ground.phase }, { on := 9, ground := Go.Ground.phase }, { on := 10, ground := Go.Ground.phase }, { on := 11, ground := Go.Ground.phase }, { on := 12, ground := Go.Ground.phase }], guard := none }) rfl (by kernel_rfl) (by kernel_rfl) (by kernel_rfl) (fun _ _ _ h => h) (Or.inl ⟨by rfl, fun w hw => by (go_simp; try with_reducible rfl)⟩) (by assumption) ?_
          try simp only [Act.put, List.setIfInBounds_toArray, List.set_cons_zero, List.set_cons_succ]
          refine wpAnyH_ready (rs := [15]) (by kernel_rfl) (by simp) ?_
          refine AllReadyH.cons (o := { dst := none, op := Go.Op.store 40 (Go.Operand.tmp 92) (Go.Operand.tmp 90), type := 0, pos := "need.go:85", after := #[{ on := 14, ground := Go.Ground.data }, { on := 12, ground := Go.Ground.data }, { on := 12, ground := Go.Ground.chain }, { on := 0, ground := Go.Ground.phase }, { on := 1, ground := Go.Ground.phase }, { on := 2, ground := Go.Ground.phase }, { on := 3, ground := Go.Ground.phase }, { on := 4, ground := Go.Ground.phase }, { on := 5, ground := Go.Ground.phase }, { on := 6, ground := Go.Ground.phase }, { on := 7, ground := Go.Ground.phase }, { on := 8, ground := Go.Ground.phase }, { on := 9, ground := Go.Ground.phase }, { on := 10, ground := Go.Ground.phase }, { on := 11, ground := Go.Ground.phase }, { on := 12, ground := Go.Ground.phase }], guard := none }) rfl (fun K hK => ?_) AllReadyH.nil
          have cc := Hc9.out
          have ff := Hf9.out
          go_simp
          clear cc ff
          refine hK.out _ _ (Hsf.out) (fun hH1 => ?_)
          clear hK hH0
          try simp only [Act.put, List.setIfInBounds_toArray, List.set_cons_zero, List.set_cons_succ]
          refine wpAnyH_done (by kernel_rfl) ?_ _
          clear hH1
          go_wp2
          first | go_end0 | refine bodyPost_ret (results_none rfl _ _ _) rfl ?_
          exact ⟨⟨_, rfl⟩, _, HSf.out, HK9.out, Ha9.out⟩
        refine AllReadyH.cons (o := { dst := some 89, op := Go.Op.buildSlice 40 1 #[(0, Go.Operand.tmp 88)], type := 40, pos := "need.go:85", after := #[{ on := 10, ground := Go.Ground.data }], guard := none }) rfl (fun K hK => ?_) AllReadyH.nil
        have zz := Hsz.out
        go_simp
        refine hK.out _ _ (Hka.out hH0) (fun hH1 => ?_)
        clear hK hH0 zz
        have hH0 := hH1
        clear hH1
        try simp only [Act.put, List.setIfInBounds_toArray, List.set_cons_zero, List.set_cons_succ]
        refine wpAnyH_ready (rs := [4]) (by kernel_rfl) (by simp) ?_
        refine AllReadyH.cons (o := { dst := some 82, op := Go.Op.load 40 (Go.Operand.tmp 81), type := 40, pos := "need.go:85", after := #[{ on := 3, ground := Go.Ground.data }], guard := none }) rfl (fun K hK => ?_) AllReadyH.nil
        have cc := Hk2b.out
        go_simp
        clear cc
        refine hK.out _ _ hH0 (fun hH1 => ?_)
        clear hK hH0
        have hH0 := hH1
        clear hH1
        try simp only [Act.put, List.setIfInBounds_toArray, List.set_cons_zero, List.set_cons_succ]
        refine wpAnyH_ready (rs := [12]) (by kernel_rfl) (by simp) ?_
        refine AllReadyH.cons (o := { dst := some 90, op := Go.Op.call { callee := Go.Callee.builtin Go.Builtin.append, args := #[Go.Operand.tmp 82, Go.Operand.tmp 89], argTypes := #[40, 40] }, type := 40, pos := "need.go:85", after := #[{ on := 4, ground := Go.Ground.data }, { on := 11, ground := Go.Ground.data }], guard := none }) rfl (fun K hK => ?_) AllReadyH.nil
        rw [if_pos (by rfl)]
        refine wp_app_run 40 _ _ rfl rfl rfl Hrun.out ?_
        refine hK.out _ _ (Hs9.out) (fun hH1 => ?_)
        clear hK hH0
        have hH0 := hH1
        clear hH1
        try simp only [Act.put, List.setIfInBounds_toArray, List.set_cons_zero, List.set_cons_succ]
        refine wpAnyH_take (i := 13) (oi := { dst := some 91, op := Go.Op.nilCheck (Go.Operand.tmp 78), type := 0, pos := "need.go:85", after := #[{ on := 0, ground := Go.Ground.data }, { on := 0, ground := Go.Ground.phase }, { on := 1, ground := Go.Ground.phase }, { on := 2, ground := Go.Ground.phase }, { on := 3, ground := Go.Ground.phase }, { on := 4, ground := Go.Ground.phase }, { on := 5, ground := Go.Ground.phase }, { on := 6, ground := Go.Ground.phase }, { on := 7, ground := Go.Ground.phase }, { on := 8, ground := Go.Ground.phase }, { on := 9, ground := Go.Ground.phase }, { on := 10, ground := Go.Ground.phase }, { on := 11, ground := Go.Ground.phase }, { on := 12, ground := Go.Ground.phase }], guard := none }) rfl (by kernel_rfl) (by kernel_rfl) (by kernel_rfl) (fun _ _ _ h => h) (Or.inl ⟨by rfl, fun w hw => by (go_simp; try with_reducible rfl)⟩) (by assumption) ?_
        try simp only [Act.put, List.setIfInBounds_toArray, List.set_cons_zero, List.set_cons_succ]
        refine wpAnyH_take (i := 14) (oi := { dst := some 92, op := Go.Op.fieldAddr 75 (Go.Operand.tmp 91) 2, type := 0, pos := "need.go:85", after := #[{ on := 13, ground := Go.Ground.data }, { on := 0, ground := Go.Ground.phase }, { on := 1, ground := Go.Ground.phase }, { on := 2, ground := Go.Ground.phase }, { on := 3, ground := Go.Ground.phase }, { on := 4, ground := Go.Ground.phase }, { on := 5, ground := Go.Ground.phase }, { on := 6, ground := Go.Ground.phase }, { on := 7, ground := Go.Ground.phase }, { on := 8, ground := Go.Ground.phase }, { on := 9, ground := Go.Ground.phase }, { on := 10, ground := Go.Ground.phase }, { on := 11, ground := Go.Ground.phase }, { on := 12, ground := Go.Ground.phase }], guard := none }) rfl (by kernel_rfl) (by kernel_rfl) (by kernel_rfl) (fun _ _ _ h => h) (Or.inl ⟨by rfl, fun w hw => by (go_simp; try with_reducible rfl)⟩) (by assumption) ?_
        try simp only [Act.put, List.setIfInBounds_toArray, List.set_cons_zero, List.set_cons_succ]
        refine wpAnyH_ready (rs := [15]) (by kernel_rfl) (by simp) ?_
        refine AllReadyH.cons (o := { dst := none, op := Go.Op.store 40 (Go.Operand.tmp 92) (Go.Operand.tmp 90), type := 0, pos := "need.go:85", after := #[{ on := 14, ground := Go.Ground.data }, { on := 12, ground := Go.Ground.data }, { on := 12, ground := Go.Ground.chain }, { on := 0, ground := Go.Ground.phase }, { on := 1, ground := Go.Ground.phase }, { on := 2, ground := Go.Ground.phase }, { on := 3, ground := Go.Ground.phase }, { on := 4, ground := Go.Ground.phase }, { on := 5, ground := Go.Ground.phase }, { on := 6, ground := Go.Ground.phase }, { on := 7, ground := Go.Ground.phase }, { on := 8, ground := Go.Ground.phase }, { on := 9, ground := Go.Ground.phase }, { on := 10, ground := Go.Ground.phase }, { on := 11, ground := Go.Ground.phase }, { on := 12, ground := Go.Ground.phase }], guard := none }) rfl (fun K hK => ?_) AllReadyH.nil
        have cc := Hc9.out
        have ff := Hf9.out
        go_simp
        clear cc ff
        refine hK.out _ _ (Hsf.out) (fun hH1 => ?_)
        clear hK hH0
        try simp only [Act.put, List.setIfInBounds_toArray, List.set_cons_zero, List.set_cons_succ]
        refine wpAnyH_done (by kernel_rfl) ?_ _
        clear hH1
        go_wp2
        first | go_end0 | refine bodyPost_ret (results_none rfl _ _ _) rfl ?_
        exact ⟨⟨_, rfl⟩, _, HSf.out, HK9.out, Ha9.out⟩
        -- end region 10
    · have hlaid := Hleaf.out h2
      have hd : decide (op ≤ 2) = true := decide_eq_true (by omega)
      have hlen' : code.length + 1 ≤ 1000 := by rw [hlaid] at hlen; simpa using hlen
      have HS1 := Lib.hid (HS.out.alloc (.cells #[.int .i64 op, .int .i64 ta, .int .i64 tb, .int .i64 tv] 37)).drew
      have HK1 := Lib.hid ((Kp2.refl K (.slice A0 code.length c0) w).alloc (.cells #[.int .i64 op, .int .i64 ta, .int .i64 tb, .int .i64 tv] 37)).drew
      have hn1 : (w.alloc (.cells #[.int .i64 op, .int .i64 ta, .int .i64 tb, .int .i64 tv] 37)).drew.heap[w.heap.size]? = some (.cells #[.int .i64 op, .int .i64 ta, .int .i64 tb, .int .i64 tv] 37 (0, 0)) := heap_alloc_new w _
      have hs1 : (w.alloc (.cells #[.int .i64 op, .int .i64 ta, .int .i64 tb, .int .i64 tv] 37)).drew.heap.size = w.heap.size + 1 := by simp
      have Hn1 := Lib.hid hn1
      have Hsz := Lib.hid hs1
      rw [hlaid]
      clear hn1 hs1
      go_enter Try.func46, Try.ntmps46
      go_wp2
      refine wp_region_held_drew (S := fun w' => w'.cell? ⟨w.heap.size, 0, none⟩ = some (.int .i64 op) ∧ w'.cell? ⟨w.heap.size, 3, none⟩ = some (.int .i64 tv)) (by kernel_rfl) ⟨cell_h Hn1.out 0, cell_h Hn1.out 3⟩ (fun hH0 => ?_)
      generalize (w.alloc (.cells #[.int .i64 op, .int .i64 ta, .int .i64 tb, .int .i64 tv] 37)).drew = wa at *
      have Hk2 : Hid (wa.cell? ⟨K, 2, none⟩ = some (.slice A0 code.length c0)) := Lib.hid (cell_h HS1.out.hK 2)
      have Hk2b : Hid ((wa.alloc (.cells #[.int .i64 op, .int .i64 (to : Nat), .int .i64 0, .int .i64 0, .int .i64 tv] 44)).cell? ⟨K, 2, none⟩ = some (.slice A0 code.length c0)) := Lib.hid (cell_h (HS1.out.alloc _).hK 2)
      have Hka : Hid ((wa.cell? ⟨w.heap.size, 0, none⟩ = some (.int .i64 op) ∧ wa.cell? ⟨w.heap.size, 3, none⟩ = some (.int .i64 tv)) → ((wa.alloc (.cells #[.int .i64 op, .int .i64 (to : Nat), .int .i64 0, .int .i64 0, .int .i64 tv] 44)).cell? ⟨w.heap.size, 0, none⟩ = some (.int .i64 op) ∧ (wa.alloc (.cells #[.int .i64 op, .int .i64 (to : Nat), .int .i64 0, .int .i64 0, .int .i64 tv] 44)).cell? ⟨w.heap.size, 3, none⟩ = some (.int .i64 tv))) := Lib.hid fun ⟨h1, h2⟩ => ⟨by rw [World.cell?_alloc_some _ _ _ (by rw [h1]; rfl)]; exact h1, by rw [World.cell?_alloc_some _ _ _ (by rw [h2]; rfl)]; exact h2⟩
      obtain ⟨v9, w9, hrun, hown9, hg9, hat9⟩ := run_app1 (P := Try.prog) (w := wa.alloc (.cells #[.int .i64 op, .int .i64 (to : Nat), .int .i64 0, .int .i64 0, .int .i64 tv] 44)) 40 40 Step.cells 5 40 44 (Step.mk 0 0 0 0 0).agg Try.underlying40 infoStep rfl (by decide) stepCells_len stepCells_one B _ code ⟨op, (to : Nat), 0, 0, tv⟩ (HS1.out.alloc _).out (w.heap.size + 1) 1 (fun j _ => cellSt_new wa ⟨op, (to : Nat), 0, 0, tv⟩ _ _ _ Hsz.out rfl j) (by unfold maxLen; omega) (by omega) (HS1.out.alloc _).lt.2.2
      obtain ⟨A9, c9', rfl, -⟩ := Own.form stepCells_len hown9
      rw [List.length_append, List.length_singleton] at hrun hown9 hat9
      have Hrun := Lib.hid hrun
      have HSf := Lib.hid ((HS1.out.alloc _).put hg9 hown9 hat9)
      have hK9 := (hg9.block K (lt_h (HS1.out.alloc (.cells #[.int .i64 op, .int .i64 (to : Nat), .int .i64 0, .int .i64 0, .int .i64 tv] 44)).hK) (fun e => by have := ((HS1.out.alloc (.cells #[.int .i64 op, .int .i64 (to : Nat), .int .i64 0, .int .i64 0, .int .i64 tv] 44)).own K e.symm).1; have := HS1.out.lt; omega)).trans (HS1.out.alloc _).hK
      have Hc9 : Hid (w9.cell? ⟨K, 2, none⟩ = some (.slice A0 code.length c0)) := Lib.hid (cell_h hK9 2)
      have Hf9 := Lib.hid (fz_h hK9 2)
      have hn9 : w9.heap[w.heap.size]? = _ := (hg9.block w.heap.size (by rw [World.size_alloc, Hsz.out]; omega) (fun e => by have h1 := (HS.out.own _ e.symm).2; omega)).trans ((Below.heap_alloc wa _ _ (by rw [Hsz.out]; omega)).trans Hn1.out)
      have Hs9 : Hid (w9.cell? ⟨w.heap.size, 0, none⟩ = some (.int .i64 op) ∧ w9.cell? ⟨w.heap.size, 3, none⟩ = some (.int .i64 tv)) := Lib.hid ⟨cell_h hn9 0, cell_h hn9 3⟩
      have Hsf : Hid ((w9.setCell ⟨K, 2, none⟩ (.slice A9 (code.length + 1) c9')).cell? ⟨w.heap.size, 0, none⟩ = some (.int .i64 op) ∧ (w9.setCell ⟨K, 2, none⟩ (.slice A9 (code.length + 1) c9')).cell? ⟨w.heap.size, 3, none⟩ = some (.int .i64 tv)) := Lib.hid (by
        rw [World.cell?_setCell_far _ _ _ _ (by show K ≠ w.heap.size; omega), World.cell?_setCell_far _ _ _ _ (by show K ≠ w.heap.size; omega)]; exact Hs9.out)
      have HK9 := Lib.hid ((((HK1.out.alloc (.cells #[.int .i64 op, .int .i64 (to : Nat), .int .i64 0, .int .i64 0, .int .i64 tv] 44)).grown hg9 (Or.inl rfl)).set_ (p := ⟨K, 2, none⟩) (Or.inl rfl) (.slice A9 (code.length + 1) c9')))
      have Ha9 : Hid ((Value.slice A9 (code.length + 1) c9').ownBlock = (Value.slice A0 code.length c0).ownBlock ∨ ∃ m, (Value.slice A9 (code.length + 1) c9').ownBlock = some m ∧ w.heap.size ≤ m) := Lib.hid (hat9.imp id (fun h => ⟨_, h, by rw [World.size_alloc, Hsz.out]; omega⟩))
      clear hrun hown9 hg9 hat9 hK9 hn9 cK0 cK1 cK2 k0 k1 k2 k3
      -- region 2
      refine wpAnyH_take (i := 0) (oi := { dst := some 19, op := Go.Op.move (Go.Operand.tmp 0), type := 73, pos := "need.go:73", after := #[], guard := none }) rfl (by kernel_rfl) (by kernel_rfl) (by kernel_rfl) (fun _ _ _ h => h) (Or.inl ⟨by rfl, fun w hw => by (go_simp; try with_reducible rfl)⟩) (by assumption) ?_
      try simp only [Act.put, List.setIfInBounds_toArray, List.set_cons_zero, List.set_cons_succ]
      refine wpAnyH_take (i := 1) (oi := { dst := some 20, op := Go.Op.move (Go.Operand.tmp 0), type := 73, pos := "need.go:73", after := #[], guard := none }) rfl (by kernel_rfl) (by kernel_rfl) (by kernel_rfl) (fun _ _ _ h => h) (Or.inl ⟨by rfl, fun w hw => by (go_simp; try with_reducible rfl)⟩) (by assumption) ?_
      try simp only [Act.put, List.setIfInBounds_toArray, List.set_cons_zero, List.set_cons_succ]
      refine wpAnyH_take (i := 2) (oi := { dst := some 21, op := Go.Op.nilCheck (Go.Operand.tmp 20), type := 0, pos := "need.go:73", after := #[{ on := 1, ground := Go.Ground.data }], guard := none }) rfl (by kernel_rfl) (by kernel_rfl) (by kernel_rfl) (fun _ _ _ h => h) (Or.inl ⟨by rfl, fun w hw => by (go_simp; try with_reducible rfl)⟩) (by assumption) ?_
      try simp only [Act.put, List.setIfInBounds_toArray, List.set_cons_zero, List.set_cons_succ]
      refine wpAnyH_take (i := 3) (oi := { dst := some 22, op := Go.Op.fieldAddr 75 (Go.Operand.tmp 21) 2, type := 0, pos := "need.go:73", after := #[{ on := 2, ground := Go.Ground.data }], guard := none }) rfl (by kernel_rfl) (by kernel_rfl) (by kernel_rfl) (fun _ _ _ h => h) (Or.inl ⟨by rfl, fun w hw => by (go_simp; try with_reducible rfl)⟩) (by assumption) ?_
      try simp only [Act.put, List.setIfInBounds_toArray, List.set_cons_zero, List.set_cons_succ]
      refine wpAnyH_take (i := 5) (oi := { dst := some 24, op := Go.Op.fieldAddr 37 (Go.Operand.tmp 6) 0, type := 0, pos := "need.go:73", after := #[], guard := none }) rfl (by kernel_rfl) (by kernel_rfl) (by kernel_rfl) (fun _ _ _ h => h) (Or.inl ⟨by rfl, fun w hw => by (go_simp; try with_reducible rfl)⟩) (by assumption) ?_
      try simp only [Act.put, List.setIfInBounds_toArray, List.set_cons_zero, List.set_cons_succ]
      refine wpAnyH_take (i := 6) (oi := { dst := some 25, op := Go.Op.load 3 (Go.Operand.tmp 24), type := 3, pos := "need.go:73", after := #[{ on := 5, ground := Go.Ground.data }], guard := none }) rfl (by kernel_rfl) (by kernel_rfl) (by kernel_rfl) (fun _ _ _ h => h) (Or.inl ⟨by rfl, fun w hw => by (obtain ⟨p0, p1⟩ := hw; go_simp; try with_reducible rfl)⟩) (by assumption) ?_
      try simp only [Act.put, List.setIfInBounds_toArray, List.set_cons_zero, List.set_cons_succ]
      refine wpAnyH_take (i := 7) (oi := { dst := some 26, op := Go.Op.move (Go.Operand.tmp 2), type := 3, pos := "need.go:73", after := #[], guard := none }) rfl (by kernel_rfl) (by kernel_rfl) (by kernel_rfl) (fun _ _ _ h => h) (Or.inl ⟨by rfl, fun w hw => by (go_simp; try with_reducible rfl)⟩) (by assumption) ?_
      try simp only [Act.put, List.setIfInBounds_toArray, List.set_cons_zero, List.set_cons_succ]
      refine wpAnyH_take (i := 8) (oi := { dst := some 27, op := Go.Op.fieldAddr 37 (Go.Operand.tmp 6) 3, type := 0, pos := "need.go:73", after := #[], guard := none }) rfl (by kernel_rfl) (by kernel_rfl) (by kernel_rfl) (fun _ _ _ h => h) (Or.inl ⟨by rfl, fun w hw => by (go_simp; try with_reducible rfl)⟩) (by assumption) ?_
      try simp only [Act.put, List.setIfInBounds_toArray, List.set_cons_zero, List.set_cons_succ]
      refine wpAnyH_take (i := 9) (oi := { dst := some 28, op := Go.Op.load 3 (Go.Operand.tmp 27), type := 3, pos := "need.go:73", after := #[{ on := 8, ground := Go.Ground.data }], guard := none }) rfl (by kernel_rfl) (by kernel_rfl) (by kernel_rfl) (fun _ _ _ h => h) (Or.inl ⟨by rfl, fun w hw => by (obtain ⟨p0, p1⟩ := hw; go_simp; try with_reducible rfl)⟩) (by assumption) ?_
      try simp only [Act.put, List.setIfInBounds_toArray, List.set_cons_zero, List.set_cons_succ]
      refine wpAnyH_take (i := 10) (oi := { dst := some 29, op := Go.Op.build 44 #[(0, Go.Operand.tmp 25), (1, Go.Operand.tmp 26), (4, Go.Operand.tmp 28)], type := 44, pos := "need.go:73", after := #[{ on := 6, ground := Go.Ground.data }, { on := 7, ground := Go.Ground.data }, { on := 9, ground := Go.Ground.data }], guard := none }) rfl (by kernel_rfl) (by kernel_rfl) (by kernel_rfl) (fun _ _ _ h => h) (Or.inl ⟨by rfl, fun w hw => by (go_simp; try with_reducible rfl)⟩) (by assumption) ?_
      try simp only [Act.put, List.setIfInBounds_toArray, List.set_cons_zero, List.set_cons_succ]
      refine wpAnyH_ready (rs := [4, 11]) (by kernel_rfl) (by simp) ?_
      refine AllReadyH.cons (o := { dst := some 23, op := Go.Op.load 40 (Go.Operand.tmp 22), type := 40, pos := "need.go:73", after := #[{ on := 3, ground := Go.Ground.data }], guard := none }) rfl (fun K hK => ?_) ?_
      · have cc := Hk2.out
        go_simp
        clear cc
        refine hK.out _ _ hH0 (fun hH1 => ?_)
        clear hK hH0
        have hH0 := hH1
        clear hH1
        try simp only [Act.put, List.setIfInBounds_toArray, List.set_cons_zero, List.set_cons_succ]
        refine wpAnyH_ready (rs := [11]) (by kernel_rfl) (by simp) ?_
        refine AllReadyH.cons (o := { dst := some 30, op := Go.Op.buildSlice 40 1 #[(0, Go.Operand.tmp 29)], type := 40, pos := "need.go:73", after := #[{ on := 10, ground := Go.Ground.data }], guard := none }) rfl (fun K hK => ?_) AllReadyH.nil
        have zz := Hsz.out
        go_simp
        refine hK.out _ _ (Hka.out hH0) (fun hH1 => ?_)
        clear hK hH0 zz
        have hH0 := hH1
        clear hH1
        try simp only [Act.put, List.setIfInBounds_toArray, List.set_cons_zero, List.set_cons_succ]
        refine wpAnyH_ready (rs := [12]) (by kernel_rfl) (by simp) ?_
        refine AllReadyH.cons (o := { dst := some 31, op := Go.Op.call { callee := Go.Callee.builtin Go.Builtin.append, args := #[Go.Operand.tmp 23, Go.Operand.tmp 30], argTypes := #[40, 40] }, type := 40, pos := "need.go:73", after := #[{ on := 4, ground := Go.Ground.data }, { on := 11, ground := Go.Ground.data }], guard := none }) rfl (fun K hK => ?_) AllReadyH.nil
        rw [if_pos (by rfl)]
        refine wp_app_run 40 _ _ rfl rfl rfl Hrun.out ?_
        refine hK.out _ _ (Hs9.out) (fun hH1 => ?_)
        clear hK hH0
        have hH0 := hH1
        clear hH1
        try simp only [Act.put, List.setIfInBounds_toArray, List.set_cons_zero, List.set_cons_succ]
        refine wpAnyH_take (i := 13) (oi := { dst := some 32, op := Go.Op.nilCheck (Go.Operand.tmp 19), type := 0, pos := "need.go:73", after := #[{ on := 0, ground := Go.Ground.data }, { on := 0, ground := Go.Ground.phase }, { on := 1, ground := Go.Ground.phase }, { on := 2, ground := Go.Ground.phase }, { on := 3, ground := Go.Ground.phase }, { on := 4, ground := Go.Ground.phase }, { on := 5, ground := Go.Ground.phase }, { on := 6, ground := Go.Ground.phase }, { on := 7, ground := Go.Ground.phase }, { on := 8, ground := Go.Ground.phase }, { on := 9, ground := Go.Ground.phase }, { on := 10, ground := Go.Ground.phase }, { on := 11, ground := Go.Ground.phase }, { on := 12, ground := Go.Ground.phase }], guard := none }) rfl (by kernel_rfl) (by kernel_rfl) (by kernel_rfl) (fun _ _ _ h => h) (Or.inl ⟨by rfl, fun w hw => by (go_simp; try with_reducible rfl)⟩) (by assumption) ?_
        try simp only [Act.put, List.setIfInBounds_toArray, List.set_cons_zero, List.set_cons_succ]
        refine wpAnyH_take (i := 14) (oi := { dst := some 33, op := Go.Op.fieldAddr 75 (Go.Operand.tmp 32) 2, type := 0, pos := "need.go:73", after := #[{ on := 13, ground := Go.Ground.data }, { on := 0, ground := Go.Ground.phase }, { on := 1, ground := Go.Ground.phase }, { on := 2, ground := Go.Ground.phase }, { on := 3, ground := Go.Ground.phase }, { on := 4, ground := Go.Ground.phase }, { on := 5, ground := Go.Ground.phase }, { on := 6, ground := Go.Ground.phase }, { on := 7, ground := Go.Ground.phase }, { on := 8, ground := Go.Ground.phase }, { on := 9, ground := Go.Ground.phase }, { on := 10, ground := Go.Ground.phase }, { on := 11, ground := Go.Ground.phase }, { on := 12, ground := Go.Ground.phase }], guard := none }) rfl (by kernel_rfl) (by kernel_rfl) (by kernel_rfl) (fun _ _ _ h => h) (Or.inl ⟨by rfl, fun w hw => by (go_simp; try with_reducible rfl)⟩) (by assumption) ?_
        try simp only [Act.put, List.setIfInBounds_toArray, List.set_cons_zero, List.set_cons_succ]
        refine wpAnyH_ready (rs := [15]) (by kernel_rfl) (by simp) ?_
        refine AllReadyH.cons (o := { dst := none, op := Go.Op.store 40 (Go.Operand.tmp 33) (Go.Operand.tmp 31), type := 0, pos := "need.go:73", after := #[{ on := 14, ground := Go.Ground.data }, { on := 12, ground := Go.Ground.data }, { on := 12, ground := Go.Ground.chain }, { on := 0, ground := Go.Ground.phase }, { on := 1, ground := Go.Ground.phase }, { on := 2, ground := Go.Ground.phase }, { on := 3, ground := Go.Ground.phase }, { on := 4, ground := Go.Ground.phase }, { on := 5, ground := Go.Ground.phase }, { on := 6, ground := Go.Ground.phase }, { on := 7, ground := Go.Ground.phase }, { on := 8, ground := Go.Ground.phase }, { on := 9, ground := Go.Ground.phase }, { on := 10, ground := Go.Ground.phase }, { on := 11, ground := Go.Ground.phase }, { on := 12, ground := Go.Ground.phase }], guard := none }) rfl (fun K hK => ?_) AllReadyH.nil
        have cc := Hc9.out
        have ff := Hf9.out
        go_simp
        clear cc ff
        refine hK.out _ _ (Hsf.out) (fun hH1 => ?_)
        clear hK hH0
        try simp only [Act.put, List.setIfInBounds_toArray, List.set_cons_zero, List.set_cons_succ]
        refine wpAnyH_done (by kernel_rfl) ?_ _
        clear hH1
        go_wp2
        first | go_end0 | refine bodyPost_ret (results_none rfl _ _ _) rfl ?_
        exact ⟨⟨_, rfl⟩, _, HSf.out, HK9.out, Ha9.out⟩
      refine AllReadyH.cons (o := { dst := some 30, op := Go.Op.buildSlice 40 1 #[(0, Go.Operand.tmp 29)], type := 40, pos := "need.go:73", after := #[{ on := 10, ground := Go.Ground.data }], guard := none }) rfl (fun K hK => ?_) AllReadyH.nil
      have zz := Hsz.out
      go_simp
      refine hK.out _ _ (Hka.out hH0) (fun hH1 => ?_)
      clear hK hH0 zz
      have hH0 := hH1
      clear hH1
      try simp only [Act.put, List.setIfInBounds_toArray, List.set_cons_zero, List.set_cons_succ]
      refine wpAnyH_ready (rs := [4]) (by kernel_rfl) (by simp) ?_
      refine AllReadyH.cons (o := { dst := some 23, op := Go.Op.load 40 (Go.Operand.tmp 22), type := 40, pos := "need.go:73", after := #[{ on := 3, ground := Go.Ground.data }], guard := none }) rfl (fun K hK => ?_) AllReadyH.nil
      have cc := Hk2b.out
      go_simp
      clear cc
      refine hK.out _ _ hH0 (fun hH1 => ?_)
      clear hK hH0
      have hH0 := hH1
      clear hH1
      try simp only [Act.put, List.setIfInBounds_toArray, List.set_cons_zero, List.set_cons_succ]
      refine wpAnyH_ready (rs := [12]) (by kernel_rfl) (by simp) ?_
      refine AllReadyH.cons (o := { dst := some 31, op := Go.Op.call { callee := Go.Callee.builtin Go.Builtin.append, args := #[Go.Operand.tmp 23, Go.Operand.tmp 30], argTypes := #[40, 40] }, type := 40, pos := "need.go:73", after := #[{ on := 4, ground := Go.Ground.data }, { on := 11, ground := Go.Ground.data }], guard := none }) rfl (fun K hK => ?_) AllReadyH.nil
      rw [if_pos (by rfl)]
      refine wp_app_run 40 _ _ rfl rfl rfl Hrun.out ?_
      refine hK.out _ _ (Hs9.out) (fun hH1 => ?_)
      clear hK hH0
      have hH0 := hH1
      clear hH1
      try simp only [Act.put, List.setIfInBounds_toArray, List.set_cons_zero, List.set_cons_succ]
      refine wpAnyH_take (i := 13) (oi := { dst := some 32, op := Go.Op.nilCheck (Go.Operand.tmp 19), type := 0, pos := "need.go:73", after := #[{ on := 0, ground := Go.Ground.data }, { on := 0, ground := Go.Ground.phase }, { on := 1, ground := Go.Ground.phase }, { on := 2, ground := Go.Ground.phase }, { on := 3, ground := Go.Ground.phase }, { on := 4, ground := Go.Ground.phase }, { on := 5, ground := Go.Ground.phase }, { on := 6, ground := Go.Ground.phase }, { on := 7, ground := Go.Ground.phase }, { on := 8, ground := Go.Ground.phase }, { on := 9, ground := Go.Ground.phase }, { on := 10, ground := Go.Ground.phase }, { on := 11, ground := Go.Ground.phase }, { on := 12, ground := Go.Ground.phase }], guard := none }) rfl (by kernel_rfl) (by kernel_rfl) (by kernel_rfl) (fun _ _ _ h => h) (Or.inl ⟨by rfl, fun w hw => by (go_simp; try with_reducible rfl)⟩) (by assumption) ?_
      try simp only [Act.put, List.setIfInBounds_toArray, List.set_cons_zero, List.set_cons_succ]
      refine wpAnyH_take (i := 14) (oi := { dst := some 33, op := Go.Op.fieldAddr 75 (Go.Operand.tmp 32) 2, type := 0, pos := "need.go:73", after := #[{ on := 13, ground := Go.Ground.data }, { on := 0, ground := Go.Ground.phase }, { on := 1, ground := Go.Ground.phase }, { on := 2, ground := Go.Ground.phase }, { on := 3, ground := Go.Ground.phase }, { on := 4, ground := Go.Ground.phase }, { on := 5, ground := Go.Ground.phase }, { on := 6, ground := Go.Ground.phase }, { on := 7, ground := Go.Ground.phase }, { on := 8, ground := Go.Ground.phase }, { on := 9, ground := Go.Ground.phase }, { on := 10, ground := Go.Ground.phase }, { on := 11, ground := Go.Ground.phase }, { on := 12, ground := Go.Ground.phase }], guard := none }) rfl (by kernel_rfl) (by kernel_rfl) (by kernel_rfl) (fun _ _ _ h => h) (Or.inl ⟨by rfl, fun w hw => by (go_simp; try with_reducible rfl)⟩) (by assumption) ?_
      try simp only [Act.put, List.setIfInBounds_toArray, List.set_cons_zero, List.set_cons_succ]
      refine wpAnyH_ready (rs := [15]) (by kernel_rfl) (by simp) ?_
      refine AllReadyH.cons (o := { dst := none, op := Go.Op.store 40 (Go.Operand.tmp 33) (Go.Operand.tmp 31), type := 0, pos := "need.go:73", after := #[{ on := 14, ground := Go.Ground.data }, { on := 12, ground := Go.Ground.data }, { on := 12, ground := Go.Ground.chain }, { on := 0, ground := Go.Ground.phase }, { on := 1, ground := Go.Ground.phase }, { on := 2, ground := Go.Ground.phase }, { on := 3, ground := Go.Ground.phase }, { on := 4, ground := Go.Ground.phase }, { on := 5, ground := Go.Ground.phase }, { on := 6, ground := Go.Ground.phase }, { on := 7, ground := Go.Ground.phase }, { on := 8, ground := Go.Ground.phase }, { on := 9, ground := Go.Ground.phase }, { on := 10, ground := Go.Ground.phase }, { on := 11, ground := Go.Ground.phase }, { on := 12, ground := Go.Ground.phase }], guard := none }) rfl (fun K hK => ?_) AllReadyH.nil
      have cc := Hc9.out
      have ff := Hf9.out
      go_simp
      clear cc ff
      refine hK.out _ _ (Hsf.out) (fun hH1 => ?_)
      clear hK hH0
      try simp only [Act.put, List.setIfInBounds_toArray, List.set_cons_zero, List.set_cons_succ]
      refine wpAnyH_done (by kernel_rfl) ?_ _
      clear hH1
      go_wp2
      first | go_end0 | refine bodyPost_ret (results_none rfl _ _ _) rfl ?_
      exact ⟨⟨_, rfl⟩, _, HSf.out, HK9.out, Ha9.out⟩
      -- end region 2
end Go.Proofs.Ytmglhppfdhphbaa
