/- stack.Code walked: its closure, that calls itself. -/
import Derived.Test.YtmglhppfdhphbaaStkA
import Derived.Test.YtmglhppfdhphbaaRecK
import Derived.Laws.EntriesVeiled
import Derived.Test.YtmglhppfdhphbaaAppRun
import Derived.Test.YtmglhppfdhphbaaAppN
namespace Go.Proofs.Ytmglhppfdhphbaa
open Go.RowKit

abbrev OwnS (w : World) (base : Nat) (v : Value) (l : List SOp) : Prop := Own SOp.cells 2 w base 62 v l
theorem sopCells_len (x : SOp) : x.cells.length = 2 := rfl
theorem sopCells_one (x : SOp) : ∀ u ∈ x.cells, u.oneCell' = true := by intro u hu; simp [SOp.cells] at hu; rcases hu with rfl | rfl <;> rfl
theorem infoSOp : (Try.prog.info? 62).map (fun i => (i.zero, i.size, i.bytes)) = some (some (.agg #[.int .i64 0, .int .i64 0]), 2, 16) := by kernel_rfl
/-- Between two steps of stack.Code: the boxes of l, put and code. -/
structure StS (w0 w : World) (T P C B : Nat) (A : Option Addr) (cap : Nat) (l : List Term) (v : Value) (code : List SOp) : Prop where
  bel : Below w0.heap.size w0 w
  hT : w.heap[T]? = some (.cells #[.slice A l.length cap] 22 (0, 0))
  hP : w.heap[P]? = some (.cells #[.func (.func 49) #[] #[.pointer (some ⟨T, 0, none⟩), .pointer (some ⟨P, 0, none⟩), .pointer (some ⟨C, 0, none⟩)]] 81 (0, 0))
  hC : w.heap[C]? = some (.cells #[v] 54 (0, 0))
  out : OwnS w B v code
  lt : (w0.heap.size ≤ T ∧ T < B) ∧ (w0.heap.size ≤ P ∧ P < B) ∧ (w0.heap.size ≤ C ∧ C < B) ∧ B ≤ w.heap.size ∧ T ≠ C ∧ P ≠ C
section
variable {w0 w w' : World} {T P C B : Nat} {A : Option Addr} {cap : Nat} {l : List Term} {v v' : Value} {code code' : List SOp}
theorem StS.own (h : StS w0 w T P C B A cap l v code) : ∀ g, v.ownBlock = some g → B ≤ g ∧ g < w.heap.size := own_lt' h.out
theorem StS.alloc (h : StS w0 w T P C B A cap l v code) (o : Obj) : StS w0 (w.alloc o) T P C B A cap l v code :=
  ⟨h.bel.alloc h.bel.size o, (Below.heap_alloc w o T (lt_h h.hT)).trans h.hT, (Below.heap_alloc w o P (lt_h h.hP)).trans h.hP, (Below.heap_alloc w o C (lt_h h.hC)).trans h.hC, h.out.alloc o, by have := h.lt; rw [World.size_alloc]; omega⟩
theorem StS.far (h : StS w0 w T P C B A cap l v code) {N : Nat} (hN : B ≤ N) (hv : v.ownBlock ≠ some N) (j : Nat) (u : Value) : StS w0 (w.setCell ⟨N, j, none⟩ u) T P C B A cap l v code := by
  have hl := h.lt
  exact ⟨h.bel.setCell (p := ⟨N, j, none⟩) (by show _ ≤ N; omega) u, (Below.heap_setCell w _ u T (by show T ≠ N; omega)).trans h.hT, (Below.heap_setCell w _ u P (by show P ≠ N; omega)).trans h.hP, (Below.heap_setCell w _ u C (by show C ≠ N; omega)).trans h.hC, h.out.far (p := ⟨N, j, none⟩) hv u, by
    have : (w.setCell ⟨N, j, none⟩ u).heap.size = w.heap.size := by simp [World.setCell]
    rw [this]; exact hl⟩
/-- Behind append and the store into the box. -/
theorem StS.put (h : StS w0 w T P C B A cap l v code) (hg : w.grownBy w' v.ownBlock) (hown : OwnS w' B v' code') (hv : v'.ownBlock = v.ownBlock ∨ v'.ownBlock = some w.heap.size) : StS w0 (w'.setCell ⟨C, 0, none⟩ v') T P C B A cap l v' code' := by
  have hl := h.lt
  have hk : ∀ k o, w.heap[k]? = some o → k < B → w'.heap[k]? = some o := fun k o ho hk => (hg.block k (lt_h ho) (fun e => by have := (h.own k e.symm).1; omega)).trans ho
  have hvC : v'.ownBlock ≠ some C := fun e => by
    rcases hv with hv | hv
    · have := (h.own C (hv.symm.trans e)).1; omega
    · rw [hv] at e; injection e with e; omega
  have hsz : (w'.setCell ⟨C, 0, none⟩ v').heap.size = w'.heap.size := by simp [World.setCell]
  refine ⟨(h.bel.grown hg (by omega) (fun k e => by have := (h.own k e).1; omega)).setCell (p := ⟨C, 0, none⟩) (by show _ ≤ C; omega) _, (Below.heap_setCell _ _ _ T (by show T ≠ C; omega)).trans (hk _ _ h.hT (by omega)), (Below.heap_setCell _ _ _ P (by show P ≠ C; omega)).trans (hk _ _ h.hP (by omega)), ?_, hown.far (p := ⟨C, 0, none⟩) hvC _, by
    rw [hsz]; have := hg.size; omega⟩
  have := heap_setCell_ w' C 0 v' _ _ (hk _ _ h.hC (by omega))
  exact this
end
theorem laid_pos {l : List Term} {i : Nat} : 1 ≤ (laid l i).length := by
  unfold laid laidF
  split
  · simp; omega
  · simp
set_option maxRecDepth 100000 in
set_option maxHeartbeats 8000000 in
theorem stkPut_calls {vars : Int} {w0 : World} {T P C B : Nat} {A : Option Addr} {cap : Nat} {l : List Term} (hA : RdT w0 A l) (hok : ∀ k (h : k < l.length), TOk vars k l[k]) : ∀ n i : Nat, i < n → i < l.length → ∀ (w : World) (v : Value) (code : List SOp), StS w0 w T P C B A cap l v code → code.length + (laid l i).length ≤ 1000 →
    Calls Try.prog 49 #[.int .i64 i, .pointer (some ⟨T, 0, none⟩), .pointer (some ⟨P, 0, none⟩), .pointer (some ⟨C, 0, none⟩)] w fun e w' => (∃ u, e = .returned u) ∧ ∃ v', StS w0 w' T P C B A cap l v' (code ++ laid l i) ∧ Kp2 C v w w' ∧ (v'.ownBlock = v.ownBlock ∨ ∃ m, v'.ownBlock = some m ∧ w.heap.size ≤ m) := by
  have HA := Lib.hid hA
  have Hok := Lib.hid hok
  clear hA hok
  intro n
  induction n with
  | zero => intro i h; omega
  | succ n ih =>
    intro i hin hi w v code hS hlen
    have IH := Lib.hid ih
    clear ih
    obtain ⟨A0, c0, rfl, -⟩ := Own.form sopCells_len hS.out
    have HS := Lib.hid hS
    have hl := hS.lt
    obtain ⟨bK, offK, rfl, hbK, -⟩ := RdT.at4 HA.out hi
    obtain ⟨bK', offK', eA, _, k0, k1, k2, k3⟩ := RdT.at4 (Rd.below HA.out hS.bel) hi
    injection eA with eA
    injection eA with e1 e2 _
    subst e1 e2
    have cT := (cell_h hS.hT 0).trans (show _ = some (Value.slice (some ⟨bK, offK, none⟩) l.length cap) from rfl)
    have cP := (cell_h hS.hP 0).trans (show _ = some (Value.func (.func 49) #[] #[.pointer (some ⟨T, 0, none⟩), .pointer (some ⟨P, 0, none⟩), .pointer (some ⟨C, 0, none⟩)]) from rfl)
    have cC := (cell_h hS.hC 0).trans (show _ = some (Value.slice A0 code.length c0) from rfl)
    have q1 : ((i : Nat) : Int) < ((l.length : Nat) : Int) := by omega
    have hCl : C < w.heap.size := by omega
    have hPl : P < w.heap.size := by omega
    have hTl : T < w.heap.size := by omega
    have et : l.getD i tnul = l[i] := getD_at hi
    obtain ⟨o1, o6, _, _, hob⟩ := Hok.out i hi
    have Hnode := Lib.hid (fun a b : Nat => @laid_node l vars Hok.out i a b hi)
    have Hleaf := Lib.hid (@laid_leaf l i)
    rw [et] at Hnode Hleaf
    clear hS
    generalize l[i] = t at *
    obtain ⟨op, ta, tb, tv⟩ := t
    dsimp only at *
    by_cases h2 : 2 < op
    · obtain ⟨a, b, ea, eb, la, lb⟩ := ab_of Hok.out hi (by rw [et]; exact h2)
      rw [et] at ea eb
      dsimp only at ea eb
      subst ea eb
      have hlaid := Hnode.out a b h2 rfl rfl
      have hlen' := hlen
      rw [hlaid, List.length_append, List.length_append, List.length_singleton] at hlen'
      have hd : decide (2 < op) = true := decide_eq_true h2
      have hv0 := HS.out.own
      have HS1 := Lib.hid (HS.out.alloc (.cells #[.int .i64 op, .int .i64 (a : Nat), .int .i64 (b : Nat), .int .i64 tv] 37))
      have HN1 : Hid ((w.alloc (.cells #[.int .i64 op, .int .i64 (a : Nat), .int .i64 (b : Nat), .int .i64 tv] 37)).heap[w.heap.size]? = some (.cells #[.int .i64 op, .int .i64 (a : Nat), .int .i64 (b : Nat), .int .i64 tv] 37)) := Lib.hid (heap_alloc_new w _)
      have hNw : w.heap.size < (w.alloc (.cells #[.int .i64 op, .int .i64 (a : Nat), .int .i64 (b : Nat), .int .i64 tv] 37)).heap.size := by simp
      have hNC : w.heap.size ≠ C := by omega
      have hBN : B ≤ w.heap.size := by omega
      have hvN : (Value.slice A0 code.length c0).ownBlock ≠ some w.heap.size := fun e => by have := (hv0 _ e).2; omega
      have HKa := Lib.hid ((Kp2.refl C (.slice A0 code.length c0) w).alloc (.cells #[.int .i64 op, .int .i64 (a : Nat), .int .i64 (b : Nat), .int .i64 tv] 37))
      have HIa := Lib.hid (IH.out a (by omega) (by omega) _ _ _ HS1.out (by omega))
      clear hv0
      rw [hlaid]
      go_enter Try.func49, Try.ntmps49
      go_wp2_with fail
      refine HIa.out.mono ?_
      rintro e w1 ⟨⟨u1, rfl⟩, v1, hS1, hK1, ha1⟩
      obtain ⟨code1, hc1⟩ : ∃ c1, c1 = code ++ laid l a := ⟨_, rfl⟩
      rw [← hc1] at hS1
      have hb1 : code1.length + (laid l b).length + 1 ≤ 1000 := by rw [hc1, List.length_append]; omega
      have Hc1 := Lib.hid hc1
      clear hc1 hlen'
      obtain ⟨A1, c1, rfl, -⟩ := Own.form sopCells_len hS1.out
      have hn1 := hK1.heap HN1.out hNC hvN
      have cP1 := (cell_h hS1.hP 0).trans (show _ = some (Value.func (.func 49) #[] #[.pointer (some ⟨T, 0, none⟩), .pointer (some ⟨P, 0, none⟩), .pointer (some ⟨C, 0, none⟩)]) from rfl)
      have n11 := (cell_h hn1 0).trans (show _ = some (Value.int .i64 op) from rfl)
      have n12 := (cell_h hn1 2).trans (show _ = some (Value.int .i64 (b : Nat)) from rfl)
      have HN2 := Lib.hid hn1
      have HK1 := Lib.hid (HKa.out.trans hK1 (Or.inl rfl))
      have Ha1 : Hid ((Value.slice A1 code1.length c1).ownBlock = (Value.slice A0 code.length c0).ownBlock ∨ ∃ m, (Value.slice A1 code1.length c1).ownBlock = some m ∧ w.heap.size < m) := Lib.hid (ha1.imp id (fun ⟨m, h1, h2⟩ => ⟨m, h1, by omega⟩))
      have HIb := Lib.hid (IH.out b (by omega) (by omega) _ _ _ hS1 (by omega))
      have hw1 := hK1.size
      clear HIa hS1 hK1 ha1 hn1
      go_wp2_with fail
      refine HIb.out.mono ?_
      rintro e w2 ⟨⟨u2, rfl⟩, v2, hS2, hK2, ha2⟩
      obtain ⟨code2, hc2⟩ : ∃ c2, c2 = code1 ++ laid l b := ⟨_, rfl⟩
      rw [← hc2] at hS2
      have hb2 : code2.length + 1 ≤ 1000 := by rw [hc2, List.length_append]; omega
      have Hc2 := Lib.hid hc2
      clear hc2 hb1
      obtain ⟨A2, c2, rfl, -⟩ := Own.form sopCells_len hS2.out
      have hv1N : (Value.slice A1 code1.length c1).ownBlock ≠ some w.heap.size := fun e => by
        rcases Ha1.out with h | ⟨m, h, hm⟩
        · exact hvN (h.symm.trans e)
        · rw [h] at e; injection e with e; omega
      have hn2 := hK2.heap HN2.out hNC hv1N
      have Ha2 : Hid ((Value.slice A2 code2.length c2).ownBlock = (Value.slice A0 code.length c0).ownBlock ∨ ∃ m, (Value.slice A2 code2.length c2).ownBlock = some m ∧ w.heap.size < m) := Lib.hid (by
        rcases ha2 with h | ⟨m, h1, h2⟩
        · rw [h]; exact Ha1.out
        · exact Or.inr ⟨m, h1, by omega⟩)
      have hv2N : (Value.slice A2 code2.length c2).ownBlock ≠ some w.heap.size := fun e => by
        rcases Ha2.out with h | ⟨m, h, hm⟩
        · exact hvN (h.symm.trans e)
        · rw [h] at e; injection e with e; omega
      have HK2 := Lib.hid (HK1.out.trans hK2 (Ha1.out.imp id (fun ⟨m, h1, h2⟩ => ⟨m, h1, by omega⟩)))
      have n23 := (cell_h hn2 3).trans (show _ = some (Value.int .i64 tv) from rfl)
      have m23 := fz_h hn2 3
      have hn3 := heap_setCell_ w2 w.heap.size 3 (.int .i64 0) _ _ hn2
      have n30 := (cell_h hn3 0).trans (show _ = some (Value.int .i64 op) from rfl)
      have n33 := (cell_h hn3 3).trans (show _ = some (Value.int .i64 0) from rfl)
      have HS3 := Lib.hid (hS2.far hBN hv2N 3 (.int .i64 0))
      have HS4 := Lib.hid (HS3.out.alloc (.cells #[.int .i64 op, .int .i64 0] 62))
      have cC3 := (cell_h HS3.out.hC 0).trans (show _ = some (Value.slice A2 code2.length c2) from rfl)
      obtain ⟨v9, w9, hrun, hown9, hg9, hat9⟩ := run_app1 (P := Try.prog) (w := (w2.setCell ⟨w.heap.size, 3, none⟩ (.int .i64 0)).alloc (.cells #[.int .i64 op, .int .i64 0] 62)) 54 54 SOp.cells 2 16 62 (.agg #[.int .i64 0, .int .i64 0]) Try.underlying54 infoSOp rfl (by decide) sopCells_len sopCells_one B _ code2 ⟨op, 0⟩ HS4.out.out (w2.setCell ⟨w.heap.size, 3, none⟩ (.int .i64 0)).heap.size 1 (fun j _ => by rw [cell_new _ _ _ _ rfl]; simp [SOp.cells]) (by unfold maxLen; omega) (by omega) HS4.out.lt.2.2.2.1
      obtain ⟨A9, c9', rfl, -⟩ := Own.form sopCells_len hown9
      rw [List.length_append, List.length_singleton] at hrun hown9 hat9
      have hsz3 : (w2.setCell ⟨w.heap.size, 3, none⟩ (.int .i64 0)).heap.size = w2.heap.size := by simp [World.setCell]
      rw [hsz3] at hrun
      have Hrun := Lib.hid hrun
      have HSf := Lib.hid (HS4.out.put hg9 hown9 hat9)
      have hC9 : w9.heap[C]? = some (.cells #[.slice A2 code2.length c2] 54 (0, 0)) := (hg9.block C (lt_h HS4.out.hC) (fun e => by have := (HS4.out.own C e.symm).1; omega)).trans HS4.out.hC
      have c9 := (cell_h hC9 0).trans (show _ = some (Value.slice A2 code2.length c2) from rfl)
      have f9 := fz_h hC9 0
      have HK9 := Lib.hid ((((HK2.out.set_ (p := ⟨w.heap.size, 3, none⟩) (Or.inr (Nat.le_refl _)) (.int .i64 0)).alloc (.cells #[.int .i64 op, .int .i64 0] 62)).grown hg9 (Ha2.out.imp id (fun ⟨m, h1, h2⟩ => ⟨m, h1, by omega⟩))).set_ (p := ⟨C, 0, none⟩) (Or.inl rfl) (.slice A9 (code2.length + 1) c9'))
      have Ha9 : Hid ((Value.slice A9 (code2.length + 1) c9').ownBlock = (Value.slice A0 code.length c0).ownBlock ∨ ∃ m, (Value.slice A9 (code2.length + 1) c9').ownBlock = some m ∧ w.heap.size ≤ m) := Lib.hid (by
        rcases hat9 with h | h
        · rw [h]; exact Ha2.out.imp id (fun ⟨m, h1, h2⟩ => ⟨m, h1, by omega⟩)
        · exact Or.inr ⟨_, h, by have := hK2.size; rw [World.size_alloc, hsz3]; omega⟩)
      have hw2 := hK2.size
      have hC2 : C < w2.heap.size := by omega
      have hN2 : w.heap.size < w2.heap.size := by omega
      clear HIb hS2 hK2 ha2 hn2 hn3 hrun hown9 hg9 hat9 hC9 n11 n12
      go_wp2_with (at_builtin; refine wpList_app_run rfl 54 _ _ rfl rfl rfl Hrun.out ?_)
      go_end0
      refine ⟨⟨_, rfl⟩, _, ?_, HK9.out, Ha9.out⟩
      rw [← List.append_assoc, ← List.append_assoc, ← Hc1.out, ← Hc2.out]
      exact HSf.out
    · have hlaid := Hleaf.out h2
      have hd : decide (2 < op) = false := decide_eq_false h2
      have hlen' : code.length + 1 ≤ 1000 := by have := @laid_pos l i; omega
      have HS1 := Lib.hid (HS.out.alloc (.cells #[.int .i64 op, .int .i64 ta, .int .i64 tb, .int .i64 tv] 37))
      have HS2 := Lib.hid (HS1.out.alloc (.cells #[.int .i64 op, .int .i64 tv] 62))
      obtain ⟨v9, w9, hrun, hown9, hg9, hat9⟩ := run_app1 (P := Try.prog) (w := (w.alloc (.cells #[.int .i64 op, .int .i64 ta, .int .i64 tb, .int .i64 tv] 37)).alloc (.cells #[.int .i64 op, .int .i64 tv] 62)) 54 54 SOp.cells 2 16 62 (.agg #[.int .i64 0, .int .i64 0]) Try.underlying54 infoSOp rfl (by decide) sopCells_len sopCells_one B _ code ⟨op, tv⟩ HS2.out.out (w.heap.size + 1) 1 (fun j _ => by rw [cell_new _ _ _ (w.heap.size + 1) (by simp)]; simp [SOp.cells]) (by unfold maxLen; omega) (by omega) HS2.out.lt.2.2.2.1
      obtain ⟨A9, c9', rfl, -⟩ := Own.form sopCells_len hown9
      rw [List.length_append, List.length_singleton] at hrun hown9 hat9
      have Hrun := Lib.hid hrun
      have HSf := Lib.hid (HS2.out.put hg9 hown9 hat9)
      have hC9 : w9.heap[C]? = some (.cells #[.slice A0 code.length c0] 54 (0, 0)) := (hg9.block C (lt_h HS2.out.hC) (fun e => by have := (HS2.out.own C e.symm).1; omega)).trans HS2.out.hC
      have c9 := (cell_h hC9 0).trans (show _ = some (Value.slice A0 code.length c0) from rfl)
      have f9 := fz_h hC9 0
      have HK := Lib.hid ((((Kp2.refl C (.slice A0 code.length c0) w).alloc (.cells #[.int .i64 op, .int .i64 ta, .int .i64 tb, .int .i64 tv] 37)).alloc (.cells #[.int .i64 op, .int .i64 tv] 62)).grown hg9 (Or.inl rfl) |>.set_ (p := ⟨C, 0, none⟩) (Or.inl rfl) (.slice A9 (code.length + 1) c9'))
      have Hat : Hid ((Value.slice A9 (code.length + 1) c9').ownBlock = (Value.slice A0 code.length c0).ownBlock ∨ ∃ m, (Value.slice A9 (code.length + 1) c9').ownBlock = some m ∧ w.heap.size ≤ m) := Lib.hid (hat9.imp id (fun h => ⟨_, h, by simp; omega⟩))
      clear hrun hown9 hg9 hat9 hC9
      rw [hlaid]
      go_enter Try.func49, Try.ntmps49
      go_wp2_with (at_builtin; refine wpList_app_run rfl 54 _ _ rfl rfl rfl Hrun.out ?_)
      go_end0
      exact ⟨⟨_, rfl⟩, _, HSf.out, HK.out, Hat.out⟩
set_option maxRecDepth 100000 in
set_option maxHeartbeats 4000000 in
theorem stkCode_ok (vars : Int) (A : Option Addr) (l : List Term) (cap : Nat) (w : World) (hA : RdT w A l) (h0 : needErr vars l = 0) :
    Calls Try.prog 30 #[.int .i64 vars, .slice A l.length cap] w fun e w' => ∃ v, e = .returned (.tuple #[v, .int .i64 0]) ∧ OwnS w' w.heap.size v (laid l (l.length - 1)) ∧ Below w.heap.size w w' := by
  obtain ⟨ht0, htree⟩ := needErr_ok h0
  obtain ⟨hv0, hv6, h1, h16, hok⟩ := tErr_ok ht0
  have Hlen := Lib.hid (laid_len h1 hok htree)
  have HA := Lib.hid hA
  have H0 := Lib.hid h0
  have Hok := Lib.hid hok
  clear hA h0 ht0 htree hok
  have hW0 := (Below.refl w.heap.size w).alloc (Nat.le_refl _) (.cells #[.slice A l.length cap] 22)
  have hT0 := heap_alloc_new w (.cells #[.slice A l.length cap] 22)
  have cT0 := (cell_h hT0 0).trans (show _ = some (Value.slice A l.length cap) from rfl)
  have HW0 := Lib.hid hW0
  have HT0 := Lib.hid hT0
  clear hW0 hT0 cT0
  go_enter Try.func30, Try.ntmps30
  go_wp2_with fail
  refine (need_ok vars A l cap _ (Rd.below HA.out HW0.out) H0.out).mono ?_
  rintro e w1 ⟨rfl, hW1⟩
  have HW1 := Lib.hid (HW0.out.trans (hW1.mono (by simp)))
  have hT1 : w1.heap[w.heap.size]? = some (.cells #[.slice A l.length cap] 22 (0, 0)) := (hW1.block w.heap.size (by simp)).trans HT0.out
  have cT1 := (cell_h hT1 0).trans (show _ = some (Value.slice A l.length cap) from rfl)
  have HT1 := Lib.hid hT1
  have hw1 : w.heap.size < w1.heap.size := lt_h hT1
  clear hW1 hT1
  have q2 : ((l.length : Nat) : Int) - 1 = ((l.length - 1 : Nat) : Int) := by omega
  go_wp2_with fail
  have hS : StS w ((w1.alloc (.cells #[.slice none 0 0] 54)).alloc (.cells #[.func (.func 49) #[] #[.pointer (some ⟨w.heap.size, 0, none⟩), .pointer (some ⟨w1.heap.size + 1, 0, none⟩), .pointer (some ⟨w1.heap.size, 0, none⟩)]] 81)) w.heap.size (w1.heap.size + 1) w1.heap.size (w1.heap.size + 2) A cap l (.slice none 0 0) [] := by
    have e1 := (Below.heap_alloc (w1.alloc (.cells #[.slice none 0 0] 54)) (.cells #[.func (.func 49) #[] #[.pointer (some ⟨w.heap.size, 0, none⟩), .pointer (some ⟨w1.heap.size + 1, 0, none⟩), .pointer (some ⟨w1.heap.size, 0, none⟩)]] 81) w.heap.size (by simp; omega)).trans ((Below.heap_alloc w1 (.cells #[.slice none 0 0] 54) w.heap.size hw1).trans HT1.out)
    have e2 := heap_alloc_new (w1.alloc (.cells #[.slice none 0 0] 54)) (.cells #[.func (.func 49) #[] #[.pointer (some ⟨w.heap.size, 0, none⟩), .pointer (some ⟨w1.heap.size + 1, 0, none⟩), .pointer (some ⟨w1.heap.size, 0, none⟩)]] 81)
    rw [show (w1.alloc (.cells #[.slice none 0 0] 54)).heap.size = w1.heap.size + 1 by simp] at e2
    have e3 := (Below.heap_alloc (w1.alloc (.cells #[.slice none 0 0] 54)) (.cells #[.func (.func 49) #[] #[.pointer (some ⟨w.heap.size, 0, none⟩), .pointer (some ⟨w1.heap.size + 1, 0, none⟩), .pointer (some ⟨w1.heap.size, 0, none⟩)]] 81) w1.heap.size (by simp)).trans (heap_alloc_new w1 (.cells #[.slice none 0 0] 54))
    exact ⟨(HW1.out.alloc (Nat.le_of_lt hw1) _).alloc (by simp; omega) _, e1, e2, e3, Own.nil_ _ _ _, by simp; omega⟩
  have HC := Lib.hid (stkPut_calls HA.out Hok.out l.length (l.length - 1) (by omega) (by omega) _ _ _ hS (by rw [Hlen.out]; simp; omega))
  clear hS
  refine HC.out.mono ?_
  rintro e w2 ⟨⟨u, rfl⟩, v2, hS2, -, -⟩
  rw [List.nil_append] at hS2
  have HS2 := Lib.hid hS2
  obtain ⟨A2, c2, rfl, -⟩ := Own.form sopCells_len hS2.out
  have cC := (cell_h hS2.hC 0).trans (show _ = some (Value.slice A2 (laid l (l.length - 1)).length c2) from rfl)
  rw [Hlen.out] at cC HS2
  clear hS2 HC
  go_wp2
  go_ret2
  exact ⟨_, rfl, Own.base_ HS2.out.out (by omega), HS2.out.bel⟩
theorem stkCode_bad (vars : Int) (A : Option Addr) (l : List Term) (cap : Nat) (w : World) (hA : RdT w A l) (hm : l.length ≤ maxLen) (h0 : needErr vars l ≠ 0) :
    Calls Try.prog 30 #[.int .i64 vars, .slice A l.length cap] w fun e w' => e = .returned (.tuple #[.slice none 0 0, .int .i64 (needErr vars l)]) ∧ Below w.heap.size w w' := by
  have HA := Lib.hid hA
  have H0 := Lib.hid h0
  have q : (needErr vars l != 0) = true := by rw [bne_iff_ne]; exact h0
  have HW0 := Lib.hid ((Below.refl w.heap.size w).alloc (Nat.le_refl _) (.cells #[.slice A l.length cap] 22))
  clear hA h0
  go_enter Try.func30, Try.ntmps30
  go_wp2_with fail
  refine (need_bad vars A l cap _ (Rd.below HA.out HW0.out) hm H0.out).mono ?_
  rintro e w1 ⟨rfl, hW1⟩
  have HW1 := Lib.hid (HW0.out.trans (hW1.mono (by simp)))
  clear hW1
  go_wp2
  go_ret2
  exact ⟨rfl, HW1.out⟩
end Go.Proofs.Ytmglhppfdhphbaa
