/- mach.Code's closure walked: an order with an address. -/
import Derived.Test.YtmgejacndhnikaaMchS
import Derived.Test.YtmgejacndhnikaaMapI
import Derived.Test.YtmgejacndhnikaaTurnG
namespace Go.Proofs.Ytmgejacndhnikaa
set_option maxRecDepth 100000
open Go.RowKit Go.Maps

/-- The list's last pair with that key. -/
def fM (L : List (Nat × Int)) (x : Int) : Option Value := (L.reverse.find? fun q => decide ((q.1 : Int) = x)).map fun q => .int .i64 q.2
theorem fM_nil : fM [] = fun _ => none := rfl
theorem fM_snoc (L : List (Nat × Int)) (k : Nat) (i : Int) : fM (L ++ [(k, i)]) = putM (fM L) (k : Int) (.int .i64 i) := by
  funext x
  unfold fM putM
  rw [List.reverse_append, List.reverse_singleton, List.singleton_append, List.find?_cons]
  by_cases h : x = (k : Int)
  · subst h
    rw [if_pos rfl]
    simp
  · rw [if_neg h]
    have : decide ((k : Int) = x) = false := decide_eq_false (fun e => h e.symm)
    simp only [this]
theorem fM_some {L : List (Nat × Int)} {x : Int} {v : Value} (h : fM L x = some v) : ∃ q ∈ L, x = (q.1 : Int) ∧ v = .int .i64 q.2 := by
  unfold fM at h
  rw [Option.map_eq_some_iff] at h
  obtain ⟨q, h1, h2⟩ := h
  have h3 := List.find?_some h1
  exact ⟨q, List.mem_reverse.1 (List.mem_of_find?_eq_some h1), (by simpa using h3 : (q.1 : Int) = x).symm, h2.symm⟩
theorem fM_mem {L : List (Nat × Int)} {q : Nat × Int} (h : q ∈ L) : ∃ v, fM L (q.1 : Int) = some v := by
  unfold fM
  rcases e : L.reverse.find? (fun r => decide ((r.1 : Int) = (q.1 : Int))) with _ | r
  · rw [List.find?_eq_none] at e
    have := e q (List.mem_reverse.2 h)
    simp at this
  · exact ⟨.int .i64 r.2, by rw [e]; rfl⟩
/-- Of the blocks that were there all but blocks C and W and the row's own lie as they lay. -/
structure KpM (C W : Nat) (v : Value) (w w' : World) : Prop where
  size : w.heap.size ≤ w'.heap.size
  block : ∀ k, k < w.heap.size → k ≠ C → k ≠ W → v.ownBlock ≠ some k → w'.heap[k]? = w.heap[k]?
theorem KpM.heap {C W : Nat} {v : Value} {w w' : World} (h : KpM C W v w w') {k : Nat} {o : Obj} (hk : w.heap[k]? = some o) (h1 : k ≠ C) (h2 : k ≠ W) (h3 : v.ownBlock ≠ some k) : w'.heap[k]? = some o := (h.block k (lt_h hk) h1 h2 h3).trans hk
theorem KpM.own {C W : Nat} {v u : Value} {w w' : World} (h : KpM C W v w w') {α : Type} {f : α → List Value} {size B E : Nat} {l : List α} (ho : Own f size w B E u l) (hC : C < B) (hW : W < B) (hu : u.ownBlock = none ∨ u.ownBlock ≠ v.ownBlock) : Own f size w' B E u l := by
  refine ⟨ho.1, ?_⟩
  rcases ho.2 with h0 | ⟨g, cap, cur, h1, h2, h3, h4⟩
  · exact .inl h0
  · refine .inr ⟨g, cap, cur, h1, h2, h.heap h3 (by omega) (by omega) (fun e => ?_), h4⟩
    subst h1
    rcases hu with hu | hu
    · cases hu
    · exact hu e.symm
/-- Between two orders of mach.Code: the boxes of code and want, and the map. -/
structure StM (w0 w : World) (C M W B : Nat) (v : Value) (code : List Int) (L : List (Nat × Int)) : Prop where
  bel : Below w0.heap.size w0 w
  hC : w.heap[C]? = some (.cells #[v] 25 (0, 0))
  hM : w.heap[M]? = some (.cells #[.map (some W)] 82 (0, 0))
  own : OwnB w B v code
  mp : OwnM encI w 3 W L.length (fM L)
  lt : w0.heap.size ≤ C ∧ w0.heap.size ≤ M ∧ w0.heap.size ≤ W ∧ C < B ∧ M < B ∧ W < B ∧ C ≠ M ∧ C ≠ W ∧ M ≠ W ∧ B ≤ w.heap.size
section
variable {w0 w w' : World} {C M W B : Nat} {v v' : Value} {code : List Int} {L : List (Nat × Int)}
theorem StM.ownB (h : StM w0 w C M W B v code L) : ∀ g, v.ownBlock = some g → B ≤ g ∧ g < w.heap.size := own_lt' h.own
theorem grown_of {w w' : World} (hb : Below w.heap.size w w') : w.grownBy w' none := ⟨hb.os, hb.tape, hb.output, hb.size, fun i hi _ => hb.block i hi⟩
/-- Behind what makes memory only. -/
theorem StM.below (h : StM w0 w C M W B v code L) (hb : Below w.heap.size w w') : StM w0 w' C M W B v code L :=
  ⟨h.bel.trans (hb.mono h.bel.size), (hb.block C (lt_h h.hC)).trans h.hC, (hb.block M (lt_h h.hM)).trans h.hM, h.own.below hb, h.mp.kept (grown_of hb) (by simp), by have := h.lt; have := hb.size; omega⟩
theorem StM.alloc (h : StM w0 w C M W B v code L) (o : Obj) : StM w0 (w.alloc o) C M W B v code L := h.below ((Below.refl _ _).alloc (Nat.le_refl _) o)
theorem StM.drew (h : StM w0 w C M W B v code L) : StM w0 w.drew C M W B v code L := ⟨h.bel.drew, h.hC, h.hM, h.own, h.mp, h.lt⟩
/-- A store into a block that is none of these. -/
theorem StM.far (h : StM w0 w C M W B v code L) {N : Nat} (hN : B ≤ N) (hv : v.ownBlock ≠ some N) (j : Nat) (u : Value) : StM w0 (w.setCell ⟨N, j, none⟩ u) C M W B v code L := by
  have hl := h.lt
  exact ⟨h.bel.setCell (p := ⟨N, j, none⟩) (by show _ ≤ N; omega) u, (Below.heap_setCell w _ u C (by show C ≠ N; omega)).trans h.hC, (Below.heap_setCell w _ u M (by show M ≠ N; omega)).trans h.hM, h.own.far (p := ⟨N, j, none⟩) hv u, h.mp.setCell (p := ⟨N, j, none⟩) (by show N ≠ W; omega) u, by
    have : (w.setCell ⟨N, j, none⟩ u).heap.size = w.heap.size := by simp [World.setCell]
    rw [this]; exact hl⟩
/-- 'code = append(code, m...)' -/
theorem StM.app (h : StM w0 w C M W B v code L) (A : Option Addr) (m : List Int) (c : Nat) (hA : RdBy w A m) (hlen : code.length + m.length ≤ 1000) :
    ∃ v' w', (Builtin.append_ #[25, 25] 25 #[v, .slice A m.length c]).run Try.prog w = .ok v' w' ∧ StM w0 (w'.setCell ⟨C, 0, none⟩ v') C M W B v' (code ++ m) L ∧ KpM C W v w (w'.setCell ⟨C, 0, none⟩ v') ∧ w'.cell? ⟨C, 0, none⟩ = some v ∧ w'.frozen? ⟨C, 0, none⟩ = false ∧ w.heap.size ≤ w'.heap.size ∧ (v'.ownBlock = v.ownBlock ∨ v'.ownBlock = some w.heap.size) ∧ w.grownBy w' v.ownBlock ∧ OwnB w' B v' (code ++ m) := by
  obtain ⟨v', w', hrun, hO, hg, hat⟩ := run_appN (P := Try.prog) (w := w) 25 25 byteCells 1 1 5 (.int .u8 0) Try.underlying25 infoB rfl (by decide) byteCells_len byteCells_one B v code h.own A m c hA (by unfold maxLen; omega) (by omega) h.lt.2.2.2.2.2.2.2.2.2
  have hl := h.lt
  have hk : ∀ k o, w.heap[k]? = some o → k < B → w'.heap[k]? = some o := fun k o ho hk => (hg.block k (lt_h ho) (fun e => by have := (h.ownB k e.symm).1; omega)).trans ho
  have hvC : v'.ownBlock ≠ some C := fun e => by
    rcases hat with hv | hv
    · have := (h.ownB C (hv.symm.trans e)).1; omega
    · rw [hv] at e; injection e with e; omega
  have hsz : (w'.setCell ⟨C, 0, none⟩ v').heap.size = w'.heap.size := by simp [World.setCell]
  have hCw := hk _ _ h.hC (by omega)
  refine ⟨v', w', hrun, ⟨(h.bel.grown hg (by omega) (fun k e => by have := (h.ownB k e).1; omega)).setCell (p := ⟨C, 0, none⟩) (by show _ ≤ C; omega) _, ?_, (Below.heap_setCell _ _ _ M (by show M ≠ C; omega)).trans (hk _ _ h.hM (by omega)), hO.far (p := ⟨C, 0, none⟩) hvC _, (h.mp.kept hg (fun e => by have := (h.ownB W e.symm).1; omega)).setCell (p := ⟨C, 0, none⟩) (by show C ≠ W; omega) _, by rw [hsz]; have := hg.size; omega⟩,
    ⟨by rw [hsz]; exact hg.size, fun k hk1 h1 _ h3 => ?_⟩, (cell_h hCw 0).trans rfl, fz_h hCw 0, hg.size, hat, hg, hO⟩
  · have := heapSetC w' C 0 v' _ _ hCw
    exact this
  · rw [Below.heap_setCell w' ⟨C, 0, none⟩ v' k (by show k ≠ C; omega)]
    exact hg.block k hk1 (fun e => h3 e.symm)
  where
  heapSetC (w : World) (g j : Nat) (v : Value) (cs : Array Value) (E : Nat) (h : w.heap[g]? = some (.cells cs E (0, 0))) : (w.setCell ⟨g, j, none⟩ v).heap[g]? = some (.cells (cs.setIfInBounds j v) E (0, 0)) := by
    obtain ⟨hlt, hv⟩ := Array.getElem?_eq_some_iff.1 h
    unfold World.setCell
    rw [Array.getElem?_eq_getElem (by simpa using hlt), Array.getElem_modify]
    simp [hv]
/-- 'want[k] = i' -/
theorem StM.put (h : StM w0 w C M W B v code L) (k : Nat) (i : Int) (hk : k ≤ 100000) (hL : L.length ≤ 1000) :
    ∃ w', (Instr.mapUpdate 82 (.map (some W)) (.int .i64 (k : Int)) (.int .i64 i)).run Try.prog w = .ok () w' ∧ StM w0 w' C M W B v code (L ++ [(k, i)]) ∧ KpM C W v w w' := by
  obtain ⟨w', hrun, hM, hg⟩ := OwnM.put h.mp keyedI encI_inj Try.underlying82 (by unfold maxLen; omega) (a := (k : Int)) (keyI ⟨by omega, by omega⟩) (.int .i64 i)
  have hl := h.lt
  refine ⟨w', hrun, ⟨h.bel.grown hg (by omega) (fun j e => by injection e with e; omega), (hg.block C (lt_h h.hC) (fun e => by injection e; omega)).trans h.hC, (hg.block M (lt_h h.hM) (fun e => by injection e; omega)).trans h.hM, h.own.kept hg (.inr (fun e => by have := (h.ownB W e).1; omega)), by rw [fM_snoc, List.length_append]; exact hM, by have := hg.size; omega⟩, ⟨hg.size, fun j hj _ h2 _ => hg.block j hj (fun e => h2 (by injection e))⟩⟩
end
theorem KpM.trans {C W : Nat} {v v' : Value} {a w w' : World} (h : KpM C W v a w) (k : KpM C W v' w w') (hv : v'.ownBlock = v.ownBlock ∨ ∃ m, v'.ownBlock = some m ∧ a.heap.size ≤ m) : KpM C W v a w' :=
  ⟨Nat.le_trans h.size k.size, fun j hj h1 h2 h3 => (k.block j (Nat.lt_of_lt_of_le hj h.size) h1 h2 (fun e => by
    rcases hv with hv | ⟨m, hm, hl⟩
    · exact h3 (hv.symm.trans e)
    · rw [hm] at e; injection e with e; omega)).trans (h.block j hj h1 h2 h3)⟩
theorem KpM.of_below {C W : Nat} {v : Value} {w w' : World} (h : Below w.heap.size w w') : KpM C W v w w' := ⟨h.size, fun k hk _ _ _ => h.block k hk⟩
def ToE (w0 w : World) (C M W B : Nat) (v : Value) (code : List Int) (L : List (Nat × Int)) (w' : World) : Prop :=
  ∃ v', StM w0 w' C M W B v' code L ∧ KpM C W v w w' ∧ (v'.ownBlock = v.ownBlock ∨ ∃ m, v'.ownBlock = some m ∧ w.heap.size ≤ m)
set_option maxHeartbeats 4000000 in
theorem to_calls {w0 w : World} {C M W B : Nat} {v : Value} {code : List Int} {L : List (Nat × Int)} (h : StM w0 w C M W B v code L) (y i : Int) (hc : code.length ≤ 400) (hL : L.length ≤ 1000) :
    Calls Try.prog 42 #[.int .u8 y, .int .i64 i, .pointer (some ⟨M, 0, none⟩), .pointer (some ⟨C, 0, none⟩)] w fun e w' => (∃ u, e = .returned u) ∧ ToE w0 w C M W B v (code ++ [y, 0, 0]) (L ++ [(code.length + 1, i)]) w' := by
  obtain ⟨A0, c0, rfl, -⟩ := Own.form byteCells_len h.own
  have cC := (cell_h h.hC 0).trans (show _ = some (Value.slice A0 code.length c0) from rfl)
  have cM := (cell_h h.hM 0).trans (show _ = some (Value.map (some W)) from rfl)
  obtain ⟨w1, hput, hS1, hK1⟩ := h.put (code.length + 1) i (by omega) hL
  have hS2 := hS1.alloc (.cells #[.int .u8 y, .int .u8 0, .int .u8 0] 5)
  obtain ⟨v3, w3, hrun, hS3, hK3, d3, z3, hz3, hat, -, -⟩ := hS2.app (some ⟨w1.heap.size, 0, none⟩) [y, 0, 0] 3 (rdB_new _ _ _ _ _ rfl rfl) (by simp; omega)
  obtain ⟨A3, c3, e3, -⟩ := Own.form byteCells_len hS3.own
  generalize (code ++ [y, 0, 0]).length = n3 at e3
  subst e3
  have c1 := (cell_h hS1.hC 0).trans (show _ = some (Value.slice A0 code.length c0) from rfl)
  have HS := Lib.hid hS3
  have HK : Hid (KpM C W (.slice A0 code.length c0) w (w3.setCell ⟨C, 0, none⟩ (.slice A3 n3 c3))) := Lib.hid ((hK1.trans (KpM.of_below ((Below.refl _ _).alloc (Nat.le_refl _) (.cells #[.int .u8 y, .int .u8 0, .int .u8 0] 5))) (.inl rfl)).trans hK3 (.inl rfl))
  have HV : Hid ((Value.slice A3 n3 c3).ownBlock = (Value.slice A0 code.length c0).ownBlock ∨ ∃ m, (Value.slice A3 n3 c3).ownBlock = some m ∧ w.heap.size ≤ m) := Lib.hid (hat.imp id (fun e => ⟨_, e, by have := hK1.size; simp; omega⟩))
  have Hrun := Lib.hid hrun
  have u1 : IntKind.i64.wrap ((code.length : Int) + 1) = (code.length : Int) + 1 := by rw [IntWalk.i64_in _ (by omega)]
  rw [show ((code.length + 1 : Nat) : Int) = (code.length : Int) + 1 from by omega] at hput
  clear hrun hS1 hS2 hS3 hK1 hK3 hat h
  go_enter Try.func42, Try.ntmps42
  go_wp2_with (at_builtin; refine wpList_app_run rfl 25 _ _ rfl rfl rfl Hrun.out ?_)
  go_end0
  exact ⟨⟨_, rfl⟩, _, HS.out, HK.out, HV.out⟩
end Go.Proofs.Ytmgejacndhnikaa
