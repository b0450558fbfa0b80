/- SingleSame: single.sets walked: where each name is set. -/
import Derived.Test.YtmgejacndhnikaaSnP
import Derived.Test.YtmgejacndhnikaaMapI
import Derived.BigGuardPart
namespace Go.Proofs.Ytmgejacndhnikaa
set_option maxRecDepth 100000
open Go.RowKit Go.Maps

def pairV (i k : Int) : Value := .agg #[.int .i64 i, .int .i64 k]
theorem infoPair : (Try.prog.info? 124).map (fun i => (i.zero, i.size)) = some (some (pairV 0 0), 2) := by kernel_rfl
theorem zero_pair (w : World) : (zeroValue 124).run Try.prog w = .ok (pairV 0 0) w := by
  have h := infoPair
  cases hi : Try.prog.info? 124 with
  | none => rw [hi] at h; cases h
  | some i =>
    rw [hi] at h
    have h0 : i.zero = some (pairV 0 0) := by
      have := Option.some.inj h
      exact congrArg Prod.fst this
    simp [zeroValue, typeInfo, hi, h0]
/-- The map's function says what the list says. -/
def MapL (L : List (Int × Int × Int)) (f : Int → Option Value) : Prop := (∀ q ∈ L, f q.1 = some (pairV q.2.1 q.2.2)) ∧ ∀ n, (∀ q ∈ L, q.1 ≠ n) → f n = none
theorem MapL.nil : MapL [] (fun _ => none) := ⟨fun _ h => absurd h List.not_mem_nil, fun _ _ => rfl⟩
theorem MapL.put {L : List (Int × Int × Int)} {f : Int → Option Value} (h : MapL L f) {n i k : Int} (hn : ∀ q ∈ L, q.1 ≠ n) : MapL (L ++ [(n, i, k)]) (putM f n (pairV i k)) := by
  refine ⟨fun q hq => ?_, fun m hm => ?_⟩
  · rcases List.mem_append.1 hq with hq | hq
    · rw [putM_other _ _ (hn q hq)]; exact h.1 q hq
    · simp at hq; subst hq; exact putM_same _ _ _
  · have h1 : m ≠ n := fun e => hm (n, i, k) (by simp) e.symm
    rw [putM_other _ _ h1]
    exact h.2 m (fun q hq => hm q (by simp [hq]))
theorem fresh_of {L : List (Int × Int × Int)} {q : Int × Int × Int} {r : List (Int × Int × Int)} (h : ((L ++ q :: r).map (·.1)).Nodup) : ∀ x ∈ L, x.1 ≠ q.1 := fun x hx e => by
  rw [List.map_append, List.map_cons] at h
  have := (List.nodup_append.1 h).2.2 x.1 (List.mem_map_of_mem hx) q.1 (by simp)
  exact this e
/-- The boxes of sets: the map's (M), the flag's (C); the map (Wb). -/
structure StS (w0 w : World) (M C Wb : Nat) (L : List (Int × Int × Int)) (f : Int → Option Value) : Prop where
  bel : Below w0.heap.size w0 w
  hM : w.heap[M]? = some (.cells #[.map (some Wb)] 119 (0, 0))
  hC : w.heap[C]? = some (.cells #[.bool true] 4 (0, 0))
  mp : OwnM encI w 3 Wb L.length f
  ml : MapL L f
  lt : w0.heap.size ≤ M ∧ w0.heap.size ≤ C ∧ w0.heap.size ≤ Wb ∧ M ≠ C ∧ M ≠ Wb ∧ C ≠ Wb
/-- All blocks but the boxes and the map lie as they lay. -/
structure KpS (C Wb : Nat) (w w' : World) : Prop where
  size : w.heap.size ≤ w'.heap.size
  block : ∀ k, k < w.heap.size → k ≠ C → k ≠ Wb → w'.heap[k]? = w.heap[k]?
section
variable {w0 w w' : World} {M C Wb : Nat} {L : List (Int × Int × Int)} {f : Int → Option Value}
theorem StS.below (h : StS w0 w M C Wb L f) (hb : Below w.heap.size w w') : StS w0 w' M C Wb L f :=
  ⟨h.bel.trans (hb.mono h.bel.size), (hb.block M (lt_h h.hM)).trans h.hM, (hb.block C (lt_h h.hC)).trans h.hC, h.mp.kept (row := none) ⟨hb.os, hb.tape, hb.output, hb.size, fun i hi _ => hb.block i hi⟩ (by simp), h.ml, h.lt⟩
theorem StS.alloc (h : StS w0 w M C Wb L f) (o : Obj) : StS w0 (w.alloc o) M C Wb L f := h.below ((Below.refl _ _).alloc (Nat.le_refl _) o)
theorem StS.drewN (h : StS w0 w M C Wb L f) (n : Nat) : StS w0 (w.drewN n) M C Wb L f := h.below (below_dN (Below.refl _ _) n)
theorem StS.setC (h : StS w0 w M C Wb L f) : StS w0 (w.setCell ⟨C, 0, none⟩ (.bool true)) M C Wb L f := by
  have hl := h.lt
  exact ⟨h.bel.setCell (p := ⟨C, 0, none⟩) (by show w0.heap.size ≤ C; omega) _, (Below.heap_setCell w ⟨C, 0, none⟩ _ M (by show M ≠ C; omega)).trans h.hM, by rw [heapSetCell w C 0 (.bool true) _ _ h.hC]; rfl, h.mp.setCell (p := ⟨C, 0, none⟩) (by show C ≠ Wb; omega) _, h.ml, h.lt⟩
theorem StS.put (h : StS w0 w M C Wb L f) {n i k : Int} (hn : ∀ q ∈ L, q.1 ≠ n) (hi : in64 n) (hL : L.length ≤ 1000) :
    ∃ w' f', (Instr.mapUpdate 119 (.map (some Wb)) (.int .i64 n) (.agg #[.int .i64 i, .int .i64 k])).run Try.prog w = .ok () w' ∧ StS w0 w' M C Wb (L ++ [(n, i, k)]) f' ∧ w.grownBy w' (some Wb) := by
  obtain ⟨w', hrun, hM, hg⟩ := OwnM.put h.mp keyedI encI_inj Try.underlying119 (by unfold maxLen; omega) (a := n) (keyI hi) (pairV i k)
  have hl := h.lt
  refine ⟨w', _, hrun, ⟨h.bel.grown hg h.bel.size (fun j e => by injection e with e; omega), (hg.block M (lt_h h.hM) (fun e => by injection e with e; omega)).trans h.hM, (hg.block C (lt_h h.hC) (fun e => by injection e with e; omega)).trans h.hC, by rw [List.length_append]; exact hM, h.ml.put hn, h.lt⟩, hg⟩
end
def PutSE (w0 w : World) (M C Wb : Nat) (L : List (Int × Int × Int)) (e : Ending) (w' : World) : Prop := (∃ u, e = .returned u) ∧ (∃ f, StS w0 w' M C Wb L f) ∧ KpS C Wb w w'
set_option maxHeartbeats 4000000 in
theorem setsC_calls {w0 w : World} {M C Wb : Nat} {L : List (Int × Int × Int)} {f : Int → Option Value} (h : StS w0 w M C Wb L f) (n i k : Int) (hn : ∀ q ∈ L, q.1 ≠ n) (hi : in64 n) (hL : L.length ≤ 1000) :
    Calls Try.prog 110 #[.int .i64 n, .int .i64 i, .int .i64 k, .pointer (some ⟨M, 0, none⟩), .pointer (some ⟨C, 0, none⟩)] w (PutSE w0 w M C Wb (L ++ [(n, i, k)])) := by
  have Hlk := Lib.hid (OwnM.look_ok h.mp keyedI Try.underlying119 (zero_pair _) (a := n) (keyI hi))
  rw [h.ml.2 n hn] at Hlk
  have Hlk : Hid ((Instr.lookup 119 (.map (some Wb)) (.int .i64 n) true).run Try.prog w = .ok (.tuple #[.agg #[.int .i64 0, .int .i64 0], .bool false]) w) := Hlk
  have cM := cell_h h.hM 0
  have cC := cell_h h.hC 0
  have fC := fz_h h.hC 0
  have hCl := lt_h h.hC
  have hMl := lt_h h.hM
  have hMC : M ≠ C := h.lt.2.2.2.1
  have hCM : C ≠ M := fun e => hMC e.symm
  have h2 := h.setC.alloc (.cells #[.int .i64 0, .int .i64 0] 124)
  have hk2 : KpS C Wb w ((w.setCell ⟨C, 0, none⟩ (.bool true)).alloc (.cells #[.int .i64 0, .int .i64 0] 124)) := ⟨by simp [World.setCell], fun k hk h1 h2 => by rw [Below.heap_alloc _ _ _ (by simpa [World.setCell] using hk), Below.heap_setCell _ _ _ _ (by exact h1)]⟩
  obtain ⟨w3, f3, hrun, h3, hg3⟩ := h2.put (i := i) (k := k) hn hi hL
  have HS := Lib.hid h3
  have HK : Hid (KpS C Wb w w3) := Lib.hid ⟨Nat.le_trans hk2.size hg3.size, fun k hk h1 h2' => (hg3.block k (Nat.lt_of_lt_of_le hk hk2.size) (fun e => by injection e with e; exact h2' e)).trans (hk2.block k hk h1 h2')⟩
  have Hrun := Lib.hid hrun
  clear h2 hk2 hrun h3 hg3 h
  have hlk := Hlk.out
  have hup := Hrun.out
  go_enter Try.func110, Try.ntmps110
  go_wp2
  go_end0
  exact ⟨⟨_, rfl⟩, ⟨_, HS.out⟩, HK.out⟩
theorem split_at {α β : Type} (g : α → β) {l : List α} {k : Nat} (hk : k < l.length) : l.map g = (l.take k).map g ++ g l[k] :: (l.drop (k + 1)).map g := by
  conv => lhs; rw [← List.take_append_drop k l, List.drop_eq_getElem_cons hk, List.map_append, List.map_cons]
theorem preE_pre (vars : Nat) (l : List Sg) : ∀ (n I : Nat), I ≤ n → ∃ r, preE vars l n = preE vars l I ++ r
  | 0, I, h => ⟨[], by rw [List.append_nil, show I = 0 by omega]⟩
  | n + 1, I, h => by
    by_cases e : I = n + 1
    · exact ⟨[], by rw [List.append_nil, e]⟩
    · obtain ⟨r, hr⟩ := preE_pre vars l n I (by omega)
      exact ⟨r ++ entB n (l.getD n sgnul), by rw [preE_succ, hr, List.append_assoc]⟩
def entJ (I : Nat) (js : List Jn) : List (Int × Int × Int) := js.map fun j => (j.to, ((I : Nat) : Int), (-1 : Int))
def entC (I : Nat) (cd : List Step) (k : Nat) : List (Int × Int × Int) := (List.range k).map fun k => ((cd.getD k ⟨0, 0, 0, 0, 0⟩).to, ((I : Nat) : Int), ((k : Nat) : Int))
theorem preE_join {vars : Nat} {l : List Sg} {I k : Nat} (hI : I < l.length) (hk : k < (l.getD I sgnul).joins.length) : ∃ r, preE vars l l.length = (preE vars l I ++ entJ I ((l.getD I sgnul).joins.take k)) ++ ((l.getD I sgnul).joins[k].to, ((I : Nat) : Int), (-1 : Int)) :: r := by
  obtain ⟨r, hr⟩ := preE_pre vars l l.length (I + 1) hI
  refine ⟨((l.getD I sgnul).joins.drop (k + 1)).map (fun j => (j.to, ((I : Nat) : Int), (-1 : Int))) ++ (entC I (l.getD I sgnul).code (l.getD I sgnul).code.length ++ r), ?_⟩
  rw [hr, preE_succ]
  unfold entB
  rw [split_at _ hk]
  unfold entJ entC
  simp only [List.append_assoc, List.cons_append]
theorem preE_step {vars : Nat} {l : List Sg} {I k : Nat} (hI : I < l.length) (hk : k < (l.getD I sgnul).code.length) : ∃ r, preE vars l l.length = (preE vars l I ++ entJ I (l.getD I sgnul).joins ++ entC I (l.getD I sgnul).code k) ++ ((l.getD I sgnul).code[k].to, ((I : Nat) : Int), ((k : Nat) : Int)) :: r := by
  obtain ⟨r, hr⟩ := preE_pre vars l l.length (I + 1) hI
  refine ⟨((List.range (l.getD I sgnul).code.length).drop (k + 1)).map (fun k => (((l.getD I sgnul).code.getD k ⟨0, 0, 0, 0, 0⟩).to, ((I : Nat) : Int), ((k : Nat) : Int))) ++ r, ?_⟩
  rw [hr, preE_succ]
  unfold entB
  have hk2 : k < (List.range (l.getD I sgnul).code.length).length := by rw [List.length_range]; exact hk
  rw [split_at _ hk2, List.take_range, List.getElem_range]
  have e : (l.getD I sgnul).code.getD k ⟨0, 0, 0, 0, 0⟩ = (l.getD I sgnul).code[k] := by rw [List.getD_eq_getElem?_getD, List.getElem?_eq_getElem hk]; rfl
  rw [e, Nat.min_eq_left (by omega)]
  unfold entJ entC
  simp only [List.append_assoc, List.cons_append]
theorem entC_succ (I : Nat) (cd : List Step) {k : Nat} (hk : k < cd.length) : entC I cd (k + 1) = entC I cd k ++ [(cd[k].to, ((I : Nat) : Int), ((k : Nat) : Int))] := by
  unfold entC
  rw [List.range_succ, List.map_append]
  have e : cd.getD k ⟨0, 0, 0, 0, 0⟩ = cd[k] := by rw [List.getD_eq_getElem?_getD, List.getElem?_eq_getElem hk]; rfl
  rw [List.map_cons, e]
  rfl
theorem entJ_succ (I : Nat) (js : List Jn) {k : Nat} (hk : k < js.length) : entJ I (js.take (k + 1)) = entJ I (js.take k) ++ [(js[k].to, ((I : Nat) : Int), (-1 : Int))] := by
  unfold entJ
  rw [List.take_succ_eq_append_getElem hk, List.map_append]
  rfl
theorem preE_len (vars : Nat) (l : List Sg) : (preE vars l l.length).length = vars + (sumJ l + sumS l) := by
  unfold preE
  rw [List.length_append, List.length_flatMap]
  congr 1
  · simp [ent0]
  · have e : ((List.range l.length).map fun a => (entB a (l.getD a sgnul)).length) = (List.range l.length).map fun i => (l.getD i sgnul).joins.length + (l.getD i sgnul).code.length := by
      apply List.map_congr_left
      intro i _
      unfold entB
      simp
    rw [e, sum_add, map_range_getD (fun b : Sg => b.joins.length) sgnul, map_range_getD (fun b : Sg => b.code.length) sgnul]
    rfl
def SetsE (vars : Nat) (l : List Sg) (w : World) (e : Ending) (w' : World) : Prop :=
  (∃ (Mb n : Nat) (f : Int → Option Value), e = .returned (.tuple #[.map (some Mb), .bool true]) ∧ OwnM encI w' 3 Mb n f ∧ MapL (preE vars l l.length) f ∧ w.heap.size ≤ Mb) ∧ Below w.heap.size w w'
set_option maxHeartbeats 16000000 in
theorem sets_calls (vars : Nat) (A : Option Addr) (l : List Sg) (frm : List (List Int)) (cap : Nat) (w : World) (hA : RdSg w A l) (hok : SgOk vars l frm) (hnd : ((preE vars l l.length).map (·.1)).Nodup) :
    Calls Try.prog 64 #[.int .i64 (vars : Nat), .slice A l.length cap] w (SetsE vars l w) := by
  have HA := Lib.hid hA
  have HOK := Lib.hid hok
  have HND := Lib.hid hnd
  have hv6 := hok.v6
  have hn8 := hok.n8
  have Hlen : Hid ((preE vars l l.length).length ≤ 90) := Lib.hid (by
    rw [preE_len]
    have := hok.steps
    have := hok.joins
    omega)
  clear hA hok hnd
  have hmm := @run_makeMap Try.prog
  have HM0 := OwnM.made encI w 3
  have HMa := Lib.hid (HM0.alloc (.cells #[.map (some w.heap.size)] 119))
  have HNa := Lib.hid (heap_alloc_new (w.alloc (.map #[] 0)) (.cells #[.map (some w.heap.size)] 119))
  have HBa := Lib.hid (((Below.refl w.heap.size w).alloc (Nat.le_refl _) (.map #[] 0)).alloc (by simp) (.cells #[.map (some w.heap.size)] 119))
  obtain ⟨Wb, hWb⟩ : ∃ Wb, Wb = w.heap.size := ⟨_, rfl⟩
  obtain ⟨M, hM⟩ : ∃ M, M = (w.alloc (.map #[] 0)).heap.size := ⟨_, rfl⟩
  obtain ⟨wa, hwa⟩ : ∃ wa, wa = (w.alloc (.map #[] 0)).alloc (.cells #[.map (some w.heap.size)] 119) := ⟨_, rfl⟩
  rw [← hwa] at HMa HNa HBa
  rw [← hM, ← hWb] at HNa
  have HMa : Hid (OwnM encI wa 3 Wb 0 (fun _ => none)) := Lib.hid (by rw [hWb]; exact HMa.out)
  have Hwa := Lib.hid hwa
  have HMs := Lib.hid hM
  have HWb := Lib.hid hWb
  have hM2 : M = Wb + 1 := by rw [hM, hWb]; simp
  have HM2 := Lib.hid hM2
  clear hwa hM hWb HM0 hM2
  go_enter Try.func64, Try.ntmps64
  go_wp2
  clear hmm
  have e1 : (w.heap.size + 1 : Nat) = M := by rw [HM2.out, HWb.out]
  rw [e1, ← Hwa.out]
  clear e1
  go_loopw [18] (fun i wr => ∃ (v : Nat) (f : Int → Option Value), i = .int .i64 (v : Nat) ∧ v ≤ vars ∧ Hid (wr.heap[M]? = some (.cells #[.map (some Wb)] 119 (0, 0))) ∧ Hid (OwnM encI wr 3 Wb v f) ∧ Hid (MapL (ent0 v) f) ∧ Hid (Below w.heap.size w wr)) (fun i _ => vars - (intOf i).toNat)
  case atStart => exact ⟨0, _, rfl, Nat.zero_le _, HNa, HMa, MapL.nil, HBa⟩
  case round =>
    clear HNa HMa HBa
    obtain ⟨v, f, rfl, hv, hM, hO, hL, hB⟩ := hrel
    have cM := cell_h hM.out 0
    by_cases hlt : v < vars
    · have hvl : ((v : Nat) : Int) < ((vars : Nat) : Int) := by omega
      obtain ⟨w', hrun, hO', hg⟩ := OwnM.put hO.out keyedI encI_inj Try.underlying119 (by unfold maxLen; omega) (a := ((v : Nat) : Int)) (keyI (show in64 ((v : Nat) : Int) from ⟨by omega, by omega⟩)) (pairV (-1) 0)
      have hrun' : (Instr.mapUpdate 119 (.map (some Wb)) (.int .i64 ((v : Nat) : Int)) (.agg #[.int .i64 (-1), .int .i64 0])).run Try.prog wr = .ok () w' := hrun
      have HO := Lib.hid hO'
      have HM := Lib.hid ((hg.block M (lt_h hM.out) (fun e => by injection e with e; have := HM2.out; omega)).trans hM.out)
      have HB := Lib.hid (hB.out.grown hg hB.out.size (fun j e => by injection e with e; have := HWb.out; omega))
      have HL : Hid (MapL (ent0 (v + 1)) (putM f ((v : Nat) : Int) (pairV (-1) 0))) := Lib.hid (by
        have e : ent0 (v + 1) = ent0 v ++ [(((v : Nat) : Int), (-1 : Int), (0 : Int))] := by unfold ent0; rw [List.range_succ, List.map_append]; rfl
        rw [e]
        refine hL.out.put (fun q hq => ?_)
        unfold ent0 at hq
        obtain ⟨u, hu, rfl⟩ := List.mem_map.1 hq
        have := List.mem_range.1 hu
        show ((u : Nat) : Int) ≠ ((v : Nat) : Int)
        omega)
      clear hrun hO' hg hM hO hL hB
      go_wp2
      go_roundw
      case rel => exact ⟨v + 1, _, by go_num, by omega, HM, HO, HL, HB⟩
      case measure => simp [intOf]; omega
    · have : vars = v := by omega
      subst this
      have hC := heap_alloc_new wr (.cells #[.bool true] 4)
      obtain ⟨C, hCs⟩ : ∃ C, C = wr.heap.size := ⟨_, rfl⟩
      have HST : Hid (StS w (wr.alloc (.cells #[.bool true] 4)) M C Wb (preE vars l 0) f) := Lib.hid (by
        have hMl := lt_h hM.out
        have hWl := hO.out.lt
        have e : preE vars l 0 = ent0 vars := by unfold preE; simp
        have e2 : (ent0 vars).length = vars := by simp [ent0]
        rw [e]
        exact ⟨hB.out.alloc hB.out.size _, (Below.heap_alloc wr _ M hMl).trans hM.out, by rw [hCs]; exact hC, by rw [e2]; exact hO.out.alloc _, hL.out, by have := HM2.out; have := HWb.out; have := hB.out.size; omega⟩)
      obtain ⟨wb, hwb⟩ : ∃ wb, wb = wr.alloc (.cells #[.bool true] 4) := ⟨_, rfl⟩
      rw [← hwb] at HST
      have Hwb := Lib.hid hwb
      have HCs := Lib.hid hCs
      clear hC hwb hCs hM hO hL hB cM hlt hv
      go_wp2
      rw [← HCs.out, ← Hwb.out]
      go_loopw [28] (fun i wr => ∃ (I : Nat) (f : Int → Option Value), i = .int .i64 (I : Nat) ∧ I ≤ l.length ∧ Hid (StS w wr M C Wb (preE vars l I) f)) (fun i _ => l.length - (intOf i).toNat)
      case atStart => exact ⟨0, f, rfl, Nat.zero_le _, HST⟩
      case round =>
        clear HST
        obtain ⟨I, f, rfl, hI, HS⟩ := hrel
        by_cases hlt : I < l.length
        · have hIl : ((I : Nat) : Int) < ((l.length : Nat) : Int) := by omega
          obtain ⟨b, off, A1, c1, A2, c2, A3, c3, rfl, hb, e0, e1, e2, e3, e4, e5, r1, r2, r3⟩ := HA.out.at_ hlt
          rw [← HS.out.bel.cell hb] at e0 e1 e2 e3 e4 e5
          have hgd : l.getD I sgnul = l[I] := by rw [List.getD_eq_getElem?_getD, List.getElem?_eq_getElem hlt]; rfl
          have hins := HOK.out.ins I hlt
          have HPJ : Hid (∀ sg : Sg, l.getD I sgnul = sg → ∀ k (hk : k < sg.joins.length), ∃ r, preE vars l l.length = (preE vars l I ++ entJ I (sg.joins.take k)) ++ (sg.joins[k].to, ((I : Nat) : Int), (-1 : Int)) :: r) := Lib.hid (fun sg e k hk => by subst e; exact preE_join (vars := vars) hlt hk)
          have HPC : Hid (∀ sg : Sg, l.getD I sgnul = sg → ∀ k (hk : k < sg.code.length), ∃ r, preE vars l l.length = (preE vars l I ++ entJ I sg.joins ++ entC I sg.code k) ++ (sg.code[k].to, ((I : Nat) : Int), ((k : Nat) : Int)) :: r) := Lib.hid (fun sg e k hk => by subst e; exact preE_step (vars := vars) hlt hk)
          have HNX : Hid (preE vars l (I + 1) = preE vars l I ++ entJ I (l.getD I sgnul).joins ++ entC I (l.getD I sgnul).code (l.getD I sgnul).code.length) := Lib.hid (by
            rw [preE_succ, List.append_assoc]
            rfl)
          have hs20 : l[I].code.length ≤ 20 := by
            have := sum_take (f := fun b => b.code.length) hlt
            have h2 := sum_take_le (f := fun b => b.code.length) (l := l) (I + 1)
            have h3 := HOK.out.steps
            unfold sumS at h3
            omega
          have hj64 : l[I].joins.length ≤ 64 := by
            have := sum_take (f := fun b => b.joins.length) hlt
            have h2 := sum_take_le (f := fun b => b.joins.length) (l := l) (I + 1)
            have h3 := HOK.out.joins
            unfold sumJ at h3
            omega
          rw [hgd] at hins
          rw [hgd] at HNX
          have Hgd := Lib.hid hgd
          clear hgd
          have H1 := Lib.hid r1
          have H2 := Lib.hid r2
          have Hin := Lib.hid hins
          have Hlt := Lib.hid hlt
          clear r1 r2 r3 hins
          generalize l[I] = sg at *
          clear hlt
          obtain ⟨js, cd, ts, th, el, ls⟩ := sg
          dsimp only at e0 e1 e2 e3 e4 e5 hs20 hj64 H1 H2 HNX
          have HPJ := Lib.hid (HPJ.out _ Hgd.out)
          have HPC := Lib.hid (HPC.out _ Hgd.out)
          dsimp only at HPJ HPC
          have HSa := Lib.hid (HS.out.alloc (.cells #[.slice A1 js.length c1, .slice A2 cd.length c2, .int .i64 ts, .int .i64 th, .int .i64 el, .slice A3 ls.length c3] 114))
          have HNB := Lib.hid (heap_alloc_new wr (.cells #[.slice A1 js.length c1, .slice A2 cd.length c2, .int .i64 ts, .int .i64 th, .int .i64 el, .slice A3 ls.length c3] 114))
          obtain ⟨PB, hPB⟩ : ∃ PB, PB = wr.heap.size := ⟨_, rfl⟩
          obtain ⟨ua, hua⟩ : ∃ ua, ua = wr.alloc (.cells #[.slice A1 js.length c1, .slice A2 cd.length c2, .int .i64 ts, .int .i64 th, .int .i64 el, .slice A3 ls.length c3] 114) := ⟨_, rfl⟩
          have hPC : PB ≠ C := by rw [hPB]; exact fun e => by have := lt_h HS.out.hC; omega
          have hPW : PB ≠ Wb := by rw [hPB]; exact fun e => by have := HS.out.mp.lt; omega
          rw [← hua] at HSa HNB
          rw [← hPB] at HNB
          have Hua := Lib.hid hua
          have HPB := Lib.hid hPB
          have HKJ0 : Hid (StS w ua M C Wb (preE vars l I ++ entJ I (js.take 0)) f) := Lib.hid (by simpa [entJ] using HSa.out)
          clear hua hPB HS HSa
          go_wp2
          rw [← HPB.out, ← Hua.out]
          go_loopw [36] (fun i wr => ∃ (k : Nat) (f : Int → Option Value), i = .int .i64 (k : Nat) ∧ k ≤ js.length ∧ Hid (StS w wr M C Wb (preE vars l I ++ entJ I (js.take k)) f) ∧ Hid (wr.heap[PB]? = some (.cells #[.slice A1 js.length c1, .slice A2 cd.length c2, .int .i64 ts, .int .i64 th, .int .i64 el, .slice A3 ls.length c3] 114 (0, 0)))) (fun i _ => js.length - (intOf i).toNat)
          case atStart => exact ⟨0, f, rfl, Nat.zero_le _, HKJ0, HNB⟩
          case round =>
            clear HKJ0 HNB e0 e1 e2 e3 e4 e5
            obtain ⟨k, f, rfl, hk, HS, HNB⟩ := hrel
            by_cases hltk : k < js.length
            · obtain ⟨b6, off6, A6, c6, rfl, hb6, g0, g1, -⟩ := H1.out.at_ hltk
              rw [← HS.out.bel.cell hb6] at g0 g1
              obtain ⟨rst, hrst⟩ := HPJ.out k hltk
              have hfr := fresh_of (by rw [← hrst]; exact HND.out)
              have hll : (preE vars l I ++ entJ I (js.take k)).length ≤ 1000 := by
                have h1 := Hlen.out
                rw [hrst, List.length_append] at h1
                omega
              have hes := entJ_succ I js hltk
              have hnm := (Hin.out.jn _ (List.getElem_mem hltk)).2.1
              have hkl : ((k : Nat) : Int) < ((js.length : Nat) : Int) := by omega
              generalize js[k] = j at *
              obtain ⟨jt, jf⟩ := j
              dsimp only at g0 g1 hfr hes hnm
              have hpc := setsC_calls (HS.out.alloc (.cells #[.int .i64 jt, .slice A6 jf.length c6] 128)) jt (I : Int) (-1) hfr (show in64 jt from ⟨by have := hnm.1; omega, by have := hnm.2; omega⟩) hll
              rw [List.append_assoc, ← hes] at hpc
              have HPc := Lib.hid hpc
              have HNBa := Lib.hid ((Below.heap_alloc wr (.cells #[.int .i64 jt, .slice A6 jf.length c6] 128) PB (lt_h HNB.out)).trans HNB.out)
              clear hpc hrst hfr hll hes hnm HS HNB
              go_wp2_with fail
              (with_reducible refine HPc.out.mono ?_)
              rintro e w7 ⟨⟨u7, rfl⟩, ⟨f7, h7⟩, hk7⟩
              have HS7 := Lib.hid h7
              have HN7 := Lib.hid ((hk7.block PB (lt_h HNBa.out) hPC hPW).trans HNBa.out)
              clear h7 hk7 HPc HNBa
              go_wp2
              go_roundw
              case rel => exact ⟨k + 1, f7, by go_num, by omega, HS7, HN7⟩
              case measure => simp [intOf]; omega
            · have : k = js.length := by omega
              subst this
              have HK0 : Hid (StS w wr M C Wb (preE vars l I ++ entJ I js ++ entC I cd 0) f) := Lib.hid (by have := HS.out; rw [List.take_length] at this; simpa [entC] using this)
              have d1 := cell_h HNB.out 1
              obtain ⟨wo, rfl⟩ : ∃ wo : World, wo = wr := ⟨_, rfl⟩
              clear HS hltk hk HNB
              go_wp2
              go_loopw [49] (fun i wr => ∃ (k : Nat) (f : Int → Option Value), i = .int .i64 (k : Nat) ∧ k ≤ cd.length ∧ Hid (StS w wr M C Wb (preE vars l I ++ entJ I js ++ entC I cd k) f)) (fun i _ => cd.length - (intOf i).toNat)
              case atStart => exact ⟨0, f, rfl, Nat.zero_le _, HK0⟩
              case round =>
                clear HK0 d1
                obtain ⟨k, f, rfl, hk, HS⟩ := hrel
                by_cases hltk : k < cd.length
                · obtain ⟨b6, off6, rfl, hb6, g0, g1, g2, g3, g4⟩ := RdSt.at5 H2.out hltk
                  rw [← HS.out.bel.cell hb6] at g0 g1 g2 g3 g4
                  obtain ⟨rst, hrst⟩ := HPC.out k hltk
                  have hfr := fresh_of (by rw [← hrst]; exact HND.out)
                  have hll : (preE vars l I ++ entJ I js ++ entC I cd k).length ≤ 1000 := by
                    have h1 := Hlen.out
                    rw [hrst, List.length_append] at h1
                    omega
                  have hes := entC_succ I cd hltk
                  have hnm := (Hin.out.st _ (List.getElem_mem hltk)).2.2.2.1
                  have hkl : ((k : Nat) : Int) < ((cd.length : Nat) : Int) := by omega
                  generalize cd[k] = sc at *
                  obtain ⟨op, tg, sa, sb, sv⟩ := sc
                  dsimp only at g0 g1 g2 g3 g4 hfr hes hnm
                  have hpc := setsC_calls (HS.out.alloc (.cells #[.int .i64 op, .int .i64 tg, .int .i64 sa, .int .i64 sb, .int .i64 sv] 87)) tg (I : Int) (k : Int) hfr (show in64 tg from ⟨by have := hnm.1; omega, by have := hnm.2; omega⟩) hll
                  rw [List.append_assoc, ← hes] at hpc
                  have HPc := Lib.hid hpc
                  clear hpc hrst hfr hll hes hnm HS
                  go_wp2_with fail
                  (with_reducible refine HPc.out.mono ?_)
                  rintro e w7 ⟨⟨u7, rfl⟩, ⟨f7, h7⟩, -⟩
                  have HS7 := Lib.hid h7
                  clear h7 HPc
                  go_wp2
                  go_roundw
                  case rel => exact ⟨k + 1, f7, by go_num, by omega, HS7⟩
                  case measure => simp [intOf]; omega
                · have : k = cd.length := by omega
                  subst this
                  have HSn : Hid (StS w wr M C Wb (preE vars l (I + 1)) f) := Lib.hid (by rw [HNX.out]; exact HS.out)
                  clear HS hltk hk
                  go_wp2
                  go_roundw
                  case rel => exact ⟨I + 1, f, by go_num, by have := Hlt.out; omega, HSn⟩
                  case measure => have := Hlt.out; simp [intOf]; omega
        · have : I = l.length := by omega
          subst this
          have cM := cell_h HS.out.hM 0
          have cC := cell_h HS.out.hC 0
          clear hlt hI
          go_wp2
          go_quiet (fail)
          go_wp2
          go_ret2
          exact ⟨⟨Wb, _, f, rfl, HS.out.mp.drewN _, HS.out.ml, by rw [HWb.out]; exact Nat.le_refl _⟩, below_dN HS.out.bel _⟩
end Go.Proofs.Ytmgejacndhnikaa
