/- link.build walked. -/
import Derived.Test.YtiphhadhbokgmaaLnkB
import Derived.Test.YtiphhadhbokgmaaEntM
import Derived.Test.YtiphhadhbokgmaaAppN
import Derived.Test.YtiphhadhbokgmaaOwn
import Derived.Deep.RegionHeld3
import Derived.BigQuiet
namespace Go.Proofs.Ytiphhadhbokgmaa
set_option maxRecDepth 100000
open Go.RowKit Go.Maps

def encI (x : Int) : Value := .int .i64 x
theorem encI_inj (x y : Int) (h : encI x = encI y) : x = y := by unfold encI at h; injection h
theorem wfI {x : Int} (h : i64In x) : (Lit.int .i64 x).wf = true := by
  have h1 : IntKind.i64.min = -9223372036854775808 := rfl
  have h2 : IntKind.i64.max = 9223372036854775807 := rfl
  unfold i64In at h
  simp only [Lit.wf, Bool.and_eq_true, decide_eq_true_eq]
  omega
theorem keyedI : Keyed Try.prog 3 := int_keyed Try.underlying3
theorem keyI {x : Int} (h : i64In x) : keyOf Try.prog 3 (encI x) = some (.int .i64 x) := keyOf_int_mk Try.underlying3 (wfI h)
theorem zeroI (w : World) : (zeroValue 3).run Try.prog w = .ok (.int .i64 0) w := by
  obtain ⟨i, hi, h0, h1, h2⟩ := info_parts infoInt
  simp [zeroValue, typeInfo, hi, h0]
def fE (L : List EntL) (g : Nat × Int → Int) (x : Int) : Option Value := (lk L x).map fun e => .int .i64 (g e)
structure TabL (w : World) (M : Nat) (V : Value) (L : List EntL) (ats : List Int) : Prop where
  hT : w.heap[M + 2]? = some (.cells #[V, .map (some M), .map (some (M + 1))] 91 (0, 0))
  at_ : OwnI w (M + 3) 3 V ats
  m1 : OwnM encI w 3 M L.length (fE L fun e => (e.1 : Int))
  m2 : OwnM encI w 3 (M + 1) L.length (fE L fun e => e.2)
def WfL (l : List Ob) : Prop := ∀ o ∈ l, (∀ h ∈ o.has, i64In h.1) ∧ (∀ h ∈ o.wants, i64In h.1) ∧ bytesOk o.bytes
theorem grown_of {w w' : World} (hb : Below w.heap.size w w') : w.grownBy w' none := ⟨hb.os, hb.tape, hb.output, hb.size, fun i hi _ => hb.block i hi⟩
theorem TabL.below {w w' : World} {M : Nat} {V : Value} {L : List EntL} {ats : List Int} (h : TabL w M V L ats) (hb : Below w.heap.size w w') : TabL w' M V L ats :=
  ⟨(hb.block _ (Array.getElem?_eq_some_iff.1 h.hT).1).trans h.hT, h.at_.below hb, h.m1.kept (grown_of hb) (by simp), h.m2.kept (grown_of hb) (by simp)⟩
def atsL (l : List Ob) (k : Nat) : List Int := (List.range k).map fun i => ((offs l i : Nat) : Int)
def BuildE (l : List Ob) (w : World) (e : Ending) (w' : World) : Prop :=
  Below w.heap.size w w' ∧ ((obErr l ≠ 0 ∧ e = .returned (.tuple #[.pointer none, .int .i64 (obErr l)])) ∨
    (OkL l ∧ ∃ M V, e = .returned (.tuple #[.pointer (some ⟨M + 2, 0, none⟩), .int .i64 0]) ∧ w.heap.size ≤ M ∧ TabL w' M V (entsL l) (atsL l l.length)))
theorem obErr_1 {l : List Ob} (h : 5 < l.length ∨ ∃ o ∈ l, bigO o = true) : obErr l = 1 := by
  unfold obErr
  by_cases h5 : 5 < l.length
  · rw [if_pos h5]
  · rw [if_neg h5, if_pos]
    obtain ⟨o, ho, hb⟩ := h.resolve_left h5
    exact List.any_eq_true.2 ⟨o, ho, hb⟩
theorem obErr_4 {l : List Ob} (h5 : ¬ 5 < l.length) (hb : ∀ o ∈ l, bigO o = false) (h : ∃ o ∈ l, placeBad o = true) : obErr l = 4 := by
  unfold obErr
  rw [if_neg h5, if_neg (by rw [Bool.not_eq_true, List.any_eq_false]; intro o ho; rw [hb o ho]; decide), if_pos]
  obtain ⟨o, ho, hp⟩ := h
  exact List.any_eq_true.2 ⟨o, ho, hp⟩
theorem obErr_3 {l : List Ob} (h5 : ¬ 5 < l.length) (hb : ∀ o ∈ l, bigO o = false) (hp : ∀ o ∈ l, placeBad o = false) (h : ¬ OnceL l) : obErr l = 3 := by
  unfold obErr
  rw [if_neg h5, if_neg (by rw [Bool.not_eq_true, List.any_eq_false]; intro o ho; rw [hb o ho]; decide), if_neg (by rw [Bool.not_eq_true, List.any_eq_false]; intro o ho; rw [hp o ho]; decide), if_neg h]
theorem obErr_0 {l : List Ob} (h5 : ¬ 5 < l.length) (hb : ∀ o ∈ l, bigO o = false) (hp : ∀ o ∈ l, placeBad o = false) (h : OnceL l) : OkL l := obErr_iff.1 (by
  unfold obErr
  rw [if_neg h5, if_neg (by rw [Bool.not_eq_true, List.any_eq_false]; intro o ho; rw [hb o ho]; decide), if_neg (by rw [Bool.not_eq_true, List.any_eq_false]; intro o ho; rw [hp o ho]; decide), if_pos h])
theorem own_ltE {α : Type} {f : α → List Value} {size base E : Nat} {w : World} {v : Value} {l : List α} (h : Own f size w base E v l) : ∀ g, v.ownBlock = some g → base ≤ g ∧ g < w.heap.size := fun g hg => World.ownsRow.lt h g hg
theorem fE_snoc {L : List EntL} {e : EntL} (g : Nat × Int → Int) (hn : lk L e.1 = none) : fE (L ++ [e]) g = putM (fE L g) e.1 (.int .i64 (g e.2)) := by
  funext x
  unfold fE putM
  rw [lk_append, lk_one]
  by_cases hx : x = e.1
  · subst hx
    rw [if_pos rfl, if_pos rfl, hn]; rfl
  · rw [if_neg hx, if_neg (fun h => hx h.symm), Option.or_none]
theorem fE_none {L : List EntL} {x : Int} (g : Nat × Int → Int) (hn : lk L x = none) : fE L g x = none := by unfold fE; rw [hn]; rfl
theorem TabL.grow {w w' : World} {M m : Nat} {V : Value} {L : List EntL} {ats : List Int} (h : TabL w M V L ats) (hg : w.grownBy w' (some m)) (hm : m = M ∨ m = M + 1) : w'.heap[M + 2]? = some (.cells #[V, .map (some M), .map (some (M + 1))] 91 (0, 0)) ∧ OwnI w' (M + 3) 3 V ats :=
  ⟨(hg.block (M + 2) (Array.getElem?_eq_some_iff.1 h.hT).1 (fun e => by injection e; omega)).trans h.hT, h.at_.kept hg (Or.inr (fun e => by have := (own_ltE h.at_ _ e).1; omega))⟩
structure PutL (w : World) (M : Nat) (V : Value) (L : List EntL) (ats : List Int) (x : Int) (i : Nat) (a : Int) (st1 st2 : Nat) (w1 w2 w3 w4 : World) : Prop where
  r1 : (Instr.mapEntry 89 (.map (some M)) (.int .i64 x)).run Try.prog w = .ok (.tuple #[.int .i64 0, goInt st1]) w1
  r2 : (Instr.entryStore 89 (.map (some M)) (goInt st1) (.int .i64 (i : Int))).run Try.prog w1 = .ok () w2
  r3 : (Instr.mapEntry 89 (.map (some (M + 1))) (.int .i64 x)).run Try.prog w2 = .ok (.tuple #[.int .i64 0, goInt st2]) w3
  r4 : (Instr.entryStore 89 (.map (some (M + 1))) (goInt st2) (.int .i64 a)).run Try.prog w3 = .ok () w4
  tab : TabL w4 M V (L ++ [(x, (i, a))]) ats
  bel : ∀ B W0, B ≤ M → Below B W0 w → Below B W0 w4
  keep : ∀ b, b < w.heap.size → b ≠ M → b ≠ M + 1 → w4.heap[b]? = w.heap[b]?
  mid : ∀ b, b < w.heap.size → b ≠ M → b ≠ M + 1 → w1.heap[b]? = w.heap[b]? ∧ w2.heap[b]? = w.heap[b]? ∧ w3.heap[b]? = w.heap[b]?
  size : w.heap.size ≤ w4.heap.size
theorem TabL.put {w : World} {M : Nat} {V : Value} {L : List EntL} {ats : List Int} (h : TabL w M V L ats) {x : Int} (i : Nat) (a : Int) (hx : i64In x) (hn : lk L x = none) (hl : L.length < maxLen) : ∃ st1 st2 w1 w2 w3 w4, PutL w M V L ats x i a st1 st2 w1 w2 w3 w4 := by
  have hM := h.m1.lt
  have hM2 := h.m2.lt
  have hT2 := (Array.getElem?_eq_some_iff.1 h.hT).1
  obtain ⟨st1, w1, w2, r1, r2, g1, m1, g2⟩ := h.m1.entry keyedI (a := x) encI_inj Try.underlying89 zeroI hl (keyI hx) (fE_none _ hn) (.int .i64 (i : Int))
  have hm2 : OwnM encI w2 3 (M + 1) L.length (fE L fun e => e.2) := h.m2.kept g2 (fun e => by injection e with e; omega)
  obtain ⟨t2, a2⟩ := h.grow g2 (.inl rfl)
  have h2' : TabL w2 M V L ats → True := fun _ => trivial
  obtain ⟨st2, w3, w4, r3, r4, g3, m2, g4⟩ := hm2.entry keyedI (a := x) encI_inj Try.underlying89 zeroI hl (keyI hx) (fE_none _ hn) (.int .i64 a)
  refine ⟨st1, st2, w1, w2, w3, w4, r1, r2, r3, r4, ⟨(g4.block (M + 2) (Array.getElem?_eq_some_iff.1 t2).1 (fun e => by injection e; omega)).trans t2, a2.kept g4 (Or.inr (fun e => by have := (own_ltE a2 _ e).1; omega)), ?_, ?_⟩, ?_, fun b hb h1 h2 => ?_, fun b hb h1 h2 => ⟨g1.block b hb (fun e => h1 (by injection e)), g2.block b hb (fun e => h1 (by injection e)), ?_⟩, Nat.le_trans g2.size g4.size⟩
  · rw [List.length_append, fE_snoc (e := (x, (i, a))) _ hn]
    exact m1.kept g4 (fun e => by injection e with e; omega)
  · rw [List.length_append, fE_snoc (e := (x, (i, a))) _ hn]
    exact m2
  · intro B W0 hB hb
    have hs := hb.size
    have b2 := hb.grown g2 (by omega) (fun k e => by injection e with e; omega)
    have := g2.size
    exact b2.grown g4 (by omega) (fun k e => by injection e with e; omega)
  · rw [g4.block b (Nat.lt_of_lt_of_le hb g2.size) (fun e => h2 (by injection e)), g2.block b hb (fun e => h1 (by injection e))]
  · rw [g3.block b (Nat.lt_of_lt_of_le hb g2.size) (fun e => h2 (by injection e)), g2.block b hb (fun e => h1 (by injection e))]
theorem TabL.look {w : World} {M : Nat} {V : Value} {L : List EntL} {ats : List Int} (h : TabL w M V L ats) {x : Int} (hx : i64In x) :
    (Instr.lookup 89 (.map (some M)) (.int .i64 x) true).run Try.prog w = .ok (.tuple #[(fE L (fun e => (e.1 : Int)) x).getD (.int .i64 0), .bool (lk L x).isSome]) w ∧
    (Instr.lookup 89 (.map (some (M + 1))) (.int .i64 x) true).run Try.prog w = .ok (.tuple #[(fE L (fun e => e.2) x).getD (.int .i64 0), .bool (lk L x).isSome]) w := by
  have e1 : ∀ g, (fE L g x).isSome = (lk L x).isSome := fun g => by unfold fE; cases lk L x <;> rfl
  have h1 := h.m1.look_ok keyedI (a := x) Try.underlying89 (zeroI w) (keyI hx)
  have h2 := h.m2.look_ok keyedI (a := x) Try.underlying89 (zeroI w) (keyI hx)
  rw [e1] at h1 h2
  exact ⟨h1, h2⟩
theorem TabL.start (w : World) : TabL (((w.alloc (.map #[] 0)).alloc (.map #[] 0)).alloc (.cells #[.slice none 0 0, .map (some w.heap.size), .map (some (w.heap.size + 1))] 91 (0, 0))) w.heap.size (.slice none 0 0) [] [] := by
  refine ⟨?_, Own.nil_ _ _ _, ?_, ?_⟩
  · have := heap_alloc_new ((w.alloc (.map #[] 0)).alloc (.map #[] 0)) (.cells #[.slice none 0 0, .map (some w.heap.size), .map (some (w.heap.size + 1))] 91 (0, 0))
    rw [World.size_alloc, World.size_alloc] at this
    exact this
  · exact ((OwnM.made encI w 3).alloc _).alloc _
  · have := OwnM.made encI (w.alloc (.map #[] 0)) 3
    rw [World.size_alloc] at this
    exact this.alloc _
def entJ (k a : Nat) (hs : List (Int × Int)) (j : Nat) : List EntL := (hs.take j).map fun h => (h.1, (k, (a : Int) + h.2))
theorem entJ_succ {k a : Nat} {hs : List (Int × Int)} {j : Nat} (hj : j < hs.length) : entJ k a hs (j + 1) = entJ k a hs j ++ [(hs[j].1, (k, (a : Int) + hs[j].2))] := by
  unfold entJ
  rw [List.take_succ_eq_append_getElem hj, List.map_append]; rfl
theorem entJ_all (k a : Nat) (o : Ob) : entJ k a o.has o.has.length = entsO k a o := by unfold entJ entsO; rw [List.take_length]
theorem entJ_zero (k a : Nat) (hs : List (Int × Int)) : entJ k a hs 0 = [] := rfl
theorem entJ_len (k a : Nat) (hs : List (Int × Int)) (j : Nat) : (entJ k a hs j).length ≤ hs.length := by unfold entJ; rw [List.length_map, List.length_take]; omega
theorem entJ_split {k a : Nat} {o : Ob} {j : Nat} (hj : j < o.has.length) : ∃ D, entsO k a o = entJ k a o.has j ++ [(o.has[j].1, (k, (a : Int) + o.has[j].2))] ++ D := by
  refine ⟨(o.has.drop (j + 1)).map fun h => (h.1, (k, (a : Int) + h.2)), ?_⟩
  rw [← entJ_succ hj]
  unfold entJ entsO
  rw [← List.map_append, List.take_append_drop]
theorem entsA_len : ∀ (l : List Ob) (i a : Nat), (∀ o ∈ l, o.has.length ≤ 12) → (entsA i a l).length ≤ 12 * l.length
  | [], _, _, _ => by simp [entsA]
  | o :: r, i, a, h => by
    have h1 := entsA_len r (i + 1) (a + o.bytes.length) (fun o' ho => h o' (List.mem_cons_of_mem _ ho))
    have h2 := h o List.mem_cons_self
    rw [entsA, List.length_append, List.length_cons]
    unfold entsO
    rw [List.length_map]
    omega
theorem lenO_le : ∀ (l : List Ob), (∀ o ∈ l, o.bytes.length ≤ 200) → lenO l ≤ 200 * l.length
  | [], _ => by simp [lenO]
  | o :: r, h => by
    have h1 := lenO_le r (fun o' ho => h o' (List.mem_cons_of_mem _ ho))
    have h2 := h o List.mem_cons_self
    show o.bytes.length + lenO r ≤ _
    rw [List.length_cons]
    omega
theorem atsL_succ (l : List Ob) (k : Nat) : atsL l (k + 1) = atsL l k ++ [((offs l k : Nat) : Int)] := by
  unfold atsL
  rw [List.range_succ, List.map_append]; rfl
theorem bigO_off {o : Ob} (h : bigO o = false) : o.bytes.length ≤ 200 ∧ o.has.length ≤ 12 ∧ o.wants.length ≤ 12 := by
  unfold bigO at h
  simp at h
  omega
theorem placeBad_has {o : Ob} (h : placeBad o = false) : ∀ p ∈ o.has, 0 ≤ p.2 ∧ p.2 ≤ o.bytes.length := by
  intro p hp
  unfold placeBad at h
  rw [Bool.or_eq_false_iff, List.any_eq_false] at h
  have := h.1 p hp
  unfold badH at this
  simp at this
  omega
theorem TabL.alloc {w : World} {M : Nat} {V : Value} {L : List EntL} {ats : List Int} (h : TabL w M V L ats) (ob : Obj) : TabL (w.alloc ob) M V L ats := h.below ((Below.refl _ _).alloc (Nat.le_refl _) ob)
theorem TabL.drew {w : World} {M : Nat} {V : Value} {L : List EntL} {ats : List Int} (h : TabL w M V L ats) : TabL w.drew M V L ats := ⟨h.hT, h.at_, h.m1, h.m2⟩
theorem TabL.drewN {w : World} {M : Nat} {V : Value} {L : List EntL} {ats : List Int} (h : TabL w M V L ats) (n : Nat) : TabL (w.drewN n) M V L ats := ⟨h.hT, h.at_, h.m1, h.m2⟩
theorem TabL.cells {w : World} {M : Nat} {V : Value} {L : List EntL} {ats : List Int} (h : TabL w M V L ats) : w.cell? ⟨M + 1 + 1, 0, none⟩ = some V ∧ w.cell? ⟨M + 1 + 1, 1, none⟩ = some (.map (some M)) ∧ w.cell? ⟨M + 1 + 1, 2, none⟩ = some (.map (some (M + 1))) ∧ w.frozen? ⟨M + 1 + 1, 0, none⟩ = false ∧ M + 2 < w.heap.size := by
  refine ⟨?_, ?_, ?_, by simp [World.frozen?, h.hT], (Array.getElem?_eq_some_iff.1 h.hT).1⟩
  · rw [cell_of_row w (M + 2) 0 _ _ _ h.hT]; rfl
  · rw [cell_of_row w (M + 2) 1 _ _ _ h.hT]; rfl
  · rw [cell_of_row w (M + 2) 2 _ _ _ h.hT]; rfl
theorem heap_setCellE (w : World) (g j : Nat) (v : Value) (cs : Array Value) (E : Nat) (h : w.heap[g]? = some (.cells cs E (0, 0))) : (w.setCell ⟨g, j, none⟩ v).heap[g]? = some (.cells (cs.setIfInBounds j v) E (0, 0)) := by
  obtain ⟨hlt, hv⟩ := Array.getElem?_eq_some_iff.1 h
  unfold World.setCell
  rw [Array.getElem?_eq_getElem (by simpa using hlt), Array.getElem_modify]
  simp [hv]
theorem grown_setCellE (w : World) (g j : Nat) (v : Value) : w.grownBy (w.setCell ⟨g, j, none⟩ v) (some g) := ⟨rfl, rfl, rfl, by simp [World.setCell], fun i _ hne => Below.heap_setCell w ⟨g, j, none⟩ v i (fun e => hne (by rw [e]))⟩
structure AppL (w w' : World) (M : Nat) (V V' : Value) (L : List EntL) (ats' : List Int) : Prop where
  tab : TabL (w'.setCell ⟨M + 1 + 1, 0, none⟩ V') M V' L ats'
  fz : w'.frozen? ⟨M + 1 + 1, 0, none⟩ = false
  cur : w'.cell? ⟨M + 1 + 1, 0, none⟩ = some V
  keep : ∀ b, b < w.heap.size → some b ≠ V.ownBlock → b ≠ M + 2 → (w'.setCell ⟨M + 1 + 1, 0, none⟩ V').heap[b]? = w.heap[b]?
  bel : ∀ B W0, B ≤ M → Below B W0 w → Below B W0 (w'.setCell ⟨M + 1 + 1, 0, none⟩ V')
theorem TabL.app {w : World} {M : Nat} {V : Value} {L : List EntL} {ats : List Int} (h : TabL w M V L ats) {w' : World} {V' : Value} {ats' : List Int} (hown : OwnI w' (M + 3) 3 V' ats') (hg : w.grownBy w' V.ownBlock) : AppL w w' M V V' L ats' := by
  have hv : ∀ g, V.ownBlock = some g → M + 3 ≤ g := fun g e => (own_ltE h.at_ g e).1
  have hv' : ∀ g, V'.ownBlock = some g → M + 3 ≤ g := fun g e => (own_ltE hown g e).1
  have hsz := (Array.getElem?_eq_some_iff.1 h.hT).1
  have hT' : w'.heap[M + 2]? = some (.cells #[V, .map (some M), .map (some (M + 1))] 91 (0, 0)) := (hg.block _ hsz (fun e => by have := hv _ e.symm; omega)).trans h.hT
  have g2 := grown_setCellE w' (M + 2) 0 V'
  refine ⟨⟨heap_setCellE w' (M + 2) 0 V' _ _ hT', hown.kept g2 (Or.inr (fun e => by have := hv' _ e; omega)), (h.m1.kept hg (fun e => by have := hv _ e.symm; omega)).kept g2 (fun e => by injection e; omega), (h.m2.kept hg (fun e => by have := hv _ e.symm; omega)).kept g2 (fun e => by injection e; omega)⟩, by simp [World.frozen?, hT'], by rw [cell_of_row w' (M + 2) 0 _ _ _ hT']; rfl, fun b hb h1 h2 => ?_, fun B W0 hB hb => ?_⟩
  · exact (g2.block b (Nat.lt_of_lt_of_le hb hg.size) (fun e => h2 (by injection e))).trans (hg.block b hb h1)
  · have hs := hg.size
    have b2 := hb.grown hg (by omega) (fun k e => by have := hv k e; omega)
    exact b2.grown g2 (by omega) (fun k e => by injection e with e; omega)
set_option maxHeartbeats 8000000 in
theorem build_calls (A : Option Addr) (l : List Ob) (cap : Nat) (w : World) (hA : RdOb w A l) (hm : l.length ≤ maxLen) (hwf : WfL l) (hml : ∀ o ∈ l, o.bytes.length ≤ maxLen ∧ o.has.length ≤ maxLen ∧ o.wants.length ≤ maxLen) :
    Calls Try.prog 35 #[.slice A l.length cap] w (BuildE l w) := by
  have HA := Lib.hid hA
  have Hml := Lib.hid hml
  have Hwf := Lib.hid hwf
  clear hA hml hwf
  unfold maxLen at hm
  have hmm := @run_makeMap Try.prog
  by_cases h5 : 5 < l.length
  · have He := Lib.hid (obErr_1 (.inl h5))
    have q1 : (5 : Int) < ((l.length : Nat) : Int) := by omega
    have q2 : decide (((l.length : Nat) : Int) > 5) = true := decide_eq_true (by omega)
    go_enter Try.func35, Try.ntmps35
    go_wp2
    go_ret2
    exact ⟨Below.refl _ _, .inl ⟨by rw [He.out]; decide, by rw [He.out]; rfl⟩⟩
  have H5 := Lib.hid h5
  have q1 : ((l.length : Nat) : Int) ≤ 5 := by omega
  have q2 : decide (((l.length : Nat) : Int) > 5) = false := decide_eq_false (by omega)
  go_enter Try.func35, Try.ntmps35
  go_wp2
  go_loopw [22] (fun i wr => ∃ k : Nat, k ≤ l.length ∧ i = .int .i64 k ∧ Hid (∀ o ∈ l.take k, bigO o = false) ∧ Hid (Below w.heap.size w wr)) (fun i _ => l.length - (intOf i).toNat)
  case atStart => exact ⟨0, Nat.zero_le _, rfl, Lib.hid (fun o ho => by simp at ho), Lib.hid (Below.refl _ _)⟩
  case round =>
    obtain ⟨k, hk, rfl, HQ, HW⟩ := hrel
    have hws := HW.out.size
    by_cases hlt : k < l.length
    · obtain ⟨b, off, A1, c1, A2, c2, A3, c3, rfl, hb, d0, d1, d2, -⟩ := RdOb.at_ (HA.out.below HW.out) hlt
      have hlt1 : ((k : Nat) : Int) < ((l.length : Nat) : Int) := by omega
      have HQn := Lib.hid (any_take hlt HQ.out)
      have hmem := List.getElem_mem hlt
      have Hbig := Lib.hid (fun h : bigO l[k] = true => obErr_1 (.inr ⟨_, hmem, h⟩))
      have HWa := Lib.hid (fun ob : Obj => HW.out.alloc hws ob)
      have HBo : Hid (bigO l[k] = decide (200 < l[k].bytes.length ∨ 12 < l[k].has.length ∨ 12 < l[k].wants.length)) := Lib.hid rfl
      clear hmem HQ
      generalize l[k] = o at *
      generalize hbig : bigO o = B at *
      clear hbig
      generalize o.bytes.length = n1 at *
      generalize o.has.length = n2 at *
      generalize o.wants.length = n3 at *
      by_cases hB : 200 < n1 ∨ 12 < n2 ∨ 12 < n3
      · have He := Lib.hid (Hbig.out (by rw [HBo.out]; exact decide_eq_true hB))
        clear Hbig HBo HQn
        have hB' : 200 < n1 ∨ (n1 ≤ 200 ∧ n2 < n3 ∧ 12 < n3) ∨ (n1 ≤ 200 ∧ n3 ≤ n2 ∧ 12 < n2) := by omega
        clear hB
        rcases hB' with hB | ⟨hB, hB2, hB3⟩ | ⟨hB, hB2, hB3⟩
        · have q3 : decide (200 < n1) = true := decide_eq_true (by omega)
          have q3' : (200 : Int) < (n1 : Int) := by omega
          go_wp2
          all_goals first
            | (exfalso; omega)
            | (go_ret2; exact ⟨HWa.out _, .inl ⟨by rw [He.out]; decide, by rw [He.out]; rfl⟩⟩)
        all_goals
          have q3 : (n1 : Int) ≤ 200 := by omega
          have q3' : decide (200 < n1) = false := decide_eq_false (by omega)
          go_wp2
          all_goals first
            | (exfalso; omega)
            | (go_ret2; exact ⟨HWa.out _, .inl ⟨by rw [He.out]; decide, by rw [He.out]; rfl⟩⟩)
      · have HQ2 := Lib.hid (HQn.out (by rw [HBo.out]; exact decide_eq_false hB))
        have hB1 : n1 ≤ 200 := by omega
        have hB2 : n2 ≤ 12 := by omega
        have hB3 : n3 ≤ 12 := by omega
        clear hB Hbig HBo HQn
        have q3 : decide (200 < n1) = false := decide_eq_false (by omega)
        go_wp2
        all_goals first
          | (exfalso; omega)
          | (go_roundw
             case rel => exact ⟨k + 1, by omega, by go_num, HQ2, Lib.hid (HWa.out _)⟩
             case measure => simp [intOf]; omega)
    · have hke : k = l.length := by omega
      subst hke
      have HBg := Lib.hid (show ∀ o ∈ l, bigO o = false from by have := HQ.out; rwa [List.take_length] at this)
      have HW1 := HW
      clear HQ HW
      go_wp2
      go_loopw [43] (fun i wr => ∃ k : Nat, k ≤ l.length ∧ i = .int .i64 k ∧ Hid (∀ o ∈ l.take k, placeBad o = false) ∧ Hid (Below w.heap.size w wr)) (fun i _ => l.length - (intOf i).toNat)
      case atStart => exact ⟨0, Nat.zero_le _, rfl, Lib.hid (fun o ho => by simp at ho), HW1⟩
      case round =>
        clear HW1 hws
        obtain ⟨k, hk, rfl, HQ, HW⟩ := hrel
        have hws := HW.out.size
        by_cases hlt : k < l.length
        · obtain ⟨b, off, A1, c1, A2, c2, A3, c3, rfl, hb, d0, d1, d2, hR1, hR2, hR3⟩ := RdOb.at_ (HA.out.below HW.out) hlt
          have hlt1 : ((k : Nat) : Int) < ((l.length : Nat) : Int) := by omega
          have HQn := Lib.hid (any_take hlt HQ.out)
          have hmem := List.getElem_mem hlt
          have Hbig := Lib.hid (fun h : placeBad l[k] = true => obErr_4 H5.out HBg.out ⟨_, hmem, h⟩)
          have HWa := Lib.hid (fun ob : Obj => HW.out.alloc hws ob)
          obtain ⟨m1, m2, m3⟩ := Hml.out _ hmem
          have Hpl := Lib.hid (fun ob : Obj => places_calls l[k] A1 A2 A3 c1 c2 c3 (wr.alloc ob) (Rd.below hR2 ((Below.refl _ _).alloc (Nat.le_refl _) ob)) (Rd.below hR3 ((Below.refl _ _).alloc (Nat.le_refl _) ob)) m1 m2 m3)
          clear hmem HQ hR1 hR2 hR3
          generalize l[k] = o at *
          by_cases hB : placeBad o = true
          · have He := Lib.hid (Hbig.out hB)
            rw [if_pos hB] at Hpl
            clear Hbig HQn hB
            go_wp2_with (go_at_call 38; with_reducible refine (Hpl.out _).mono ?_; rintro e w5 ⟨rfl, hb5⟩; have HW5 := Lib.hid ((HWa.out _).trans (hb5.mono (HWa.out _).size)); clear hb5)
            go_ret2
            exact ⟨HW5.out, .inl ⟨by rw [He.out]; decide, by rw [He.out]; rfl⟩⟩
          · have hB2 : placeBad o = false := by simpa using hB
            have HQ2 := Lib.hid (HQn.out hB2)
            rw [if_neg hB] at Hpl
            clear Hbig HQn hB hB2
            go_wp2_with (go_at_call 38; with_reducible refine (Hpl.out _).mono ?_; rintro e w5 ⟨rfl, hb5⟩; have HW5 := Lib.hid ((HWa.out _).trans (hb5.mono (HWa.out _).size)); clear hb5)
            go_roundw
            case rel => exact ⟨k + 1, by omega, by go_num, HQ2, HW5⟩
            case measure => simp [intOf]; omega
        · have hke : k = l.length := by omega
          subst hke
          have HPb := Lib.hid (show ∀ o ∈ l, placeBad o = false from by have := HQ.out; rwa [List.take_length] at this)
          have HW2 := HW
          clear HQ HW
          go_wp2
          clear hmm
          have HT0 := Lib.hid (TabL.start wr)
          have HB0 : Hid (Below w.heap.size w (((wr.alloc (.map #[] 0)).alloc (.map #[] 0)).alloc (.cells #[.slice none 0 0, .map (some wr.heap.size), .map (some (wr.heap.size + 1))] 91 (0, 0)))) := Lib.hid (((HW2.out.alloc hws _).alloc (by rw [World.size_alloc]; omega) _).alloc (by rw [World.size_alloc, World.size_alloc]; omega) _)
          have hMw : w.heap.size ≤ wr.heap.size := hws
          clear HW2 hws
          obtain ⟨wz, hwz⟩ : ∃ wz, wz = ((wr.alloc (.map #[] 0)).alloc (.map #[] 0)).alloc (.cells #[.slice none 0 0, .map (some wr.heap.size), .map (some (wr.heap.size + 1))] 91 (0, 0)) := ⟨_, rfl⟩
          have Hwz := Lib.hid hwz
          rw [← hwz] at HT0 HB0
          clear hwz
          rw [← Hwz.out]
          clear Hwz
          generalize wr.heap.size = M at *
          trace_state
          go_loopw [10, 59] (fun at_ i wr => ∃ (k : Nat) (V : Value), k ≤ l.length ∧ at_ = .int .i64 ((offs l k : Nat) : Int) ∧ i = .int .i64 k ∧ Hid (TabL wr M V (entsL (l.take k)) (atsL l k)) ∧ Hid (OnceL (l.take k)) ∧ Hid (Below w.heap.size w wr)) (fun _ i _ => l.length - (intOf i).toNat)
          case atStart => exact ⟨0, _, Nat.zero_le _, rfl, rfl, HT0, Lib.hid (by unfold OnceL; rw [List.take_zero]; exact List.nodup_nil), HB0⟩
          case round =>
            clear HT0 HB0
            obtain ⟨k, V, hk, rfl, rfl, HT, HN, HW⟩ := hrel
            have hws := HW.out.size
            by_cases hlt : k < l.length
            · obtain ⟨b, off, A1, c1, A2, c2, A3, c3, rfl, hb, d0, d1, d2, hR1, hR2, hR3⟩ := RdOb.at_ HA.out hlt
              rw [← HW.out.cell hb] at d0 d1 d2
              have hlt1 : ((k : Nat) : Int) < ((l.length : Nat) : Int) := by omega
              have hmem := List.getElem_mem hlt
              have HES := Lib.hid (entsL_succ hlt)
              have HSp := Lib.hid (entsL_split hlt)
              have HOf := Lib.hid (offs_succ hlt)
              have HAt := Lib.hid (atsL_succ l k)
              obtain ⟨z1, z2, z3⟩ := bigO_off (HBg.out _ hmem)
              have HPl := Lib.hid (placeBad_has (HPb.out _ hmem))
              have hof : offs l k ≤ 1000 := by
                have := lenO_le (l.take k) (fun o ho => (bigO_off (HBg.out _ (List.mem_of_mem_take ho))).1)
                rw [List.length_take] at this
                unfold offs
                omega
              have hln : (entsL (l.take k)).length ≤ 60 := by
                have := entsA_len (l.take k) 0 0 (fun o ho => (bigO_off (HBg.out _ (List.mem_of_mem_take ho))).2.1)
                rw [List.length_take] at this
                unfold entsL
                omega
              have HWf := Lib.hid (Hwf.out _ hmem).1
              clear hmem
              generalize l[k] = o at *
              generalize offs l k = a at *
              have hatk : (atsL l k).length = k := by unfold atsL; rw [List.length_map, List.length_range]
              generalize atsL l k = ats at *
              generalize hLk : entsL (l.take k) = Lk at *
              have hLk' := Lib.hid hLk
              clear hLk
              go_wp2
              obtain ⟨G, hG⟩ : ∃ G, G = wr.heap.size := ⟨_, rfl⟩
              have HTa := Lib.hid (HT.out.alloc (.cells #[.slice A1 o.bytes.length c1, .slice A2 o.has.length c2, .slice A3 o.wants.length c3] 64))
              have HWa := Lib.hid (HW.out.alloc hws (.cells #[.slice A1 o.bytes.length c1, .slice A2 o.has.length c2, .slice A3 o.wants.length c3] 64))
              have HBx := Lib.hid (heap_alloc_new wr (.cells #[.slice A1 o.bytes.length c1, .slice A2 o.has.length c2, .slice A3 o.wants.length c3] 64))
              have HVG : Hid (V.ownBlock ≠ some G) := Lib.hid (fun e => by have := (own_ltE HT.out.at_ _ e).2; omega)
              have hatl : ats.length = k := hatk
              have HGM : Hid (M + 2 < G) := Lib.hid (by rw [hG]; exact HT.out.cells.2.2.2.2)
              rw [← hG] at HBx ⊢
              clear HT HW hG hws d0 d1 d2
              obtain ⟨wy, hwy⟩ : ∃ wy, wy = wr.alloc (.cells #[.slice A1 o.bytes.length c1, .slice A2 o.has.length c2, .slice A3 o.wants.length c3] 64) := ⟨_, rfl⟩
              rw [← hwy] at HTa HWa HBx ⊢
              clear hwy
              trace_state
              go_loopw [67] (fun j wi => ∃ (jn : Nat), jn ≤ o.has.length ∧ j = .int .i64 jn ∧ Hid (TabL wi M V (Lk ++ entJ k a o.has jn) ats) ∧ Hid (((Lk ++ entJ k a o.has jn).map (·.1)).Nodup) ∧ Hid (Below w.heap.size w wi) ∧ Hid (wi.heap[G]? = some (.cells #[.slice A1 o.bytes.length c1, .slice A2 o.has.length c2, .slice A3 o.wants.length c3] 64 (0, 0)))) (fun j _ => o.has.length - (intOf j).toNat)
              case atStart => exact ⟨0, Nat.zero_le _, rfl, by rw [entJ_zero, List.append_nil]; exact HTa, by rw [entJ_zero, List.append_nil, ← hLk'.out]; exact HN, HWa, HBx⟩
              case round =>
                clear HTa HWa HBx
                obtain ⟨j, hj, rfl, HT, HNd, HW, HBx⟩ := hrel
                by_cases hlj : j < o.has.length
                · obtain ⟨b2, o2, rfl, hb2, e0, e1⟩ := RdP.at2 (hR2.below HW.out) hlj
                  have hlj1 : ((j : Nat) : Int) < ((o.has.length : Nat) : Int) := by omega
                  have hpm := List.getElem_mem hlj
                  obtain ⟨p0, p1⟩ := HPl.out _ hpm
                  have hwx := HWf.out _ hpm
                  have HJs := Lib.hid (entJ_succ (k := k) (a := a) hlj)
                  have HJp := Lib.hid (entJ_split (k := k) (a := a) hlj)
                  have hjl := entJ_len k a o.has j
                  clear hpm
                  generalize o.has[j] = h at *
                  obtain ⟨x, y⟩ := h
                  dsimp only at e0 e1 p0 p1 hwx HJs HJp
                  go_wp2
                  obtain ⟨P, hP⟩ : ∃ P, P = wr.heap.size := ⟨_, rfl⟩
                  have HT1 := Lib.hid (HT.out.alloc (.cells #[.int .i64 x, .int .i64 y] 65))
                  have HW1 := Lib.hid (HW.out.alloc HW.out.size (.cells #[.int .i64 x, .int .i64 y] 65))
                  have HBx1 := Lib.hid ((Below.heap_alloc wr (.cells #[.int .i64 x, .int .i64 y] 65) _ (Array.getElem?_eq_some_iff.1 HBx.out).1).trans HBx.out)
                  have HP0 := Lib.hid (heap_alloc_new wr (.cells #[.int .i64 x, .int .i64 y] 65))
                  rw [← hP] at HP0 ⊢
                  have HMP : Hid (M + 2 < P) := Lib.hid (by rw [hP]; exact HT.out.cells.2.2.2.2)
                  have HGP : Hid (G < P) := Lib.hid (by rw [hP]; exact (Array.getElem?_eq_some_iff.1 HBx.out).1)
                  clear HT HW HBx hP e0 e1
                  obtain ⟨wy, hwy⟩ : ∃ wy, wy = wr.alloc (.cells #[.int .i64 x, .int .i64 y] 65) := ⟨_, rfl⟩
                  rw [← hwy] at HT1 HW1 HBx1 HP0 ⊢
                  clear hwy
                  have f0 : wy.cell? ⟨P, 0, none⟩ = some (.int .i64 x) := by rw [cell_of_row wy P 0 _ _ _ HP0.out]; rfl
                  have f1 : wy.cell? ⟨P, 1, none⟩ = some (.int .i64 y) := by rw [cell_of_row wy P 1 _ _ _ HP0.out]; rfl
                  obtain ⟨t0, t1, t2, tf, -⟩ := HT1.out.cells
                  have hlk := fun nq => ((HT1.out.drewN nq).look hwx).1
                  by_cases hno : lk (Lk ++ entJ k a o.has j) x = none
                  · rw [hno] at hlk
                    unfold fE at hlk
                    rw [hno] at hlk
                    change ∀ nq, (Instr.lookup 89 (.map (some M)) (.int .i64 x) true).run Try.prog (wy.drewN nq) = .ok (.tuple #[.int .i64 0, .bool false]) (wy.drewN nq) at hlk
                    go_quiet (fail)
                    have HT2 := Lib.hid (HT1.out.drewN nq)
                    have HW2 := Lib.hid (below_dN HW1.out nq)
                    have HBx2 : Hid ((wy.drewN nq).heap[G]? = some (.cells #[.slice A1 o.bytes.length c1, .slice (some ⟨b2, o2, none⟩) o.has.length c2, .slice A3 o.wants.length c3] 64 (0, 0))) := HBx1
                    have HP2 : Hid ((wy.drewN nq).heap[P]? = some (.cells #[.int .i64 x, .int .i64 y] 65 (0, 0))) := HP0
                    clear HT1 HW1 HBx1 HP0 f0 f1 t0 t1 t2 tf hlk
                    generalize wy.drewN nq = wd at *
                    obtain ⟨st1, st2, v1, v2, v3, v4, hpu⟩ := HT2.out.drew.put k ((a : Int) + y) hwx hno (by rw [List.length_append]; unfold maxLen; omega)
                    have HPu := Lib.hid hpu
                    have r1 := hpu.r1
                    have r2 := hpu.r2
                    have r3 := hpu.r3
                    have r4 := hpu.r4
                    unfold goInt at r1 r2 r3 r4
                    have hPl : P < wd.heap.size := (Array.getElem?_eq_some_iff.1 HP2.out).1
                    obtain ⟨t0, t1, t2, tf, tz⟩ := HT2.out.drew.cells
                    have f0 : wd.drew.cell? ⟨P, 0, none⟩ = some (.int .i64 x) := by rw [cell_of_row wd.drew P 0 _ _ _ HP2.out]; rfl
                    have f1 : wd.drew.cell? ⟨P, 1, none⟩ = some (.int .i64 y) := by rw [cell_of_row wd.drew P 1 _ _ _ HP2.out]; rfl
                    have hS0 : Hid (wd.drew.cell? ⟨M + 1 + 1, 1, none⟩ = some (.map (some M)) ∧ wd.drew.cell? ⟨M + 1 + 1, 2, none⟩ = some (.map (some (M + 1))) ∧ wd.drew.cell? ⟨P, 0, none⟩ = some (.int .i64 x) ∧ wd.drew.cell? ⟨P, 1, none⟩ = some (.int .i64 y)) := Lib.hid ⟨t1, t2, f0, f1⟩
                    have hSw : Hid (∀ w' : World, w'.heap[M + 2]? = wd.drew.heap[M + 2]? → w'.heap[P]? = wd.drew.heap[P]? → w'.cell? ⟨M + 1 + 1, 1, none⟩ = some (.map (some M)) ∧ w'.cell? ⟨M + 1 + 1, 2, none⟩ = some (.map (some (M + 1))) ∧ w'.cell? ⟨P, 0, none⟩ = some (.int .i64 x) ∧ w'.cell? ⟨P, 1, none⟩ = some (.int .i64 y)) := Lib.hid (fun w' e1 e2 => by
                      refine ⟨?_, ?_, ?_, ?_⟩
                      · rw [cell_of_row w' (M + 2) 1 _ _ _ (e1.trans HT2.out.hT)]; rfl
                      · rw [cell_of_row w' (M + 2) 2 _ _ _ (e1.trans HT2.out.hT)]; rfl
                      · rw [cell_of_row w' P 0 _ _ _ (e2.trans HP2.out)]; rfl
                      · rw [cell_of_row w' P 1 _ _ _ (e2.trans HP2.out)]; rfl)
                    have hT1 := hpu.mid (M + 2) tz (by omega) (by omega)
                    have hT4 := hpu.keep (M + 2) tz (by omega) (by omega)
                    have hP1 := hpu.mid P hPl (by have := HMP.out; omega) (by have := HMP.out; omega)
                    have hP4 := hpu.keep P hPl (by have := HMP.out; omega) (by have := HMP.out; omega)
                    have hS1 := Lib.hid (hSw.out v1 hT1.1 hP1.1)
                    have hS2 := Lib.hid (hSw.out v2 hT1.2.1 hP1.2.1)
                    have hS3 := Lib.hid (hSw.out v3 hT1.2.2 hP1.2.2)
                    have hS4 := Lib.hid (hSw.out v4 hT4 hP4)
                    clear hSw hT1 hT4 hP1 hP4 hpu tz hPl t0 t1 t2 tf f0 f1
                    have u3 : IntKind.i64.wrap ((a : Int) + y) = (a : Int) + y := IntWalk.i64_in _ (by omega)
                    go_wp2
                    go_region_held3 (fun w' => w'.cell? ⟨M + 1 + 1, 1, none⟩ = some (.map (some M)) ∧ w'.cell? ⟨M + 1 + 1, 2, none⟩ = some (.map (some (M + 1))) ∧ w'.cell? ⟨P, 0, none⟩ = some (.int .i64 x) ∧ w'.cell? ⟨P, 1, none⟩ = some (.int .i64 y))
                      (with_reducible first | exact hS0.out | exact hS1.out | exact hS2.out | exact hS3.out | exact hS4.out | assumption)
                      (fail)
                    all_goals
                      clear r1 r2 r3 r4
                      have HT4 : Hid (TabL v4 M V (Lk ++ entJ k a o.has (j + 1)) ats) := Lib.hid (by rw [HJs.out, ← List.append_assoc]; exact HPu.out.tab)
                      have HN4 : Hid (((Lk ++ entJ k a o.has (j + 1)).map (·.1)).Nodup) := Lib.hid (by rw [HJs.out, ← List.append_assoc]; exact once_succ HNd.out hno)
                      have HW4 := Lib.hid (HPu.out.bel _ _ hMw HW2.out.drew)
                      have HBx4 := Lib.hid ((HPu.out.keep G (Array.getElem?_eq_some_iff.1 HBx2.out).1 (by have := HGM.out; omega) (by have := HGM.out; omega)).trans HBx2.out)
                      go_wp2
                      go_roundw
                      case rel => exact ⟨j + 1, by omega, by go_num, HT4, HN4, HW4, HBx4⟩
                      case measure => simp [intOf]; omega
                  · have HE3 := Lib.hid (obErr_3 H5.out HBg.out HPb.out (by
                      obtain ⟨M', e⟩ := HSp.out
                      obtain ⟨D, e2⟩ := HJp.out
                      unfold OnceL
                      rw [e, e2, show Lk ++ (entJ k a o.has j ++ [(x, (k, (a : Int) + y))] ++ D) ++ M' = (Lk ++ entJ k a o.has j) ++ [(x, (k, (a : Int) + y))] ++ (D ++ M') by simp only [List.append_assoc]]
                      exact not_once (e := (x, (k, (a : Int) + y))) hno))
                    obtain ⟨v, hv⟩ := Option.ne_none_iff_exists'.1 hno
                    unfold fE at hlk
                    rw [hv] at hlk
                    change ∀ nq, (Instr.lookup 89 (.map (some M)) (.int .i64 x) true).run Try.prog (wy.drewN nq) = .ok (.tuple #[.int .i64 (v.1 : Nat), .bool true]) (wy.drewN nq) at hlk
                    go_quiet (fail)
                    have HW2 := Lib.hid (below_dN HW1.out nq)
                    clear HT1 HW1 HBx1 HP0 f0 f1 t0 t1 t2 tf hlk
                    go_wp2
                    go_ret2
                    exact ⟨HW2.out, .inl ⟨by rw [HE3.out]; decide, by rw [HE3.out]; rfl⟩⟩
                · have hje : j = o.has.length := by omega
                  subst hje
                  have HT5 : Hid (TabL wr M V (entsL (l.take (k + 1))) ats) := Lib.hid (by rw [HES.out, ← entJ_all]; exact HT.out)
                  have HN5 : Hid (OnceL (l.take (k + 1))) := Lib.hid (by unfold OnceL; rw [HES.out, ← entJ_all]; exact HNd.out)
                  have hTa := HT5.out.alloc (.cells #[.int .i64 (a : Int)] 3)
                  have hWa := HW.out.alloc HW.out.size (.cells #[.int .i64 (a : Int)] 3)
                  have hBa := (Below.heap_alloc wr (.cells #[.int .i64 (a : Int)] 3) _ (Array.getElem?_eq_some_iff.1 HBx.out).1).trans HBx.out
                  have hGl : G < (wr.alloc (.cells #[.int .i64 (a : Int)] 3)).heap.size := (Array.getElem?_eq_some_iff.1 hBa).1
                  have hrd : Rd intCells 1 (wr.alloc (.cells #[.int .i64 (a : Int)] 3)) (some ⟨wr.heap.size, 0, none⟩) [(a : Int)] := rdI_new1 wr (a : Int) _ _ rfl
                  obtain ⟨V', w', hrun, hown, hgrow, hat⟩ := run_appN (P := Try.prog) 23 23 intCells 1 8 3 (.int .i64 0) Try.underlying23 infoInt rfl (by decide) intCells_len intCells_one (M + 3) V ats hTa.at_ (some ⟨wr.heap.size, 0, none⟩) [(a : Int)] 1 hrd (by rw [hatl]; unfold maxLen; simp; omega) (by rw [hatl]; simp; omega) (by have := hTa.cells.2.2.2.2; omega)
                  obtain ⟨Av, cv, rfl, -⟩ := Own.form intCells_len hown
                  obtain ⟨nv, hnv⟩ : ∃ nv, nv = (ats ++ [(a : Int)]).length := ⟨_, rfl⟩
                  rw [← hnv] at hown hrun
                  obtain ⟨tab, fz, cur, keep, bel⟩ := hTa.app hown hgrow
                  have HT6 : Hid (TabL (w'.setCell ⟨M + 1 + 1, 0, none⟩ (.slice Av nv cv)) M (.slice Av nv cv) (entsL (l.take (k + 1))) (atsL l (k + 1))) := Lib.hid (by rw [HAt.out]; exact tab)
                  have HW6 := Lib.hid (bel _ _ hMw hWa)
                  have hB6 := (keep G hGl (fun e => HVG.out e.symm) (by have := HGM.out; omega)).trans hBa
                  have g6 : (w'.setCell ⟨M + 1 + 1, 0, none⟩ (.slice Av nv cv)).cell? ⟨G, 0, none⟩ = some (.slice A1 o.bytes.length c1) := by rw [cell_of_row _ G 0 _ _ _ hB6]; rfl
                  have t0 := HT5.out.cells.1
                  have u3 : IntKind.i64.wrap ((a : Int) + (o.bytes.length : Int)) = (a : Int) + (o.bytes.length : Int) := IntWalk.i64_in _ (by omega)
                  clear hnv HT HNd HW HBx HT5 hTa hWa hBa hGl hrd hown hgrow hat tab keep bel hB6
                  have Hrun := Lib.hid hrun
                  clear hrun
                  go_wp2_with (at_builtin; refine wpList_app_run rfl 23 _ _ rfl rfl rfl Hrun.out ?_)
                  go_roundw
                  case rel => exact ⟨k + 1, _, by omega, by rw [HOf.out]; go_num, by go_num, HT6, HN5, HW6⟩
                  case measure => simp [intOf]; omega
            · have hke : k = l.length := by omega
              subst hke
              have HOk := Lib.hid (obErr_0 H5.out HBg.out HPb.out (by have := HN.out; rwa [List.take_length] at this))
              rw [List.take_length] at HT
              go_wp2
              go_ret2
              exact ⟨HW.out, .inr ⟨HOk.out, M, V, rfl, hMw, HT.out⟩⟩
end Go.Proofs.Ytiphhadhbokgmaa
