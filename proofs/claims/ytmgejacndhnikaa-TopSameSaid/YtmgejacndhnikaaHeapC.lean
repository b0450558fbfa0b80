/- Loops of which a round may leave a mark among the deferred calls: the frame by its slots; the way out with many marks. Program-independent. -/
import Derived.Test.YtmgejacndhnikaaRound
import Derived.Deep.LoopGhost
import Derived.Test.YtmgejacndhnikaaTrimP
import Derived.Test.YtmgejacndhnikaaLivB
import Derived.Test.YtmgejacndhnikaaBackS
namespace Go.Proofs.Ytmgejacndhnikaa
open Go.RowKit

/-- The frame whose slots from m on hold what f says. -/
def frm (t : Array Value) (m : Nat) (f : Nat → Value) : Array Value := (t.toList.take m ++ (List.range' m (t.size - m)).map f).toArray
theorem frm_self {t t0 : Array Value} {m : Nat} (hs : t.size = t0.size) (hm : t.toList.take m = t0.toList.take m) : t = frm t0 m (fun i => t.getD i undef) := by
  apply Array.toList_inj.1
  unfold frm
  rw [← hm, ← hs]
  show t.toList = t.toList.take m ++ _
  refine (List.take_append_drop m t.toList).symm.trans ?_
  congr 1
  apply List.ext_getElem
  · simp
  · intro k h1 h2
    rw [List.getElem_drop, List.getElem_map, List.getElem_range']
    have h3 : m + k < t.size := by simp at h1; omega
    simp [Array.getD, h3]
/-- A loop: the relation speaks of a number, of what each slot from m on holds, of the deferred calls, of the world. -/
theorem wp_loop_slots {P : Program} {Q : Exit → Act → World → Prop} {t0 : Array Value} {ds0 : List Deferred} {w : World} {c : Code} (m : Nat) (I : Nat → (Nat → Value) → List Deferred → World → Prop) (n₀ : Nat)
    (h₀ : I n₀ (fun i => t0.getD i undef) ds0 w)
    (round : ∀ n f ds w, I n f ds w → ∀ (J : Nat → Act → World → Prop) (K : Act → World → Prop), (∀ k a' w', I k (fun i => a'.tmps.getD i undef) a'.defers w' → a'.tmps.size = t0.size → a'.tmps.toList.take m = t0.toList.take m → J k a' w') → (∀ a' w', Handed J n a' w' → K a' w') →
      c.wp P (Exit.then K Q) { tmps := frm t0 m f, defers := ds } w) : (Code.loop c).wp P Q { tmps := t0, defers := ds0 } w :=
  wp_loop_ghost_k (fun n a w => I n (fun i => a.tmps.getD i undef) a.defers w ∧ a.tmps.size = t0.size ∧ a.tmps.toList.take m = t0.toList.take m) n₀ ⟨h₀, rfl, rfl⟩ (fun n a w h J K hJ hK => by
    obtain ⟨t, ds⟩ := a
    obtain ⟨h1, h2, h3⟩ := h
    dsimp only at h1 h2 h3 ⊢
    rw [frm_self h2 h3]
    exact round n _ ds w h1 J K (fun k a' w' g1 g2 g3 => hJ k a' w' ⟨g1, g2, g3⟩) hK)

/-- 'wp_rangeFunc' where what each round leaves of the frame is told by the frame ahead of it. -/
theorem wp_rangeFuncT {P : Program} {Q : Exit → Act → World → Prop} {T : Array Value} {ds : List Deferred} {w : World} {α : Type} {g : Operand} {ps : Array Tmp} {assign body : Code} {gf : Nat} {lb : Array Value} (hg : ({ tmps := T, defers := ds } : Act).eval g = .func (.func gf) #[] lb) (eg : ∀ args w, (callFunc gf args).run P w = .ok (.enter gf args) w)
    {encs : α → Array Value} {n₀ Bs : Nat} {S Sp : List α → Prop} {N : Nat} (hseq : SeqStopsK Fence.wide 2 P gf lb encs (KpB n₀ Bs) S Sp N w) (hn : n₀ ≤ w.heap.size) (hps : ∀ x, (encs x).size = ps.size)
    (I : List α → World → Prop) (hI : OwnFrom w.heap.size I) (h0 : I [] w) (Ax : Array Value → α → Act → World → Prop) (hAx : ∀ x a', OwnFrom w.heap.size (fun (_ : Unit) W => Ax T x a' W))
    (hassign : ∀ (l : Nat) (pre : List α) (x : α) (W : World) (K : Act → World → Prop), I pre W → (∀ a' W', KeepsFrom w.heap.size W W' → KpB n₀ Bs W W' → I pre W' → Ax T x a' W' → K a' W') →
      assign.wpIn (Fence.wide.inRound l) 1 P (Exit.then K (fun _ _ _ => False)) { tmps := (ps.zip (encs x)).foldl (fun t (p, v) => t.setIfInBounds p v) T, defers := [] } W)
    (hbody : ∀ (l : Nat) (pre : List α) (x : α) (a' : Act) (W : World), w.heap.size ≤ l → I pre W → Ax T x a' W → pre.length < N → body.wpIn (Fence.wide.inRound l) 1 P (ownPostG w.heap.size (KpB n₀ Bs) I (fun _ _ _ => False) (pre ++ [x]) W) a' W)
    (hdone : ∀ (D : Nat) (xs : List α) (W : World), w.heap.size ≤ D → S xs → I xs W → W.heap[D]? = some (.deferred (some [])) → Q .normal { tmps := T, defers := { target := .collected D, args := #[] } :: ds } W) :
    (Code.rangeFunc g ps assign body).wp P Q { tmps := T, defers := ds } w :=
  wp_rangeFunc hg eg hseq hn hps I (fun _ _ _ => False) hI (fun _ _ _ _ _ hs _ _ => hs) h0 (Ax T) hAx hassign hbody hdone (fun _ _ _ _ _ _ h _ => h.elim)

def mkD (D : Nat) : Deferred := { target := .collected D, args := #[] }
/-- Marks, each of a block of its own from B on. -/
def Marks (B : Nat) (ds : List Deferred) (W : World) : Prop := ∃ Ds : List Nat, ds = Ds.map mkD ∧ Ds.Nodup ∧ ∀ D ∈ Ds, B ≤ D ∧ W.heap[D]? = some (.deferred (some []))
theorem Marks.nil (B : Nat) (W : World) : Marks B [] W := ⟨[], rfl, List.nodup_nil, fun _ h => by cases h⟩
theorem Marks.from {B B' : Nat} {ds : List Deferred} {W W' : World} (h : Marks B ds W) (hk : KeepsFrom B' W W') (hB : B' ≤ B) : Marks B ds W' := by
  obtain ⟨Ds, h1, h2, h3⟩ := h
  exact ⟨Ds, h1, h2, fun D hD => ⟨(h3 D hD).1, hk.same D _ (Nat.le_trans hB (h3 D hD).1) (h3 D hD).2 rfl⟩⟩
theorem Marks.others {B : Nat} {ds : List Deferred} {W W' : World} (h : Marks B ds W) (hk : KeepsOthers W W') : Marks B ds W' := h.from (hk.from 0) (Nat.zero_le _)
theorem Marks.below {B : Nat} {ds : List Deferred} {W W' : World} (h : Marks B ds W) (hb : Below W.heap.size W W') : Marks B ds W' := by
  obtain ⟨Ds, h1, h2, h3⟩ := h
  exact ⟨Ds, h1, h2, fun D hD => ⟨(h3 D hD).1, (hb.block D (Array.getElem?_eq_some_iff.1 (h3 D hD).2).1).trans (h3 D hD).2⟩⟩
theorem Marks.cons {B : Nat} {ds : List Deferred} {W0 W : World} {D : Nat} (h0 : Marks B ds W0) (h : Marks B ds W) (hB : B ≤ W0.heap.size) (hD : W0.heap.size ≤ D) (hW : W.heap[D]? = some (.deferred (some []))) : Marks B ({ target := .collected D, args := #[] } :: ds) W := by
  obtain ⟨Ds, h1, h2, h3⟩ := h0
  obtain ⟨Es, g1, g2, g3⟩ := h
  have e : Es = Ds := by
    have e : Ds.map mkD = Es.map mkD := h1.symm.trans g1
    have inj : ∀ (a b : List Nat), a.map mkD = b.map mkD → b = a := fun a => by
      induction a with
      | nil => intro b hb; cases b with | nil => rfl | cons _ _ => cases hb
      | cons x a ih =>
        intro b hb
        cases b with
        | nil => cases hb
        | cons y b =>
          rw [List.map_cons, List.map_cons] at hb
          injection hb with hb1 hb2
          rw [ih b hb2]
          have : (Target.collected x) = Target.collected y := congrArg Deferred.target hb1
          injection this with this
          rw [this]
    exact inj _ _ e
  subst e
  refine ⟨D :: Es, by rw [List.map_cons, ← g1]; rfl, List.nodup_cons.2 ⟨fun hm => ?_, g2⟩, fun k hk => ?_⟩
  · have := (Array.getElem?_eq_some_iff.1 (h3 D hm).2).1
    omega
  · rcases List.mem_cons.1 hk with rfl | hk
    · exact ⟨by omega, hW⟩
    · exact g3 k hk
/-- What the way out turns: marks' blocks, from B on. -/
structure Shut (B : Nat) (w w' : World) : Prop where
  os : w'.os = w.os
  tape : w'.tape = w.tape
  output : w'.output = w.output
  size : w'.heap.size = w.heap.size
  block : ∀ k, (k < B ∨ w.heap[k]? ≠ some (.deferred (some []))) → w'.heap[k]? = w.heap[k]?
theorem Shut.refl (B : Nat) (w : World) : Shut B w w := ⟨rfl, rfl, rfl, rfl, fun _ _ => rfl⟩
theorem Shut.below {B : Nat} {w w' : World} (h : Shut B w w') : Below B w w' := ⟨h.os, h.tape, h.output, by rw [h.size]; exact Nat.le_refl _, fun k hk => h.block k (.inl hk)⟩
theorem Shut.own {α : Type} {f : α → List Value} {size base E B : Nat} {v : Value} {l : List α} {w w' : World} (hs : Shut B w w') (h : Own f size w base E v l) : Own f size w' base E v l := by
  refine ⟨h.1, ?_⟩
  rcases h.2 with h0 | ⟨g, cap, cur, h1, h2, h3, h4⟩
  · exact .inl h0
  · exact .inr ⟨g, cap, cur, h1, h2, (hs.block g (.inr (by rw [h3]; simp))).trans h3, h4⟩
theorem marks_all {P : Program} {fn : Func} {tmps : Array Value} {R : Ending → World → Prop} {B : Nat} {ds : List Deferred} {w : World} (hM : Marks B ds w)
    (h : ∀ W', Shut B w W' → ∃ v, (results fn tmps).run P W' = .ok v W' ∧ R (.returned v) W') : LeavesInM Fence.wide 3 P fn tmps R ds .returning w := by
  obtain ⟨Ds, rfl, h2, h3⟩ := hM
  induction Ds generalizing w with
  | nil => exact h w (Shut.refl _ _)
  | cons D Ds ih =>
    have hD := h3 D (by simp)
    rw [List.nodup_cons] at h2
    refine ⟨by simp, .inl ⟨D, _, rfl, run_takeDeferred hD.2, ih (fun W' hS => h W' ?_) h2.2 (fun E hE => ?_)⟩⟩
    · have hg := grownBy_putObj' w D (.deferred none)
      refine ⟨hS.os.trans hg.os, hS.tape.trans hg.tape, hS.output.trans hg.output, by rw [hS.size]; simp [World.putObj], fun k hk => ?_⟩
      have hne : D ≠ k := by
        rintro rfl
        rcases hk with hk | hk
        · have := hD.1; omega
        · exact hk hD.2
      rw [hS.block k (by rw [World.putObj_heap_other (Ne.symm hne)]; exact hk), World.putObj_heap_other (Ne.symm hne)]
    · have := h3 E (by simp [hE])
      exact ⟨this.1, (World.putObj_heap_other (fun e => h2.1 (by rw [← e]; exact hE))).trans this.2⟩
end Go.Proofs.Ytmgejacndhnikaa
namespace Go.Proofs.Ytmgejacndhnikaa
open Go.RowKit

def u32V (n : Nat) : Value := .int .u32 (n : Int)
theorem ty_ne {w : World} {a b : Nat} {x y : Array Value} {e e' : Nat} (h : w.heap[a]? = some (.cells x e (0, 0))) (k : w.heap[b]? = some (.cells y e' (0, 0))) (hne : e ≠ e') : a ≠ b := fun h1 => by
  rw [h1, k] at h
  injection h with h
  injection h with h1 h2
  exact hne h2.symm
theorem heap_setC (w : World) (g j : Nat) (v : Value) (cs : Array Value) (E : Nat) (h : w.heap[g]? = some (.cells cs E (0, 0))) : (w.setCell ⟨g, j, none⟩ v).heap[g]? = some (.cells (cs.setIfInBounds j v) E (0, 0)) := by
  obtain ⟨hlt, hv⟩ := Array.getElem?_eq_some_iff.1 h
  unfold World.setCell
  rw [Array.getElem?_eq_getElem (by simpa using hlt), Array.getElem_modify]
  simp [hv]
theorem frozen_of {w : World} {a j : Nat} {x : Array Value} {e : Nat} (h : w.heap[a]? = some (.cells x e (0, 0))) : w.frozen? ⟨a, j, none⟩ = false := by simp [World.frozen?, h]
theorem lt_cells {w : World} {a : Nat} {o : Obj} (h : w.heap[a]? = some o) : a < w.heap.size := (Array.getElem?_eq_some_iff.1 h).1
end Go.Proofs.Ytmgejacndhnikaa
