/- PointMore: plain law. -/
import Derived.Test.YtdkkmmljaijomaaPtD
import Derived.Test.YtdkkmmljaijomaaWordsR
import Derived.Test.YtdkkmmljaijomaaInR
import Derived.Test.YtdkkmmljaijomaaAppN
namespace Go.Proofs.Ytdkkmmljaijomaa
open Go.RowKit

theorem ptErrs_app {n : Int} : ∀ {l : List Pt}, ptErrs n l = 0 → ∀ m, ptErrs n (l ++ m) = ptErrs n m
  | [], _, _ => rfl
  | q :: r, h, m => by
    rw [show ptErrs n (q :: r) = if ptErr1 n q = 0 then ptErrs n r else ptErr1 n q from rfl] at h
    rw [List.cons_append, show ptErrs n (q :: (r ++ m)) = if ptErr1 n q = 0 then ptErrs n (r ++ m) else ptErr1 n q from rfl]
    by_cases h0 : ptErr1 n q = 0
    · rw [if_pos h0] at h ⊢; exact ptErrs_app h m
    · rw [if_neg h0] at h; exact absurd h h0
theorem ptErr_both {n : Int} {l : List Pt} (x : Pt) (h : ptErr n l [] = 0) : ptErr n (x :: l) [] = ptErr n (l ++ [x]) [] := by
  have h0 : ptErrs n l = 0 := by
    obtain ⟨m, rfl, ok, _⟩ := ptErr_ok h
    exact ptErrs_of fun p hp => ⟨ok.kind p hp, ok.ins p hp⟩
  have e : ptErrs n (x :: l) = ptErrs n (l ++ [x]) := by
    rw [ptErrs_app h0, show ptErrs n (x :: l) = if ptErr1 n x = 0 then ptErrs n l else ptErr1 n x from rfl, show ptErrs n [x] = if ptErr1 n x = 0 then ptErrs n [] else ptErr1 n x from rfl, h0]; rfl
  have b : ptBig n (x :: l) [] ↔ ptBig n (l ++ [x]) [] := by unfold ptBig; simp
  unfold ptErr
  rw [e]
  by_cases hb : ptBig n (x :: l) []
  · rw [if_pos hb, if_pos (b.1 hb)]
  · rw [if_neg hb, if_neg (fun h => hb (b.2 h))]; rfl
theorem ptS_both (x : Pt) (l : List Pt) : ptS (x :: l) = ptS (l ++ [x]) := by
  funext i
  have : PT (x :: l) i = PT (l ++ [x]) i := by
    funext j
    exact propext ⟨PT.mono (fun p hp => by simp at hp ⊢; exact hp.symm), PT.mono (fun p hp => by simp at hp ⊢; exact hp.symm)⟩
  unfold ptS
  rw [this]
theorem ptL_both (n : Nat) (x : Pt) (l : List Pt) : ptL n (x :: l) = ptL n (l ++ [x]) := by unfold ptL; rw [ptS_both]
theorem ptS_in {n : Nat} {l : List Pt} {x : Pt} (h : PtOk n l) (hx : PtOk n (x :: l)) (i : Nat) : (ptS l i ||| ptS (x :: l) i == ptS (x :: l) i) = true := by
  rw [in_iff]
  intro k hk
  rw [ptS_bit h] at hk
  rw [ptS_bit hx]
  exact hk.mono (fun p hp => by simp [hp])
/-- point.Within, both ways at once. -/
theorem within2 (n : Int) (A : Option Addr) (l : List Pt) (cap : Nat) (w : World) (hA : RdPt w A l) (hm : l.length ≤ maxLen) :
    Calls Try.prog 26 #[.int .i64 n, .slice A l.length cap] w fun e w' => Below w.heap.size w w' ∧ ∃ B r c, e = .returned (.tuple #[.slice B r.length c, .int .i64 (ptErr n l [])]) ∧ RdU w' B r ∧ r.length ≤ 8 ∧ (ptErr n l [] = 0 → ∃ m : Nat, n = m ∧ PtOk m l ∧ r = ptL m l) := by
  refine (within_calls n A l cap w hA hm).mono ?_
  rintro e w' ⟨hB, ⟨h0, rfl⟩ | ⟨m, rfl, ok, v, rfl, hown⟩⟩
  · exact ⟨hB, none, [], 0, rfl, Rd.nil_, by simp, fun h => absurd h h0⟩
  · obtain ⟨A1, c1, rfl, hR⟩ := hown.rd
    have he : ptErr m l [] = 0 := by
      unfold ptErr
      rw [if_neg (by unfold ptBig; have := ok.n1; have := ok.n8; have := ok.len; simp; omega), if_neg (fun hx => hx (ptErrs_of fun p hp => ⟨ok.kind p hp, ok.ins p hp⟩))]
      rfl
    exact ⟨hB, A1, ptL m l, c1, by rw [he], hR, by rw [ptL_len]; exact ok.n8, fun _ => ⟨m, rfl, ok, rfl⟩⟩
theorem infoPt : (Try.prog.info? 43).map (fun i => (i.zero, i.size, i.bytes)) = some (some (.agg #[.int .i64 0, .int .i64 0, .int .i64 0]), 3, 24) := by kernel_rfl
theorem ptCells_len (p : Pt) : p.cells.length = 3 := rfl
theorem ptCells_one (p : Pt) : ∀ u ∈ p.cells, u.oneCell' = true := by
  intro u hu
  simp [Pt.cells] at hu
  rcases hu with rfl | rfl | rfl <;> rfl
abbrev OwnPt (w : World) (base : Nat) (v : Value) (l : List Pt) : Prop := Own Pt.cells 3 w base 43 v l
theorem run_appPt {w : World} (ty : TypeId) (base : Nat) (v : Value) (l : List Pt) (hown : OwnPt w base v l) (A : Option Addr) (m : List Pt) (c : Nat) (hA : RdPt w A m) (hl : (l.length + m.length) * 24 ≤ 140737488355328) (hbase : base ≤ w.heap.size) :
    ∃ v' w', (Builtin.append_ #[41, 41] ty #[v, .slice A m.length c]).run Try.prog w = .ok v' w' ∧ OwnPt w' base v' (l ++ m) ∧ w.grownBy w' v.ownBlock ∧ (v'.ownBlock = v.ownBlock ∨ v'.ownBlock = some w.heap.size) :=
  run_appN 41 ty Pt.cells 3 24 43 _ Try.underlying41 infoPt rfl (by decide) ptCells_len ptCells_one base v l hown A m c hA (by unfold maxLen; omega) hl hbase
theorem own_lt {α : Type} {f : α → List Value} {size base E : Nat} {w : World} {v : Value} {l : List α} (h : Own f size w base E v l) : ∀ g, v.ownBlock = some g → base ≤ g ∧ g < w.heap.size := fun g hg => World.ownsRow.lt h g hg
/-- The slice of the call's own in the midst of the region. -/
structure PS (W0 w : World) (v : Value) (l : List Pt) : Prop where
  bel : Below W0.heap.size W0 w
  own : OwnPt w W0.heap.size v l
/-- A literal of one element, in a block apart. -/
structure LS (w : World) (sl : Nat) (x : Pt) (v : Value) : Prop where
  lt : sl < w.heap.size
  rd : RdPt w (some ⟨sl, 0, none⟩) [x]
  ne : v.ownBlock ≠ some sl
section
variable {W0 w : World} {v : Value} {l : List Pt} {sl : Nat} {x : Pt}
theorem PS.alloc (h : PS W0 w v l) (o : Obj) : PS W0 (w.alloc o) v l := ⟨h.bel.alloc h.bel.size o, h.own.alloc o⟩
theorem PS.empty (h : PS W0 w v []) : PS W0 (w.alloc (.cells #[] 43)) (.slice (some ⟨w.heap.size, 0, none⟩) 0 0) [] :=
  ⟨h.bel.alloc h.bel.size _, own_new Pt.cells 3 43 ptCells_len w W0.heap.size h.bel.size [] (by simp)⟩
theorem LS.empty (h : LS w sl x v) : LS (w.alloc (.cells #[] 43)) sl x (.slice (some ⟨w.heap.size, 0, none⟩) 0 0) :=
  ⟨by have := h.lt; simp; omega, Rd.below h.rd ((Below.refl _ _).alloc (Nat.le_refl _) _), fun e => by
    have e : some w.heap.size = some sl := e
    injection e with e; have := h.lt; omega⟩
theorem PS.lit (h : PS W0 w v l) (x : Pt) : LS (w.alloc (.cells #[.int .i64 x.kind, .int .i64 x.to, .int .i64 x.from_] 43)) w.heap.size x v :=
  ⟨by simp, (own_new Pt.cells 3 43 ptCells_len w 0 (Nat.zero_le _) [x] (by simp [maxLen])).form ptCells_len |> fun ⟨A', c', e, h', _⟩ => by
    injection e with e; rw [e]; exact h', fun e => by have := own_lt h.own _ e; omega⟩
theorem PS.app (h : PS W0 w v l) {w' : World} {v' : Value} {l' : List Pt} (hown : OwnPt w' W0.heap.size v' l') (hg : w.grownBy w' v.ownBlock) : PS W0 w' v' l' :=
  ⟨h.bel.grown hg h.bel.size (fun k hk => (own_lt h.own k hk).1), hown⟩
theorem LS.app (h : LS w sl x v) {w' : World} {v' : Value} (hg : w.grownBy w' v.ownBlock) (hat : v'.ownBlock = v.ownBlock ∨ v'.ownBlock = some w.heap.size) : LS w' sl x v' :=
  ⟨Nat.lt_of_lt_of_le h.lt hg.size, fun hn => by
    obtain ⟨b, off, e, hb, hc⟩ := h.rd hn
    injection e with e; injection e with e1 e2
    subst e1 e2
    refine ⟨sl, 0, rfl, Nat.lt_of_lt_of_le hb hg.size, fun k y hy j hj => ?_⟩
    rw [← hc k y hy j hj]
    exact World.cell?_of_block (hg.block sl hb (fun e => h.ne e.symm)), fun e => by
    rcases hat with e2 | e2
    · exact h.ne (e2.symm.trans e)
    · rw [e2] at e; injection e with e; have := h.lt; omega⟩
end
end Go.Proofs.Ytdkkmmljaijomaa
