/- SingleSame: a name more; a walk to where one has been. -/
import Derived.Test.YtmgejacndhnikaaSnB
import Derived.Test.YtmgejacndhnikaaIdxA
import Derived.StillTailTactics
namespace Go.Proofs.Ytmgejacndhnikaa
set_option maxRecDepth 100000
open Go.RowKit

theorem fresh_calls (T m : Nat) (w : World) (hm : m ≤ 100000) (h5 : w.cell? ⟨T, 5, none⟩ = some (.int .i64 (m : Nat))) (hf : w.frozen? ⟨T, 5, none⟩ = false) :
    Calls Try.prog 106 #[.pointer (some ⟨T, 0, none⟩)] w fun e w' => e = .returned (.int .i64 (m : Nat)) ∧ w' = w.setCell ⟨T, 5, none⟩ (.int .i64 ((m + 1 : Nat) : Int)) := by
  have u1 : IntKind.i64.wrap ((m : Int) + 1) = ((m + 1 : Nat) : Int) := by rw [IntWalk.i64_in _ (by omega)]; omega
  have u2 : IntKind.i64.wrap (((m + 1 : Nat) : Int) - 1) = (m : Int) := by rw [IntWalk.i64_in _ (by omega)]; omega
  obtain ⟨k, hk⟩ : ∃ k : Int, k = ((m + 1 : Nat) : Int) := ⟨_, rfl⟩
  rw [← hk] at u1 u2 ⊢
  clear hk
  go_enter Try.func106, Try.ntmps106
  go_wp2
  go_ret
  exact ⟨rfl, rfl⟩
theorem frV_of {w : World} {base f n : Nat} {l : List Int} (h : OwnI w base 3 (.slice (some ⟨f, 0, none⟩) n n) l) : w.heap[f]? = some (frV l) ∧ n = l.length := by
  rcases h.2 with ⟨h0, _⟩ | ⟨g, cap, cur, h0, hb, hh, hn, hm, hs, ht⟩
  · cases h0
  · simp only [Value.slice.injEq, Option.some.injEq, Addr.mk.injEq, and_true] at h0
    obtain ⟨rfl, rfl, rfl⟩ := h0
    refine ⟨?_, rfl⟩
    have e : l.flatMap intCells = l.map (Value.int .i64) := W.intsMap l
    rw [hh]
    unfold frV
    rw [← e, ← ht, ← hs, ← Array.length_toList, List.take_length]
/-- 'make([]int, n)' at the operation. -/
theorem wp_makeF {w : World} {o : Oper} {a : Act} {K : Act → World → Prop} {Q : Exit → Act → World → Prop} (lo c : Operand) (hop : o.op = Op.makeSlice 23 lo c)
    (n : Nat) (hl : a.eval lo = .int .i64 (n : Int)) (hc : a.eval c = .int .i64 (n : Int)) (hn : n < 1000000)
    (h : ∀ w', w'.heap[w.heap.size]? = some (frV (List.replicate n 0)) → Below w.heap.size w w' → K (a.put o.dst (.slice (some ⟨w.heap.size, 0, none⟩) n n)) w') : o.wp Try.prog a w K Q := by
  obtain ⟨i, hi, hz0, hz1, hz2⟩ := info_parts infoInt
  obtain ⟨w', hrun, r1, r2⟩ := run_make_full (P := Try.prog) w w.heap.size 23 3 i (.int .i64 0) 1 Try.underlying23 hi hz0 hz1 .i64 .i64 n (by rw [hz2]; omega) (by unfold maxLen; omega) (Nat.le_refl _)
  unfold Oper.wp
  simp [execOp, hop, hl, hc, hrun, Result.andThen]
  have e : (madeCells (Value.int .i64 0).cells (n * 1)).toList = (List.replicate n (0 : Int)).flatMap intCells := by
    rw [show (Value.int .i64 0).cells = #[.int .i64 0] from rfl, Nat.mul_one, toList_madeCells_one]
    clear r1 r2 hl hc h hrun
    induction n with
    | zero => rfl
    | succ n ih => rw [List.replicate_succ, List.replicate_succ, List.flatMap_cons, ← ih (by omega)]; rfl
  rw [e] at r1
  have r1 : OwnI w' w.heap.size 3 (.slice (some ⟨w.heap.size, 0, none⟩) n n) (List.replicate n 0) := by
    unfold OwnI Own
    rw [List.length_replicate]
    exact r1
  exact h w' (frV_of r1).1 ((Below.refl _ _).grown r2 (Nat.le_refl _) (fun k hk => by cases hk))
/-- The namer's header in memory. -/
structure HdX (w0 : World) (H : Hdr) (E : NE) : Prop where
  p : ∃ A c, H.pv = .slice A E.p.length c ∧ RdBk w0 A E.p
  nx : ∃ A c, H.nx = .slice A E.p.length c ∧ RdN w0 A E.next
  fm : ∃ A c, H.fm = .slice A E.p.length c ∧ RdN w0 A E.frm
  jv : ∃ A c, H.jv = .slice A E.p.length c ∧ RdN w0 A E.joins
  n : H.n = E.p.length
  lx : E.next.length = E.p.length
  lf : E.frm.length = E.p.length
  lj : E.joins.length = E.p.length
  f100 : ∀ i, (fromAt E i).length ≤ 100
  x100 : ∀ i, (E.next.getD i []).length ≤ 100
theorem row_get {w0 : World} {A : Option Addr} {ls : List (List Int)} (h : RdN w0 A ls) {i : Nat} (hi : i < ls.length) : ∃ b off A' c', A = some ⟨b, off, none⟩ ∧ b < w0.heap.size ∧ w0.cell? ⟨b, off + i, none⟩ = some (.slice A' (ls.getD i []).length c') ∧ RdI w0 A' (ls.getD i []) := by
  have e : ls.getD i [] = ls[i] := by rw [List.getD_eq_getElem?_getD, List.getElem?_eq_getElem hi]; rfl
  rw [e]
  exact RdN.at_ h hi
def WalkE (w0 : World) (H : Hdr) (T g : Nat) (st : NS) (d : Nat → Prop) (rs0 : List RS) (e : Ending) (w' : World) : Prop :=
  (∃ u, e = .returned u) ∧ ∃ o rs, NmX w0 w' H T g o rs st.many st.done nulV [] none ∧ rs.map RS.sg = st.out ∧ LvF d rs0 rs
end Go.Proofs.Ytmgejacndhnikaa
