/- slices.Clone of terms; a term stored in a row of one's own. -/
import Derived.Test.YtmglhppfdhphbaaFoldQ
import Derived.Test.YtmglhppfdhphbaaAppN
import Derived.Test.YtmglhppfdhphbaaTermOwn
import Derived.Lib.SliceRun
namespace Go.Proofs.Ytmglhppfdhphbaa
open Go.RowKit

theorem flatT_set (y : Term) : ∀ (l : List Term) (k : Nat), k < l.length → (l.set k y).flatMap Term.cells = ((((l.flatMap Term.cells).set (k * 4) (.int .i64 y.op)).set (k * 4 + 1) (.int .i64 y.a)).set (k * 4 + 2) (.int .i64 y.b)).set (k * 4 + 3) (.int .i64 y.val)
  | [], _, h => absurd h (by simp)
  | x :: r, 0, _ => by simp [Term.cells]
  | x :: r, k + 1, h => by
    have ih := flatT_set y r k (by simpa using h)
    have e : (k + 1) * 4 = k * 4 + 1 + 1 + 1 + 1 := by omega
    rw [List.set_cons_succ, List.flatMap_cons, ih, List.flatMap_cons, e]
    simp [Term.cells]
/-- l[k] = y -/
theorem OwnT.set4 {w : World} {base g cap n : Nat} {l : List Term} (h : OwnT w base (.slice (some ⟨g, 0, none⟩) n cap) l) {k : Nat} (hk : k < l.length) (y : Term) :
    OwnT ((((w.setCell ⟨g, k * 4, none⟩ (.int .i64 y.op)).setCell ⟨g, k * 4 + 1, none⟩ (.int .i64 y.a)).setCell ⟨g, k * 4 + 2, none⟩ (.int .i64 y.b)).setCell ⟨g, k * 4 + 3, none⟩ (.int .i64 y.val)) base (.slice (some ⟨g, 0, none⟩) n cap) (l.set k y) := by
  have hn : n = l.length := by
    rcases h.2 with ⟨h0, _⟩ | ⟨_, _, _, h0, _⟩
    · cases h0
    · injection h0
  subst hn
  have h1 := (World.ownsRow.stored (w := w) (base := base) (e := 37) (size := 4) (g := g) (cap := cap) (n := l.length) (xs := l.flatMap Term.cells) h (k * 4) (.int .i64 y.op)).1
  have h2 := (World.ownsRow.stored h1 (k * 4 + 1) (.int .i64 y.a)).1
  have h3 := (World.ownsRow.stored h2 (k * 4 + 2) (.int .i64 y.b)).1
  have h4 := (World.ownsRow.stored h3 (k * 4 + 3) (.int .i64 y.val)).1
  unfold OwnT Own
  rw [List.length_set, flatT_set y l k hk]
  exact h4
theorem OwnT.at4 {w : World} {base n c : Nat} {A : Option Addr} {l : List Term} (h : OwnT w base (.slice A n c) l) (hl : 0 < l.length) :
    ∃ g, A = some ⟨g, 0, none⟩ ∧ base ≤ g ∧ g < w.heap.size ∧ (∀ j, w.frozen? ⟨g, j, none⟩ = false) ∧ ∀ k (_ : k < l.length), w.cell? ⟨g, k * 4, none⟩ = some (.int .i64 l[k].op) ∧ w.cell? ⟨g, k * 4 + 1, none⟩ = some (.int .i64 l[k].a) ∧ w.cell? ⟨g, k * 4 + 2, none⟩ = some (.int .i64 l[k].b) ∧ w.cell? ⟨g, k * 4 + 3, none⟩ = some (.int .i64 l[k].val) := by
  obtain ⟨g, cap, e, h1, h2, h3, h4⟩ := h.some_ hl
  injection e with e1 e2 e3
  subst e1 e3
  have h' := h
  rw [e2] at h'
  refine ⟨g, rfl, h1, h2, h4, fun k hk => ?_⟩
  have := fun j hj => Own.cell_ (f := Term.cells) termCells_len h' hk (j := j) hj
  exact ⟨by simpa [Term.cells] using this 0 (by decide), by simpa [Term.cells] using this 1 (by decide), by simpa [Term.cells] using this 2 (by decide), by simpa [Term.cells] using this 3 (by decide)⟩
set_option maxHeartbeats 1000000 in
theorem cloneT_calls (A : Option Addr) (l : List Term) (cap : Nat) (w : World) (hA : RdT w A l) (h1 : 1 ≤ l.length) (h16 : l.length ≤ 1000) :
    Calls Try.prog 47 #[.slice A l.length cap] w fun e w' => ∃ v, e = .returned v ∧ OwnT w' w.heap.size v l ∧ Below w.heap.size w w' := by
  have HA := Lib.hid hA
  obtain ⟨b, off, rfl, hb, -⟩ := hA (by omega)
  clear hA
  have HE := Lib.hid (OwnT.empty w w.heap.size (Nat.le_refl _))
  obtain ⟨v3, w3, hrun, hO3, hg3, -⟩ := run_appN (P := Try.prog) 22 22 Term.cells 4 32 37 (Term.mk 0 0 0 0).agg Try.underlying22 infoTerm rfl (by decide) termCells_len termCells_one w.heap.size _ [] HE.out (some ⟨b, off, none⟩) l cap (Rd.below HA.out ((Below.refl w.heap.size w).alloc (Nat.le_refl _) _)) (by simp [maxLen]; omega) (by simp; omega) (by simp)
  rw [List.nil_append] at hO3
  have HO3 := Lib.hid hO3
  have HW3 := Lib.hid (((Below.refl w.heap.size w).alloc (Nat.le_refl _) (.cells #[] 37)).grown hg3 (by simp) (fun k e => by have e : some w.heap.size = some k := e; injection e with e; omega))
  have Hrun := Lib.hid hrun
  clear hO3 hg3 hrun
  have q22 : ∀ (w : World) (a : Option Addr) (n c n' c' : Nat), (binOp .eql 22 (.slice a n c) (.slice none n' c')).run Try.prog w = .ok (.bool a.isNone) w := fun w a n c n' c' => Lib.run_eql_slice_nil w _ _ a n c n' c' Try.underlying22
  go_enter Try.func47, Try.ntmps47
  go_wp2_with (at_builtin; refine wpList_app_run rfl 22 _ _ rfl rfl rfl Hrun.out ?_)
  go_ret
  exact ⟨_, rfl, HO3.out, HW3.out⟩
end Go.Proofs.Ytmglhppfdhphbaa
