/- Rows of spans that the call made; slices.Clone of spans. -/
import Derived.Test.YtadmmciiahdmcaaSpP
import Derived.Test.YtadmmciiahdmcaaOwn
import Derived.Test.YtadmmciiahdmcaaAppN
import Derived.Lib.SliceRun
namespace Go.Proofs.Ytadmmciiahdmcaa
open Go.RowKit

abbrev RdS (w : World) (A : Option Addr) (l : List Sp) : Prop := Rd spCells 2 w A l
abbrev OwnS (w : World) (base : Nat) (v : Value) (l : List Sp) : Prop := Own spCells 2 w base 65 v l
theorem spCells_len (x : Sp) : (spCells x).length = 2 := rfl
theorem spCells_one (x : Sp) : ∀ u ∈ spCells x, u.oneCell' = true := by intro u hu; simp [spCells] at hu; rcases hu with rfl | rfl <;> rfl
theorem infoSpan : (Try.prog.info? 65).map (fun i => (i.zero, i.size, i.bytes)) = some (some (.agg #[.int .i64 0, .int .i64 0]), 2, 16) := by kernel_rfl
theorem flatS_set (y : Sp) : ∀ (l : List Sp) (k : Nat), k < l.length → (l.set k y).flatMap spCells = ((l.flatMap spCells).set (k * 2) (.int .i64 y.1)).set (k * 2 + 1) (.int .i64 y.2)
  | [], _, h => absurd h (by simp)
  | x :: r, 0, _ => by simp [spCells]
  | x :: r, k + 1, h => by
    have ih := flatS_set y r k (by simpa using h)
    have e : (k + 1) * 2 = k * 2 + 1 + 1 := by omega
    rw [List.set_cons_succ, List.flatMap_cons, ih, List.flatMap_cons, e]
    simp [spCells]
/-- l[k] = y -/
theorem OwnS.set2 {w : World} {base g cap n : Nat} {l : List Sp} (h : OwnS w base (.slice (some ⟨g, 0, none⟩) n cap) l) {k : Nat} (hk : k < l.length) (y : Sp) :
    OwnS ((w.setCell ⟨g, k * 2, none⟩ (.int .i64 y.1)).setCell ⟨g, k * 2 + 1, none⟩ (.int .i64 y.2)) base (.slice (some ⟨g, 0, none⟩) n cap) (l.set k y) := by
  have hn : n = l.length := by
    rcases h.2 with ⟨h0, _⟩ | ⟨_, _, _, h0, _⟩
    · cases h0
    · injection h0
  subst hn
  have h1 := (World.ownsRow.stored (w := w) (base := base) (e := 65) (size := 2) (g := g) (cap := cap) (n := l.length) (xs := l.flatMap spCells) h (k * 2) (.int .i64 y.1)).1
  have h2 := (World.ownsRow.stored h1 (k * 2 + 1) (.int .i64 y.2)).1
  unfold OwnS Own
  rw [List.length_set, flatS_set y l k hk]
  exact h2
theorem OwnS.at2 {w : World} {base n c : Nat} {A : Option Addr} {l : List Sp} (h : OwnS w base (.slice A n c) l) (hl : 0 < l.length) :
    ∃ g, A = some ⟨g, 0, none⟩ ∧ base ≤ g ∧ g < w.heap.size ∧ n = l.length ∧ (∀ j, w.frozen? ⟨g, j, none⟩ = false) ∧ ∀ k (_ : k < l.length), w.cell? ⟨g, k * 2, none⟩ = some (.int .i64 (gS l k).1) ∧ w.cell? ⟨g, k * 2 + 1, none⟩ = some (.int .i64 (gS l k).2) := by
  obtain ⟨g, cap, e, h1, h2, h3, h4⟩ := h.some_ hl
  injection e with e1 e2 e3
  have h' := h
  subst e1 e3
  rw [e2] at h'
  refine ⟨g, rfl, h1, h2, e2, h4, fun k hk => ?_⟩
  have := fun j hj => Own.cell_ (f := spCells) spCells_len h' hk (j := j) hj
  rw [gS_get hk]
  exact ⟨by simpa [spCells] using this 0 (by decide), by simpa [spCells] using this 1 (by decide)⟩
theorem RdS.at2 {w : World} {A : Option Addr} {l : List Sp} (h : RdS w A l) {k : Nat} (hk : k < l.length) :
    ∃ b off, A = some ⟨b, off, none⟩ ∧ b < w.heap.size ∧ w.cell? ⟨b, off + k * 2, none⟩ = some (.int .i64 (gS l k).1) ∧ w.cell? ⟨b, off + k * 2 + 1, none⟩ = some (.int .i64 (gS l k).2) := by
  obtain ⟨b, off, rfl, hb, hc⟩ := h (by omega)
  have h2 := fun j hj => hc k _ (List.getElem?_eq_getElem hk) j hj
  rw [gS_get hk]
  exact ⟨b, off, rfl, hb, by simpa [spCells] using h2 0 (by decide), by simpa [spCells] using h2 1 (by decide)⟩
set_option maxHeartbeats 1000000 in
theorem cloneS_calls (A : Option Addr) (l : List Sp) (cap : Nat) (w : World) (hA : RdS w A l) (h1 : 1 ≤ l.length) (h16 : l.length ≤ 1000) :
    Calls Try.prog 75 #[.slice A l.length cap] w fun e w' => ∃ v, e = .returned v ∧ OwnS w' w.heap.size v l ∧ Below w.heap.size w w' := by
  have HA := Lib.hid hA
  obtain ⟨b, off, rfl, hb, -⟩ := hA (by omega)
  clear hA
  have HE := Lib.hid (own_new spCells 2 65 spCells_len w w.heap.size (Nat.le_refl _) [] (by simp [maxLen]))
  have HR := Lib.hid (Rd.below HA.out ((Below.refl w.heap.size w).alloc (Nat.le_refl _) (.cells #[] 65)))
  obtain ⟨v3, w3, hrun, hO3, hg3, -⟩ := run_appN (P := Try.prog) 60 60 spCells 2 16 65 (.agg #[.int .i64 0, .int .i64 0]) Try.underlying60 infoSpan rfl (by decide) spCells_len spCells_one w.heap.size _ [] HE.out _ l cap HR.out (by simp [maxLen]; omega) (by simp; omega) (by simp)
  rw [List.nil_append] at hO3
  have HO3 := Lib.hid hO3
  have HW3 := Lib.hid (((Below.refl w.heap.size w).alloc (Nat.le_refl _) (.cells #[] 65)).grown hg3 (by simp) (fun k e => by have e : some w.heap.size = some k := e; injection e with e; omega))
  have Hrun := Lib.hid hrun
  clear hO3 hg3 hrun
  have q22 : ∀ (w : World) (a : Option Addr) (n c n' c' : Nat), (binOp .eql 60 (.slice a n c) (.slice none n' c')).run Try.prog w = .ok (.bool a.isNone) w := fun w a n c n' c' => Lib.run_eql_slice_nil w _ _ a n c n' c' Try.underlying60
  go_enter Try.func75, Try.ntmps75
  go_wp2_with (at_builtin; refine wpList_app_run rfl 60 _ _ rfl rfl rfl Hrun.out ?_)
  go_ret
  exact ⟨_, rfl, HO3.out, HW3.out⟩
end Go.Proofs.Ytadmmciiahdmcaa
