/- Rows of bytes of the call's own. -/
import Derived.Test.YtmgejacndhnikaaMachA
import Derived.Test.YtmgejacndhnikaaAppN
namespace Go.Proofs.Ytmgejacndhnikaa
set_option maxRecDepth 100000
open Go.RowKit

abbrev OwnB (w : World) (base : Nat) (v : Value) (l : List Int) : Prop := Own byteCells 1 w base 5 v l
theorem infoB : (Try.prog.info? 5).map (fun i => (i.zero, i.size, i.bytes)) = some (some (.int .u8 0), 1, 1) := by kernel_rfl
theorem byteCells_len (x : Int) : (byteCells x).length = 1 := rfl
theorem byteCells_one (x : Int) : ∀ u ∈ byteCells x, u.oneCell' = true := by intro u hu; simp [byteCells] at hu; subst hu; rfl
theorem OwnB.at2 {w : World} {base n c : Nat} {A : Option Addr} {l : List Int} (h : OwnB w base (.slice A n c) l) (hl : 0 < l.length) :
    ∃ g, A = some ⟨g, 0, none⟩ ∧ base ≤ g ∧ g < w.heap.size ∧ l.length ≤ c ∧ (∀ j, w.frozen? ⟨g, j, none⟩ = false) ∧ ∀ k (_hk : k < l.length), w.cell? ⟨g, k, none⟩ = some (.int .u8 l[k]) := by
  obtain ⟨g, cap, e, h1, h2, h3, h4⟩ := Own.some_ h hl
  injection e with e1 e2 e3
  subst e1 e2 e3
  refine ⟨g, rfl, h1, h2, h3, h4, fun k hk => ?_⟩
  have := Own.cell_ byteCells_len h hk (j := 0) (by decide)
  simpa [byteCells] using this
theorem OwnB.set_ {w : World} {base g cap n : Nat} {l : List Int} (h : OwnB w base (.slice (some ⟨g, 0, none⟩) n cap) l) {k : Nat} (_hk : k < l.length) (y : Int) :
    OwnB (w.setCell ⟨g, k, none⟩ (.int .u8 y)) base (.slice (some ⟨g, 0, none⟩) n cap) (l.set k y) := by
  have hn : n = l.length := by
    rcases h.2 with ⟨h0, _⟩ | ⟨_, _, _, h0, _⟩
    · cases h0
    · injection h0
  subst hn
  have e : ∀ l : List Int, l.flatMap byteCells = l.map (Value.int .u8) := fun l => by
    induction l with
    | nil => rfl
    | cons x r ih => rw [List.flatMap_cons, ih]; rfl
  have h1 := World.ownsRow.stored (w := w) (base := base) (e := 5) (size := 1) (g := g) (cap := cap) (n := l.length) (xs := l.flatMap byteCells) h k (.int .u8 y)
  unfold OwnB Own
  rw [e] at h1 ⊢
  rw [List.length_set, List.map_set]
  exact h1.1
end Go.Proofs.Ytmgejacndhnikaa
