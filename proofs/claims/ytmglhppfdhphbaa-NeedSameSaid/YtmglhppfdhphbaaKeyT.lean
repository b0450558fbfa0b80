/- Terms as keys. -/
import Derived.Test.YtmglhppfdhphbaaTermOwn
import Derived.Test.YtmglhppfdhphbaaMapF
import Derived.Test.YtmglhppfdhphbaaRow
import Derived.DeepKeys4
namespace Go.Proofs.Ytmglhppfdhphbaa
open Go.RowKit Go.Maps

theorem laidT : laidOutB Try.prog = true := by kernel_rfl
theorem rowT : 37 < Try.prog.types.size := of_decide_eq_true (by kernel_rfl)
theorem wideT : (match Try.prog.underlying 37 with | some (.array _ _) | some (.struct _) => true | _ => false) = true := by kernel_rfl
theorem keyedT : Keyed Try.prog 37 := Keyed.of_law (deep_law_laid laidT (m := 2) (by omega) rowT (by kernel_rfl) wideT)
theorem cellsT_ : Try.prog.cellsOf 37 = 4 := by kernel_rfl
theorem cellsI_ : Try.prog.cellsOf 3 = 1 := by kernel_rfl
theorem keyTypeT : Try.prog.keyType 37 = true := by kernel_rfl
def Term.inI (t : Term) : Prop := i64In t.op ∧ i64In t.a ∧ i64In t.b ∧ i64In t.val
theorem keyLits_int (d : Nat) {x : Int} (hx : i64In x) : Try.prog.keyLits (d + 1) 3 [.int .i64 x] = some [.int .i64 x] := by
  unfold Program.keyLits
  rw [Try.underlying3]
  have hw : (Lit.int .i64 x).wf = true := by
    obtain ⟨h1, h2⟩ := hx
    simp [Lit.wf, show IntKind.i64.min = -9223372036854775808 from rfl, show IntKind.i64.max = 9223372036854775807 from rfl]
    omega
  simp [hw]
theorem keyOfT (t : Term) (h : t.inI) : ∃ l, keyOf Try.prog 37 t.agg = some l := by
  obtain ⟨h1, h2, h3, h4⟩ := h
  have hform : t.agg.formed Try.prog 37 = true := by
    unfold Term.agg Value.formed
    simp [Try.underlying37, cellsT_]
  have hs : ∃ d, Try.prog.types.size + 1 = d + 2 := ⟨Try.prog.types.size - 1, by have := rowT; omega⟩
  obtain ⟨d, hd⟩ := hs
  have hk : ∃ ls, Try.prog.keyLits (Try.prog.types.size + 1) 37 t.agg.cells.toList = some ls := by
    rw [hd]
    have e : t.agg.cells.toList = [.int .i64 t.op, .int .i64 t.a, .int .i64 t.b, .int .i64 t.val] := rfl
    rw [e]
    conv => enter [1, ls, 1]; unfold Program.keyLits
    rw [Try.underlying37]
    simp [cellsT_, cellsI_, keyLits_int d h1, keyLits_int d h2, keyLits_int d h3, keyLits_int d h4]
  obtain ⟨ls, hl⟩ := hk
  refine ⟨.string (keyBytes ls), ?_⟩
  unfold keyOf
  rw [Try.underlying37]
  show (if (Try.prog.keyType 37 && Value.formed Try.prog 37 t.agg) = true then (Try.prog.keyLits (Try.prog.types.size + 1) 37 t.agg.cells.toList).map fun ls => Lit.string (keyBytes ls) else none) = _
  rw [keyTypeT, hform, hl]
  rfl
theorem aggT_inj (x y : Term) (h : x.agg = y.agg) : x = y := by
  unfold Term.agg at h
  cases x; cases y
  simp at h
  obtain ⟨rfl, rfl, rfl, rfl⟩ := h
  rfl
end Go.Proofs.Ytmglhppfdhphbaa
