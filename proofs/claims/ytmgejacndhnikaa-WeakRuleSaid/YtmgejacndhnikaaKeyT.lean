/- Terms as keys. -/
import Derived.Test.YtmgejacndhnikaaTermOwn
import Derived.Test.YtmgejacndhnikaaMapF
import Derived.Test.YtmgejacndhnikaaRow
import Derived.DeepKeys4
namespace Go.Proofs.Ytmgejacndhnikaa
set_option maxRecDepth 100000
open Go.RowKit Go.Maps

theorem laidT : laidOutB Try.prog = true := by kernel_rfl
theorem rowT : 62 < Try.prog.types.size := of_decide_eq_true (by kernel_rfl)
theorem wideT : (match Try.prog.underlying 62 with | some (.array _ _) | some (.struct _) => true | _ => false) = true := by kernel_rfl
theorem keyedT : Keyed Try.prog 62 := Keyed.of_law (deep_law_laid laidT (m := 2) (by omega) rowT (by kernel_rfl) wideT)
theorem cellsT_ : Try.prog.cellsOf 62 = 4 := by kernel_rfl
theorem cellsI_ : Try.prog.cellsOf 3 = 1 := by kernel_rfl
theorem keyTypeT : Try.prog.keyType 62 = true := by kernel_rfl
def Term.inI (t : Term) : Prop := i64In t.op ∧ i64In t.a ∧ i64In t.b ∧ i64In t.val
theorem keyLits_int (d : Nat) {x : Int} (hx : i64In x) : Try.prog.keyLits (d + 1) 3 [.int .i64 x] = some [.int .i64 x] := by
  unfold Program.keyLits
  rw [Try.underlying3]
  have hw : (Lit.int .i64 x).wf = true := by
    obtain ⟨h1, h2⟩ := hx
    simp [Lit.wf, show IntKind.i64.min = -9223372036854775808 from rfl, show IntKind.i64.max = 9223372036854775807 from rfl]
    omega
  simp [hw]
theorem keyOfT (t : Term) (h : t.inI) : ∃ l, keyOf Try.prog 62 t.agg = some l := by
  obtain ⟨h1, h2, h3, h4⟩ := h
  have hform : t.agg.formed Try.prog 62 = true := by
    unfold Term.agg Value.formed
    simp [Try.underlying62, cellsT_]
  have hs : ∃ d, Try.prog.types.size + 1 = d + 2 := ⟨Try.prog.types.size - 1, by have := rowT; omega⟩
  obtain ⟨d, hd⟩ := hs
  have hk : ∃ ls, Try.prog.keyLits (Try.prog.types.size + 1) 62 t.agg.cells.toList = some ls := by
    rw [hd]
    have e : t.agg.cells.toList = [.int .i64 t.op, .int .i64 t.a, .int .i64 t.b, .int .i64 t.val] := rfl
    rw [e]
    conv => enter [1, ls, 1]; unfold Program.keyLits
    rw [Try.underlying62]
    simp [cellsT_, cellsI_, keyLits_int d h1, keyLits_int d h2, keyLits_int d h3, keyLits_int d h4]
  obtain ⟨ls, hl⟩ := hk
  refine ⟨.string (keyBytes ls), ?_⟩
  unfold keyOf
  rw [Try.underlying62]
  show (if (Try.prog.keyType 62 && Value.formed Try.prog 62 t.agg) = true then (Try.prog.keyLits (Try.prog.types.size + 1) 62 t.agg.cells.toList).map fun ls => Lit.string (keyBytes ls) else none) = _
  rw [keyTypeT, hform, hl]
  rfl
theorem aggT_inj (x y : Term) (h : x.agg = y.agg) : x = y := by
  unfold Term.agg at h
  cases x; cases y
  simp at h
  obtain ⟨rfl, rfl, rfl, rfl⟩ := h
  rfl
end Go.Proofs.Ytmgejacndhnikaa
