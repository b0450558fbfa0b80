/- A slice that came in is no longer than its capacity. -/
import Derived.Test.YtdkkmmljaijomaaRow
namespace Go.Proofs.Ytdkkmmljaijomaa
open Go.ChangeShapes Go.WideShapes Go.ChangeAt Go.RowKit Go.Deep
theorem slice_cap {H : Type} {enc : TypeId × Value → H} {P : Program} {w : World} {base : Nat} {spare : Nat → Bool} {held : Bool} {t e : TypeId} {A : Option Addr} {n cap : Nat} {d : DataW H} {ps : List MemPlace}
    (hu : P.underlying t = some (.slice e)) (hd : DataW.Trod enc P w base spare held t (.slice A n cap) d ps) : n ≤ cap := by
  obtain ⟨fuel, hd⟩ := hd
  rcases open_slice hu hd with ⟨h0, _⟩ | ⟨a, len, cap', m, n', D, Pl, hcs, _, hl, _⟩
  · simp [Value.cells] at h0
    omega
  · simp [Value.cells] at hcs
    obtain ⟨rfl, rfl, rfl⟩ := hcs
    exact hl
end Go.Proofs.Ytdkkmmljaijomaa
