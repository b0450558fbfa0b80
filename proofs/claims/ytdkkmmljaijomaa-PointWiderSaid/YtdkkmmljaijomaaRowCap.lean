/- A slice that came in is no longer than its capacity. -/
import Derived.Test.YtdkkmmljaijomaaRow
namespace Go.Proofs.Ytdkkmmljaijomaa
open Go.ChangeShapes Go.WideShapes Go.ChangeAt Go.RowKit Go.Deep
theorem slice_cap {H : Type} {enc : TypeId × Value → H} {P : Program} {w : World} {base : Nat} {spare : Nat → Bool} {held : Bool} {t e : TypeId} {A : Option Addr} {n cap : Nat} {d : DataW H} {ps : List MemPlace}
    (hu : P.underlying t = some (.slice e)) (hd : DataW.Trod enc P w base spare held t (.slice A n cap) d ps) : n ≤ cap := by
  obtain ⟨fuel, hd⟩ := hd
  rcases open_slice hu hd with ⟨h0, _⟩ | ⟨a, len, cap', m, n', D, Pl, hcs, _, hl, _⟩
  · simp [Value.cells] at h0
    omega
  · simp [Value.cells] at hcs
    obtain ⟨rfl, rfl, rfl⟩ := hcs
    exact hl
/-- How many bytes a slice that came in takes, by the reach. -/
theorem slice_bytes {H : Type} {enc : TypeId × Value → H} {P : Program} {w : World} {base : Nat} {spare : Nat → Bool} {held : Bool} {t e : TypeId} {A : Option Addr} {n cap : Nat} {d : DataW H} {ps : List MemPlace} {ts : List TypeId} {ds : List (DataW H)}
    (hu : P.underlying t = some (.slice e)) (hd : DataW.Trod enc P w base spare held t (.slice A n cap) d ps) (hsz : (DataW.weightsEach P ts ds).all (· ≤ reachBytes) = true) (j : Nat) (ht : ts[j]? = some t) (hj : ds[j]? = some d)
    {b : Nat} (hb : P.bytesOf e = b) : n * b ≤ 140737488351232 := by
  obtain ⟨fuel, hd⟩ := hd
  rcases open_slice hu hd with ⟨h0, _⟩ | ⟨a, len, cap', m, n', D, Pl, hcs, _, _, _, _, hx, _⟩
  · simp [Value.cells] at h0
    obtain ⟨_, rfl, _⟩ := h0
    omega
  · simp [Value.cells] at hcs
    obtain ⟨rfl, rfl, rfl⟩ := hcs
    simp only [Prod.mk.injEq] at hx
    rw [hx.1] at hj
    have h1 := sized_slice hsz ht hj hu
    simp only [List.length_map, List.length_range] at h1
    unfold reachBytes at h1
    rw [hb] at h1
    have h2 : n * b ≤ (n + (m - n)) * b := Nat.mul_le_mul_right _ (Nat.le_add_right _ _)
    omega
end Go.Proofs.Ytdkkmmljaijomaa
