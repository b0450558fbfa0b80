/- A list that names each number below n once. -/
import Derived.Test.YtckmedmebabkjaaDoorColP
import Derived.Test.YtckmedmebabkjaaDoorOwn
namespace Go.Proofs.YtckmedmebabkjaaDoor
open Go.RowKit
/-- The list names each task once. -/
structure OrdOk (n : Nat) (O : List Int) : Prop where
  one : O.Nodup
  in_ : ∀ x ∈ O, 0 ≤ x ∧ x < n
  len : O.length = n
def natL (n : Nat) : List Int := (List.range n).map fun i : Nat => (i : Int)
theorem natL_len (n : Nat) : (natL n).length = n := by simp [natL]
theorem natL_nodup (n : Nat) : (natL n).Nodup := by
  unfold natL
  rw [List.nodup_iff_pairwise_ne, List.pairwise_map]
  exact List.nodup_range.imp fun h e => h (by omega)
theorem natL_mem {n : Nat} {x : Int} : x ∈ natL n ↔ 0 ≤ x ∧ x < n := by
  unfold natL
  simp only [List.mem_map, List.mem_range]
  constructor
  · rintro ⟨a, h, rfl⟩; omega
  · intro h; exact ⟨x.toNat, by omega, by omega⟩
theorem dup_short : ∀ {O : List Int}, ¬ O.Nodup → ∃ l : List Int, O.length = l.length + 1 ∧ ∀ x ∈ O, x ∈ l
  | [], h => absurd List.nodup_nil h
  | a :: r, h => by
    by_cases ha : a ∈ r
    · exact ⟨r, rfl, fun x hx => by rcases List.mem_cons.1 hx with rfl | hx; exact ha; exact hx⟩
    · have hr : ¬ r.Nodup := fun hr => h (List.nodup_cons.2 ⟨ha, hr⟩)
      obtain ⟨l, h1, h2⟩ := dup_short hr
      exact ⟨a :: l, by simp [h1], fun x hx => by
        rcases List.mem_cons.1 hx with rfl | hx
        · simp
        · exact List.mem_cons_of_mem _ (h2 x hx)⟩
theorem OrdOk.all {n : Nat} {O : List Int} (h : OrdOk n O) : ∀ i : Nat, i < n → (i : Int) ∈ O := fun i hi => Classical.byContradiction fun hn => by
  have := nodup_sub_len_ (l := (i : Int) :: O) (m := natL n) (List.nodup_cons.2 ⟨hn, h.one⟩) (fun x hx => by
    rw [natL_mem]
    rcases List.mem_cons.1 hx with rfl | hx
    · omega
    · exact h.in_ x hx)
  have h2 := h.len
  simp only [List.length_cons, natL_len] at this
  omega
theorem ordOk_of {n : Nat} {O : List Int} (hl : O.length = n) (h : ∀ i : Nat, i < n → (i : Int) ∈ O) : OrdOk n O := by
  have key : ∀ x ∈ natL n, x ∈ O := fun x hx => by
    obtain ⟨h1, h2⟩ := natL_mem.1 hx
    obtain ⟨a, rfl⟩ := Int.eq_ofNat_of_zero_le h1
    exact h a (by omega)
  refine ⟨Classical.byContradiction fun hn => ?_, fun x hx => Classical.byContradiction fun hn => ?_, hl⟩
  · obtain ⟨l, h1, h2⟩ := dup_short hn
    have := nodup_sub_len_ (natL_nodup n) (fun x hx => h2 x (key x hx))
    simp only [natL_len] at this
    omega
  · have := nodup_sub_len_ (l := x :: natL n) (m := O) (List.nodup_cons.2 ⟨fun h => hn (natL_mem.1 h), natL_nodup n⟩) (fun y hy => by
      rcases List.mem_cons.1 hy with rfl | hy
      · exact hx
      · exact key y hy)
    simp only [List.length_cons, natL_len] at this
    omega
end Go.Proofs.YtckmedmebabkjaaDoor
