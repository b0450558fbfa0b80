/- color.Greedy, plain; the least number that is not in a set. -/
import Derived.Test.YtckmedmebabkjaaDoorColEp
import Derived.Test.YtckmedmebabkjaaDoorOrdP
namespace Go.Proofs.YtckmedmebabkjaaDoor
open Go.RowKit

def lowFrom (u : Nat) : Nat → Nat → Nat
  | 0, i => i
  | k + 1, i => if u.testBit i then lowFrom u k (i + 1) else i
/-- The least number that is not in u. -/
def lowZ (u : Nat) : Nat := lowFrom u 8 0
theorem lowFrom_spec (u : Nat) : ∀ (k i : Nat), i ≤ lowFrom u k i ∧ lowFrom u k i ≤ i + k ∧ (∀ j, i ≤ j → j < lowFrom u k i → u.testBit j = true) ∧ (lowFrom u k i < i + k → u.testBit (lowFrom u k i) = false)
  | 0, i => ⟨Nat.le_refl _, Nat.le_refl _, fun j h1 h2 => (by unfold lowFrom at h2; omega), fun h => (by unfold lowFrom at h; omega)⟩
  | k + 1, i => by
    unfold lowFrom
    by_cases hb : u.testBit i = true
    · rw [if_pos hb]
      obtain ⟨h1, h2, h3, h4⟩ := lowFrom_spec u k (i + 1)
      refine ⟨by omega, by omega, fun j hj1 hj2 => ?_, fun h => h4 (by omega)⟩
      by_cases e : j = i
      · rw [e]; exact hb
      · exact h3 j (by omega) hj2
    · rw [if_neg hb]
      exact ⟨Nat.le_refl _, by omega, fun j h1 h2 => by omega, fun _ => by simpa using hb⟩
theorem lowZ_lt (u : Nat) : ∀ j, j < lowZ u → u.testBit j = true := fun j hj => (lowFrom_spec u 8 0).2.2.1 j (Nat.zero_le _) hj
theorem lowZ_le (u : Nat) : lowZ u ≤ 8 := by have := (lowFrom_spec u 8 0).2.1; unfold lowZ; omega
theorem lowZ_no {u : Nat} (h : u < 256) : u.testBit (lowZ u) = false := by
  rcases Nat.lt_or_ge (lowZ u) 8 with h1 | h1
  · exact (lowFrom_spec u 8 0).2.2.2 (by unfold lowZ at h1; omega)
  · cases hb : u.testBit (lowZ u)
    · rfl
    · have := bit_lt (n := 8) h hb; omega
open Classical in
/-- The neighbours of i among some. -/
noncomputable def nbL (ps : List (Int × Int)) (i : Nat) (O : List Int) : List Int := O.filter fun x => decide (∃ j : Nat, x = j ∧ Cl ps i j)
theorem mem_nbL {ps : List (Int × Int)} {i : Nat} {O : List Int} {x : Int} : x ∈ nbL ps i O ↔ x ∈ O ∧ ∃ j : Nat, x = j ∧ Cl ps i j := by
  unfold nbL
  rw [List.mem_filter]
  simp
/-- Behind the first k of the order. -/
structure GrK (m : Nat) (ps : List (Int × Int)) (O o : List Int) (k : Nat) : Prop where
  len : o.length = m
  in_ : ∀ x ∈ O.take k, 0 ≤ x ∧ x < m
  one : (O.take k).Nodup
  no : ∀ i : Nat, i < m → (i : Int) ∉ O.take k → o.getD i 0 = -1
  yes : ∀ i : Nat, (i : Int) ∈ O.take k → 0 ≤ o.getD i 0 ∧ o.getD i 0 < 8
  ne : ∀ i j : Nat, (i : Int) ∈ O.take k → (j : Int) ∈ O.take k → Cl ps i j → o.getD i 0 ≠ o.getD j 0
  few : ∀ (t i : Nat), t < k → O[t]? = some (i : Int) → o.getD i 0 ≤ (nbL ps i (O.take t)).length
theorem GrK.start {m : Nat} {ps : List (Int × Int)} (O : List Int) : GrK m ps O (List.replicate m (-1)) 0 := by
  refine ⟨by simp, by simp, by simp, fun i hi _ => ?_, fun i h => by simp at h, fun i j h => by simp at h, fun t i h => by omega⟩
  rw [List.getD_eq_getElem?_getD, List.getElem?_replicate, if_pos hi]; rfl
theorem gI_setG {r : List Int} {j : Nat} (hj : j < r.length) (x : Int) (i : Nat) : (r.set j x).getD i 0 = if j = i then x else r.getD i 0 := by
  rw [List.getD_eq_getElem?_getD, List.getD_eq_getElem?_getD, List.getElem?_set]
  by_cases e : j = i
  · subst e; rw [if_pos rfl, if_pos hj, if_pos rfl]; rfl
  · rw [if_neg e, if_neg e]
/-- What is used of i's neighbours among the first t. -/
def UsedG (ps : List (Int × Int)) (o : List Int) (i t u : Nat) : Prop := ∀ c : Nat, u.testBit c = true ↔ ∃ j, j < t ∧ o.getD j 0 = (c : Int) ∧ Cl ps i j
theorem GrK.next {m : Nat} {ps : List (Int × Int)} {O o : List Int} {k i u : Nat} (hps : ClOk m ps) (h : GrK m ps O o k) (hk : O[k]? = some (i : Int)) (hi : i < m) (h0 : o.getD i 0 < 0) (hu : UsedG ps o i m u) (hu8 : u < 256) :
    GrK m ps O (o.set i (lowZ u)) (k + 1) ∧ lowZ u ≤ (nbL ps i (O.take k)).length ∧ lowZ u < 8 := by
  have htk : O.take (k + 1) = O.take k ++ [(i : Int)] := by rw [List.take_add_one, hk]; rfl
  have hni : (i : Int) ∉ O.take k := fun hm => by have := (h.yes i hm).1; omega
  have hil : i < o.length := by rw [h.len]; exact hi
  have hg := fun j => gI_setG hil ((lowZ u : Nat) : Int) j
  have hmem : ∀ j : Nat, (j : Int) ∈ O.take (k + 1) ↔ (j : Int) ∈ O.take k ∨ j = i := fun j => by
    rw [htk, List.mem_append]
    simp only [List.mem_singleton]
    exact or_congr Iff.rfl ⟨fun h => by omega, fun h => by rw [h]⟩
  have hcnt : lowZ u ≤ (nbL ps i (O.take k)).length := by
    have hx : ∀ c, c < lowZ u → ∃ x ∈ nbL ps i (O.take k), o.getD x.toNat 0 = (c : Int) := fun c hc => by
      obtain ⟨j, hj, e, hcl⟩ := (hu c).1 (lowZ_lt u c hc)
      have hjt : (j : Int) ∈ O.take k := by
        apply Classical.byContradiction
        intro hn
        have := h.no j hj hn
        omega
      exact ⟨(j : Int), mem_nbL.2 ⟨hjt, j, rfl, hcl⟩, by rw [Int.toNat_natCast]; exact e⟩
    have := nodup_sub_len_ (l := natL (lowZ u)) (m := (nbL ps i (O.take k)).map fun x => o.getD x.toNat 0) (natL_nodup _) (fun y hy => by
      obtain ⟨h1, h2⟩ := natL_mem.1 hy
      obtain ⟨c, rfl⟩ := Int.eq_ofNat_of_zero_le h1
      obtain ⟨x, hx1, hx2⟩ := hx c (by omega)
      exact List.mem_map.2 ⟨x, hx1, hx2⟩)
    rw [natL_len, List.length_map] at this
    exact this
  have h8 : lowZ u < 8 := by
    have h1 := nodup_sub_len_ (l := (i : Int) :: nbL ps i (O.take k)) (m := natL m) (List.nodup_cons.2 ⟨fun hm => hni (mem_nbL.1 hm).1, List.Nodup.sublist List.filter_sublist h.one⟩) (fun x hx => by
      rw [natL_mem]
      rcases List.mem_cons.1 hx with rfl | hx
      · omega
      · exact h.in_ x (mem_nbL.1 hx).1)
    rw [List.length_cons, natL_len] at h1
    have := hps.n8
    omega
  refine ⟨⟨by rw [List.length_set]; exact h.len, fun x hx => ?_, ?_, fun j hj hn => ?_, fun j hj => ?_, fun a b ha hb hcl => ?_, fun t j ht hj => ?_⟩, hcnt, h8⟩
  · rw [htk, List.mem_append] at hx
    rcases hx with hx | hx
    · exact h.in_ x hx
    · have : x = (i : Int) := by simpa using hx
      omega
  · rw [htk, List.nodup_append]
    exact ⟨h.one, by simp, fun a ha b hb e => by
      have : b = (i : Int) := by simpa using hb
      exact hni (this ▸ e ▸ ha)⟩
  · rw [hmem] at hn
    rw [hg, if_neg (fun e => hn (.inr e.symm))]
    exact h.no j hj (fun hm => hn (.inl hm))
  · rw [hg]
    rcases (hmem j).1 hj with hj | rfl
    · rw [if_neg (by rintro rfl; exact hni hj)]; exact h.yes j hj
    · rw [if_pos rfl]; omega
  · have hno := lowZ_no hu8
    have key : ∀ b : Nat, (b : Int) ∈ O.take k → Cl ps i b → o.getD b 0 ≠ ((lowZ u : Nat) : Int) := fun b hb hcl e => by
      have : u.testBit (lowZ u) = true := (hu _).2 ⟨b, by have := h.in_ _ hb; omega, e, hcl⟩
      rw [hno] at this; cases this
    rw [hg, hg]
    rcases (hmem a).1 ha with ha | rfl
    · rw [if_neg (by rintro rfl; exact hni ha)]
      rcases (hmem b).1 hb with hb | rfl
      · rw [if_neg (by rintro rfl; exact hni hb)]; exact h.ne a b ha hb hcl
      · rw [if_pos rfl]; exact key a ha hcl.symm
    · rw [if_pos rfl]
      rcases (hmem b).1 hb with hb | rfl
      · rw [if_neg (by rintro rfl; exact hni hb)]; exact fun e => key b hb hcl e.symm
      · exact absurd rfl (hcl.lt hps).2.2
  · rw [hg]
    rcases Nat.lt_or_ge t k with ht2 | ht2
    · have hjm : (j : Int) ∈ O.take k := by
        rw [List.mem_iff_getElem?]
        exact ⟨t, by rw [List.getElem?_take, if_pos ht2]; exact hj⟩
      rw [if_neg (by rintro rfl; exact hni hjm)]
      exact h.few t j ht2 hj
    · have : t = k := by omega
      subst this
      rw [hk] at hj
      injection hj with hj
      have : i = j := by omega
      subst this
      rw [if_pos rfl]
      omega
/-- What Greedy gives. -/
structure GrR (m : Nat) (ps : List (Int × Int)) (O : List Int) (l : List Nat) : Prop where
  len : l.length = m
  ord : OrdOk m O
  lt : ∀ x ∈ l, x < 8
  ne : ∀ i j : Nat, i < m → j < m → Cl ps i j → l.getD i 0 ≠ l.getD j 0
  few : ∀ (t i : Nat), O[t]? = some (i : Int) → l.getD i 0 ≤ (nbL ps i (O.take t)).length
theorem getD_toNat (o : List Int) (i : Nat) : (o.map Int.toNat).getD i 0 = (o.getD i 0).toNat := by
  rw [List.getD_eq_getElem?_getD, List.getD_eq_getElem?_getD, List.getElem?_map]
  cases o[i]? <;> rfl
theorem GrK.all {m : Nat} {ps : List (Int × Int)} {O o : List Int} (h : GrK m ps O o O.length) (hl : O.length = m) : GrR m ps O (o.map Int.toNat) ∧ ∀ x ∈ o, 0 ≤ x := by
  have ht : O.take O.length = O := List.take_length
  have hin := h.in_
  have h1 := h.one
  have hyes := h.yes
  have hne := h.ne
  rw [ht] at hin h1 hyes hne
  have hord : OrdOk m O := ⟨h1, hin, hl⟩
  have hall := hord.all
  have hpos : ∀ i, i < m → 0 ≤ o.getD i 0 ∧ o.getD i 0 < 8 := fun i hi => hyes i (hall i hi)
  have hget : ∀ x ∈ o, 0 ≤ x ∧ x < 8 := fun x hx => by
    obtain ⟨i, hi, rfl⟩ := List.getElem_of_mem hx
    have := hpos i (by rw [← h.len]; exact hi)
    rw [List.getD_eq_getElem?_getD, List.getElem?_eq_getElem hi] at this
    exact this
  refine ⟨⟨by rw [List.length_map]; exact h.len, hord, fun x hx => ?_, fun i j hi hj hcl => ?_, fun t i hti => ?_⟩, fun x hx => (hget x hx).1⟩
  · obtain ⟨y, hy, rfl⟩ := List.mem_map.1 hx
    have := hget y hy
    omega
  · rw [getD_toNat, getD_toNat]
    have h1 := hne i j (hall i hi) (hall j hj) hcl
    have h2 := hpos i hi
    have h3 := hpos j hj
    omega
  · rw [getD_toNat]
    have htl : t < O.length := (List.getElem?_eq_some_iff.1 hti).1
    have := h.few t i htl hti
    omega
end Go.Proofs.YtckmedmebabkjaaDoor
