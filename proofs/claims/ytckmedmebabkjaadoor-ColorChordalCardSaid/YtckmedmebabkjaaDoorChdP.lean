/- Perfect lists, plain: colored from the end as many numbers as the greatest clique has. -/
import Derived.Test.YtckmedmebabkjaaDoorGrdB
namespace Go.Proofs.YtckmedmebabkjaaDoor
open Go.RowKit

/-- Things that all clash are no more than Clique tells. -/
theorem BestQ.clique {m q : Nat} {ps : List (Int × Int)} (h : ClOk m ps) (hq : BestQ m ps q (2 ^ m)) {l : List Nat} (hn : l.Nodup) (hlt : ∀ i ∈ l, i < m) (ha : ∀ i ∈ l, ∀ j ∈ l, i ≠ j → Cl ps i j) : l.length ≤ cnt8 q := by
  have hm8 := h.n8
  have hbit : ∀ i, (setN (fun i => i ∈ l)).testBit i = true ↔ i ∈ l := fun i => by
    rw [setN_bit]
    exact ⟨fun h => h.2, fun h => ⟨by have := hlt i h; omega, h⟩⟩
  have hul : setN (fun i => i ∈ l) < 2 ^ m := lt_pow_of_bits fun k hk => hlt k ((hbit k).1 hk)
  have hb := hq.best _ hul ((allQ_iff h hul).2 (fun i j hi hj hne => ha i ((hbit i).1 hi) j ((hbit j).1 hj) hne))
  have hcl : l.length ≤ cnt8 (setN (fun i => i ∈ l)) := nodup_sub_len_ hn (fun i hi => by
    rw [List.mem_filter, List.mem_range]
    exact ⟨by have := hlt i hi; omega, (hbit i).2 hi⟩)
  omega
/-- The clique that Clique tells needs so many numbers. -/
theorem BestQ.least {m q K : Nat} {ps : List (Int × Int)} {c : List Nat} (h : ClOk m ps) (hq : BestQ m ps q (2 ^ m)) (hL : LeastL (clL m ps) c K) : cnt8 q ≤ mostN c 0 := by
  have hlen : c.length = m := by rw [hL.len, clL_len]
  have hC := hL.toC h
  rw [hC.most hlen h.n1 hL.k1]
  exact clique_le (l := (List.range 8).filter fun k => q.testBit k) (List.Nodup.sublist List.filter_sublist List.nodup_range) (fun i hi => bit_lt hq.lt (List.mem_filter.1 hi).2) (fun i hi j hj hne => (allQ_iff h hq.lt).1 hq.all i j (List.mem_filter.1 hi).2 (List.mem_filter.1 hj).2 hne) ⟨_, hC.proper, hC.lt⟩
/-- Each, when it goes, has neighbours left that all clash. -/
def PerfP (ps : List (Int × Int)) (l : List Int) : Prop := ∀ (t i : Nat), l[t]? = some (i : Int) → ∀ a b : Nat, Cl ps i a → Cl ps i b → (a : Int) ∉ l.take t → (b : Int) ∉ l.take t → a ≠ b → Cl ps a b
theorem perf_few {m q : Nat} {ps : List (Int × Int)} {l : List Int} (h : ClOk m ps) (hl : OrdOk m l) (hp : PerfP ps l) (hq : BestQ m ps q (2 ^ m)) {t i : Nat} (ht : l.reverse[t]? = some (i : Int)) : (nbL ps i (l.reverse.take t)).length + 1 ≤ cnt8 q := by
  have htl : t < l.length := by have := (List.getElem?_eq_some_iff.1 ht).1; simpa using this
  have hs : l[l.length - 1 - t]? = some (i : Int) := by rw [List.getElem?_reverse htl] at ht; exact ht
  generalize hsd : l.length - 1 - t = s at *
  have hsl : s < l.length := by omega
  have htk : l.reverse.take t = (l.drop (s + 1)).reverse := by
    rw [List.take_reverse]
    congr 2
    omega
  have hsplit : l = l.take s ++ (i : Int) :: l.drop (s + 1) := by
    have h1 : l[s] = (i : Int) := (List.getElem?_eq_some_iff.1 hs).2
    rw [← h1, ← List.drop_eq_getElem_cons hsl, List.take_append_drop]
  have hone := hl.one
  rw [hsplit, List.nodup_append] at hone
  obtain ⟨-, hn2, hn3⟩ := hone
  obtain ⟨hn4, hn5⟩ := List.nodup_cons.1 hn2
  have hmem : ∀ x, x ∈ nbL ps i (l.reverse.take t) ↔ x ∈ l.drop (s + 1) ∧ ∃ j : Nat, x = j ∧ Cl ps i j := fun x => by
    rw [mem_nbL, htk, List.mem_reverse]
  have hnd : (nbL ps i (l.reverse.take t)).Nodup := List.Nodup.sublist List.filter_sublist (by rw [htk]; exact (List.reverse_perm _).nodup_iff.2 hn5)
  have hnat : ∀ x ∈ nbL ps i (l.reverse.take t), ((x.toNat : Nat) : Int) = x := fun x hx => by
    obtain ⟨_, j, rfl, _⟩ := (hmem x).1 hx
    rfl
  have hout : ∀ x ∈ nbL ps i (l.reverse.take t), x ∉ l.take s := fun x hx hm => hn3 x hm x (List.mem_cons_of_mem _ ((hmem x).1 hx).1) rfl
  have hcl : ∀ x ∈ nbL ps i (l.reverse.take t), Cl ps i x.toNat := fun x hx => by
    obtain ⟨_, j, rfl, hj⟩ := (hmem x).1 hx
    exact hj
  have hmapn : ((nbL ps i (l.reverse.take t)).map Int.toNat).Nodup := by
    rw [List.nodup_iff_pairwise_ne, List.pairwise_map]
    refine List.Pairwise.imp_of_mem ?_ (List.nodup_iff_pairwise_ne.1 hnd)
    intro a b ha hb hne e
    have := hnat a ha
    have := hnat b hb
    omega
  have := hq.clique h (l := i :: (nbL ps i (l.reverse.take t)).map Int.toNat) (List.nodup_cons.2 ⟨fun hm => by
    obtain ⟨x, hx, e⟩ := List.mem_map.1 hm
    have := (hcl x hx).lt h
    omega, hmapn⟩) (fun j hj => by
    rcases List.mem_cons.1 hj with rfl | hj
    · have := hl.in_ (j : Int) (List.mem_of_getElem? hs)
      omega
    · obtain ⟨x, hx, rfl⟩ := List.mem_map.1 hj
      exact ((hcl x hx).lt h).2.1) (fun a ha b hb hne => by
    rcases List.mem_cons.1 ha with rfl | ha
    · rcases List.mem_cons.1 hb with rfl | hb
      · exact absurd rfl hne
      · obtain ⟨x, hx, rfl⟩ := List.mem_map.1 hb
        exact hcl x hx
    · obtain ⟨x, hx, rfl⟩ := List.mem_map.1 ha
      rcases List.mem_cons.1 hb with rfl | hb
      · exact (hcl x hx).symm
      · obtain ⟨y, hy, rfl⟩ := List.mem_map.1 hb
        exact hp s i hs _ _ (hcl x hx) (hcl y hy) (by rw [hnat x hx]; exact hout x hx) (by rw [hnat y hy]; exact hout y hy) hne)
  rw [List.length_cons, List.length_map] at this
  exact this
/-- What the law says. -/
theorem chordal_law {m q K : Nat} {ps : List (Int × Int)} {l : List Int} {c d : List Nat} (h : ClOk m ps) (hl : OrdOk m l) (hp : PerfP ps l) (hq : BestQ m ps q (2 ^ m)) (hL : LeastL (clL m ps) c K) (hG : GrR m ps l.reverse d) : mostN d 0 = cnt8 q ∧ mostN c 0 = cnt8 q := by
  have h1 := hq.least h hL
  have h2 := (greedy_law h hG hL).2
  have h3 : mostN d 0 ≤ cnt8 q := mostN_le (by omega) (fun x hx => by
    obtain ⟨i, hi, rfl⟩ := List.getElem_of_mem hx
    have him : i < m := by rw [← hG.len]; exact hi
    obtain ⟨t, ht⟩ := List.mem_iff_getElem?.1 (hG.ord.all i him)
    have h1 := hG.few t i ht
    rw [getD_of hi] at h1
    have := perf_few h hl hp hq ht
    omega)
  omega
theorem ord_rev {m : Nat} {l : List Int} (h : OrdOk m l) : OrdOk m l.reverse := ⟨(List.reverse_perm l).nodup_iff.2 h.one, fun x hx => h.in_ x (by simpa using hx), by rw [List.length_reverse]; exact h.len⟩
/-- Behind some turns of Perfect: what is left is s. -/
structure PerK (m : Nat) (ps : List (Int × Int)) (l : List Int) (s : Nat) : Prop where
  lt : s < 2 ^ m
  left : ∀ i : Nat, s.testBit i = true ↔ i < m ∧ (i : Int) ∉ l
  one : l.Nodup
  in_ : ∀ x ∈ l, 0 ≤ x ∧ x < m
  perf : PerfP ps l
theorem PerK.start {m : Nat} {ps : List (Int × Int)} : PerK m ps [] (2 ^ m - 1) := by
  refine ⟨by have := Nat.two_pow_pos m; omega, fun i => ?_, List.nodup_nil, fun x hx => (by cases hx), fun t i ht => (by simp at ht)⟩
  rw [Nat.testBit_two_pow_sub_one]
  simp
theorem PerK.next {m : Nat} {ps : List (Int × Int)} {l : List Int} {s i : Nat} (h : ClOk m ps) (hk : PerK m ps l s) (hi : s.testBit i = true) (ha : AllQ (clL m ps) (clS ps i &&& s)) : PerK m ps (l ++ [(i : Int)]) (andN s (2 ^ i)) := by
  have h8 : 2 ^ m ≤ 2 ^ 8 := Nat.pow_le_pow_right (by decide) h.n8
  have hs32 : s < 4294967296 := by have := hk.lt; omega
  obtain ⟨him, hil⟩ := (hk.left i).1 hi
  have hb : ∀ j, (andN s (2 ^ i)).testBit j = true ↔ s.testBit j = true ∧ j ≠ i := fun j => by
    rw [andN_bit _ hs32, Bool.and_eq_true, Bool.not_eq_true', testBit_pow, decide_eq_false_iff_not]
    exact and_congr Iff.rfl ⟨fun h e => h e.symm, fun h e => h e.symm⟩
  have hws : clS ps i &&& s < 2 ^ m := Nat.lt_of_le_of_lt Nat.and_le_right hk.lt
  have hcl := (allQ_iff h hws).1 ha
  have hbit : ∀ j, (clS ps i).testBit j = true ↔ Cl ps i j := fun j => by rw [← clL_bit h him, getD_of (by rw [clL_len]; exact him), clL_get]
  refine ⟨lt_pow_of_bits fun k hk2 => bit_lt hk.lt ((hb k).1 hk2).1, fun j => ?_, ?_, fun x hx => ?_, fun t j ht a b hca hcb hna hnb hne => ?_⟩
  · rw [hb, hk.left, List.mem_append]
    simp only [List.mem_singleton]
    constructor
    · rintro ⟨⟨h1, h2⟩, h3⟩
      exact ⟨h1, fun h => by rcases h with h | h; exact h2 h; exact h3 (by omega)⟩
    · rintro ⟨h1, h2⟩
      exact ⟨⟨h1, fun h => h2 (.inl h)⟩, fun e => h2 (.inr (by rw [e]))⟩
  · rw [List.nodup_append]
    exact ⟨hk.one, by simp, fun a ha b hb e => by
      have : b = (i : Int) := by simpa using hb
      exact hil (this ▸ e ▸ ha)⟩
  · rcases List.mem_append.1 hx with hx | hx
    · exact hk.in_ x hx
    · have : x = (i : Int) := by simpa using hx
      omega
  · rcases Nat.lt_or_ge t l.length with htl | htl
    · rw [List.getElem?_append_left htl] at ht
      rw [List.take_append_of_le_length (by omega)] at hna hnb
      exact hk.perf t j ht a b hca hcb hna hnb hne
    · have htl2 : t < l.length + 1 := by have := (List.getElem?_eq_some_iff.1 ht).1; simpa using this
      have : t = l.length := by omega
      subst this
      rw [List.getElem?_append_right (Nat.le_refl _), Nat.sub_self] at ht
      have : (i : Int) = (j : Int) := by simpa using ht
      have : i = j := by omega
      subst this
      rw [List.take_append_of_le_length (Nat.le_refl _), List.take_length] at hna hnb
      refine hcl a b ?_ ?_ hne
      · rw [Nat.testBit_and, Bool.and_eq_true]
        exact ⟨(hbit a).2 hca, (hk.left a).2 ⟨(hca.lt h).2.1, hna⟩⟩
      · rw [Nat.testBit_and, Bool.and_eq_true]
        exact ⟨(hbit b).2 hcb, (hk.left b).2 ⟨(hcb.lt h).2.1, hnb⟩⟩
theorem PerK.done {m : Nat} {ps : List (Int × Int)} {l : List Int} (hk : PerK m ps l 0) : OrdOk m l := by
  have hall : ∀ i : Nat, i < m → (i : Int) ∈ l := fun i hi => by
    apply Classical.byContradiction
    intro hn
    have := (hk.left i).2 ⟨hi, hn⟩
    rw [Nat.zero_testBit] at this
    cases this
  refine ⟨hk.one, hk.in_, ?_⟩
  have h1 := nodup_sub_len_ (l := natL m) (m := l) (natL_nodup m) (fun x hx => by
    obtain ⟨h1, h2⟩ := natL_mem.1 hx
    obtain ⟨a, rfl⟩ := Int.eq_ofNat_of_zero_le h1
    exact hall a (by omega))
  have h2 := nodup_sub_len_ (l := l) (m := natL m) hk.one (fun x hx => natL_mem.2 (hk.in_ x hx))
  rw [natL_len] at h1 h2
  omega
end Go.Proofs.YtckmedmebabkjaaDoor
