/- Brooks, plain: at most d neighbours each, three or more, no d + 1 that all clash: d numbers do. -/
import Derived.Test.YtckmedmebabkjaaColP
namespace Go.Proofs.Ytckmedmebabkjaa

/-- Numbers below d for the things in S, right ones. -/
structure PCo (adj : Nat → Nat → Prop) (d : Nat) (S : Nat → Prop) (c : Nat → Nat) : Prop where
  ne : ∀ i j, S i → S j → adj i j → c i ≠ c j
  lt : ∀ i, S i → c i < d
structure GrB (n d : Nat) (adj : Nat → Nat → Prop) : Prop where
  symm : ∀ i j, adj i j → adj j i
  irr : ∀ i, ¬ adj i i
  lt : ∀ i j, adj i j → j < n
  deg : ∀ (i : Nat) (l : List Nat), l.Nodup → (∀ j ∈ l, adj i j) → l.length ≤ d
open Classical in
noncomputable def nbS (n : Nat) (adj : Nat → Nat → Prop) (S : Nat → Prop) (i : Nat) : List Nat := (List.range n).filter fun j => decide (adj i j ∧ S j)
section
open Classical
variable {n d : Nat} {adj : Nat → Nat → Prop} {S T : Nat → Prop} {c : Nat → Nat} {u x y : Nat}
theorem nbS_nodup : (nbS n adj S u).Nodup := List.Nodup.sublist List.filter_sublist List.nodup_range
theorem mem_nbS (h : GrB n d adj) : x ∈ nbS n adj S u ↔ adj u x ∧ S x := by
  unfold nbS
  rw [List.mem_filter, List.mem_range, decide_eq_true_eq]
  exact ⟨fun h => h.2, fun k => ⟨h.lt _ _ k.1, k⟩⟩
theorem PCo.sub (h : PCo adj d T c) (hs : ∀ i, S i → T i) : PCo adj d S c := ⟨fun i j hi hj => h.ne i j (hs i hi) (hs j hj), fun i hi => h.lt i (hs i hi)⟩
theorem PCo.add (h : GrB n d adj) (hc : PCo adj d S c) {k : Nat} (hu : ¬ S u) (hk : k < d) (hf : ∀ j, S j → adj u j → c j ≠ k) :
    ∃ c', PCo adj d (fun i => S i ∨ i = u) c' ∧ (∀ i, S i → c' i = c i) ∧ c' u = k := by
  have e1 : ∀ i, S i → (if i = u then k else c i) = c i := fun i hi => if_neg (by rintro rfl; exact hu hi)
  refine ⟨fun i => if i = u then k else c i, ⟨fun i j hi hj ha => ?_, fun i hi => ?_⟩, e1, if_pos rfl⟩
  · show (if i = u then k else c i) ≠ (if j = u then k else c j)
    rcases hi with hi | rfl
    · rcases hj with hj | rfl
      · rw [e1 i hi, e1 j hj]; exact hc.ne i j hi hj ha
      · rw [e1 i hi, if_pos rfl]; exact hf i hi (h.symm _ _ ha)
    · rcases hj with hj | rfl
      · rw [e1 j hj, if_pos rfl]; exact fun e => hf j hj ha e.symm
      · exact absurd ha (h.irr _)
  · show (if i = u then k else c i) < d
    rcases hi with hi | rfl
    · rw [e1 i hi]; exact hc.lt i hi
    · rw [if_pos rfl]; exact hk
theorem PCo.few (h : GrB n d adj) (hc : PCo adj d S c) (hu : ¬ S u) {l : List Nat} (hl : l.length < d) (hm : ∀ j, S j → adj u j → ∃ i ∈ l, c i = c j) :
    ∃ c', PCo adj d (fun i => S i ∨ i = u) c' ∧ ∀ i, S i → c' i = c i := by
  obtain ⟨k, hk, hn⟩ := free_of (l := l.map c) (k := d) (by simpa using hl)
  obtain ⟨c', h1, h2, _⟩ := hc.add h hu hk (fun j hj ha e => by
    obtain ⟨i, hi, e2⟩ := hm j hj ha
    exact hn (List.mem_map.2 ⟨i, hi, e2.trans e⟩))
  exact ⟨c', h1, h2⟩
theorem PCo.step (h : GrB n d adj) (hc : PCo adj d S c) (hu : ¬ S u) (hx : adj u x) (hxS : ¬ S x) :
    ∃ c', PCo adj d (fun i => S i ∨ i = u) c' ∧ ∀ i, S i → c' i = c i := by
  refine hc.few h hu (l := nbS n adj S u) ?_ (fun j hj ha => ⟨j, (mem_nbS h).2 ⟨ha, hj⟩, rfl⟩)
  have := h.deg u (x :: nbS n adj S u) (List.nodup_cons.2 ⟨fun hm => hxS ((mem_nbS h).1 hm).2, nbS_nodup⟩) (fun j hj => by
    rcases List.mem_cons.1 hj with rfl | hj
    · exact hx
    · exact ((mem_nbS h).1 hj).1)
  rw [List.length_cons] at this
  omega
theorem PCo.last (h : GrB n d adj) (hc : PCo adj d S c) (hu : ¬ S u) (hx : adj u x) (hy : adj u y) (hxy : x ≠ y) (sx : S x) (sy : S y) (he : c x = c y) :
    ∃ c', PCo adj d (fun i => S i ∨ i = u) c' ∧ ∀ i, S i → c' i = c i := by
  have hym : y ∈ nbS n adj S u := (mem_nbS h).2 ⟨hy, sy⟩
  refine hc.few h hu (l := (nbS n adj S u).erase y) ?_ (fun j hj ha => ?_)
  · rw [List.length_erase_of_mem hym]
    have h1 := h.deg u (nbS n adj S u) nbS_nodup (fun j hj => ((mem_nbS h).1 hj).1)
    have h2 := List.length_pos_of_mem hym
    omega
  · by_cases e : j = y
    · exact ⟨x, (List.mem_erase_of_ne hxy).2 ((mem_nbS h).2 ⟨hx, sx⟩), by rw [he, e]⟩
    · exact ⟨j, (List.mem_erase_of_ne e).2 ((mem_nbS h).2 ⟨ha, hj⟩), rfl⟩
end
/-- One clashes with the next one. -/
def Chn (adj : Nat → Nat → Prop) : List Nat → Prop
  | [] => True
  | [_] => True
  | a :: b :: r => adj a b ∧ Chn adj (b :: r)
section
variable {adj : Nat → Nat → Prop} {a b : Nat} {m : List Nat}
theorem Chn.tail : ∀ {l : List Nat}, Chn adj (a :: l) → Chn adj l
  | [], _ => trivial
  | _ :: _, h => h.2
theorem Chn.right : ∀ (l : List Nat), Chn adj (l ++ m) → Chn adj m
  | [], h => h
  | _ :: l, h => Chn.right l (Chn.tail h)
theorem Chn.left : ∀ (l : List Nat), Chn adj (l ++ m) → Chn adj l
  | [], _ => trivial
  | [_], _ => trivial
  | _ :: b :: l, h => ⟨h.1, Chn.left (b :: l) h.2⟩
theorem Chn.mid (l : List Nat) (h : Chn adj (l ++ a :: b :: m)) : adj a b := (Chn.right l h).1
theorem Chn.join : ∀ (l : List Nat), Chn adj (l ++ [a]) → Chn adj (b :: m) → adj a b → Chn adj (l ++ a :: b :: m)
  | [], _, h2, h3 => ⟨h3, h2⟩
  | [_], h1, h2, h3 => ⟨h1.1, h3, h2⟩
  | _ :: y :: l, h1, h2, h3 => ⟨h1.1, Chn.join (y :: l) h1.2 h2 h3⟩
theorem Chn.rev (hs : ∀ i j, adj i j → adj j i) : ∀ (l : List Nat), Chn adj l → Chn adj l.reverse
  | [], _ => trivial
  | [_], _ => trivial
  | a :: b :: r, h => by
    have ih := Chn.rev hs (b :: r) h.2
    rw [List.reverse_cons] at ih
    rw [List.reverse_cons, List.reverse_cons, List.append_assoc]
    exact Chn.join r.reverse ih trivial (hs _ _ h.1)
end
theorem first_split {p : Nat → Prop} : ∀ {l : List Nat}, (∃ x ∈ l, p x) → ∃ A a B, l = A ++ a :: B ∧ p a ∧ ∀ x ∈ A, ¬ p x
  | [], ⟨_, h, _⟩ => by cases h
  | z :: l, ⟨x, hx, hp⟩ => by
    by_cases hz : p z
    · exact ⟨[], z, l, rfl, hz, by simp⟩
    · have hx' : x ∈ l := by
        rcases List.mem_cons.1 hx with rfl | h
        · exact absurd hp hz
        · exact h
      obtain ⟨A, a, B, rfl, h1, h2⟩ := first_split ⟨x, hx', hp⟩
      exact ⟨z :: A, a, B, rfl, h1, fun y hy => by
        rcases List.mem_cons.1 hy with rfl | h
        · exact hz
        · exact h2 y h⟩
theorem last_split {p : Nat → Prop} {l : List Nat} (h : ∃ x ∈ l, p x) : ∃ A a B, l = A ++ a :: B ∧ p a ∧ ∀ x ∈ B, ¬ p x := by
  obtain ⟨x, hx, hp⟩ := h
  obtain ⟨A, a, B, e, h1, h2⟩ := first_split (l := l.reverse) ⟨x, List.mem_reverse.2 hx, hp⟩
  refine ⟨B.reverse, a, A.reverse, ?_, h1, fun y hy => h2 y (List.mem_reverse.1 hy)⟩
  have := congrArg List.reverse e
  rw [List.reverse_reverse] at this
  rw [this]
  simp
section
variable {n d : Nat} {adj : Nat → Nat → Prop}
theorem PCo.chain (h : GrB n d adj) : ∀ (us : List Nat) (S : Nat → Prop) (c : Nat → Nat) (z : Nat), PCo adj d S c → (∀ u ∈ us, ¬ S u) → ¬ S z → (us ++ [z]).Nodup → Chn adj (us ++ [z]) →
    ∃ c', PCo adj d (fun i => S i ∨ i ∈ us) c' ∧ ∀ i, S i → c' i = c i
  | [], S, c, z, hc, _, _, _, _ => ⟨c, hc.sub (fun i hi => hi.resolve_right (by simp)), fun _ _ => rfl⟩
  | u :: us, S, c, z, hc, hu, hz, hn, hch => by
    have hu0 := hu u (by simp)
    have hn' : u ∉ us ++ [z] ∧ (us ++ [z]).Nodup := List.nodup_cons.1 hn
    have hx : ∃ x, adj u x ∧ ¬ S x := by
      cases us with
      | nil => exact ⟨z, hch.1, hz⟩
      | cons y us => exact ⟨y, hch.1, hu y (by simp)⟩
    obtain ⟨x, hx1, hx2⟩ := hx
    obtain ⟨c1, k1, k2⟩ := hc.step h hu0 hx1 hx2
    obtain ⟨c2, k3, k4⟩ := PCo.chain h us (fun i => S i ∨ i = u) c1 z k1 (fun y hy => by
      rintro (h1 | rfl)
      · exact hu y (by simp [hy]) h1
      · exact hn'.1 (by simp [hy])) (by
      rintro (h1 | rfl)
      · exact hz h1
      · exact hn'.1 (by simp)) hn'.2 hch.tail
    refine ⟨c2, k3.sub (fun i hi => ?_), fun i hi => (k4 i (.inl hi)).trans (k2 i hi)⟩
    rcases hi with hi | hi
    · exact .inl (.inl hi)
    · rcases List.mem_cons.1 hi with rfl | hi
      · exact .inl (.inr rfl)
      · exact .inr hi
/-- A path that cannot be longer. -/
theorem grow (h : GrB n d adj) (V : List Nat) : ∀ (k : Nat) (P : List Nat) (z : Nat), V.length ≤ P.length + k → (P ++ [z]).Nodup → (∀ x ∈ P ++ [z], x ∈ V) → Chn adj (P ++ [z]) →
    ∃ Q z', (P ++ [z]) <+: (Q ++ [z']) ∧ (Q ++ [z']).Nodup ∧ (∀ x ∈ Q ++ [z'], x ∈ V) ∧ Chn adj (Q ++ [z']) ∧ ∀ j ∈ V, adj z' j → j ∈ Q
  | 0, P, z, hk, hn, hV, _ => by
    have := nodup_sub_len_ hn hV
    simp at this
    omega
  | k + 1, P, z, hk, hn, hV, hch => by
    by_cases hx : ∃ j, j ∈ V ∧ adj z j ∧ j ∉ P
    · obtain ⟨j, j1, j2, j3⟩ := hx
      have hjz : j ≠ z := fun e => h.irr z (e ▸ j2)
      have hjn : j ∉ P ++ [z] := by
        rw [List.mem_append]
        rintro (h1 | h1)
        · exact j3 h1
        · exact hjz (by simpa using h1)
      obtain ⟨Q, z', q1, q2, q3, q4, q5⟩ := grow h V k (P ++ [z]) j (by simp; omega) (by
          rw [List.nodup_append]
          exact ⟨hn, by simp, fun a ha b hb e => by
            have : b = j := by simpa using hb
            exact hjn (this ▸ e ▸ ha)⟩) (fun x hx => by
          rcases List.mem_append.1 hx with h1 | h1
          · exact hV x h1
          · have : x = j := by simpa using h1
            rw [this]; exact j1) (by rw [List.append_assoc]; exact Chn.join P hch trivial j2)
      exact ⟨Q, z', (List.prefix_append _ _).trans q1, q2, q3, q4, q5⟩
    · exact ⟨P, z, List.prefix_refl _, hn, hV, hch, fun j hj ha => by
        apply Classical.byContradiction
        intro hjP
        exact hx ⟨j, hj, ha, hjP⟩⟩
theorem filter_lt {V : List Nat} {p : Nat → Bool} {x : Nat} (hx : x ∈ V) (hp : p x = false) : (V.filter p).length < V.length := by
  have h1 := List.length_filter_le p V
  rcases Nat.lt_or_ge (V.filter p).length V.length with h | h
  · exact h
  · have h2 := List.filter_sublist (p := p) (l := V) |>.eq_of_length (by omega)
    have : x ∈ V.filter p := by rw [h2]; exact hx
    rw [List.mem_filter, hp] at this
    cases this.2
theorem concat_of {l : List Nat} (h : l ≠ []) : ∃ D z, l = D ++ [z] := ⟨l.dropLast, l.getLast h, (List.dropLast_concat_getLast h).symm⟩
open Classical in
theorem brooks_ind (h : GrB n d adj) (hd : 3 ≤ d) (hq : ∀ l : List Nat, l.Nodup → (∀ i ∈ l, ∀ j ∈ l, i ≠ j → adj i j) → l.length ≤ d) :
    ∀ (k : Nat) (V : List Nat), V.length ≤ k → V.Nodup → ∃ c, PCo adj d (· ∈ V) c
  | 0, V, hk, _ => ⟨fun _ => 0, by
    have : V = [] := List.eq_nil_of_length_eq_zero (by omega)
    subst this
    exact ⟨fun i j hi => absurd hi (by simp), fun i hi => absurd hi (by simp)⟩⟩
  | k + 1, V, hk, hn => by
    have sub : ∀ (p : Nat → Bool) (x : Nat), x ∈ V → p x = false → ∃ c, PCo adj d (fun i => i ∈ V ∧ p i = true) c := fun p x hx hp => by
      obtain ⟨c, hc⟩ := brooks_ind h hd hq k (V.filter p) (by have := filter_lt hx hp; omega) (List.Nodup.sublist List.filter_sublist hn)
      exact ⟨c, hc.sub (fun i hi => List.mem_filter.2 hi)⟩
    by_cases hlow : ∃ v, v ∈ V ∧ (nbS n adj (· ∈ V) v).length < d
    · obtain ⟨v, hv, hl⟩ := hlow
      obtain ⟨c, hc⟩ := sub (fun i => decide (i ≠ v)) v hv (by simp)
      obtain ⟨c', h1, _⟩ := hc.few h (u := v) (by simp) hl (fun j hj ha => ⟨j, (mem_nbS h).2 ⟨ha, hj.1⟩, rfl⟩)
      exact ⟨c', h1.sub (fun i hi => by
        by_cases e : i = v
        · exact .inr e
        · exact .inl ⟨hi, by simpa using e⟩)⟩
    have hall : ∀ v, v ∈ V → d ≤ (nbS n adj (· ∈ V) v).length := fun v hv => by
      apply Classical.byContradiction
      intro hx
      exact hlow ⟨v, hv, by omega⟩
    cases hVe : V with
    | nil => exact ⟨fun _ => 0, ⟨fun i j hi => absurd hi (by simp), fun i hi => absurd hi (by simp)⟩⟩
    | cons v V0 =>
    rw [← hVe]
    have hv : v ∈ V := by rw [hVe]; simp
    have hxy : ∃ x y, x ∈ nbS n adj (· ∈ V) v ∧ y ∈ nbS n adj (· ∈ V) v ∧ x ≠ y ∧ ¬ adj x y := by
      apply Classical.byContradiction
      intro hx
      have := hq (v :: nbS n adj (· ∈ V) v) (List.nodup_cons.2 ⟨fun hm => h.irr v ((mem_nbS h).1 hm).1, nbS_nodup⟩) (fun i hi j hj hne => by
        rcases List.mem_cons.1 hi with rfl | hi
        · rcases List.mem_cons.1 hj with rfl | hj
          · exact absurd rfl hne
          · exact ((mem_nbS h).1 hj).1
        · rcases List.mem_cons.1 hj with rfl | hj
          · exact h.symm _ _ ((mem_nbS h).1 hi).1
          · apply Classical.byContradiction
            intro ha
            exact hx ⟨i, j, hi, hj, hne, ha⟩)
      rw [List.length_cons] at this
      have := hall v hv
      omega
    obtain ⟨x, y, hx, hy, hne, hna⟩ := hxy
    obtain ⟨hx1, hx2⟩ := (mem_nbS h).1 hx
    obtain ⟨hy1, hy2⟩ := (mem_nbS h).1 hy
    have hxv : x ≠ v := fun e => h.irr v (e ▸ hx1)
    have hyv : y ≠ v := fun e => h.irr v (e ▸ hy1)
    obtain ⟨Q, z, hpre, hQn, hQV, hQc, hQz⟩ := grow h V V.length [x, v] y (by simp) (by simp [hxv, hne, Ne.symm hyv]) (fun t ht => by
      simp at ht
      rcases ht with rfl | rfl | rfl
      · exact hx2
      · exact hv
      · exact hy2) ⟨h.symm _ _ hx1, hy1, trivial⟩
    have hzV : z ∈ V := hQV z (by simp)
    have hnb : ∃ t ∈ Q, adj z t := by
      have := hall z hzV
      obtain ⟨t, ht⟩ := List.exists_mem_of_length_pos (l := nbS n adj (· ∈ V) z) (by omega)
      obtain ⟨h1, h2⟩ := (mem_nbS h).1 ht
      exact ⟨t, hQz t h2 h1, h1⟩
    obtain ⟨A, a, B, rfl, haz, hA⟩ := first_split hnb
    have hC1 : A ++ a :: B ++ [z] = A ++ (a :: B ++ [z]) := by rw [List.append_assoc]
    rw [hC1] at hpre hQn hQV hQc
    generalize hCe : a :: B ++ [z] = C at *
    have hCn : C.Nodup := (List.nodup_append.1 hQn).2.1
    have hCV : ∀ t ∈ C, t ∈ V := fun t ht => hQV t (List.mem_append_right _ ht)
    have hCc : Chn adj C := Chn.right A hQc
    have hzC : ∀ t, t ∈ V → adj z t → t ∈ C := fun t ht ha => by
      have := hQz t ht ha
      rcases List.mem_append.1 this with h1 | h1
      · exact absurd ha (hA t h1)
      · rw [← hCe]; exact List.mem_append_left _ h1
    have haC : a ∈ C := by rw [← hCe]; simp
    obtain ⟨c, hc⟩ := sub (fun i => decide (i ∉ C)) a (hCV a haC) (by simpa using haC)
    have hc : PCo adj d (fun i => i ∈ V ∧ i ∉ C) c := hc.sub (fun i hi => ⟨hi.1, by simpa using hi.2⟩)
    clear sub
    by_cases hout : ∃ u ∈ C, ∃ t, t ∈ V ∧ adj u t ∧ t ∉ C
    · obtain ⟨D, u, E, hDE, ⟨t, t1, t2, t3⟩, hE⟩ := last_split hout
      have hEne : E ≠ [] := by
        intro e
        rw [e, ← hCe] at hDE
        have : u = z := (List.append_inj' hDE rfl).2 |> fun h => by injection h with h; exact h.symm
        subst this
        exact t3 (hzC t t1 t2)
      cases hEe : E with
      | nil => exact absurd hEe hEne
      | cons u' E' =>
      rw [hEe] at hDE hE
      have hu'E : u' ∈ C := by rw [hDE]; simp
      have huC : u ∈ C := by rw [hDE]; simp
      have hno : ∀ j, j ∈ V → adj u' j → j ∈ C := fun j hj ha => by
        apply Classical.byContradiction
        intro hjC
        exact hE u' (by simp) ⟨j, hj, ha, hjC⟩
      have huu' : adj u u' := by rw [hDE] at hCc; exact Chn.mid D hCc
      -- the round, from u' to u
      obtain ⟨G, z2, hG⟩ := concat_of (l := u' :: E') (by simp)
      have hz2 : z2 = z := by
        have : D ++ [u] ++ (u' :: E') = a :: B ++ [z] := by rw [hCe, hDE]; simp
        rw [hG, ← List.append_assoc] at this
        have := (List.append_inj' this rfl).2
        injection this
      rw [hz2] at hG
      have hDu : ∃ H, D ++ [u] = a :: H := by
        cases D with
        | nil =>
          rw [← hCe] at hDE
          have : a = u := by simpa using congrArg List.head? hDE
          exact ⟨[], by rw [this]; rfl⟩
        | cons g D' =>
          rw [← hCe] at hDE
          have : a = g := by simpa using congrArg List.head? hDE
          exact ⟨D' ++ [u], by rw [this]; rfl⟩
      obtain ⟨H, hH⟩ := hDu
      have hround : Chn adj ((u' :: E') ++ (D ++ [u])) := by
        rw [hG, hH, List.append_assoc]
        refine Chn.join G ?_ ?_ haz
        · rw [← hG]; rw [hDE] at hCc; exact Chn.right [u] (Chn.right D hCc)
        · rw [← hH]; rw [hDE, show D ++ u :: u' :: E' = (D ++ [u]) ++ u' :: E' by simp] at hCc; exact Chn.left _ hCc
      have hrn : ((u' :: E') ++ (D ++ [u])).Nodup := by
        rw [hDE, show D ++ u :: u' :: E' = (D ++ [u]) ++ (u' :: E') by simp] at hCn
        exact (List.perm_append_comm.nodup_iff).1 hCn
      have htu' : t ≠ u' := fun e => t3 (e ▸ hu'E)
      obtain ⟨c1, p1, p2, p3⟩ := hc.add h (u := u') (k := c t) (fun hh => hh.2 hu'E) (hc.lt t ⟨t1, t3⟩) (fun j hj ha => absurd (hno j hj.1 ha) hj.2)
      obtain ⟨c2, p4, p5⟩ := PCo.chain h (E' ++ D) (fun i => (i ∈ V ∧ i ∉ C) ∨ i = u') c1 u p1 (fun i hi => by
          have hiC : i ∈ C := by rw [hDE]; simp at hi ⊢; rcases hi with h | h <;> simp [h]
          rintro (h1 | rfl)
          · exact h1.2 hiC
          · rw [List.cons_append, List.nodup_cons] at hrn
            exact hrn.1 (by simp at hi ⊢; rcases hi with h | h <;> simp [h])) (by
          rintro (h1 | rfl)
          · exact h1.2 huC
          · exact h.irr _ huu') (by
          rw [List.cons_append, List.nodup_cons, ← List.append_assoc] at hrn
          exact hrn.2) (by
          have h9 : Chn adj (E' ++ (D ++ [u])) := Chn.tail hround
          rw [← List.append_assoc] at h9
          exact h9)
      have huE : ¬ (((u ∈ V ∧ u ∉ C) ∨ u = u') ∨ u ∈ E' ++ D) := by
        rintro ((h1 | h1) | h1)
        · exact h1.2 huC
        · exact h.irr u (by rw [← h1] at huu'; exact huu')
        · rw [List.cons_append, List.nodup_cons, ← List.append_assoc, List.nodup_append] at hrn
          exact hrn.2.2.2 u h1 u (by simp) rfl
      obtain ⟨c3, p6, _⟩ := p4.last h huE t2 huu' htu' (.inl (.inl ⟨t1, t3⟩)) (.inl (.inr rfl)) (by rw [p5 t (.inl ⟨t1, t3⟩), p5 u' (.inr rfl), p2 t ⟨t1, t3⟩, p3])
      refine ⟨c3, p6.sub (fun i hi => ?_)⟩
      by_cases hiC : i ∈ C
      · rw [hDE] at hiC
        simp at hiC
        rcases hiC with h1 | h1 | h1 | h1
        · exact .inl (.inr (by simp [h1]))
        · exact .inr h1
        · exact .inl (.inl (.inr h1))
        · exact .inl (.inr (by simp [h1]))
      · exact .inl (.inl (.inl ⟨hi, hiC⟩))
    · have hno : ∀ u, u ∈ C → ∀ j, j ∈ V → adj u j → j ∈ C := fun u hu j hj ha => by
        apply Classical.byContradiction
        intro hjC
        exact hout ⟨u, hu, j, hj, ha, hjC⟩
      have hA0 : A = [] := by
        apply Classical.byContradiction
        intro hAne
        obtain ⟨A', t, rfl⟩ := concat_of hAne
        have h1 : adj t a := by
          rw [← hCe, List.append_assoc] at hQc
          exact Chn.mid A' hQc
        have h2 := hno a haC t (hQV t (by simp)) (h.symm _ _ h1)
        exact (List.nodup_append.1 hQn).2.2 t (by simp) t h2 rfl
      subst hA0
      rw [List.nil_append] at hpre
      obtain ⟨R, hR⟩ := hpre
      have hR : C = x :: v :: y :: R := by rw [← hR]; rfl
      have hvC : v ∈ C := by rw [hR]; simp
      have hxC : x ∈ C := by rw [hR]; simp
      have hyC : y ∈ C := by rw [hR]; simp
      have hqx : ∃ q, q ∈ nbS n adj (· ∈ V) v ∧ q ∉ [x, y] := by
        apply Classical.byContradiction
        intro hx
        have := nodup_sub_len_ (m := [x, y]) (nbS_nodup (n := n) (adj := adj) (S := (· ∈ V)) (u := v)) (fun t ht => by
          apply Classical.byContradiction
          intro h1
          exact hx ⟨t, ht, h1⟩)
        have := hall v hv
        simp at *
        omega
      obtain ⟨q, hq1, hq2⟩ := hqx
      obtain ⟨hq1, hq3⟩ := (mem_nbS h).1 hq1
      have hqR : q ∈ R := by
        have := hno v hvC q hq3 hq1
        rw [hR] at this
        simp at this hq2
        rcases this with h1 | h1 | h1 | h1
        · exact absurd h1 hq2.1
        · exact absurd (h1 ▸ hq1) (h.irr v)
        · exact absurd h1 hq2.2
        · exact h1
      obtain ⟨A2, B2, rfl⟩ := List.append_of_mem hqR
      rw [hR] at hCn hCc
      have hCm : ∀ i, i ∈ C ↔ i = x ∨ i = v ∨ i = y ∨ i ∈ A2 ∨ i = q ∨ i ∈ B2 := fun i => by rw [hR]; simp
      have hd1 := List.nodup_cons.1 hCn
      have hd2 := List.nodup_cons.1 hd1.2
      have hd3 := List.nodup_cons.1 hd2.2
      have hd4 := List.nodup_append.1 hd3.2
      have hd5 := List.nodup_cons.1 hd4.2.1
      have hcR : Chn adj (A2 ++ q :: B2) := hCc.2.2.tail
      obtain ⟨c1, p1, p2, p3⟩ := hc.add h (u := x) (k := 0) (fun hh => hh.2 hxC) (by omega) (fun j hj ha => absurd (hno x hxC j hj.1 ha) hj.2)
      obtain ⟨c2, p4, p5, p6⟩ := p1.add h (u := y) (k := 0) (by
        rintro (h1 | h1)
        · exact h1.2 hyC
        · exact hne h1.symm) (by omega) (fun j hj ha => by
        rcases hj with hj | rfl
        · exact absurd (hno y hyC j hj.1 ha) hj.2
        · exact absurd (h.symm _ _ ha) hna)
      have n1 : ∀ i, i ∈ A2 ++ q :: B2 → ¬ (((i ∈ V ∧ i ∉ C) ∨ i = x) ∨ i = y) := fun i hi => by
        have hiC : i ∈ C := by rw [hR]; simp at hi ⊢; rcases hi with h | h | h <;> simp [h]
        rintro ((h1 | rfl) | rfl)
        · exact h1.2 hiC
        · exact hd1.1 (by simp at hi ⊢; rcases hi with h | h | h <;> simp [h])
        · exact hd3.1 hi
      obtain ⟨c3, p7, p8⟩ := PCo.chain h A2 _ c2 q p4 (fun i hi => n1 i (by simp [hi])) (n1 q (by simp)) (by
        have := hd3.2
        rw [show A2 ++ q :: B2 = (A2 ++ [q]) ++ B2 by simp] at this
        exact (List.nodup_append.1 this).1) (by
        rw [show A2 ++ q :: B2 = (A2 ++ [q]) ++ B2 by simp] at hcR
        exact Chn.left _ hcR)
      have n2 : ∀ i, i ∈ q :: B2 → i ∉ A2 := fun i hi hm => hd4.2.2 i hm i hi rfl
      obtain ⟨c4, p9, p10⟩ := PCo.chain h B2.reverse _ c3 q p7 (fun i hi => by
        have hi' : i ∈ B2 := by simpa using hi
        rintro (h1 | h1)
        · exact n1 i (by simp [hi']) h1
        · exact n2 i (by simp [hi']) h1) (by
        rintro (h1 | h1)
        · exact n1 q (by simp) h1
        · exact n2 q (by simp) h1) (by
        rw [← List.reverse_cons]
        exact (List.reverse_perm _).nodup_iff.2 hd4.2.1) (by
        rw [← List.reverse_cons]
        exact Chn.rev h.symm _ (Chn.right A2 hcR))
      have hqB : q ∉ B2 := hd5.1
      have hvS : ∀ i, i = v → ¬ ((((((i ∈ V ∧ i ∉ C) ∨ i = x) ∨ i = y) ∨ i ∈ A2) ∨ i ∈ B2.reverse) ∨ i = q) := by
        rintro i rfl
        rintro (((((h1 | h1) | h1) | h1) | h1) | h1)
        · exact h1.2 hvC
        · exact hxv h1.symm
        · exact hyv h1.symm
        · exact hd2.1 (by simp [h1])
        · exact hd2.1 (by simp at h1; simp [h1])
        · exact hd2.1 (by simp [h1])
      obtain ⟨c5, p11, p12⟩ := p9.step h (u := q) (x := v) (by
        rintro ((h1 | h1) | h1)
        · exact n1 q (by simp) h1
        · exact n2 q (by simp) h1
        · exact hqB (by simpa using h1)) (h.symm _ _ hq1) (fun hh => hvS v rfl (.inl hh))
      have ex : c5 x = 0 := by rw [p12 x (.inl (.inl (.inl (.inr rfl)))), p10 x (.inl (.inl (.inr rfl))), p8 x (.inl (.inr rfl)), p5 x (.inr rfl), p3]
      have ey : c5 y = 0 := by rw [p12 y (.inl (.inl (.inr rfl))), p10 y (.inl (.inr rfl)), p8 y (.inr rfl), p6]
      obtain ⟨c6, p13, _⟩ := p11.last h (hvS v rfl) hx1 hy1 hne (.inl (.inl (.inl (.inl (.inr rfl))))) (.inl (.inl (.inl (.inr rfl)))) (ex.trans ey.symm)
      refine ⟨c6, p13.sub (fun i hi => ?_)⟩
      by_cases hiC : i ∈ C
      · rcases (hCm i).1 hiC with h1 | h1 | h1 | h1 | h1 | h1
        · exact .inl (.inl (.inl (.inl (.inl (.inr h1)))))
        · exact .inr h1
        · exact .inl (.inl (.inl (.inl (.inr h1))))
        · exact .inl (.inl (.inl (.inr h1)))
        · exact .inl (.inr h1)
        · exact .inl (.inl (.inr (by simpa using h1)))
      · exact .inl (.inl (.inl (.inl (.inl (.inl ⟨hi, hiC⟩)))))
theorem brooks (h : GrB n d adj) (hd : 3 ≤ d) (hq : ∀ l : List Nat, l.Nodup → (∀ i ∈ l, ∀ j ∈ l, i ≠ j → adj i j) → l.length ≤ d) : Can n adj d := by
  obtain ⟨c, hc⟩ := brooks_ind h hd hq n (List.range n) (by simp) List.nodup_range
  exact ⟨c, fun i j hi hj ha => hc.ne i j (by simpa using hi) (by simpa using hj) ha, fun i hi => hc.lt i (by simpa using hi)⟩
end
end Go.Proofs.Ytckmedmebabkjaa
