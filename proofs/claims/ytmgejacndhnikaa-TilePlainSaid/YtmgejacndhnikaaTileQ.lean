/- TilePlain: plain law. -/
import Derived.Test.YtmgejacndhnikaaTileD
namespace Go.Proofs.Ytmgejacndhnikaa
set_option maxRecDepth 100000
open Go.RowKit

def tile6 (k : Nat) : Tile := ⟨(k : Int) + 1, 0, 0, 1⟩
def tiles6 : List Tile := (List.range 6).map tile6
def sz1 (ns : List Int) (t : Term) : Int := if 3 ≤ t.op then 1 + ns.getD t.a.toNat 0 + ns.getD t.b.toNat 0 else 1
theorem sz1_3 {ns : List Int} {t : Term} (h : 3 ≤ t.op) : sz1 ns t = 1 + ns.getD t.a.toNat 0 + ns.getD t.b.toNat 0 := by unfold sz1; rw [if_pos h]
theorem sz1_0 {ns : List Int} {t : Term} (h : ¬ 3 ≤ t.op) : sz1 ns t = 1 := by unfold sz1; rw [if_neg h]
def kids (t : Term) : List Int := if 3 ≤ t.op then [t.a, t.b] else []
section
variable {vars : Int} {l : List Term}
theorem sz_pos (hok : ∀ k (h : k < l.length), TOk vars k l[k]) : ∀ i, i < l.length → 1 ≤ accAt sz1 l i := fun i => by
  induction i using Nat.strongRecOn with
  | _ i ih =>
    intro hi
    rw [accAt_eq sz1 hi]
    by_cases h3 : 3 ≤ l[i].op
    · rw [sz1_3 h3]
      obtain ⟨a0, a1, b0, b1⟩ := (hok i hi).2.2.2.2 h3
      rw [accTo_at sz1 (show i ≤ l.length by omega) (show l[i].a.toNat < i by omega), accTo_at sz1 (show i ≤ l.length by omega) (show l[i].b.toNat < i by omega)]
      have := ih l[i].a.toNat (by omega) (by omega)
      have := ih l[i].b.toNat (by omega) (by omega)
      omega
    · rw [sz1_0 h3]; omega
/-- In a tree the last term has all below it. -/
theorem sz_all (h1 : 1 ≤ l.length) (hok : ∀ k (h : k < l.length), TOk vars k l[k]) (ht : IsTree l) : accAt sz1 l (l.length - 1) = l.length := by
  have hs := used_sum (accAt sz1 l) hok l.length (Nat.le_refl _)
  rw [List.take_length] at hs
  have hone : ∀ m, sumTo m (fun _ => 1) = (m : Int) := fun m => by
    induction m with
    | zero => rfl
    | succ m ih => rw [sumTo_succ, ih]; push_cast; rfl
  have hl : (l.length : Int) = sumTo l.length (fun i => accAt sz1 l i) - (l.map fun t => if 3 ≤ t.op then accAt sz1 l t.a.toNat + accAt sz1 l t.b.toNat else 0).sum := by
    have e2 := sum_map_range (l := l) (fun t => if 3 ≤ t.op then accAt sz1 l t.a.toNat + accAt sz1 l t.b.toNat else 0) l.length (Nat.le_refl _)
    rw [List.take_length] at e2
    rw [e2]
    have : sumTo l.length (fun i => accAt sz1 l i) = sumTo l.length (fun i => 1 + (if h : i < l.length then (if 3 ≤ l[i].op then accAt sz1 l l[i].a.toNat + accAt sz1 l l[i].b.toNat else 0) else 0)) := by
      refine sumTo_congr fun i hi => ?_
      rw [dif_pos hi, accAt_eq sz1 hi]
      have := hok i hi
      by_cases h3 : 3 ≤ l[i].op
      · rw [sz1_3 h3, if_pos h3]
        obtain ⟨a0, a1, b0, b1⟩ := this.2.2.2.2 h3
        rw [accTo_at sz1 (show i ≤ l.length by omega) (show l[i].a.toNat < i by omega), accTo_at sz1 (show i ≤ l.length by omega) (show l[i].b.toNat < i by omega)]
        omega
      · rw [sz1_0 h3, if_neg h3]; rfl
    rw [this, sumTo_add, hone]
    omega
  rw [hl, ← hs]
  obtain ⟨n, hn⟩ : ∃ n, l.length = n + 1 := ⟨l.length - 1, by omega⟩
  rw [hn, sumTo_succ, sumTo_succ]
  have h0 := (ht n (by omega)).2 (by omega)
  have e : sumTo n (fun i => accAt sz1 l i * usesN l i) = sumTo n (fun i => accAt sz1 l i) := sumTo_congr fun i hi => by
    rw [(ht i (by omega)).1 (by omega), Int.mul_one]
  rw [e, h0]
  simp
  omega
theorem below6 (i : Nat) (k : Nat) : belowK l i (tile6 k) = if (l.getD i nulX).op = (k : Int) + 1 then some (kids (l.getD i nulX)) else none := by
  unfold belowK tile6 kids
  dsimp only
  by_cases h : (l.getD i nulX).op = (k : Int) + 1
  · rw [if_neg (fun hn => hn h), if_pos h]
    by_cases h2 : (l.getD i nulX).op ≤ 2
    · rw [if_pos h2, if_neg (by omega)]
    · rw [if_neg h2, if_pos (by omega)]
      unfold sideK
      rw [if_pos rfl, if_pos rfl]; rfl
  · rw [if_pos h, if_neg h]
theorem best6 (hok : ∀ k (h : k < l.length), TOk vars k l[k]) {n : Nat} (hn : n < l.length) : bestK l tiles6 (accTo sz1 l n) n = (accAt sz1 l n, l[n].op - 1) := by
  have ex : l.getD n nulX = l[n] := by rw [List.getD_eq_getElem?_getD, List.getElem?_eq_getElem hn]; rfl
  have hlen := accTo_len sz1 (l := l) (Nat.le_of_lt hn)
  have hnn : ∀ j, j < n → 0 ≤ (accTo sz1 l n).getD j 0 := fun j hj => by
    rw [accTo_at sz1 (Nat.le_of_lt hn) hj]
    have := sz_pos hok j (by omega)
    omega
  have hc : ∀ k, candK l (accTo sz1 l n) n (tile6 k) = if l[n].op = (k : Int) + 1 then (true, accAt sz1 l n) else (false, 1) := fun k => by
    rw [candK_eq, below6, ex]
    by_cases h : l[n].op = (k : Int) + 1
    · rw [if_pos h, if_pos h, accAt_eq sz1 hn]
      unfold kids
      by_cases h3 : 3 ≤ l[n].op
      · rw [if_pos h3, sz1_3 h3]
        obtain ⟨a0, a1, b0, b1⟩ := (hok n hn).2.2.2.2 h3
        have ha := hnn l[n].a.toNat (by omega)
        have hb := hnn l[n].b.toNat (by omega)
        show ((true && decide _) && decide _, (1 : Int) + _ + _) = _
        rw [decide_eq_true ha, decide_eq_true hb]; rfl
      · rw [if_neg h3, sz1_0 h3]; rfl
    · rw [if_neg h, if_neg h]; rfl
  obtain ⟨o1, o6, _⟩ := hok n hn
  have hp := sz_pos hok n hn
  unfold bestK
  show bestR l (accTo sz1 l n) n [tile6 0, tile6 1, tile6 2, tile6 3, tile6 4, tile6 5] 0 (-1, -1) = _
  simp only [bestR, hc]
  generalize accAt sz1 l n = s at *
  generalize l[n].op = o at *
  have : o = 1 ∨ o = 2 ∨ o = 3 ∨ o = 4 ∨ o = 5 ∨ o = 6 := by omega
  rcases this with rfl | rfl | rfl | rfl | rfl | rfl <;> simp [takeK]
theorem sol6 (hok : ∀ k (h : k < l.length), TOk vars k l[k]) : ∀ n, n ≤ l.length → solK l tiles6 n = (accTo sz1 l n, (l.take n).map fun t => t.op - 1)
  | 0, _ => rfl
  | n + 1, h => by
    have ih := sol6 hok n (by omega)
    have hb := best6 hok (show n < l.length by omega)
    show (((solK l tiles6 n).1 ++ [(bestK l tiles6 (solK l tiles6 n).1 n).1]), ((solK l tiles6 n).2 ++ [(bestK l tiles6 (solK l tiles6 n).1 n).2])) = _
    rw [ih]
    dsimp only
    rw [hb, accTo_succ sz1 (show n < l.length by omega), List.take_succ_eq_append_getElem (show n < l.length by omega), List.map_append, ← accAt_eq sz1 (show n < l.length by omega)]
    rfl
end
theorem tiles6_ok : ∀ t ∈ tiles6, TlOk t := fun t ht => by
  unfold tiles6 at ht
  obtain ⟨k, hk, rfl⟩ := List.mem_map.1 ht
  rw [List.mem_range] at hk
  unfold TlOk tile6; dsimp only; omega
theorem tiles6_err : tilesErr tiles6 = 0 := by decide +kernel
theorem plain_cost {vars : Int} {l : List Term} (h : needErr vars l = 0) : errT vars l tiles6 = 0 ∧ valT vars l tiles6 = l.length ∧ costK l tiles6 = l.length := by
  obtain ⟨htE, htr⟩ := needErr_ok h
  obtain ⟨hv0, hv6, hl1, hl16, hok⟩ := tErr_ok htE
  have hc : costK l tiles6 = l.length := by
    unfold costK
    rw [sol6 hok l.length (Nat.le_refl _)]
    exact sz_all hl1 hok htr
  have he : tileErr vars l tiles6 = 0 := by
    unfold tileErr
    rw [if_neg (by simp [h])]
    exact tiles6_err
  refine ⟨?_, ?_, hc⟩
  · unfold errT
    rw [if_neg (by simp [he]), if_neg (by omega)]
  · unfold valT
    rw [if_neg (by simp [he]), if_neg (by omega), hc]
theorem plain_bad {vars : Int} {l : List Term} (h : needErr vars l ≠ 0) : errT vars l tiles6 ≠ 0 ∧ valT vars l tiles6 = 0 ∧ tileErr vars l tiles6 ≠ 0 := by
  have he : tileErr vars l tiles6 = needErr vars l := by unfold tileErr; rw [if_pos h]
  have h2 : tileErr vars l tiles6 ≠ 0 := by rw [he]; exact h
  refine ⟨?_, ?_, h2⟩
  · unfold errT; rw [if_pos h2]; exact h2
  · unfold valT; rw [if_pos h2]

/-! ## The cover -/
def opM (l : List Term) (i : Nat) : Int := (l.getD i nulX).op - 1
structure CvI (l : List Term) (out q : List Int) : Prop where
  len : out.length = l.length
  ins : ∀ j ∈ q, 0 ≤ j ∧ j < l.length
  val : ∀ i, i < l.length → out.getD i 0 = -1 ∨ out.getD i 0 = opM l i
  root : out.getD (l.length - 1) 0 ≠ -1 ∨ ((l.length - 1 : Nat) : Int) ∈ q
  closed : ∀ i, i < l.length → out.getD i 0 ≠ -1 → ∀ j ∈ kids (l.getD i nulX), out.getD j.toNat 0 ≠ -1 ∨ j ∈ q
def wgK (l : List Term) (q : List Int) : Int := (q.map fun j => accAt sz1 l j.toNat).sum
section
variable {vars : Int} {l : List Term}
theorem CvI.start (h1 : 1 ≤ l.length) : CvI l (List.replicate l.length (-1)) [((l.length - 1 : Nat) : Int)] := by
  have e : ∀ i, i < l.length → (List.replicate l.length (-1 : Int)).getD i 0 = -1 := fun i hi => by
    rw [List.getD_eq_getElem?_getD, List.getElem?_replicate, if_pos hi]; rfl
  exact ⟨List.length_replicate .., fun j hj => by simp at hj; omega, fun i hi => .inl (e i hi), .inr (by simp), fun i hi hne => absurd (e i hi) hne⟩
theorem opM_ne (hok : ∀ k (h : k < l.length), TOk vars k l[k]) {i : Nat} (hi : i < l.length) : opM l i ≠ -1 ∧ opM l i = l[i].op - 1 := by
  have ex : l.getD i nulX = l[i] := by rw [List.getD_eq_getElem?_getD, List.getElem?_eq_getElem hi]; rfl
  obtain ⟨o1, _⟩ := hok i hi
  unfold opM
  rw [ex]
  exact ⟨by omega, rfl⟩
theorem kids_in (hok : ∀ k (h : k < l.length), TOk vars k l[k]) {i : Nat} (hi : i < l.length) : ∀ j ∈ kids (l.getD i nulX), 0 ≤ j ∧ j < i := by
  have ex : l.getD i nulX = l[i] := by rw [List.getD_eq_getElem?_getD, List.getElem?_eq_getElem hi]; rfl
  rw [ex]
  unfold kids
  by_cases h3 : 3 ≤ l[i].op
  · rw [if_pos h3]
    obtain ⟨a0, a1, b0, b1⟩ := (hok i hi).2.2.2.2 h3
    intro j hj
    simp at hj
    omega
  · rw [if_neg h3]; intro j hj; simp at hj
theorem setD1 {v : List Int} {a i : Nat} {x : Int} (h : a < v.length) : (v.set a x).getD i 0 = if i = a then x else v.getD i 0 := by
  rw [List.getD_eq_getElem?_getD, List.getD_eq_getElem?_getD, List.getElem?_set]
  by_cases e : a = i
  · subst e; rw [if_pos rfl, if_pos h, if_pos rfl]; rfl
  · rw [if_neg e, if_neg (fun h => e h.symm)]
theorem CvI.step (hok : ∀ k (h : k < l.length), TOk vars k l[k]) {out r : List Int} {i : Nat} (h : CvI l out ((i : Int) :: r)) : CvI l (out.set i (opM l i)) (r ++ kids (l.getD i nulX)) := by
  have hi : i < l.length := by have := (h.ins i (by simp)).2; omega
  have hl := h.len
  obtain ⟨hne, _⟩ := opM_ne hok hi
  refine ⟨by rw [List.length_set]; exact hl, fun j hj => ?_, fun x hx => ?_, ?_, fun x hx hn j hj => ?_⟩
  · rcases List.mem_append.1 hj with hj | hj
    · exact h.ins j (by simp [hj])
    · have := kids_in hok hi j hj; omega
  · rw [setD1 (by omega)]
    by_cases e : x = i
    · rw [if_pos e, e]; exact .inr rfl
    · rw [if_neg e]; exact h.val x hx
  · rw [setD1 (by omega)]
    by_cases e : l.length - 1 = i
    · rw [if_pos e]; exact .inl hne
    · rw [if_neg e]
      rcases h.root with h1 | h1
      · exact .inl h1
      · rcases List.mem_cons.1 h1 with h2 | h2
        · omega
        · exact .inr (List.mem_append_left _ h2)
  · rw [setD1 (by omega)] at hn ⊢
    by_cases ej : j.toNat = i
    · rw [if_pos ej]; exact .inl hne
    · rw [if_neg ej]
      by_cases e : x = i
      · subst e; exact .inr (List.mem_append_right _ hj)
      · rw [if_neg e] at hn
        rcases h.closed x hx hn j hj with h1 | h1
        · exact .inl h1
        · rcases List.mem_cons.1 h1 with h2 | h2
          · exact absurd (by omega) ej
          · exact .inr (List.mem_append_left _ h2)
theorem wgK_step (hok : ∀ k (h : k < l.length), TOk vars k l[k]) {r : List Int} {i : Nat} (hi : i < l.length) : wgK l (r ++ kids (l.getD i nulX)) + 1 = wgK l ((i : Int) :: r) := by
  have ex : l.getD i nulX = l[i] := by rw [List.getD_eq_getElem?_getD, List.getElem?_eq_getElem hi]; rfl
  rw [ex]
  unfold wgK
  rw [List.map_append, List.sum_append, List.map_cons, List.sum_cons, Int.toNat_natCast, accAt_eq sz1 hi]
  unfold kids
  by_cases h3 : 3 ≤ l[i].op
  · rw [if_pos h3, sz1_3 h3]
    obtain ⟨a0, a1, b0, b1⟩ := (hok i hi).2.2.2.2 h3
    rw [accTo_at sz1 (show i ≤ l.length by omega) (show l[i].a.toNat < i by omega), accTo_at sz1 (show i ≤ l.length by omega) (show l[i].b.toNat < i by omega)]
    simp
    omega
  · rw [if_neg h3, sz1_0 h3]; simp; omega
theorem wgK_nonneg (hok : ∀ k (h : k < l.length), TOk vars k l[k]) : ∀ q : List Int, (∀ j ∈ q, 0 ≤ j ∧ j < l.length) → (q.length : Int) ≤ wgK l q
  | [], _ => by simp [wgK]
  | j :: r, h => by
    have h1 := wgK_nonneg hok r fun x hx => h x (by simp [hx])
    have h2 := h j (by simp)
    have h3 := sz_pos hok j.toNat (by omega)
    unfold wgK at *
    rw [List.map_cons, List.sum_cons, List.length_cons]
    push_cast
    omega
theorem uses_some {m : List Term} {i : Nat} (h : usesN m i = 1) : ∃ t ∈ m, 3 ≤ t.op ∧ (t.a = i ∨ t.b = i) := Classical.byContradiction fun hn => by
  have : usesN m i = 0 := by
    unfold usesN
    have key : ∀ m' : List Term, (∀ t ∈ m', uses1 t i = 0) → (m'.map fun t => uses1 t i).sum = 0 := fun m' => by
      induction m' with
      | nil => intro _; rfl
      | cons t r ih => intro h; rw [List.map_cons, List.sum_cons, h t (by simp), ih fun t ht => h t (by simp [ht])]; rfl
    refine key m fun t ht => ?_
    unfold uses1
    rw [if_neg (fun h2 => hn ⟨t, ht, h2.1, .inl h2.2⟩), if_neg (fun h2 => hn ⟨t, ht, h2.1, .inr h2.2⟩)]; rfl
  omega
theorem CvI.done (hok : ∀ k (h : k < l.length), TOk vars k l[k]) (h1 : 1 ≤ l.length) (ht : IsTree l) {out : List Int} (h : CvI l out []) : out = l.map fun t => t.op - 1 := by
  have key : ∀ d i, i + d = l.length - 1 → out.getD i 0 ≠ -1 := fun d => by
    induction d using Nat.strongRecOn with
    | _ d ih =>
      intro i hid
      by_cases he : i = l.length - 1
      · rw [he]; exact h.root.resolve_right (by simp)
      · obtain ⟨t, htm, h3, hab⟩ := uses_some ((ht i (by omega)).1 (by omega))
        obtain ⟨k, hk, rfl⟩ := List.getElem_of_mem htm
        obtain ⟨a0, a1, b0, b1⟩ := (hok k hk).2.2.2.2 h3
        have hki : i < k := by omega
        have hk2 := ih (l.length - 1 - k) (by omega) k (by omega)
        have ex : l.getD k nulX = l[k] := by rw [List.getD_eq_getElem?_getD, List.getElem?_eq_getElem hk]; rfl
        have := h.closed k hk hk2 (i : Int) (by
          rw [ex]; unfold kids; rw [if_pos h3]; simp
          rcases hab with h | h
          · exact .inl h.symm
          · exact .inr h.symm)
        rcases this with h4 | h4
        · rwa [Int.toNat_natCast] at h4
        · cases h4
  refine List.ext_getElem (by rw [h.len, List.length_map]) fun i hi1 hi2 => ?_
  have hil : i < l.length := by rw [← h.len]; exact hi1
  have hv := (h.val i hil).resolve_left (key (l.length - 1 - i) i (by omega))
  rw [List.getD_eq_getElem?_getD, List.getElem?_eq_getElem hi1] at hv
  rw [List.getElem_map, ← (opM_ne hok hil).2]
  exact hv
end
end Go.Proofs.Ytmgejacndhnikaa
