/- package span, plain: values in rows of spans; what come and a pass do. -/
import Derived.Test.YtadmmciiahdmcaaBlkH
namespace Go.Proofs.Ytadmmciiahdmcaa
open Go.RowKit

abbrev Sp := Int × Int
def spCells (s : Sp) : List Value := [.int .i64 s.1, .int .i64 s.2]
def spOk (s : Sp) : Prop := 0 ≤ s.1 ∧ s.1 ≤ s.2 ∧ s.2 ≤ 255
def gS (r : List Sp) (i : Nat) : Sp := r.getD i (0, 0)
theorem gS_get {r : List Sp} {i : Nat} (h : i < r.length) : gS r i = r[i] := by unfold gS; rw [List.getD_eq_getElem?_getD, List.getElem?_eq_getElem h]; rfl
theorem gS_set {r : List Sp} {j : Nat} (hj : j < r.length) (x : Sp) (i : Nat) : gS (r.set j x) i = if j = i then x else gS r i := by
  unfold gS
  rw [List.getD_eq_getElem?_getD, List.getD_eq_getElem?_getD, List.getElem?_set]
  by_cases e : j = i
  · subst e; rw [if_pos rfl, if_pos hj, if_pos rfl]; rfl
  · rw [if_neg e, if_neg e]
theorem gI_setS {r : List Int} {j : Nat} (hj : j < r.length) (x : Int) (i : Nat) : (r.set j x).getD i 0 = if j = i then x else r.getD i 0 := by
  rw [List.getD_eq_getElem?_getD, List.getD_eq_getElem?_getD, List.getElem?_set]
  by_cases e : j = i
  · subst e; rw [if_pos rfl, if_pos hj, if_pos rfl]; rfl
  · rw [if_neg e, if_neg e]
theorem spOk_at {r : List Sp} (h : ∀ s ∈ r, spOk s) {i : Nat} (hi : i < r.length) : spOk (gS r i) := by rw [gS_get hi]; exact h _ (List.getElem_mem hi)
/-- The values v lie in the spans r. -/
def inS (v : List Int) (r : List Sp) : Prop := v.length = r.length ∧ ∀ i, i < r.length → (gS r i).1 ≤ v.getD i 0 ∧ v.getD i 0 ≤ (gS r i).2
/-- r is within r'. -/
def leS (r r' : List Sp) : Prop := r.length = r'.length ∧ ∀ i, i < r'.length → (gS r' i).1 ≤ (gS r i).1 ∧ (gS r i).2 ≤ (gS r' i).2
theorem leS.refl (r : List Sp) : leS r r := ⟨rfl, fun _ _ => ⟨Int.le_refl _, Int.le_refl _⟩⟩
theorem leS.trans {a b c : List Sp} (h : leS a b) (k : leS b c) : leS a c := ⟨h.1.trans k.1, fun i hi => by
  have h1 := k.2 i hi
  have h2 := h.2 i (by rw [k.1]; exact hi)
  omega⟩
theorem inS.up {v : List Int} {a b : List Sp} (h : inS v a) (k : leS a b) : inS v b := ⟨h.1.trans k.1, fun i hi => by
  have h1 := k.2 i hi
  have h2 := h.2 i (by rw [k.1]; exact hi)
  omega⟩
theorem inS.bd {v : List Int} {r : List Sp} (h : inS v r) (hr : ∀ s ∈ r, spOk s) : ∀ x ∈ v, 0 ≤ x ∧ x ≤ 255 := fun x hx => by
  obtain ⟨i, hi, rfl⟩ := List.getElem_of_mem hx
  have hi2 : i < r.length := by rw [← h.1]; exact hi
  have h1 := h.2 i hi2
  have h2 := spOk_at hr hi2
  unfold spOk at h2
  rw [List.getD_eq_getElem?_getD, List.getElem?_eq_getElem hi] at h1
  dsimp only [Option.getD] at h1
  omega
theorem inS.set {v : List Int} {r : List Sp} (h : inS v r) {j : Nat} (hj : j < r.length) {x : Int} {s : Sp} (hx : s.1 ≤ x ∧ x ≤ s.2) : inS (v.set j x) (r.set j s) := ⟨by rw [List.length_set, List.length_set]; exact h.1, fun i hi => by
  rw [List.length_set] at hi
  rw [gS_set hj, gI_setS (by rw [h.1]; exact hj)]
  split
  · exact hx
  · exact h.2 i hi⟩
theorem inS.narrow {v : List Int} {r : List Sp} (h : inS v r) {j : Nat} (hj : j < r.length) {s : Sp} (hx : s.1 ≤ v.getD j 0 ∧ v.getD j 0 ≤ s.2) : inS v (r.set j s) := ⟨by rw [List.length_set]; exact h.1, fun i hi => by
  rw [List.length_set] at hi
  rw [gS_set hj]
  split
  · rename_i e; subst e; exact hx
  · exact h.2 i hi⟩
/-- Of spans behind steps: what the steps make of values in a lies in them. -/
def BehR (c : List Step) (a v : List Sp) : Prop := v.length = a.length ∧ (∀ s ∈ v, spOk s) ∧ ∀ x, inS x a → inS (dgR x c) v
theorem dgR_snoc (x : List Int) (c : List Step) (s : Step) : dgR x (c ++ [s]) = dg1 (dgR x c) s := by unfold dgR; rw [List.foldl_append]; rfl
theorem BehR.start {a : List Sp} (h : ∀ s ∈ a, spOk s) : BehR [] a a := ⟨rfl, h, fun _ h => h⟩
/-- One step more. -/
theorem BehR.next {c : List Step} {a v : List Sp} (h : BehR c a v) {s : Step} {y : Sp} {d : Nat} (hd : s.to = (d : Nat)) (hdl : d < v.length) (hy : spOk y)
    (hm : ∀ x, inS x v → y.1 ≤ (if s.op = 1 then s.val else if s.op = 2 then x.getD s.val.toNat 0 else doF s.op (x.getD s.a.toNat 0) (x.getD s.b.toNat 0)) ∧ (if s.op = 1 then s.val else if s.op = 2 then x.getD s.val.toNat 0 else doF s.op (x.getD s.a.toNat 0) (x.getD s.b.toNat 0)) ≤ y.2) : BehR (c ++ [s]) a (v.set d y) := by
  refine ⟨by rw [List.length_set]; exact h.1, fun t ht => ?_, fun x hx => ?_⟩
  · rcases List.mem_or_eq_of_mem_set ht with h1 | rfl
    · exact h.2.1 t h1
    · exact hy
  · rw [dgR_snoc]
    have h1 := h.2.2 x hx
    unfold dg1
    rw [hd, Int.toNat_natCast]
    exact h1.set hdl (hm _ h1)
/-- Of two spans, what has both. -/
def hullS (s o : Sp) : Sp := (min o.1 s.1, max o.2 s.2)
theorem hull_ok {s o : Sp} (h : spOk s) (k : spOk o) : spOk (hullS s o) := by unfold spOk hullS at *; dsimp only; omega
def wS (s : Sp) : Nat := (255 - (s.2 - s.1)).toNat
theorem hull_w {s o : Sp} (h : spOk s) (k : spOk o) (hne : hullS s o ≠ o) : wS (hullS s o) < wS o := by
  obtain ⟨s1, s2⟩ := s
  obtain ⟨o1, o2⟩ := o
  unfold wS hullS spOk at *
  dsimp only at *
  have : ¬ (min o1 s1 = o1 ∧ max o2 s2 = o2) := fun h => hne (by rw [h.1, h.2])
  omega
/-- The first k of r0 widened by v. -/
def MidS (v r0 r : List Sp) (k : Nat) : Prop := r.length = r0.length ∧ ∀ i, i < r0.length → gS r i = if i < k then hullS (gS v i) (gS r0 i) else gS r0 i
def wR (r : List Sp) : Nat := (r.map wS).sum
theorem wR_set : ∀ {r : List Sp} {j : Nat} (_ : j < r.length) (x : Sp), wR (r.set j x) + wS (gS r j) = wR r + wS x
  | a :: r, 0, _, x => by show wS x + wR r + wS a = wS a + wR r + wS x; omega
  | a :: r, j + 1, hj, x => by
    have := wR_set (r := r) (j := j) (by simpa using hj) x
    show wS a + wR (r.set j x) + wS (gS r j) = wS a + wR r + wS x
    omega
/-- Has it turned? -/
def FlS (r0 r : List Sp) (b b' : Bool) : Prop := (b' = b ∧ r = r0) ∨ (b' = true ∧ wR r < wR r0)
theorem MidS.start (v r0 : List Sp) : MidS v r0 r0 0 := ⟨rfl, fun i _ => by simp⟩
theorem MidS.at_ {v r0 r : List Sp} {k : Nat} (h : MidS v r0 r k) (hk : k < r0.length) : gS r k = gS r0 k := by rw [h.2 k hk, if_neg (by omega)]
theorem MidS.skip {v r0 r : List Sp} {k : Nat} (h : MidS v r0 r k) (hk : k < r0.length) (he : hullS (gS v k) (gS r0 k) = gS r0 k) : MidS v r0 r (k + 1) := ⟨h.1, fun i hi => by
  rw [h.2 i hi]
  by_cases e : i = k
  · subst e; rw [if_neg (by omega), if_pos (by omega), he]
  · by_cases e2 : i < k
    · rw [if_pos e2, if_pos (by omega)]
    · rw [if_neg e2, if_neg (by omega)]⟩
theorem MidS.put {v r0 r : List Sp} {k : Nat} (h : MidS v r0 r k) (hk : k < r0.length) : MidS v r0 (r.set k (hullS (gS v k) (gS r0 k))) (k + 1) := ⟨by rw [List.length_set]; exact h.1, fun i hi => by
  rw [gS_set (by rw [h.1]; exact hk), h.2 i hi]
  by_cases e : k = i
  · subst e; rw [if_pos rfl, if_pos (by omega)]
  · rw [if_neg e]
    by_cases e2 : i < k
    · rw [if_pos e2, if_pos (by omega)]
    · rw [if_neg e2, if_neg (by omega)]⟩
theorem FlS.put {v r0 r : List Sp} {k : Nat} {b b' : Bool} (h : MidS v r0 r k) (hf : FlS r0 r b b') (hk : k < r0.length) (hv : spOk (gS v k)) (hr : spOk (gS r0 k)) (hne : hullS (gS v k) (gS r0 k) ≠ gS r0 k) : FlS r0 (r.set k (hullS (gS v k) (gS r0 k))) b true := by
  have h1 := wR_set (r := r) (j := k) (by rw [h.1]; exact hk) (hullS (gS v k) (gS r0 k))
  rw [h.at_ hk] at h1
  have h2 := hull_w hv hr hne
  refine .inr ⟨rfl, ?_⟩
  rcases hf with ⟨_, rfl⟩ | ⟨_, h3⟩ <;> omega
theorem MidS.ok {v r0 r : List Sp} {k : Nat} (h : MidS v r0 r k) (hl : v.length = r0.length) (hv : ∀ s ∈ v, spOk s) (hr : ∀ s ∈ r0, spOk s) : ∀ s ∈ r, spOk s := fun s hs => by
  obtain ⟨i, hi, rfl⟩ := List.getElem_of_mem hs
  have hi2 : i < r0.length := by rw [← h.1]; exact hi
  rw [← gS_get hi, h.2 i hi2]
  split
  · exact hull_ok (spOk_at hv (by omega)) (spOk_at hr hi2)
  · exact spOk_at hr hi2
theorem MidS.all {v r0 r : List Sp} (h : MidS v r0 r r0.length) (hl : v.length = r0.length) : leS v r ∧ leS r0 r := by
  refine ⟨⟨by rw [h.1, hl], fun i hi => ?_⟩, ⟨by rw [h.1], fun i hi => ?_⟩⟩
  all_goals
    rw [h.1] at hi
    rw [h.2 i hi, if_pos hi]
    unfold hullS
    dsimp only
    omega
/-- What is told, as a function of the blocks. -/
abbrev FnS := Nat → List Sp
def updS (F : FnS) (j : Nat) (r : List Sp) : FnS := fun i => if i = j then r else F i
def wN (r : List Sp) : Nat := if r = [] then 3000 else wR r
def potS (m : Nat) (F : FnS) : Nat := ((List.range m).map fun i => wN (F i)).sum
theorem sum_upd (f : Nat → Nat) (j x : Nat) : ∀ {m : Nat}, j < m → ((List.range m).map fun i => if i = j then x else f i).sum + f j = ((List.range m).map f).sum + x
  | 0, h => by omega
  | m + 1, h => by
    rw [List.range_succ, List.map_append, List.map_append, List.sum_append, List.sum_append]
    simp only [List.map_cons, List.map_nil, List.sum_cons, List.sum_nil]
    by_cases e : j = m
    · subst e
      rw [if_pos rfl]
      have : (List.range j).map (fun i => if i = j then x else f i) = (List.range j).map f := List.map_congr_left fun i hi => by
        rw [List.mem_range] at hi; rw [if_neg (by omega)]
      rw [this]; omega
    · rw [if_neg (fun h => e h.symm)]
      have := sum_upd f j x (m := m) (by omega)
      omega
theorem potS_upd {m : Nat} (F : FnS) {j : Nat} (hj : j < m) (r : List Sp) : potS m (updS F j r) + wN (F j) = potS m F + wN r := by
  have := sum_upd (fun i => wN (F i)) j (wN r) hj
  unfold potS
  rw [← this]
  congr 3
  funext i
  unfold updS
  split <;> rfl
theorem wR_le : ∀ {r : List Sp}, (∀ s ∈ r, spOk s) → wR r ≤ 255 * r.length
  | [], _ => Nat.le_refl _
  | a :: r, h => by
    have h1 := wR_le (r := r) fun s hs => h s (by simp [hs])
    have h2 := h a (by simp)
    have h3 : wS a ≤ 255 := by unfold wS spOk at *; omega
    show wS a + wR r ≤ _
    rw [List.length_cons]; omega
/-- Rows of n spans, or none. -/
def RowsS (n m : Nat) (F : FnS) : Prop := ∀ i, i < m → F i = [] ∨ ((F i).length = n ∧ ∀ s ∈ F i, spOk s)
/-- Behind come(j, v). -/
structure ComeR (n m : Nat) (F : FnS) (j : Nat) (v : List Sp) (F' : FnS) (b b' : Bool) : Prop where
  rows : RowsS n m F'
  oth : ∀ i, i ≠ j → F' i = F i
  up : leS v (F' j)
  old : F j ≠ [] → leS (F j) (F' j)
  fl : (b' = b ∧ F' = F ∧ F j ≠ []) ∨ (b' = true ∧ potS m F' < potS m F)
section
variable {n m : Nat} {F F' : FnS} {j : Nat} {v : List Sp} {b b' : Bool}
theorem rowsS_upd (h : RowsS n m F) {r : List Sp} (hr : r.length = n) (ho : ∀ s ∈ r, spOk s) : RowsS n m (updS F j r) := fun i hi => by
  unfold updS
  split
  · exact .inr ⟨hr, ho⟩
  · exact h i hi
theorem ComeR.new (h : RowsS n m F) (hj : j < m) (h0 : F j = []) (hv : v.length = n) (h1 : 1 ≤ n) (h8 : n ≤ 8) (ho : ∀ s ∈ v, spOk s) : ComeR n m F j v (updS F j v) b true := by
  have e : updS F j v j = v := by unfold updS; rw [if_pos rfl]
  refine ⟨rowsS_upd h hv ho, fun i hi => by unfold updS; rw [if_neg hi], by rw [e]; exact leS.refl _, fun h => absurd h0 h, .inr ⟨rfl, ?_⟩⟩
  have h2 := potS_upd F hj v
  have h3 : wN (F j) = 3000 := by unfold wN; rw [if_pos h0]
  have h4 : wN v < 3000 := by
    unfold wN
    rw [if_neg (by intro e; rw [e] at hv; simp at hv; omega)]
    have := wR_le ho
    omega
  omega
theorem ComeR.wide (h : RowsS n m F) (hj : j < m) (h0 : F j ≠ []) (hv : v.length = n) (h1 : 1 ≤ n) (ho : ∀ s ∈ v, spOk s) {r : List Sp} (hr : MidS v (F j) r (F j).length) (hf : FlS (F j) r b b') : ComeR n m F j v (updS F j r) b b' := by
  obtain ⟨k1, k2⟩ := (h j hj).resolve_left h0
  have e : updS F j r j = r := by unfold updS; rw [if_pos rfl]
  have hl : r.length = n := by rw [hr.1, k1]
  refine ⟨rowsS_upd h hl (hr.ok (by omega) ho k2), fun i hi => by unfold updS; rw [if_neg hi], by rw [e]; exact (hr.all (by omega)).1, fun _ => by rw [e]; exact (hr.all (by omega)).2, ?_⟩
  rcases hf with ⟨f1, f2⟩ | ⟨f1, f2⟩
  · refine .inl ⟨f1, ?_, h0⟩
    funext i
    unfold updS
    split
    · rename_i e; rw [e, f2]
    · rfl
  · refine .inr ⟨f1, ?_⟩
    have h2 := potS_upd F hj r
    have h3 : wN (F j) = wR (F j) := by unfold wN; rw [if_neg h0]
    have h4 : wN r = wR r := by unfold wN; rw [if_neg (by intro e; rw [e] at hl; simp at hl; omega)]
    omega
end
/-- A run that is in block i with values that are told goes on to what is told. -/
def ClosS (p : List Blk) (F : FnS) (i : Nat) : Prop := F i ≠ [] → ∀ x, inS x (F i) → 0 ≤ (goB p (i : Int) x).1 → F (goB p (i : Int) x).1.toNat ≠ [] ∧ inS (goB p (i : Int) x).2 (F (goB p (i : Int) x).1.toNat)
/-- What is so all the while. -/
structure InvS (n : Nat) (p : List Blk) (h0 : List Sp) (F : FnS) : Prop where
  rows : RowsS n p.length F
  first : F 0 ≠ [] ∧ leS h0 (F 0)
theorem InvS.come {n : Nat} {p : List Blk} {h0 : List Sp} {F F' : FnS} {j : Nat} {v : List Sp} {b b' : Bool} (h : InvS n p h0 F) (h1 : 1 ≤ n) (hv : v.length = n) (hc : ComeR n p.length F j v F' b b') : InvS n p h0 F' := by
  have hne : F' j ≠ [] := fun e => by have := hc.up.1; rw [e, hv] at this; simp at this; omega
  refine ⟨hc.rows, ?_⟩
  by_cases e : 0 = j
  · subst e
    exact ⟨hne, h.first.2.trans (hc.old h.first.1)⟩
  · rw [hc.oth 0 e]; exact h.first
/-- Ahead of block i of a pass that began with F0. -/
structure PasS (n : Nat) (p : List Blk) (h0 : List Sp) (F0 F : FnS) (b : Bool) (i : Nat) : Prop where
  inv : InvS n p h0 F
  le : potS p.length F ≤ potS p.length F0
  no : b = false → F = F0 ∧ ∀ k, k < i → ClosS p F k
  yes : b = true → potS p.length F < potS p.length F0
section
variable {n : Nat} {p : List Blk} {h0 : List Sp} {F0 F F' : FnS} {b b' : Bool} {i : Nat}
theorem PasS.start (h : InvS n p h0 F) : PasS n p h0 F F false 0 := ⟨h, Nat.le_refl _, fun _ => ⟨rfl, fun k hk => by omega⟩, fun h => by cases h⟩
theorem PasS.skip (h : PasS n p h0 F0 F b i) (hi : F i = []) : PasS n p h0 F0 F b (i + 1) := ⟨h.inv, h.le, fun hb => ⟨(h.no hb).1, fun k hk => by
  rcases Nat.lt_or_ge k i with h1 | h1
  · exact (h.no hb).2 k h1
  · have : k = i := by omega
    subst this
    exact fun h2 => absurd hi h2⟩, h.yes⟩
theorem PasS.done (h : PasS n p h0 F0 F b i) (hc : ClosS p F i) : PasS n p h0 F0 F b (i + 1) := ⟨h.inv, h.le, fun hb => ⟨(h.no hb).1, fun k hk => by
  rcases Nat.lt_or_ge k i with h1 | h1
  · exact (h.no hb).2 k h1
  · have : k = i := by omega
    subst this
    exact hc⟩, h.yes⟩
/-- Within block i: what a come leaves. 'same': nothing has turned since. -/
theorem PasS.come (h : PasS n p h0 F0 F b i) (h1 : 1 ≤ n) {j : Nat} {v : List Sp} (hv : v.length = n) (hc : ComeR n p.length F j v F' b b') : PasS n p h0 F0 F' b' i ∧ (b' = false → F' = F ∧ b = false) := by
  have hinv := h.inv.come h1 hv hc
  rcases hc.fl with ⟨rfl, rfl, _⟩ | ⟨rfl, hlt⟩
  · exact ⟨h, fun hb => ⟨rfl, hb⟩⟩
  · have := h.le
    exact ⟨⟨hinv, by omega, fun h => (by cases h), fun _ => by omega⟩, fun h => (by cases h)⟩
/-- Something has turned: the block does not matter. -/
theorem PasS.turned (h : PasS n p h0 F0 F true i) : PasS n p h0 F0 F true (i + 1) := ⟨h.inv, h.le, fun h => (by cases h), h.yes⟩
end
section
variable {p : List Blk} {F : FnS} {i : Nat} {v : List Sp}
/-- What goB says, by the values behind the steps. -/
theorem go_of (x : List Int) (hi : i < p.length) : goB p (i : Int) x = (if 0 ≤ p[i].test ∧ (dgR x p[i].code).getD p[i].test.toNat 0 = 0 then p[i].els else p[i].thn, dgR x p[i].code) := by
  unfold goB
  rw [Int.toNat_natCast, bget hi]
theorem clos_end (hi : i < p.length) (ht : p[i].test < 0) (hn : p[i].thn < 0) : ClosS p F i := fun _ x _ h => by
  rw [go_of x hi] at h
  dsimp only at h
  rw [if_neg (by omega)] at h
  omega
theorem clos_one (hi : i < p.length) (ht : p[i].test < 0) (hv : BehR p[i].code (F i) v) (h1 : F p[i].thn.toNat ≠ []) (hle : leS v (F p[i].thn.toNat)) : ClosS p F i := fun _ x hx h => by
  rw [go_of x hi] at h ⊢
  dsimp only at h ⊢
  rw [if_neg (by omega)] at h ⊢
  exact ⟨h1, (hv.2.2 x hx).up hle⟩
theorem clos_two (hi : i < p.length) {d : Nat} (ht : p[i].test = (d : Nat)) (hv : BehR p[i].code (F i) v) (hd : d < v.length)
    (h1 : 0 < (gS v d).2 → F p[i].thn.toNat ≠ [] ∧ leS (v.set d (max (gS v d).1 1, (gS v d).2)) (F p[i].thn.toNat))
    (h2 : (gS v d).1 = 0 → F p[i].els.toNat ≠ [] ∧ leS (v.set d (0, 0)) (F p[i].els.toNat)) : ClosS p F i := fun _ x hx h => by
  have hy := hv.2.2 x hx
  have hyd := hy.2 d hd
  have hok := spOk_at hv.2.1 hd
  unfold spOk at hok
  rw [go_of x hi] at h ⊢
  dsimp only at h ⊢
  rw [ht, Int.toNat_natCast] at h ⊢
  by_cases hz : (dgR x p[i].code).getD d 0 = 0
  · rw [if_pos ⟨by omega, hz⟩] at h ⊢
    obtain ⟨k1, k2⟩ := h2 (by omega)
    exact ⟨k1, (hy.narrow hd (by dsimp only; omega)).up k2⟩
  · rw [if_neg (fun e => hz e.2)] at h ⊢
    obtain ⟨k1, k2⟩ := h1 (by omega)
    exact ⟨k1, (hy.narrow hd (by dsimp only; omega)).up k2⟩
end
/-- What In gives. -/
structure SolS (n : Nat) (p : List Blk) (h0 : List Sp) (F : FnS) : Prop where
  inv : InvS n p h0 F
  clos : ∀ i, i < p.length → ClosS p F i
/-- A run's values are in what is told. -/
theorem span_run {vars : Int} {n : Nat} {p : List Blk} {h0 : List Sp} {v : List Int} {F : FnS} (hp : POk vars p) (hF : SolS n p h0 F) (hl : (v.length : Int) = vars) (hv : ∀ x ∈ v, 0 ≤ x ∧ x ≤ 255) (hs : inS v h0) : ∀ k, runsB p v (k + 1) → F (stB p v k).1.toNat ≠ [] ∧ inS (stB p v k).2 (F (stB p v k).1.toNat)
  | 0, _ => ⟨hF.inv.first.1, hs.up hF.inv.first.2⟩
  | k + 1, hr => by
    obtain ⟨h1, h2⟩ := span_run hp hF hl hv hs k (fun j hj => hr j (by omega))
    obtain ⟨s1, s2, s3, s4⟩ := st_ok hp hl hv k (fun j hj => hr j (by omega))
    have hn := hr k (by omega)
    have hn2 := hr (k + 1) (by omega)
    have hst : stB p v (k + 1) = goB p (stB p v k).1 (stB p v k).2 := rfl
    rw [hst] at hn2 ⊢
    generalize stB p v k = st at *
    obtain ⟨i, u⟩ := st
    dsimp only at *
    obtain ⟨m, rfl⟩ := Int.eq_ofNat_of_zero_le hn
    rw [Int.toNat_natCast] at h1 h2
    exact hF.clos m (by omega) h1 u h2 hn2
end Go.Proofs.Ytadmmciiahdmcaa
