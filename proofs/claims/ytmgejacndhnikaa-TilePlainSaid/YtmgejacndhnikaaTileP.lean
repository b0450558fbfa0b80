/- Tiles over terms: plain law. -/
import Derived.Test.YtmgejacndhnikaaTermB
namespace Go.Proofs.Ytmgejacndhnikaa
open Go.RowKit

/-- api.Tile -/
structure Tile where
  op : Int
  left : Int
  right : Int
  cost : Int
def Tile.cells (t : Tile) : List Value := [.int .i64 t.op, .int .i64 t.left, .int .i64 t.right, .int .i64 t.cost]
def nulX : Term := ⟨0, 0, 0, 0⟩
/-- What is wrong with a tile. -/
def tlErr (t : Tile) : Int :=
  if t.op < 1 ∨ 6 < t.op ∨ t.left < 0 ∨ 6 < t.left ∨ t.right < 0 ∨ 6 < t.right then 6
  else if t.op ≤ 2 ∧ (t.left ≠ 0 ∨ t.right ≠ 0) then 3
  else if t.cost < 0 ∨ 99 < t.cost then 4 else 0
def tlErrs : List Tile → Int
  | [] => 0
  | t :: r => if tlErr t = 0 then tlErrs r else tlErr t
def tilesErr (l : List Tile) : Int := if 10 < l.length then 1 else tlErrs l
def TlOk (t : Tile) : Prop := (1 ≤ t.op ∧ t.op ≤ 6) ∧ (0 ≤ t.left ∧ t.left ≤ 6) ∧ (0 ≤ t.right ∧ t.right ≤ 6) ∧ (t.op ≤ 2 → t.left = 0 ∧ t.right = 0) ∧ 0 ≤ t.cost ∧ t.cost ≤ 99
theorem tlOk_of {t : Tile} (h : tlErr t = 0) : TlOk t := by
  unfold tlErr at h
  split at h
  · omega
  split at h
  · omega
  split at h
  · omega
  unfold TlOk; omega
theorem tlErr_of {t : Tile} (h : TlOk t) : tlErr t = 0 := by
  unfold TlOk at h
  unfold tlErr
  rw [if_neg (by omega), if_neg (by omega), if_neg (by omega)]
theorem tlOks {l : List Tile} (h : tlErrs l = 0) : ∀ t ∈ l, TlOk t := by
  induction l with
  | nil => intro t ht; simp at ht
  | cons x r ih =>
    unfold tlErrs at h
    by_cases hx : tlErr x = 0
    · rw [if_pos hx] at h
      intro t ht
      rcases List.mem_cons.1 ht with rfl | ht
      · exact tlOk_of hx
      · exact ih h t ht
    · rw [if_neg hx] at h; exact absurd h hx
theorem tlErrs_of {l : List Tile} (h : ∀ t ∈ l, TlOk t) : tlErrs l = 0 := by
  induction l with
  | nil => rfl
  | cons x r ih =>
    unfold tlErrs
    rw [if_pos (tlErr_of (h x (by simp)))]
    exact ih fun t ht => h t (by simp [ht])
theorem tlErrs_snoc (l : List Tile) (x : Tile) (h : tlErrs l = 0) : tlErrs (l ++ [x]) = tlErr x := by
  induction l with
  | nil =>
    show (if tlErr x = 0 then 0 else tlErr x) = _
    by_cases hx : tlErr x = 0
    · rw [if_pos hx, hx]
    · rw [if_neg hx]
  | cons y r ih =>
    unfold tlErrs at h
    by_cases hy : tlErr y = 0
    · rw [if_pos hy] at h
      show (if tlErr y = 0 then tlErrs (r ++ [x]) else tlErr y) = _
      rw [if_pos hy, ih h]
    · rw [if_neg hy] at h; exact absurd h hy

/-- One side of a tile: what is left below. -/
def sideK (l : List Term) (op j : Int) : Option (List Int) :=
  if op = 0 then some [j] else if (l.getD j.toNat nulX).op ≠ op then none else if 3 ≤ op then some [(l.getD j.toNat nulX).a, (l.getD j.toNat nulX).b] else some []
def catO : Option (List Int) → Option (List Int) → Option (List Int)
  | some a, some b => some (a ++ b)
  | _, _ => none
def belowK (l : List Term) (i : Nat) (t : Tile) : Option (List Int) :=
  if (l.getD i nulX).op ≠ t.op then none else if (l.getD i nulX).op ≤ 2 then some [] else catO (sideK l t.left (l.getD i nulX).a) (sideK l t.right (l.getD i nulX).b)
/-- Sums over what is left. -/
def sumR (cost : List Int) : List Int → Bool × Int → Bool × Int
  | [], s => s
  | j :: r, s => sumR cost r (s.1 && decide (0 ≤ cost.getD j.toNat 0), s.2 + cost.getD j.toNat 0)
def candK (l : List Term) (cost : List Int) (i : Nat) (t : Tile) : Bool × Int :=
  match belowK l i t with
  | none => sumR cost [] (false, t.cost)
  | some r => sumR cost r (true, t.cost)
def takeK (c : Bool × Int) (k : Nat) (b : Int × Int) : Int × Int := if c.1 = true ∧ (b.1 < 0 ∨ c.2 < b.1) then (c.2, (k : Int)) else b
def bestR (l : List Term) (cost : List Int) (i : Nat) : List Tile → Nat → Int × Int → Int × Int
  | [], _, b => b
  | t :: r, k, b => bestR l cost i r (k + 1) (takeK (candK l cost i t) k b)
def bestK (l : List Term) (tiles : List Tile) (cost : List Int) (i : Nat) : Int × Int := bestR l cost i tiles 0 (-1, -1)
/-- Costs and tiles of the first n terms. -/
def solK (l : List Term) (tiles : List Tile) : Nat → List Int × List Int
  | 0 => ([], [])
  | n + 1 => ((solK l tiles n).1 ++ [(bestK l tiles (solK l tiles n).1 n).1], (solK l tiles n).2 ++ [(bestK l tiles (solK l tiles n).1 n).2])
theorem solK_len (l : List Term) (tiles : List Tile) : ∀ n, (solK l tiles n).1.length = n ∧ (solK l tiles n).2.length = n
  | 0 => ⟨rfl, rfl⟩
  | n + 1 => by
    obtain ⟨h1, h2⟩ := solK_len l tiles n
    exact ⟨by show (_ ++ [_]).length = _; simp [h1], by show (_ ++ [_]).length = _; simp [h2]⟩
def costK (l : List Term) (tiles : List Tile) : Int := (solK l tiles l.length).1.getD (l.length - 1) 0

section
variable {vars : Int} {l : List Term}
/-- What is left lies ahead. -/
theorem sideK_in (hok : ∀ k (h : k < l.length), TOk vars k l[k]) {i : Nat} (hi : i < l.length) {op j : Int} (h0 : 0 ≤ j) (hj : j < i) {r : List Int} (h : sideK l op j = some r) : ∀ x ∈ r, 0 ≤ x ∧ x < i := by
  unfold sideK at h
  split at h
  · injection h with h; subst h; intro x hx; simp at hx; omega
  split at h
  · cases h
  · rename_i hop
    split at h
    · rename_i h3
      injection h with h; subst h
      have hl : j.toNat < l.length := by omega
      have e : l.getD j.toNat nulX = l[j.toNat] := by rw [List.getD_eq_getElem?_getD, List.getElem?_eq_getElem hl]; rfl
      rw [e] at hop ⊢
      have hop : l[j.toNat].op = op := Classical.byContradiction fun hn => hop hn
      obtain ⟨a0, a1, b0, b1⟩ := (hok _ hl).2.2.2.2 (by omega)
      intro x hx
      simp at hx
      omega
    · injection h with h; subst h; intro x hx; simp at hx
theorem sideK_len (op j : Int) {r : List Int} (h : sideK l op j = some r) : r.length ≤ 2 := by
  unfold sideK at h
  split at h
  · injection h with h; subst h; simp
  split at h
  · cases h
  split at h
  · injection h with h; subst h; simp
  · injection h with h; subst h; simp
theorem belowK_in (hok : ∀ k (h : k < l.length), TOk vars k l[k]) {i : Nat} (hi : i < l.length) {t : Tile} {r : List Int} (h : belowK l i t = some r) : (∀ x ∈ r, 0 ≤ x ∧ x < i) ∧ r.length ≤ 4 := by
  have e : l.getD i nulX = l[i] := by rw [List.getD_eq_getElem?_getD, List.getElem?_eq_getElem hi]; rfl
  unfold belowK at h
  rw [e] at h
  split at h
  · cases h
  split at h
  · injection h with h; subst h; exact ⟨fun x hx => by simp at hx, by simp⟩
  · rename_i h2
    obtain ⟨a0, a1, b0, b1⟩ := (hok _ hi).2.2.2.2 (by omega)
    cases ha : sideK l t.left l[i].a with
    | none => rw [ha] at h; cases h
    | some ra =>
      cases hb : sideK l t.right l[i].b with
      | none => rw [ha, hb] at h; cases h
      | some rb =>
        rw [ha, hb] at h
        injection h with h
        subst h
        have p1 := sideK_in hok hi a0 a1 ha
        have p2 := sideK_in hok hi b0 b1 hb
        have q1 := sideK_len _ _ ha
        have q2 := sideK_len _ _ hb
        refine ⟨fun x hx => ?_, by rw [List.length_append]; omega⟩
        rcases List.mem_append.1 hx with hx | hx
        · exact p1 x hx
        · exact p2 x hx
end
/-- Bounds. -/
def bnd : Nat → Int
  | 0 => 99
  | n + 1 => 5 * bnd n + 99
theorem bnd_pos : ∀ n, 99 ≤ bnd n
  | 0 => by decide
  | n + 1 => by have := bnd_pos n; show 99 ≤ 5 * bnd n + 99; omega
theorem bnd_mono : ∀ {m n : Nat}, n ≤ m → bnd n ≤ bnd m
  | 0, n, h => by have : n = 0 := by omega
                  subst this; exact Int.le_refl _
  | m + 1, n, h => by
    by_cases e : n = m + 1
    · subst e; exact Int.le_refl _
    · have := bnd_mono (m := m) (n := n) (by omega)
      have := bnd_pos m
      show bnd n ≤ 5 * bnd m + 99
      omega
theorem bnd_16 : bnd 16 ≤ 100000000000000 := by decide
theorem sumR_bd {cost : List Int} {M : Int} (hc : ∀ j, -1 ≤ cost.getD j 0 ∧ cost.getD j 0 ≤ M) (hM : 0 ≤ M) : ∀ (r : List Int) (s : Bool × Int), s.2 - r.length ≤ (sumR cost r s).2 ∧ (sumR cost r s).2 ≤ s.2 + r.length * M
  | [], s => by show s.2 - _ ≤ s.2 ∧ s.2 ≤ _; simp
  | j :: r, s => by
    have h := sumR_bd hc hM r (s.1 && decide (0 ≤ cost.getD j.toNat 0), s.2 + cost.getD j.toNat 0)
    have hj := hc j.toNat
    show _ ≤ (sumR cost r _).2 ∧ (sumR cost r _).2 ≤ _
    dsimp only at h
    have e : ((j :: r).length : Int) * M = r.length * M + M := by rw [List.length_cons]; push_cast; rw [Int.add_mul]; omega
    rw [e]
    have e2 : ((j :: r).length : Int) = r.length + 1 := by simp
    rw [e2]
    omega
theorem sumR_yes {cost : List Int} : ∀ (r : List Int) (s : Bool × Int), (sumR cost r s).1 = true → s.1 = true ∧ s.2 ≤ (sumR cost r s).2 ∧ ∀ j ∈ r, 0 ≤ cost.getD j.toNat 0
  | [], s, h => ⟨h, Int.le_refl _, fun j hj => by simp at hj⟩
  | j :: r, s, h => by
    obtain ⟨h1, h2, h3⟩ := sumR_yes r (s.1 && decide (0 ≤ cost.getD j.toNat 0), s.2 + cost.getD j.toNat 0) h
    simp only [Bool.and_eq_true, decide_eq_true_eq] at h1
    refine ⟨h1.1, ?_, fun x hx => ?_⟩
    · show _ ≤ (sumR cost r _).2
      dsimp only at h2
      omega
    · rcases List.mem_cons.1 hx with rfl | hx
      · exact h1.2
      · exact h3 x hx
theorem sumR_of {cost : List Int} : ∀ (r : List Int) (s : Bool × Int), s.1 = true → (∀ j ∈ r, 0 ≤ cost.getD j.toNat 0) → (sumR cost r s).1 = true
  | [], s, h, _ => h
  | j :: r, s, h, hr => sumR_of r _ (by simp only [Bool.and_eq_true, decide_eq_true_eq]; exact ⟨h, hr j (by simp)⟩) fun x hx => hr x (by simp [hx])
theorem sumR_le {c d : List Int} : ∀ (r : List Int) (s t : Bool × Int), s.2 ≤ t.2 → (∀ j ∈ r, c.getD j.toNat 0 ≤ d.getD j.toNat 0) → (sumR c r s).2 ≤ (sumR d r t).2
  | [], s, t, h, _ => h
  | j :: r, s, t, h, hr => sumR_le r _ _ (by have := hr j (by simp); dsimp only; omega) fun x hx => hr x (by simp [hx])
/-- Costs of a machine's size. -/
def CostOk (cost : List Int) (n : Nat) : Prop := ∀ j, -1 ≤ cost.getD j 0 ∧ cost.getD j 0 ≤ bnd n
section
variable {vars : Int} {l : List Term} {tiles : List Tile}
theorem candK_bd (hok : ∀ k (h : k < l.length), TOk vars k l[k]) {i : Nat} (hi : i < l.length) {cost : List Int} (hc : CostOk cost i) {t : Tile} (ht : TlOk t) : -4 ≤ (candK l cost i t).2 ∧ (candK l cost i t).2 ≤ bnd (i + 1) ∧ ((candK l cost i t).1 = true → 0 ≤ (candK l cost i t).2) := by
  have hb := bnd_pos i
  have e : bnd (i + 1) = 5 * bnd i + 99 := rfl
  obtain ⟨_, _, _, _, c0, c1⟩ := ht
  unfold candK
  cases hr : belowK l i t with
  | none =>
    dsimp only [sumR]
    refine ⟨by omega, by omega, fun h => by cases h⟩
  | some r =>
    obtain ⟨-, h4⟩ := belowK_in hok hi hr
    dsimp only
    have h := sumR_bd hc (by omega) r (true, t.cost)
    dsimp only at h
    have hm : (r.length : Int) * bnd i ≤ 4 * bnd i := Int.mul_le_mul_of_nonneg_right (by omega) (by omega)
    refine ⟨by omega, by omega, fun hy => ?_⟩
    have := (sumR_yes r _ hy).2.1
    dsimp only at this
    omega
theorem bestR_bd (hok : ∀ k (h : k < l.length), TOk vars k l[k]) {i : Nat} (hi : i < l.length) {cost : List Int} (hc : CostOk cost i) : ∀ (ts : List Tile) (k : Nat) (b : Int × Int), (∀ t ∈ ts, TlOk t) → -1 ≤ b.1 ∧ b.1 ≤ bnd (i + 1) → -1 ≤ (bestR l cost i ts k b).1 ∧ (bestR l cost i ts k b).1 ≤ bnd (i + 1)
  | [], _, _, _, h => h
  | t :: r, k, b, ht, h => bestR_bd hok hi hc r (k + 1) _ (fun x hx => ht x (by simp [hx])) (by
      have hcd := candK_bd hok hi hc (ht t (by simp))
      unfold takeK
      split
      · rename_i h1
        have := hcd.2.2 h1.1
        exact ⟨by dsimp only; omega, hcd.2.1⟩
      · exact h)
theorem getD_snoc_ {a : List Int} {x : Int} {j : Nat} : (a ++ [x]).getD j 0 = if j = a.length then x else a.getD j 0 := by
  rw [List.getD_eq_getElem?_getD, List.getD_eq_getElem?_getD]
  by_cases h : j < a.length
  · rw [List.getElem?_append_left h, if_neg (by omega)]
  · rw [List.getElem?_append_right (by omega)]
    by_cases h2 : j = a.length
    · subst h2; simp
    · rw [if_neg h2, List.getElem?_eq_none (by simp; omega), List.getElem?_eq_none (by omega)]
theorem costOk_succ {cost : List Int} {n : Nat} {x : Int} (h : CostOk cost n) (hx : -1 ≤ x ∧ x ≤ bnd (n + 1)) : CostOk (cost ++ [x]) (n + 1) := fun j => by
  rw [getD_snoc_]
  have := bnd_mono (m := n + 1) (n := n) (by omega)
  have := h j
  split <;> omega
theorem costOk_nil : CostOk [] 0 := fun j => by
  show -1 ≤ ([] : List Int).getD j 0 ∧ _
  have : ([] : List Int).getD j 0 = 0 := by simp
  rw [this]
  exact ⟨by omega, by decide⟩
theorem solK_ok (hok : ∀ k (h : k < l.length), TOk vars k l[k]) (ht : ∀ t ∈ tiles, TlOk t) : ∀ n, n ≤ l.length → CostOk (solK l tiles n).1 n
  | 0, _ => costOk_nil
  | n + 1, h => costOk_succ (solK_ok hok ht n (by omega)) (bestR_bd hok (by omega) (solK_ok hok ht n (by omega)) tiles 0 (-1, -1) ht (by have := bnd_pos (n + 1); exact ⟨by decide, by dsimp only; omega⟩))

/-! ## More tiles cost no more. -/
/-- One cost is as good as the other one. -/
def LeC (a b : Int) : Prop := 0 ≤ b → 0 ≤ a ∧ a ≤ b
theorem LeC.refl (a : Int) : LeC a a := fun h => ⟨h, Int.le_refl _⟩
theorem candK_le {i : Nat} {c d : List Int} (hcd : ∀ j, LeC (c.getD j 0) (d.getD j 0)) (t : Tile) (h : (candK l d i t).1 = true) : (candK l c i t).1 = true ∧ (candK l c i t).2 ≤ (candK l d i t).2 := by
  unfold candK at h ⊢
  cases hr : belowK l i t with
  | none => rw [hr] at h; cases h
  | some r =>
    rw [hr] at h
    dsimp only at h ⊢
    obtain ⟨-, -, h3⟩ := sumR_yes r _ h
    exact ⟨sumR_of r _ rfl fun j hj => (hcd _ (h3 j hj)).1, sumR_le r _ _ (Int.le_refl _) fun j hj => (hcd _ (h3 j hj)).2⟩
theorem takeK_le {x y : Bool × Int} {b e : Int × Int} (h : y.1 = true → x.1 = true ∧ x.2 ≤ y.2) (h0 : x.1 = true → 0 ≤ x.2) (hbe : LeC b.1 e.1) (k m : Nat) : LeC (takeK x k b).1 (takeK y m e).1 := by
  intro h1
  by_cases hy : y.1 = true ∧ (e.1 < 0 ∨ y.2 < e.1)
  · obtain ⟨hx, hle⟩ := h hy.1
    have h0' := h0 hx
    unfold takeK at h1 ⊢
    rw [if_pos hy] at h1 ⊢
    dsimp only at h1 ⊢
    by_cases hb : x.1 = true ∧ (b.1 < 0 ∨ x.2 < b.1)
    · rw [if_pos hb]; dsimp only; omega
    · rw [if_neg hb]
      have : ¬ (b.1 < 0 ∨ x.2 < b.1) := fun h => hb ⟨hx, h⟩
      omega
  · unfold takeK at h1 ⊢
    rw [if_neg hy] at h1 ⊢
    have h2 := hbe h1
    by_cases hb : x.1 = true ∧ (b.1 < 0 ∨ x.2 < b.1)
    · rw [if_pos hb]; have := h0 hb.1; dsimp only; omega
    · rw [if_neg hb]; exact h2
theorem bestR_le (hok : ∀ k (h : k < l.length), TOk vars k l[k]) {i : Nat} (hi : i < l.length) {c d : List Int} (hc : CostOk c i) (hcd : ∀ j, LeC (c.getD j 0) (d.getD j 0)) : ∀ (ts : List Tile) (k m : Nat) (b e : Int × Int), (∀ t ∈ ts, TlOk t) → LeC b.1 e.1 → LeC (bestR l c i ts k b).1 (bestR l d i ts m e).1
  | [], _, _, _, _, _, h => h
  | t :: r, k, m, b, e, ht, h => bestR_le hok hi hc hcd r (k + 1) (m + 1) _ _ (fun x hx => ht x (by simp [hx])) (takeK_le (candK_le hcd t) (candK_bd hok hi hc (ht t (by simp))).2.2 h k m)
theorem bestR_snoc (l : List Term) (c : List Int) (i : Nat) : ∀ (ts : List Tile) (x : Tile) (k : Nat) (b : Int × Int), bestR l c i (ts ++ [x]) k b = takeK (candK l c i x) (k + ts.length) (bestR l c i ts k b)
  | [], x, k, b => rfl
  | t :: r, x, k, b => by
    show bestR l c i (r ++ [x]) (k + 1) _ = takeK _ _ (bestR l c i r (k + 1) _)
    rw [bestR_snoc l c i r x (k + 1)]
    congr 1
    simp; omega
theorem solK_more (hok : ∀ k (h : k < l.length), TOk vars k l[k]) {x : Tile} (ht : ∀ t ∈ tiles, TlOk t) (hx : TlOk x) : ∀ n, n ≤ l.length → ∀ j, LeC ((solK l (tiles ++ [x]) n).1.getD j 0) ((solK l tiles n).1.getD j 0)
  | 0, _, j => LeC.refl _
  | n + 1, h, j => by
    have ih := solK_more hok ht hx n (by omega)
    have ht2 : ∀ t ∈ tiles ++ [x], TlOk t := fun t h => by
      rcases List.mem_append.1 h with h | h
      · exact ht t h
      · simp at h; subst h; exact hx
    have hc := solK_ok hok ht2 n (by omega)
    have e1 := (solK_len l (tiles ++ [x]) n).1
    have e2 := (solK_len l tiles n).1
    show LeC (((solK l (tiles ++ [x]) n).1 ++ [_]).getD j 0) (((solK l tiles n).1 ++ [_]).getD j 0)
    rw [getD_snoc_, getD_snoc_, e1, e2]
    by_cases hj : j = n
    · rw [if_pos hj, if_pos hj]
      unfold bestK
      rw [bestR_snoc]
      have h1 := bestR_le hok (by omega : n < l.length) hc ih tiles 0 0 (-1, -1) (-1, -1) ht (LeC.refl _)
      have h2 := (candK_bd hok (by omega : n < l.length) hc hx).2.2
      unfold LeC takeK at *
      intro h3
      have h4 := h1 h3
      split
      · rename_i hh
        have := h2 hh.1
        dsimp only
        omega
      · exact h4
    · rw [if_neg hj, if_neg hj]
      exact ih j
end
end Go.Proofs.Ytmgejacndhnikaa
