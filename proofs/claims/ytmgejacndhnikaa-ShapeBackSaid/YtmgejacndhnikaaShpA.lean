/- Shapes in memory; shape.size walked. -/
import Derived.Test.YtmgejacndhnikaaShpR
import Derived.BigQuiet
import Derived.Deep.RegionHeld3
namespace Go.Proofs.Ytmgejacndhnikaa
set_option maxRecDepth 100000
open Go.RowKit

/-- The slice of shapes at A reads as l, at most d deep; no slice is too long. -/
def RdSh (w : World) : Nat → Option Addr → List Shp → Prop
  | 0, _, l => l = []
  | d + 1, A, l => 0 < l.length → ∃ b off, A = some ⟨b, off, none⟩ ∧ b < w.heap.size ∧ ∀ (k : Nat) (x : Shp), l[k]? = some x → ∃ A1 c1 A2 c2 A3 c3,
      w.cell? ⟨b, off + k * 5, none⟩ = some (.int .i64 x.kind) ∧ w.cell? ⟨b, off + k * 5 + 1, none⟩ = some (.int .i64 x.test) ∧ w.cell? ⟨b, off + k * 5 + 2, none⟩ = some (.slice A1 x.code.length c1) ∧
      w.cell? ⟨b, off + k * 5 + 3, none⟩ = some (.slice A2 x.thn.length c2) ∧ w.cell? ⟨b, off + k * 5 + 4, none⟩ = some (.slice A3 x.els.length c3) ∧ RdSt w A1 x.code ∧ RdSh w d A2 x.thn ∧ RdSh w d A3 x.els ∧
      x.code.length ≤ 4398046511104 ∧ x.thn.length ≤ 2199023255552 ∧ x.els.length ≤ 2199023255552
theorem RdSh.below {w w' : World} (hb : Below w.heap.size w w') : ∀ {d : Nat} {A : Option Addr} {l : List Shp}, RdSh w d A l → RdSh w' d A l
  | 0, _, _, h => h
  | d + 1, A, l, h => fun hn => by
    obtain ⟨b, off, e, hlt, hc⟩ := h hn
    refine ⟨b, off, e, by have := hb.size; omega, fun k x hk => ?_⟩
    obtain ⟨A1, c1, A2, c2, A3, c3, h0, h1, h2, h3, h4, r1, r2, r3, b1, b2, b3⟩ := hc k x hk
    exact ⟨A1, c1, A2, c2, A3, c3, (hb.cell (p := ⟨b, _, none⟩) hlt).trans h0, (hb.cell (p := ⟨b, _, none⟩) hlt).trans h1, (hb.cell (p := ⟨b, _, none⟩) hlt).trans h2, (hb.cell (p := ⟨b, _, none⟩) hlt).trans h3, (hb.cell (p := ⟨b, _, none⟩) hlt).trans h4, Rd.below r1 hb, RdSh.below hb r2, RdSh.below hb r3, b1, b2, b3⟩
theorem RdSh.at_ {w : World} {d : Nat} {A : Option Addr} {l : List Shp} (h : RdSh w d A l) {k : Nat} (hk : k < l.length) : ∃ d', d = d' + 1 ∧ ∃ b off A1 c1 A2 c2 A3 c3, A = some ⟨b, off, none⟩ ∧ b < w.heap.size ∧
      w.cell? ⟨b, off + k * 5, none⟩ = some (.int .i64 l[k].kind) ∧ w.cell? ⟨b, off + k * 5 + 1, none⟩ = some (.int .i64 l[k].test) ∧ w.cell? ⟨b, off + k * 5 + 2, none⟩ = some (.slice A1 l[k].code.length c1) ∧
      w.cell? ⟨b, off + k * 5 + 3, none⟩ = some (.slice A2 l[k].thn.length c2) ∧ w.cell? ⟨b, off + k * 5 + 4, none⟩ = some (.slice A3 l[k].els.length c3) ∧ RdSt w A1 l[k].code ∧ RdSh w d' A2 l[k].thn ∧ RdSh w d' A3 l[k].els ∧
      l[k].code.length ≤ 4398046511104 ∧ l[k].thn.length ≤ 2199023255552 ∧ l[k].els.length ≤ 2199023255552 := by
  cases d with
  | zero => have h : l = [] := h; subst h; simp at hk
  | succ d =>
    obtain ⟨b, off, e, hlt, hc⟩ := h (by omega)
    obtain ⟨A1, c1, A2, c2, A3, c3, r⟩ := hc k _ (List.getElem?_eq_getElem hk)
    exact ⟨d, rfl, b, off, A1, c1, A2, c2, A3, c3, e, hlt, r⟩
theorem stepsL_nil (d : Nat) : stepsL d [] = 0 := by cases d <;> rw [stepsL]
theorem stepsL_cons {d : Nat} (x : Shp) (r : List Shp) : stepsL (d + 1) (x :: r) = x.code.length + stepsL d x.thn + stepsL d x.els + stepsL (d + 1) r := by
  conv => lhs; rw [stepsL]
theorem stepsL_app {d : Nat} (y : Shp) : ∀ (l : List Shp), stepsL (d + 1) (l ++ [y]) = stepsL (d + 1) l + (y.code.length + stepsL d y.thn + stepsL d y.els)
  | [] => by rw [List.nil_append, stepsL_cons, stepsL_nil]; omega
  | x :: l => by rw [List.cons_append, stepsL_cons, stepsL_app y l, stepsL_cons]; omega
theorem stepsL_take {d : Nat} {l : List Shp} {k : Nat} (hk : k < l.length) : stepsL (d + 1) (l.take (k + 1)) = stepsL (d + 1) (l.take k) + (l[k].code.length + stepsL d l[k].thn + stepsL d l[k].els) := by
  rw [List.take_succ_eq_append_getElem hk, stepsL_app]
/-- How many shapes lie below. -/
def subL : Nat → List Shp → Nat
  | _, [] => 0
  | 0, _ :: _ => 0
  | d + 1, x :: r => (x.thn.length + subL d x.thn) + (x.els.length + subL d x.els) + subL (d + 1) r
  termination_by d l => (d, l.length)
def cntL (d : Nat) (l : List Shp) : Nat := l.length + subL d l
theorem subL_nil (d : Nat) : subL d [] = 0 := by cases d <;> rw [subL]
theorem cntL_nil (d : Nat) : cntL d [] = 0 := by unfold cntL; rw [subL_nil]; rfl
theorem subL_cons {d : Nat} (x : Shp) (r : List Shp) : subL (d + 1) (x :: r) = cntL d x.thn + cntL d x.els + subL (d + 1) r := by
  conv => lhs; rw [subL]
  rfl
theorem cntL_cons {d : Nat} (x : Shp) (r : List Shp) : cntL (d + 1) (x :: r) = 1 + cntL d x.thn + cntL d x.els + cntL (d + 1) r := by
  unfold cntL
  rw [subL_cons, List.length_cons]
  unfold cntL
  omega
theorem subL_app {d : Nat} (y : Shp) : ∀ (l : List Shp), subL (d + 1) (l ++ [y]) = subL (d + 1) l + (cntL d y.thn + cntL d y.els)
  | [] => by rw [List.nil_append, subL_cons, subL_nil]; omega
  | x :: l => by rw [List.cons_append, subL_cons, subL_app y l, subL_cons]; omega
theorem subL_take {d : Nat} {l : List Shp} {k : Nat} (hk : k < l.length) : subL (d + 1) (l.take (k + 1)) = subL (d + 1) (l.take k) + (cntL d l[k].thn + cntL d l[k].els) := by
  rw [List.take_succ_eq_append_getElem hk, subL_app]
def bM (deep : Nat) : Nat := 17 ^ (6 - deep) * 2199023255552
theorem bM_succ {deep : Nat} (h : deep ≤ 5) : bM deep = 17 * bM (deep + 1) := by
  unfold bM
  rw [show 6 - deep = (6 - (deep + 1)) + 1 by omega, Nat.pow_succ, Nat.mul_comm (17 ^ _) 17, Nat.mul_assoc]
theorem bM_lo (deep : Nat) : 2199023255552 ≤ bM deep := Nat.le_mul_of_pos_left _ (Nat.pow_pos (by decide))
theorem bM_hi {deep : Nat} (h : 1 ≤ deep) : bM deep ≤ 3123298622082711552 := by
  have h1 : 17 ^ (6 - deep) ≤ 17 ^ 5 := Nat.pow_le_pow_right (by decide) (by omega)
  have h3 : (17 : Nat) ^ 5 = 1419857 := rfl
  rw [h3] at h1
  have h2 : bM deep ≤ 1419857 * 2199023255552 := Nat.mul_le_mul_right _ h1
  omega
theorem kS_of {deep : Nat} (h : deep ≤ 5) : ∃ kS, (∀ s, s ≤ 2 * bM (deep + 1) → (deep + 1 = 6 → s = 0) → s ≤ kS) ∧ 8 * (4398046511104 + 2 * kS) ≤ 34 * bM (deep + 1) ∧ kS ≤ 2 * bM (deep + 1) := by
  by_cases h5 : deep = 5
  · subst h5
    exact ⟨0, fun s _ h => by have := h rfl; omega, by have := bM_lo (5 + 1); omega, by omega⟩
  · have := bM_succ (show deep + 1 ≤ 5 by omega)
    have := bM_lo (deep + 1 + 1)
    exact ⟨2 * bM (deep + 1), fun s h _ => h, by omega, Nat.le_refl _⟩
def SizeE (d deep : Nat) (l : List Shp) (w : World) (e : Ending) (w' : World) : Prop :=
  Below w.heap.size w w' ∧ ∃ m s t : Nat, e = .returned (.tuple #[.int .i64 (m : Nat), .int .i64 (s : Nat), .int .i64 (t : Nat)]) ∧ m ≤ bM deep ∧ s ≤ 2 * bM deep ∧ (deep = 6 → s = 0) ∧ deep ≤ t ∧ t ≤ 6 ∧ (m ≤ 8 → t ≤ 5 → stepsL d l ≤ s ∧ cntL d l ≤ m)
end Go.Proofs.Ytmgejacndhnikaa
