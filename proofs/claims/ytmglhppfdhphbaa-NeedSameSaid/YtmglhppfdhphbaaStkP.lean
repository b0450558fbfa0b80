/- Stack code, plain: the code of a tree, its length, how deep it goes, what it computes. -/
import Derived.Test.YtmglhppfdhphbaaNeedC
import Derived.Test.YtmglhppfdhphbaaValQ
namespace Go.Proofs.Ytmglhppfdhphbaa
open Go.RowKit

structure SOp where
  op : Int
  val : Int
def SOp.cells (s : SOp) : List Value := [.int .i64 s.op, .int .i64 s.val]
abbrev RdS (w : World) (A : Option Addr) (l : List SOp) : Prop := Rd SOp.cells 2 w A l
theorem RdS.at2 {w : World} {A : Option Addr} {l : List SOp} (h : RdS w A l) {k : Nat} (hk : k < l.length) :
    ∃ b off, A = some ⟨b, off, none⟩ ∧ b < w.heap.size ∧ w.cell? ⟨b, off + k * 2, none⟩ = some (.int .i64 l[k].op) ∧ w.cell? ⟨b, off + k * 2 + 1, none⟩ = some (.int .i64 l[k].val) := by
  obtain ⟨b, off, e, hb, hc⟩ := h.at_ hk
  exact ⟨b, off, e, hb, by simpa [SOp.cells] using hc 0 (by omega), by simpa [SOp.cells] using hc 1 (by omega)⟩

abbrev tnul : Term := ⟨0, 0, 0, 0⟩
/-- The code of term i, fuel given. -/
def laidF (l : List Term) : Nat → Nat → List SOp
  | 0, _ => []
  | n + 1, i => if 2 < (l.getD i tnul).op then laidF l n (l.getD i tnul).a.toNat ++ laidF l n (l.getD i tnul).b.toNat ++ [⟨(l.getD i tnul).op, 0⟩] else [⟨(l.getD i tnul).op, (l.getD i tnul).val⟩]
def laid (l : List Term) (i : Nat) : List SOp := laidF l (i + 1) i
section
variable {l : List Term} {vars : Int}
theorem ab_of (hok : ∀ k (h : k < l.length), TOk vars k l[k]) {i : Nat} (hi : i < l.length) (h2 : 2 < (l.getD i tnul).op) : ∃ a b : Nat, (l.getD i tnul).a = a ∧ (l.getD i tnul).b = b ∧ a < i ∧ b < i := by
  obtain ⟨_, _, _, _, hob⟩ := hok i hi
  have e : l.getD i tnul = l[i] := getD_at hi
  rw [e] at h2 ⊢
  obtain ⟨a0, a1, b0, b1⟩ := hob (by omega)
  obtain ⟨a, ea⟩ := Int.eq_ofNat_of_zero_le a0
  obtain ⟨b, eb⟩ := Int.eq_ofNat_of_zero_le b0
  exact ⟨a, b, ea, eb, by omega, by omega⟩
theorem laidF_eq (hok : ∀ k (h : k < l.length), TOk vars k l[k]) : ∀ n m i, i < n → i < m → i < l.length → laidF l n i = laidF l m i
  | n + 1, m + 1, i, hn, hm, hi => by
    unfold laidF
    by_cases h2 : 2 < (l.getD i tnul).op
    · obtain ⟨a, b, ea, eb, la, lb⟩ := ab_of hok hi h2
      rw [if_pos h2, if_pos h2, ea, eb, Int.toNat_natCast, Int.toNat_natCast, laidF_eq hok n m a (by omega) (by omega) (by omega), laidF_eq hok n m b (by omega) (by omega) (by omega)]
    · rw [if_neg h2, if_neg h2]
theorem laid_node (hok : ∀ k (h : k < l.length), TOk vars k l[k]) {i a b : Nat} (hi : i < l.length) (h2 : 2 < (l.getD i tnul).op) (ea : (l.getD i tnul).a = a) (eb : (l.getD i tnul).b = b) : laid l i = laid l a ++ laid l b ++ [⟨(l.getD i tnul).op, 0⟩] := by
  obtain ⟨a', b', ea', eb', la, lb⟩ := ab_of hok hi h2
  have : a = a' := by have := ea.symm.trans ea'; omega
  subst this
  have : b = b' := by have := eb.symm.trans eb'; omega
  subst this
  unfold laid
  rw [show laidF l (i + 1) i = _ from rfl]
  conv => lhs; unfold laidF
  rw [if_pos h2, ea, eb, Int.toNat_natCast, Int.toNat_natCast, laidF_eq hok i (a + 1) a la (by omega) (by omega), laidF_eq hok i (b + 1) b lb (by omega) (by omega)]
theorem laid_leaf {i : Nat} (h2 : ¬ 2 < (l.getD i tnul).op) : laid l i = [⟨(l.getD i tnul).op, (l.getD i tnul).val⟩] := by
  unfold laid laidF; rw [if_neg h2]
theorem sumTo_one_len (n : Nat) : sumTo n (fun _ => 1) = n := by
  induction n with
  | zero => rfl
  | succ n ih => rw [sumTo_succ, ih]; omega
/-- What a term has beside what the two below it have, in a tree, summed over all, is what the last one has. -/
theorem tree_sum {g c : Nat → Int} (h1 : 1 ≤ l.length) (hok : ∀ k (h : k < l.length), TOk vars k l[k]) (ht : IsTree l) (hg : ∀ i (hi : i < l.length), g i = c i + if 3 ≤ l[i].op then g l[i].a.toNat + g l[i].b.toNat else 0) : g (l.length - 1) = sumTo l.length c := by
  have hs := used_sum g hok l.length (Nat.le_refl _)
  rw [List.take_length] at hs
  have e2 := sum_map_range (l := l) (fun t => if 3 ≤ t.op then g t.a.toNat + g t.b.toNat else 0) l.length (Nat.le_refl _)
  rw [List.take_length] at e2
  have e3 : sumTo l.length g = sumTo l.length (fun i => c i + (if h : i < l.length then (if 3 ≤ l[i].op then g l[i].a.toNat + g l[i].b.toNat else 0) else 0)) := sumTo_congr fun i hi => by rw [dif_pos hi]; exact hg i hi
  rw [sumTo_add, ← e2, ← hs] at e3
  obtain ⟨n, hn⟩ : ∃ n, l.length = n + 1 := ⟨l.length - 1, by omega⟩
  have h0 := (ht n (by omega)).2 (by omega)
  have e : sumTo n (fun i => g i * usesN l i) = sumTo n g := sumTo_congr fun i hi => by rw [(ht i (by omega)).1 (by omega), Int.mul_one]
  rw [hn, sumTo_succ, sumTo_succ (g := fun i => g i * usesN l i), e, h0, ← hn] at e3
  rw [show l.length - 1 = n by omega]
  simp at e3
  omega
theorem laid_len (h1 : 1 ≤ l.length) (hok : ∀ k (h : k < l.length), TOk vars k l[k]) (ht : IsTree l) : (laid l (l.length - 1)).length = l.length := by
  have := tree_sum (g := fun i => ((laid l i).length : Int)) (c := fun _ => 1) h1 hok ht fun i hi => by
    have e : l.getD i tnul = l[i] := getD_at hi
    by_cases h2 : 2 < (l.getD i tnul).op
    · obtain ⟨a, b, ea, eb, la, lb⟩ := ab_of hok hi h2
      rw [laid_node hok hi h2 ea eb]
      rw [e] at h2 ea eb
      rw [if_pos (by omega), ea, eb]
      simp
      omega
    · rw [laid_leaf h2]
      rw [e] at h2
      rw [if_neg (by omega)]
      simp
  rw [sumTo_one_len] at this
  exact Int.ofNat.inj this
end

/-- What is wrong with a code's operation, so many being on the stack. -/
def sErr1 (vars d : Int) (s : SOp) : Int :=
  if s.op < 1 ∨ 6 < s.op then 6 else if s.op ≤ 2 then (if 0 ≤ vars ∧ (s.val < 0 ∨ (s.op = 1 ∧ 255 < s.val) ∨ (s.op = 2 ∧ vars ≤ s.val)) then 4 else 0) else if d < 2 then 5 else 0
def sNext (d : Int) (s : SOp) : Int := if s.op ≤ 2 then d + 1 else d - 1
def sErrs (vars : Int) : Int → List SOp → Int
  | _, [] => 0
  | d, s :: r => if sErr1 vars d s = 0 then sErrs vars (sNext d s) r else sErr1 vars d s
def sErr (vars : Int) (c : List SOp) : Int := if 6 < vars ∨ 40 < c.length then 1 else sErrs vars 0 c
def sHeight : Int → List SOp → Int
  | d, [] => d
  | d, s :: r => sHeight (sNext d s) r
def sMost : Int → Int → List SOp → Int
  | _, m, [] => m
  | d, m, s :: r => sMost (sNext d s) (if s.op ≤ 2 then max m (d + 1) else m) r
section
variable {vars : Int}
theorem sErrs_append {d : Int} : ∀ {a b : List SOp}, sErrs vars d a = 0 → sErrs vars d (a ++ b) = sErrs vars (sHeight d a) b
  | [], _, _ => rfl
  | s :: r, b, h => by
    unfold sErrs at h
    by_cases h0 : sErr1 vars d s = 0
    · rw [if_pos h0] at h
      rw [List.cons_append, show sErrs vars d (s :: (r ++ b)) = if sErr1 vars d s = 0 then sErrs vars (sNext d s) (r ++ b) else sErr1 vars d s from rfl, if_pos h0, sErrs_append h]; rfl
    · rw [if_neg h0] at h; exact absurd h h0
theorem sHeight_append {d : Int} : ∀ {a b : List SOp}, sHeight d (a ++ b) = sHeight (sHeight d a) b
  | [], _ => rfl
  | s :: r, b => by
    show sHeight (sNext d s) (r ++ b) = _
    rw [sHeight_append]; rfl
theorem sMost_append {d m : Int} : ∀ {a b : List SOp}, sMost d m (a ++ b) = sMost (sHeight d a) (sMost d m a) b
  | [], _ => rfl
  | s :: r, b => by
    show sMost (sNext d s) _ (r ++ b) = _
    rw [sMost_append]; rfl
end
theorem sErrs_one {vars d : Int} {s : SOp} (h : sErr1 vars d s = 0) : sErrs vars d [s] = 0 := by
  rw [show sErrs vars d [s] = if sErr1 vars d s = 0 then 0 else sErr1 vars d s from rfl, if_pos h]
theorem sErr1_node {vars d : Int} {s : SOp} (h2 : 2 < s.op) (h6 : s.op ≤ 6) (hd : 2 ≤ d) : sErr1 vars d s = 0 := by
  unfold sErr1
  rw [if_neg (by omega), if_neg (by omega), if_neg (by omega)]
theorem sErr1_leaf {vars d : Int} {s : SOp} (h1 : 1 ≤ s.op) (h2 : s.op ≤ 2) (h : ¬ (0 ≤ vars ∧ (s.val < 0 ∨ s.op = 1 ∧ 255 < s.val ∨ s.op = 2 ∧ vars ≤ s.val))) : sErr1 vars d s = 0 := by
  unfold sErr1
  rw [if_neg (by omega), if_pos h2, if_neg h]
section
variable {l : List Term} {vars : Int}
/-- How deep a term's code goes. -/
def deepF (l : List Term) : Nat → Nat → Int
  | 0, _ => 0
  | n + 1, i => if 2 < (l.getD i tnul).op then max (deepF l n (l.getD i tnul).a.toNat) (1 + deepF l n (l.getD i tnul).b.toNat) else 1
def deepT (l : List Term) (i : Nat) : Int := deepF l (i + 1) i
theorem deepF_eq (hok : ∀ k (h : k < l.length), TOk vars k l[k]) : ∀ n m i, i < n → i < m → i < l.length → deepF l n i = deepF l m i
  | n + 1, m + 1, i, hn, hm, hi => by
    unfold deepF
    by_cases h2 : 2 < (l.getD i tnul).op
    · obtain ⟨a, b, ea, eb, la, lb⟩ := ab_of hok hi h2
      rw [if_pos h2, if_pos h2, ea, eb, Int.toNat_natCast, Int.toNat_natCast, deepF_eq hok n m a (by omega) (by omega) (by omega), deepF_eq hok n m b (by omega) (by omega) (by omega)]
    · rw [if_neg h2, if_neg h2]
theorem deepT_node (hok : ∀ k (h : k < l.length), TOk vars k l[k]) {i a b : Nat} (hi : i < l.length) (h2 : 2 < (l.getD i tnul).op) (ea : (l.getD i tnul).a = a) (eb : (l.getD i tnul).b = b) : deepT l i = max (deepT l a) (1 + deepT l b) := by
  obtain ⟨a', b', ea', eb', la, lb⟩ := ab_of hok hi h2
  have : a = a' := by have := ea.symm.trans ea'; omega
  subst this
  have : b = b' := by have := eb.symm.trans eb'; omega
  subst this
  unfold deepT
  conv => lhs; unfold deepF
  rw [if_pos h2, ea, eb, Int.toNat_natCast, Int.toNat_natCast, deepF_eq hok i (a + 1) a la (by omega) (by omega), deepF_eq hok i (b + 1) b lb (by omega) (by omega)]
theorem deepT_leaf {i : Nat} (h2 : ¬ 2 < (l.getD i tnul).op) : deepT l i = 1 := by
  unfold deepT deepF; rw [if_neg h2]
theorem sNext_leaf {d : Int} {s : SOp} (h : s.op ≤ 2) : sNext d s = d + 1 := by unfold sNext; rw [if_pos h]
theorem sNext_node {d : Int} {s : SOp} (h : 2 < s.op) : sNext d s = d - 1 := by unfold sNext; rw [if_neg (by omega)]
/-- A term's code, from any height: it is right, puts one on the stack, and goes so deep. -/
theorem laid_run (hok : ∀ k (h : k < l.length), TOk vars k l[k]) (vs : Int) (hvs : vs = vars ∨ vs < 0) : ∀ n i, i < n → i < l.length → ∀ d m : Int, 0 ≤ d → d ≤ m →
    sErrs vs d (laid l i) = 0 ∧ sHeight d (laid l i) = d + 1 ∧ sMost d m (laid l i) = max m (d + deepT l i) ∧ 1 ≤ deepT l i
  | n + 1, i, hn, hi, d, m, hd, hm => by
    have e : l.getD i tnul = l[i] := getD_at hi
    obtain ⟨o1, o6, on, ov, _⟩ := hok i hi
    by_cases h2 : 2 < (l.getD i tnul).op
    · obtain ⟨a, b, ea, eb, la, lb⟩ := ab_of hok hi h2
      rw [laid_node hok hi h2 ea eb, deepT_node hok hi h2 ea eb]
      obtain ⟨a1, a2, a3, a4⟩ := laid_run hok vs hvs n a (by omega) (by omega) d m hd hm
      have hm' : d + 1 ≤ max m (d + deepT l a) := by omega
      obtain ⟨b1, b2, b3, b4⟩ := laid_run hok vs hvs n b (by omega) (by omega) (d + 1) (max m (d + deepT l a)) (by omega) hm'
      rw [← e] at o1 o6
      have hx : sErrs vs d (laid l a ++ laid l b) = 0 := by rw [sErrs_append a1, a2, b1]
      have hy : sHeight d (laid l a ++ laid l b) = d + 2 := by rw [sHeight_append, a2, b2]; omega
      refine ⟨?_, ?_, ?_, by omega⟩
      · rw [sErrs_append hx, hy]
        exact sErrs_one (sErr1_node (s := ⟨(l.getD i tnul).op, 0⟩) h2 o6 (by omega))
      · rw [sHeight_append, hy]
        unfold sHeight sHeight
        rw [sNext_node h2]; omega
      · rw [sMost_append, sMost_append, a2, a3, b3]
        unfold sMost sMost
        dsimp only
        rw [if_neg (by omega)]; omega
    · rw [laid_leaf h2, deepT_leaf h2]
      rw [e] at h2 ⊢
      refine ⟨?_, ?_, ?_, by omega⟩
      · have hz : ¬ (0 ≤ vs ∧ (l[i].val < 0 ∨ l[i].op = 1 ∧ 255 < l[i].val ∨ l[i].op = 2 ∧ vs ≤ l[i].val)) := by
          rintro ⟨h0, h⟩
          rcases hvs with rfl | h'
          · rcases (show l[i].op = 1 ∨ l[i].op = 2 by omega) with h3 | h3
            · have := on h3; omega
            · have := ov h3; omega
          · omega
        exact sErrs_one (sErr1_leaf (s := ⟨l[i].op, l[i].val⟩) o1 (by dsimp only; omega) hz)
      · unfold sHeight sHeight
        rw [sNext_leaf (by dsimp only; omega)]
      · unfold sMost sMost
        dsimp only
        rw [if_pos (by omega)]
theorem deep_bd (hok : ∀ k (h : k < l.length), TOk vars k l[k]) : ∀ n i, i < n → i < l.length → accAt need1 l i ≤ deepT l i ∧ deepT l i ≤ accAt lvs1 l i ∧ 1 ≤ accAt lvs1 l i
  | n + 1, i, hn, hi => by
    have e : l.getD i tnul = l[i] := getD_at hi
    rw [accAt_eq need1 hi, accAt_eq lvs1 hi]
    by_cases h2 : 2 < (l.getD i tnul).op
    · obtain ⟨a, b, ea, eb, la, lb⟩ := ab_of hok hi h2
      rw [deepT_node hok hi h2 ea eb]
      rw [e] at h2 ea eb
      obtain ⟨a1, a2, a3⟩ := deep_bd hok n a (by omega) (by omega)
      obtain ⟨b1, b2, b3⟩ := deep_bd hok n b (by omega) (by omega)
      rw [need1_3 (by omega), lvs1_3 (by omega), ea, eb, Int.toNat_natCast, Int.toNat_natCast, accTo_at need1 (by omega) la, accTo_at need1 (by omega) lb, accTo_at lvs1 (by omega) la, accTo_at lvs1 (by omega) lb]
      refine ⟨?_, by omega, by omega⟩
      split
      · omega
      · split <;> omega
    · rw [deepT_leaf h2]
      rw [e] at h2
      rw [need1_0 (by omega), lvs1_0 (by omega)]
      omega
end
end Go.Proofs.Ytmglhppfdhphbaa
