/- ShapeBack, plain: the blocks are a program; its run ends as the shapes end. -/
import Derived.Test.YtmgejacndhnikaaShpQ
import Derived.Test.YtmgejacndhnikaaBlkI
namespace Go.Proofs.Ytmgejacndhnikaa

theorem BOk.mono {vars n m : Int} {b : Blk} (h : BOk vars n b) (hm : n ≤ m) : BOk vars m b :=
  ⟨h.code, h.lo, h.hi, fun ht => by have := h.two ht; omega, fun ht => by have := h.one ht; omega⟩
def AllB (vars : Int) (p : List Blk) : Prop := ∀ k, k < p.length → BOk vars p.length (p.getD k bnul)
theorem bok_mk {vars n : Int} {c : List Step} {t a b : Int} (hc : ∀ s ∈ c, SOk vars s) (lo : -1 ≤ t) (hi : t < vars) (two : 0 ≤ t → (0 ≤ a ∧ a < n) ∧ 0 ≤ b ∧ b < n) (one : t = -1 → a = -1 ∨ (0 ≤ a ∧ a < n)) : BOk vars n ⟨c, t, a, b⟩ := ⟨hc, lo, hi, two, one⟩
theorem nil_steps {vars : Int} : ∀ s ∈ ([] : List Step), SOk vars s := fun _ h => absurd h List.not_mem_nil
theorem nbl_ok {vars n : Int} (h : 1 ≤ vars) : BOk vars n nbl := bok_mk nil_steps (by omega) (by omega) (fun h => by omega) (fun _ => .inl rfl)
theorem AllB.set {vars : Int} {p : List Blk} (h : AllB vars p) {i : Nat} (hi : i < p.length) {b : Blk} (hb : BOk vars p.length b) : AllB vars (p.set i b) := fun k hk => by
  rw [List.length_set] at hk ⊢
  rw [getB_set hi]
  by_cases e : i = k
  · rw [if_pos e]; exact hb
  · rw [if_neg e]; exact h k hk
theorem AllB.app {vars : Int} {p : List Blk} (h : AllB vars p) {b : Blk} (hb : BOk vars (p.length + 1 : Nat) b) : AllB vars (p ++ [b]) := fun k hk => by
  rw [List.length_append, List.length_singleton] at hk ⊢
  rcases Nat.lt_or_ge k p.length with h1 | h1
  · rw [getB_app _ h1]; exact (h k h1).mono (by omega)
  · obtain rfl : k = p.length := by omega
    rw [getB_new]; exact hb
theorem AllB.setT {vars : Int} {p : List Blk} (h : AllB vars p) {i : Nat} (hi : i < p.length) {a : Int} (h0 : 0 ≤ a) (ha : a < p.length) : AllB vars (setT p i a) := by
  have hb := h i hi
  exact h.set hi ⟨hb.code, hb.lo, hb.hi, fun ht => ⟨⟨h0, ha⟩, (hb.two ht).2⟩, fun _ => .inr ⟨h0, ha⟩⟩
theorem flat_ok {vars : Int} (hv : 1 ≤ vars) : ∀ (d : Nat) (l : List Shp) (p : List Blk) (i : Nat), i < p.length → OkS vars d l → AllB vars p → AllB vars (flatL d l p i).1
  | d, [], p, i, hi, _, h => by rw [flatL_nil]; exact h
  | 0, x :: r, p, i, hi, hok, h => by rw [OkS] at hok; exact hok.elim
  | d + 1, x :: r, p, i, hi, hok, h => by
    rw [OkS] at hok
    obtain ⟨hk, hcode, htest, hok1, hok2, hok3⟩ := hok
    rw [flatL]
    by_cases h1 : x.kind = 1
    · rw [if_pos h1]
      refine flat_ok hv (d + 1) r _ i (by rw [addC_len]; exact hi) hok3 ?_
      have hb := h i hi
      refine h.set hi ⟨fun s hs => ?_, hb.lo, hb.hi, hb.two, hb.one⟩
      rcases List.mem_append.1 hs with hs | hs
      · exact hb.code s hs
      · exact hcode h1 s hs
    · rw [if_neg h1]
      have ht := htest h1
      by_cases h2 : x.kind = 2
      · rw [if_pos h2]
        dsimp only
        have hp2 : AllB vars (setG (p ++ [nbl] ++ [nbl]) i x.test ((p.length : Nat) : Int) ((p.length + 1 : Nat) : Int)) := by
          have hl : i < (p ++ [nbl] ++ [nbl]).length := by simp; omega
          have hll : (p ++ [nbl] ++ [nbl]).length = p.length + 2 := by simp
          have ha := (h.app (nbl_ok hv)).app (nbl_ok hv)
          have hb := ha i hl
          refine ha.set hl (bok_mk hb.code (by omega) ht.2 (fun _ => ?_) (fun e => by omega))
          rw [hll]
          omega
        have l2 : (setG (p ++ [nbl] ++ [nbl]) i x.test ((p.length : Nat) : Int) ((p.length + 1 : Nat) : Int)).length = p.length + 2 := by rw [setG_len]; simp
        generalize setG (p ++ [nbl] ++ [nbl]) i x.test ((p.length : Nat) : Int) ((p.length + 1 : Nat) : Int) = p2 at *
        have fy := flat_fr d x.thn p2 p.length (by omega)
        have hy := flat_ok hv d x.thn p2 p.length (by omega) hok1 hp2
        generalize flatL d x.thn p2 p.length = y at *
        have ly := fy.len
        have fz := flat_fr d x.els y.1 (p.length + 1) (by omega)
        have hz := flat_ok hv d x.els y.1 (p.length + 1) (by omega) hok2 hy
        generalize flatL d x.els y.1 (p.length + 1) = z at *
        have lz := fz.len
        have ty := fy.lt
        have tz := fz.lt
        refine flat_ok hv (d + 1) r _ _ (by rw [setT_len, setT_len]; simp) hok3 (AllB.setT (AllB.setT (hz.app (nbl_ok hv)) (by simp; omega) (by omega) (by simp; omega)) (by rw [setT_len]; simp; omega) (by omega) (by rw [setT_len]; simp; omega))
      · rw [if_neg h2]
        have h3 : x.kind = 3 := by omega
        rw [if_pos h3]
        dsimp only
        have hl0 : (p ++ [zbl] ++ [nbl] ++ [nbl]).length = p.length + 3 := by simp
        have hp2 : AllB vars ((setT (p ++ [zbl] ++ [nbl] ++ [nbl]) i ((p.length : Nat) : Int)).set p.length ⟨[], x.test, ((p.length + 1 : Nat) : Int), ((p.length + 2 : Nat) : Int)⟩) := by
          have z0 : BOk vars (p.length + 1 : Nat) zbl := bok_mk nil_steps (by omega) (by omega) (fun _ => by omega) (fun e => by omega)
          have ha := AllB.setT (((h.app z0).app (nbl_ok hv)).app (nbl_ok hv)) (i := i) (a := ((p.length : Nat) : Int)) (by omega) (by omega) (by omega)
          refine ha.set (by rw [setT_len]; omega) (bok_mk nil_steps (by omega) ht.2 (fun _ => ?_) (fun e => by omega))
          rw [setT_len, hl0]
          omega
        have l2 : ((setT (p ++ [zbl] ++ [nbl] ++ [nbl]) i ((p.length : Nat) : Int)).set p.length ⟨[], x.test, ((p.length + 1 : Nat) : Int), ((p.length + 2 : Nat) : Int)⟩).length = p.length + 3 := by rw [List.length_set, setT_len, hl0]
        generalize (setT (p ++ [zbl] ++ [nbl] ++ [nbl]) i ((p.length : Nat) : Int)).set p.length ⟨[], x.test, ((p.length + 1 : Nat) : Int), ((p.length + 2 : Nat) : Int)⟩ = p2 at *
        have fy := flat_fr d x.thn p2 (p.length + 1) (by omega)
        have hy := flat_ok hv d x.thn p2 (p.length + 1) (by omega) hok1 hp2
        generalize flatL d x.thn p2 (p.length + 1) = y at *
        have ly := fy.len
        have ty := fy.lt
        exact flat_ok hv (d + 1) r _ _ (by rw [setT_len]; omega) hok3 (AllB.setT hy ty (by omega) (by omega))
  termination_by d l => (d, l.length)
/-- How many steps shapes have. -/
def stepsL : Nat → List Shp → Nat
  | _, [] => 0
  | 0, _ :: _ => 0
  | d + 1, x :: r => x.code.length + stepsL d x.thn + stepsL d x.els + stepsL (d + 1) r
  termination_by d l => (d, l.length)
theorem manyB_set {p : List Blk} {i : Nat} {b : Blk} (hi : i < p.length) : manyB (p.set i b) + (p.getD i bnul).code.length = manyB p + b.code.length := by
  induction p generalizing i with
  | nil => simp at hi
  | cons a p ih =>
    cases i with
    | zero => unfold manyB; simp; omega
    | succ i =>
      have := ih (i := i) (by simpa using hi)
      have e1 : manyB ((a :: p).set (i + 1) b) = a.code.length + manyB (p.set i b) := by unfold manyB; simp
      have e2 : manyB (a :: p) = a.code.length + manyB p := by unfold manyB; simp
      have e3 : (a :: p).getD (i + 1) bnul = p.getD i bnul := rfl
      rw [e1, e2, e3]; omega
theorem manyB_app (p : List Blk) (b : Blk) : manyB (p ++ [b]) = manyB p + b.code.length := by unfold manyB; simp
theorem manyB_same {p : List Blk} {i : Nat} {b : Blk} (hi : i < p.length) (h : b.code.length = (p.getD i bnul).code.length) : manyB (p.set i b) = manyB p := by
  have := manyB_set (b := b) hi
  omega
theorem manyB_setT {p : List Blk} {i : Nat} (hi : i < p.length) (a : Int) : manyB (setT p i a) = manyB p := manyB_same (b := { p.getD i bnul with thn := a }) hi rfl
theorem manyB_setG {p : List Blk} {i : Nat} (hi : i < p.length) (a b c : Int) : manyB (setG p i a b c) = manyB p := manyB_same (b := { p.getD i bnul with test := a, thn := b, els := c }) hi rfl
theorem manyB_nbl (p : List Blk) : manyB (p ++ [nbl]) = manyB p := manyB_app p nbl
theorem manyB_zbl (p : List Blk) : manyB (p ++ [zbl]) = manyB p := manyB_app p zbl
theorem flat_many : ∀ (d : Nat) (l : List Shp) (p : List Blk) (i : Nat), i < p.length → manyB (flatL d l p i).1 ≤ manyB p + stepsL d l
  | d, [], p, i, hi => by rw [flatL_nil]; exact Nat.le_add_right _ _
  | 0, x :: r, p, i, hi => by rw [flatL]; exact Nat.le_add_right _ _
  | d + 1, x :: r, p, i, hi => by
    rw [flatL, stepsL]
    by_cases h1 : x.kind = 1
    · rw [if_pos h1]
      have := flat_many (d + 1) r (addC p i x.code) i (by rw [addC_len]; exact hi)
      have e := manyB_set (b := { p.getD i bnul with code := (p.getD i bnul).code ++ x.code }) hi
      have e : manyB (addC p i x.code) + (p.getD i bnul).code.length = manyB p + ((p.getD i bnul).code ++ x.code).length := e
      rw [List.length_append] at e
      omega
    · rw [if_neg h1]
      by_cases h2 : x.kind = 2
      · rw [if_pos h2]
        dsimp only
        have hl : i < (p ++ [nbl] ++ [nbl]).length := by simp; omega
        have m2 : manyB (setG (p ++ [nbl] ++ [nbl]) i x.test ((p.length : Nat) : Int) ((p.length + 1 : Nat) : Int)) = manyB p := by
          rw [manyB_setG hl, manyB_nbl, manyB_nbl]
        have l2 : (setG (p ++ [nbl] ++ [nbl]) i x.test ((p.length : Nat) : Int) ((p.length + 1 : Nat) : Int)).length = p.length + 2 := by rw [setG_len]; simp
        generalize setG (p ++ [nbl] ++ [nbl]) i x.test ((p.length : Nat) : Int) ((p.length + 1 : Nat) : Int) = p2 at *
        have fy := flat_fr d x.thn p2 p.length (by omega)
        have hy := flat_many d x.thn p2 p.length (by omega)
        generalize flatL d x.thn p2 p.length = y at *
        have ly := fy.len
        have fz := flat_fr d x.els y.1 (p.length + 1) (by omega)
        have hz := flat_many d x.els y.1 (p.length + 1) (by omega)
        generalize flatL d x.els y.1 (p.length + 1) = z at *
        have lz := fz.len
        have ty := fy.lt
        have tz := fz.lt
        have m6 : manyB (setT (setT (z.1 ++ [nbl]) y.2 ((z.1.length : Nat) : Int)) z.2 ((z.1.length : Nat) : Int)) = manyB z.1 := by
          rw [manyB_setT (by rw [setT_len]; simp; omega), manyB_setT (by simp; omega), manyB_nbl]
        have := flat_many (d + 1) r (setT (setT (z.1 ++ [nbl]) y.2 ((z.1.length : Nat) : Int)) z.2 ((z.1.length : Nat) : Int)) z.1.length (by rw [setT_len, setT_len]; simp)
        omega
      · rw [if_neg h2]
        by_cases h3 : x.kind = 3
        · rw [if_pos h3]
          dsimp only
          have hl : i < (p ++ [zbl] ++ [nbl] ++ [nbl]).length := by simp; omega
          have m1 : manyB (setT (p ++ [zbl] ++ [nbl] ++ [nbl]) i ((p.length : Nat) : Int)) = manyB p := by
            rw [manyB_setT hl, manyB_nbl, manyB_nbl, manyB_zbl]
          have m2 : manyB ((setT (p ++ [zbl] ++ [nbl] ++ [nbl]) i ((p.length : Nat) : Int)).set p.length ⟨[], x.test, ((p.length + 1 : Nat) : Int), ((p.length + 2 : Nat) : Int)⟩) ≤ manyB p := by
            have e := manyB_set (p := setT (p ++ [zbl] ++ [nbl] ++ [nbl]) i ((p.length : Nat) : Int)) (i := p.length) (b := ⟨[], x.test, ((p.length + 1 : Nat) : Int), ((p.length + 2 : Nat) : Int)⟩) (by rw [setT_len]; simp)
            rw [m1] at e
            have : (⟨[], x.test, ((p.length + 1 : Nat) : Int), ((p.length + 2 : Nat) : Int)⟩ : Blk).code.length = 0 := rfl
            omega
          have l2 : ((setT (p ++ [zbl] ++ [nbl] ++ [nbl]) i ((p.length : Nat) : Int)).set p.length ⟨[], x.test, ((p.length + 1 : Nat) : Int), ((p.length + 2 : Nat) : Int)⟩).length = p.length + 3 := by rw [List.length_set, setT_len]; simp
          generalize (setT (p ++ [zbl] ++ [nbl] ++ [nbl]) i ((p.length : Nat) : Int)).set p.length ⟨[], x.test, ((p.length + 1 : Nat) : Int), ((p.length + 2 : Nat) : Int)⟩ = p2 at *
          have fy := flat_fr d x.thn p2 (p.length + 1) (by omega)
          have hy := flat_many d x.thn p2 (p.length + 1) (by omega)
          generalize flatL d x.thn p2 (p.length + 1) = y at *
          have ly := fy.len
          have ty := fy.lt
          have m6 : manyB (setT y.1 y.2 ((p.length : Nat) : Int)) = manyB y.1 := manyB_setT ty _
          have := flat_many (d + 1) r (setT y.1 y.2 ((p.length : Nat) : Int)) (p.length + 2) (by rw [setT_len]; omega)
          omega
        · rw [if_neg h3]
          have := flat_many (d + 1) r p i hi
          omega
  termination_by d l => (d, l.length)
def flatP (d : Nat) (l : List Shp) : List Blk := (flatL d l [nbl] 0).1
theorem flatP_pos (d : Nat) (l : List Shp) : 1 ≤ (flatP d l).length := (flat_fr d l [nbl] 0 (by decide)).len
theorem flatP_ok {vars : Int} {d : Nat} {l : List Shp} (h1 : 1 ≤ vars) (h6 : vars ≤ 6) (hok : OkS vars d l) (hs : stepsL d l ≤ 20) (h8 : (flatP d l).length ≤ 8) : POk vars (flatP d l) := by
  have hm := flat_many d l [nbl] 0 (by decide)
  refine ⟨h1, h6, flatP_pos d l, h8, by have e : manyB [nbl] = 0 := rfl; show manyB (flatL d l [nbl] 0).1 ≤ 20; omega, fun b hb => ?_⟩
  have ha : AllB vars [nbl] := fun k hk => by
    have : k = 0 := by simpa using hk
    subst this
    exact nbl_ok h1
  have := flat_ok h1 d l [nbl] 0 (by decide) hok ha
  obtain ⟨k, hk, rfl⟩ := List.getElem_of_mem hb
  have h2 : BOk vars (flatP d l).length ((flatP d l).getD k bnul) := this k hk
  rwa [bget hk] at h2
/-- Where the shapes end, the blocks stop, with the same. -/
theorem flatP_run {vars : Int} {d : Nat} {l : List Shp} {hv v : List Int} (hok : OkS vars d l) (h : Ex l hv v) : ∃ k, runsB (flatP d l) hv k ∧ (stB (flatP d l) hv k).1 < 0 ∧ (stB (flatP d l) hv k).2 = v := by
  have hf := flat_fr d l [nbl] 0 (by decide)
  have sim := (flat_sim h vars d hok [nbl] 0 (fun _ => False) (flatP d l) hv (by decide) id (fun _ h => h.elim) ⟨rfl, rfl⟩ ⟨Nat.le_refl _, fun _ _ _ _ => rfl, List.prefix_refl _⟩).1 ⟨0, hv, fun j hj => by omega, rfl, rfl⟩
  obtain ⟨k, u, h1, h2, h3⟩ := sim
  have ho : ((flatP d l).getD (flatL d l [nbl] 0).2 bnul).test = -1 ∧ ((flatP d l).getD (flatL d l [nbl] 0).2 bnul).thn = -1 := hf.opn ⟨rfl, rfl⟩
  change v = dgR u (((flatP d l).getD (flatL d l [nbl] 0).2 bnul).code.take ((flatP d l).getD (flatL d l [nbl] 0).2 bnul).code.length) at h3
  rw [List.take_length] at h3
  have e : stB (flatP d l) hv (k + 1) = (-1, v) := by
    rw [st_succ, h2]
    unfold goB
    dsimp only
    rw [Int.toNat_natCast, ← h3, if_neg (fun h => by have := h.1; omega), ho.2]
  refine ⟨k + 1, fun j hj => ?_, by rw [e]; show (-1 : Int) < 0; omega, by rw [e]⟩
  rcases Nat.lt_or_ge j k with h | h
  · exact h1 j h
  · obtain rfl : j = k := by omega
    rw [h2]; exact Int.natCast_nonneg _
end Go.Proofs.Ytmgejacndhnikaa
