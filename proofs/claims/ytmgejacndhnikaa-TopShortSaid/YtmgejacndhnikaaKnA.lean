/- package known, plain: what is known behind steps holds; where one goes is among where one may go. -/
import Derived.Test.YtmgejacndhnikaaBlkH
import Derived.BigQuiet
import Derived.Deep.QuietTactic
namespace Go.Proofs.Ytmgejacndhnikaa
open Go.RowKit

/-- What a step makes, of what is known (-1: any of more). -/
def mkK (a : List Int) (s : Step) : Int :=
  if s.op = 1 then s.val
  else if s.op = 2 then a.getD s.val.toNat 0
  else if s.op = 5 ∧ (a.getD s.a.toNat 0 = 0 ∨ a.getD s.b.toNat 0 = 0) then 0
  else if a.getD s.a.toNat 0 = -1 ∨ a.getD s.b.toNat 0 = -1 then -1
  else doF s.op (a.getD s.a.toNat 0) (a.getD s.b.toNat 0)
def kn1 (a : List Int) (s : Step) : List Int := a.set s.to.toNat (mkK a s)
def knR (a : List Int) (c : List Step) : List Int := c.foldl kn1 a
/-- Where one may go, by what is known behind the steps. -/
def goK (b : Blk) (a : List Int) : List Int :=
  if b.test < 0 ∧ b.thn < 0 then []
  else if b.test < 0 ∨ 0 < a.getD b.test.toNat 0 then [b.thn]
  else if a.getD b.test.toNat 0 = 0 then [b.els] else [b.thn, b.els]
theorem knR_append (a : List Int) (c d : List Step) : knR a (c ++ d) = knR (knR a c) d := List.foldl_append ..
theorem kn1_len (a : List Int) (s : Step) : (kn1 a s).length = a.length := by unfold kn1; rw [List.length_set]
theorem knR_len (c : List Step) : ∀ a : List Int, (knR a c).length = a.length := by
  induction c with
  | nil => intro a; rfl
  | cons s c ih => intro a; exact (ih (kn1 a s)).trans (kn1_len a s)
/-- x says no more than y: the same, or any. -/
def leK (v a : List Int) : Prop := v.length = a.length ∧ ∀ i, i < a.length → a.getD i 0 = -1 ∨ a.getD i 0 = v.getD i 0
theorem leK.refl (v : List Int) : leK v v := ⟨rfl, fun _ _ => .inr rfl⟩
theorem leK.trans {u v a : List Int} (h : leK u v) (k : leK v a) : leK u a := ⟨h.1.trans k.1, fun i hi => by
  rcases k.2 i hi with e | e
  · exact .inl e
  · rcases h.2 i (by have := k.1; omega) with f | f
    · exact .inl (e.trans f)
    · exact .inr (e.trans f)⟩
theorem getK_set {l : List Int} {j : Nat} (x : Int) (i : Nat) (hj : j < l.length) : (l.set j x).getD i 0 = if j = i then x else l.getD i 0 := by
  rw [List.getD_eq_getElem?_getD, List.getElem?_set, List.getD_eq_getElem?_getD]
  by_cases h : j = i
  · rw [if_pos h, if_pos h, if_pos hj]; rfl
  · rw [if_neg h, if_neg h]
theorem leK_set {v a : List Int} (h : leK v a) {j : Nat} {x y : Int} (hj : j < a.length) (hxy : y = -1 ∨ y = x) : leK (v.set j x) (a.set j y) := by
  refine ⟨by rw [List.length_set, List.length_set]; exact h.1, fun i hi => ?_⟩
  rw [List.length_set] at hi
  rw [getK_set y i hj, getK_set x i (by have := h.1; omega)]
  by_cases e : j = i
  · rw [if_pos e, if_pos e]; exact hxy
  · rw [if_neg e, if_neg e]; exact h.2 i hi
theorem mkK_mono {vars : Int} {v a : List Int} {s : Step} (h : leK v a) (hl : (a.length : Int) = vars) (hs : SOk vars s) : mkK a s = -1 ∨ mkK a s = mkK v s := by
  obtain ⟨o1, o6, on, ov, ot, oab⟩ := hs
  unfold mkK
  by_cases h1 : s.op = 1
  · rw [if_pos h1, if_pos h1]; exact .inr rfl
  rw [if_neg h1, if_neg h1]
  by_cases h2 : s.op = 2
  · rw [if_pos h2, if_pos h2]
    have := ov h2
    exact h.2 _ (by omega)
  rw [if_neg h2, if_neg h2]
  obtain ⟨⟨a0, a1⟩, b0, b1⟩ := oab (by omega)
  have ha := h.2 s.a.toNat (by omega)
  have hb := h.2 s.b.toNat (by omega)
  generalize a.getD s.a.toNat 0 = x at *
  generalize a.getD s.b.toNat 0 = y at *
  generalize v.getD s.a.toNat 0 = x' at *
  generalize v.getD s.b.toNat 0 = y' at *
  by_cases h5 : s.op = 5 ∧ (x = 0 ∨ y = 0)
  · rw [if_pos h5, if_pos ⟨h5.1, by omega⟩]; exact .inr rfl
  rw [if_neg h5]
  by_cases hm : x = -1 ∨ y = -1
  · rw [if_pos hm]; exact .inl rfl
  have ex : x = x' := by omega
  have ey : y = y' := by omega
  subst ex ey
  rw [if_neg hm, if_neg h5]; exact .inr rfl
theorem leK_step {vars : Int} {v a : List Int} {s : Step} (h : leK v a) (hl : (a.length : Int) = vars) (hs : SOk vars s) : leK (kn1 v s) (kn1 a s) := by
  have ht := hs.2.2.2.2.1
  exact leK_set h (by omega) (mkK_mono h hl hs)
/-- Of values known all, what a step makes is what it does. -/
theorem mkK_full {v : List Int} {s : Step} (hv : ∀ x ∈ v, 0 ≤ x ∧ x ≤ 255) : kn1 v s = dg1 v s := by
  unfold kn1 dg1 mkK
  congr 1
  by_cases h1 : s.op = 1
  · rw [if_pos h1, if_pos h1]
  rw [if_neg h1, if_neg h1]
  by_cases h2 : s.op = 2
  · rw [if_pos h2, if_pos h2]
  rw [if_neg h2, if_neg h2]
  have ha := getI_bd hv s.a.toNat
  have hb := getI_bd hv s.b.toNat
  generalize v.getD s.a.toNat 0 = x at *
  generalize v.getD s.b.toNat 0 = y at *
  by_cases h5 : s.op = 5 ∧ (x = 0 ∨ y = 0)
  · rw [if_pos h5, h5.1]
    have : x * y = 0 := by rcases h5.2 with e | e <;> rw [e] <;> simp
    unfold doF
    rw [if_neg (by decide), if_neg (by decide), if_pos rfl, this]; rfl
  · rw [if_neg h5, if_neg (by omega)]
theorem leK_run {vars : Int} {c : List Step} (hs : ∀ s ∈ c, SOk vars s) : ∀ {v a : List Int}, leK v a → (a.length : Int) = vars → (∀ x ∈ v, 0 ≤ x ∧ x ≤ 255) → leK (dgR v c) (knR a c) := by
  induction c with
  | nil => intro v a h _ _; exact h
  | cons s c ih =>
    intro v a h hl hv
    have h1 := leK_step h hl (hs s (by simp))
    rw [mkK_full hv] at h1
    exact ih (fun t ht => hs t (by simp [ht])) h1 (by rw [kn1_len]; exact hl) (dg1_bd hv (hs s (by simp)))
/-- What is known ahead of each block (none: one does not come there) holds of a run, and stands where one goes on from it. -/
structure PostK (vars : Int) (p : List Blk) (h0 : List Int) (F : List (Option (List Int))) : Prop where
  len : F.length = p.length
  wid : ∀ (i : Nat) (a : List Int), F[i]? = some (some a) → (a.length : Int) = vars
  start : ∃ a, F[0]? = some (some a) ∧ leK h0 a
  step : ∀ (i : Nat) (a : List Int) (j : Int), F[i]? = some (some a) → j ∈ goK (p.getD i bnul) (knR a (p.getD i bnul).code) → ∃ b, F[j.toNat]? = some (some b) ∧ leK (knR a (p.getD i bnul).code) b
theorem goK_in {vars : Int} {p : List Blk} {v a : List Int} (hp : POk vars p) {i : Nat} (hi : i < p.length) (hl : (a.length : Int) = vars) (h : leK (dgR v p[i].code) a) (hg : 0 ≤ (goB p (i : Int) v).1) : (goB p (i : Int) v).1 ∈ goK p[i] a := by
  have hb := hp.bs _ (List.getElem_mem hi)
  have h1 := hb.one
  have h2 := hb.two
  have h3 := hb.lo
  have h4 := hb.hi
  unfold goB at hg ⊢
  rw [Int.toNat_natCast, bget hi] at hg ⊢
  dsimp only at hg ⊢
  unfold goK
  by_cases ht : 0 ≤ p[i].test
  · have hx := h.2 p[i].test.toNat (by omega)
    have h5 := h2 ht
    generalize a.getD p[i].test.toNat 0 = x at *
    generalize (dgR v p[i].code).getD p[i].test.toNat 0 = y at *
    rw [if_neg (show ¬ (p[i].test < 0 ∧ p[i].thn < 0) by omega)]
    by_cases hy : y = 0
    · rw [if_pos (show 0 ≤ p[i].test ∧ y = 0 from ⟨ht, hy⟩), if_neg (show ¬ (p[i].test < 0 ∨ 0 < x) by omega)]
      by_cases hx0 : x = 0
      · rw [if_pos hx0]; simp
      · rw [if_neg hx0]; simp
    · rw [if_neg (show ¬ (0 ≤ p[i].test ∧ y = 0) from fun hc => hy hc.2)]
      by_cases hx0 : 0 < x
      · rw [if_pos (show p[i].test < 0 ∨ 0 < x from .inr hx0)]; simp
      · rw [if_neg (show ¬ (p[i].test < 0 ∨ 0 < x) by omega), if_neg (show ¬ x = 0 by omega)]; simp
  · rw [if_neg (show ¬ (0 ≤ p[i].test ∧ (dgR v p[i].code).getD p[i].test.toNat 0 = 0) from fun hc => ht hc.1)] at hg ⊢
    rw [if_neg (show ¬ (p[i].test < 0 ∧ p[i].thn < 0) by omega), if_pos (show p[i].test < 0 ∨ 0 < a.getD p[i].test.toNat 0 from .inl (by omega))]; simp
/-- A run's values are among what is known. -/
theorem known_run {vars : Int} {p : List Blk} {h0 v : List Int} {F : List (Option (List Int))} (hp : POk vars p) (hF : PostK vars p h0 F) (hl : (v.length : Int) = vars) (hv : ∀ x ∈ v, 0 ≤ x ∧ x ≤ 255) (hs : leK v h0) : ∀ k, runsB p v (k + 1) → ∃ a, F[(stB p v k).1.toNat]? = some (some a) ∧ leK (stB p v k).2 a
  | 0, _ => by
    obtain ⟨a, h1, h2⟩ := hF.start
    exact ⟨a, h1, hs.trans h2⟩
  | k + 1, hr => by
    have hr' : runsB p v (k + 1) := fun j hj => hr j (by omega)
    obtain ⟨a, h1, h2⟩ := known_run hp hF hl hv hs k hr'
    obtain ⟨s1, s2, s3, s4⟩ := st_ok hp hl hv k (fun j hj => hr j (by omega))
    have hn := hr k (by omega)
    have hn2 := hr (k + 1) (by omega)
    have hst : stB p v (k + 1) = goB p (stB p v k).1 (stB p v k).2 := rfl
    rw [hst] at hn2 ⊢
    generalize stB p v k = st at *
    obtain ⟨i, u⟩ := st
    dsimp only at *
    obtain ⟨n, rfl⟩ := Int.eq_ofNat_of_zero_le hn
    have hi : n < p.length := by omega
    rw [Int.toNat_natCast] at h1
    have hw := hF.wid n a h1
    have hb := hp.bs _ (List.getElem_mem hi)
    have h3 := leK_run hb.code h2 hw s2
    have h4 := goK_in (v := u) hp hi (by rw [knR_len]; exact hw) h3 hn2
    obtain ⟨b, h5, h6⟩ := hF.step n a _ h1 (by rw [bget hi]; exact h4)
    rw [bget hi] at h6
    refine ⟨b, h5, ?_⟩
    have e : (goB p (n : Int) u).2 = dgR u p[n].code := by unfold goB; rw [Int.toNat_natCast, bget hi]
    rw [e]
    exact h3.trans h6
end Go.Proofs.Ytmgejacndhnikaa
namespace Go.Proofs.Ytmgejacndhnikaa
open Go.RowKit

theorem mkK_1 {a : List Int} {op sto sa sb sv : Int} (h : op = 1) : mkK a ⟨op, sto, sa, sb, sv⟩ = sv := by unfold mkK; rw [if_pos h]
theorem mkK_2 {a : List Int} {sto sa sb : Int} (m : Nat) : mkK a ⟨2, sto, sa, sb, (m : Nat)⟩ = a.getD m 0 := by unfold mkK; rw [if_neg (show ¬ (2 : Int) = 1 by decide), if_pos rfl]; dsimp only; rw [Int.toNat_natCast]
theorem mkK_3 {a : List Int} {op sto sv : Int} (x y : Nat) (h1 : op ≠ 1) (h2 : op ≠ 2) : mkK a ⟨op, sto, (x : Nat), (y : Nat), sv⟩ = if op = 5 ∧ (a.getD x 0 = 0 ∨ a.getD y 0 = 0) then 0 else if a.getD x 0 = -1 ∨ a.getD y 0 = -1 then -1 else doF op (a.getD x 0) (a.getD y 0) := by
  unfold mkK; rw [if_neg h1, if_neg h2]; dsimp only; rw [Int.toNat_natCast, Int.toNat_natCast]
theorem getK_bd {l : List Int} (h : ∀ x ∈ l, -1 ≤ x ∧ x ≤ 255) (i : Nat) : -1 ≤ l.getD i 0 ∧ l.getD i 0 ≤ 255 := by
  by_cases hi : i < l.length
  · rw [List.getD_eq_getElem?_getD, List.getElem?_eq_getElem hi]; exact h _ (List.getElem_mem hi)
  · rw [List.getD_eq_getElem?_getD, List.getElem?_eq_none (by omega)]; simp
set_option maxRecDepth 100000 in
set_option maxHeartbeats 4000000 in
theorem makes_calls (vars : Int) (s : Step) (A : Option Addr) (v : List Int) (cap : Nat) (w : World) (hA : RdI w A v) (hl : (v.length : Int) = vars) (hs : SOk vars s) (hv : ∀ x ∈ v, -1 ≤ x ∧ x ≤ 255) :
    Calls Try.prog 90 #[s.agg, .slice A v.length cap] w fun e w' => e = .returned (.int .i64 (mkK v s)) ∧ Below w.heap.size w w' := by
  subst hl
  have HA := Lib.hid hA
  have Hv := Lib.hid hv
  clear hA hv
  obtain ⟨op, sto, sa, sb, sv⟩ := s
  obtain ⟨o1, o6, on, ov, ⟨t0, t1⟩, oab⟩ := hs
  dsimp only at o1 o6 on ov t0 t1 oab
  have HW := Lib.hid (fun o => (Below.refl w.heap.size w).alloc (Nat.le_refl _) (.cells #[.int .i64 o, .int .i64 sto, .int .i64 sa, .int .i64 sb, .int .i64 sv] 87))
  unfold Step.agg
  dsimp only
  by_cases h1 : op = 1
  · subst h1
    rw [mkK_1 rfl]
    clear on ov oab
    go_enter Try.func90, Try.ntmps90
    go_wp2
    go_ret
    exact ⟨rfl, HW.out _⟩
  have q1 : (op == 1) = false := by rw [beq_eq_false_iff_ne]; exact h1
  by_cases h2 : op = 2
  · subst h2
    obtain ⟨v0, v1⟩ := ov rfl
    obtain ⟨m, rfl⟩ := Int.eq_ofNat_of_zero_le v0
    have hm : m < v.length := by omega
    rw [mkK_2]
    obtain ⟨b, off, rfl, hb, c0⟩ := RdI.at1 HA.out hm
    rw [← getI_get hm] at c0
    generalize v.getD m 0 = x at *
    clear on ov oab q1
    go_enter Try.func90, Try.ntmps90
    go_wp2
    go_ret
    exact ⟨rfl, HW.out _⟩
  have q2 : (op == 2) = false := by rw [beq_eq_false_iff_ne]; exact h2
  obtain ⟨⟨a0, a1⟩, b0, b1⟩ := oab (by omega)
  obtain ⟨m, rfl⟩ := Int.eq_ofNat_of_zero_le a0
  obtain ⟨k, rfl⟩ := Int.eq_ofNat_of_zero_le b0
  have hm : m < v.length := by omega
  have hk : k < v.length := by omega
  rw [mkK_3 m k h1 h2]
  obtain ⟨b, off, rfl, hb, c0⟩ := RdI.at1 HA.out hm
  obtain ⟨b', off', eb, hb', c1⟩ := RdI.at1 HA.out hk
  injection eb with eb; injection eb with eb1 eb2
  subst eb1 eb2
  rw [← getI_get hm] at c0
  rw [← getI_get hk] at c1
  have xb := getK_bd Hv.out m
  have yb := getK_bd Hv.out k
  generalize v.getD m 0 = x at *
  generalize v.getD k 0 = y at *
  clear on ov oab
  by_cases h5 : op = 5 ∧ (x = 0 ∨ y = 0)
  · rw [if_pos h5]
    obtain ⟨rfl, h5⟩ := h5
    by_cases hx : x = 0
    · subst hx
      go_enter Try.func90, Try.ntmps90
      go_wp2
      go_quiet (fail)
      go_wp2
      go_ret
      exact ⟨rfl, below_dN (HW.out _) _⟩
    · obtain rfl : y = 0 := by omega
      have q3 : (x == 0) = false := by rw [beq_eq_false_iff_ne]; exact hx
      go_enter Try.func90, Try.ntmps90
      go_wp2
      go_quiet (fail)
      go_wp2
      go_ret
      exact ⟨rfl, below_dN (HW.out _) _⟩
  rw [if_neg h5]
  by_cases hmx : x = -1 ∨ y = -1
  · rw [if_pos hmx]
    by_cases h6 : op = 5
    · subst h6
      have q3 : (x == 0) = false := by rw [beq_eq_false_iff_ne]; omega
      have q4 : (y == 0) = false := by rw [beq_eq_false_iff_ne]; omega
      by_cases hx : x = -1
      · subst hx
        go_enter Try.func90, Try.ntmps90
        go_wp2
        go_quiet (fail)
        go_wp2
        go_ret
        exact ⟨rfl, below_dN (HW.out _) _⟩
      · obtain rfl : y = -1 := by omega
        have q5 : (x == -1) = false := by rw [beq_eq_false_iff_ne]; exact hx
        go_enter Try.func90, Try.ntmps90
        go_wp2
        go_quiet (fail)
        go_wp2
        go_ret
        exact ⟨rfl, below_dN (HW.out _) _⟩
    · have q6 : (op == 5) = false := by rw [beq_eq_false_iff_ne]; exact h6
      by_cases hx : x = -1
      · subst hx
        go_enter Try.func90, Try.ntmps90
        go_wp2
        go_quiet (fail)
        go_wp2
        go_ret
        exact ⟨rfl, below_dN (HW.out _) _⟩
      · obtain rfl : y = -1 := by omega
        have q5 : (x == -1) = false := by rw [beq_eq_false_iff_ne]; exact hx
        go_enter Try.func90, Try.ntmps90
        go_wp2
        go_quiet (fail)
        go_wp2
        go_ret
        exact ⟨rfl, below_dN (HW.out _) _⟩
  · rw [if_neg hmx]
    have q3 : (x == -1) = false := by rw [beq_eq_false_iff_ne]; omega
    have q4 : (y == -1) = false := by rw [beq_eq_false_iff_ne]; omega
    have Hcl := Lib.hid (fun w => do_calls op x y w (by omega) (by omega))
    by_cases h6 : op = 5
    · subst h6
      have q5 : (x == 0) = false := by rw [beq_eq_false_iff_ne]; omega
      have q6 : (y == 0) = false := by rw [beq_eq_false_iff_ne]; omega
      go_enter Try.func90, Try.ntmps90
      go_wp2
      go_quiet (fail)
      go_wp2_with (go_at_call 50; refine (Hcl.out _).mono ?_; rintro e w9 ⟨rfl, rfl⟩)
      go_ret
      exact ⟨rfl, below_dN (HW.out _) _⟩
    · have q6 : (op == 5) = false := by rw [beq_eq_false_iff_ne]; exact h6
      go_enter Try.func90, Try.ntmps90
      go_wp2
      go_quiet (fail)
      go_wp2_with (go_at_call 50; refine (Hcl.out _).mono ?_; rintro e w9 ⟨rfl, rfl⟩)
      go_ret
      exact ⟨rfl, below_dN (HW.out _) _⟩
end Go.Proofs.Ytmgejacndhnikaa
