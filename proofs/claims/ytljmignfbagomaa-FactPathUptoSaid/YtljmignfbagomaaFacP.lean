/- Facts on a way: plain law of fact.Solve. -/
import Derived.Test.YtljmignfbagomaaRuleA
import Derived.Test.YtljmignfbagomaaHangC
namespace Go.Proofs.Ytljmignfbagomaa

structure LawD where
  back : Bool
  all : Bool
  makes : List Nat
  ends : List Nat
  start : Nat
/-- Edges of a list of rows, whatever its rows. -/
def EdgeG (g : List (List Int)) (a b : Nat) : Prop := ∃ l, g[a]? = some l ∧ (b : Int) ∈ l
inductive FR (E : Nat → Nat → Prop) (F : Nat → Prop) : Nat → Prop
  | first {i : Nat} (h : F i) : FR E F i
  | step {i j : Nat} (h : FR E F i) (e : E i j) : FR E F j
/-- Polar bits: of 'some' a fact that holds, of 'all' one that does not. -/
def pb (all : Bool) (s b : Nat) : Bool := s.testBit b != all
def genB (L : LawD) (i b : Nat) : Bool := if L.all then (L.ends.getD i 0).testBit b && !(L.makes.getD i 0).testBit b else (L.makes.getD i 0).testBit b
def keepB (L : LawD) (i b : Nat) : Bool := if L.all then !(L.makes.getD i 0).testBit b else !(L.ends.getD i 0).testBit b
inductive FP (E : Nat → Nat → Prop) (F : Nat → Prop) (L : LawD) : Nat → Nat → Prop
  | start {i b : Nat} (h : F i) (hs : pb L.all L.start b = true) : FP E F L i b
  | gen {i j b : Nat} (h : FR E F i) (e : E i j) (hg : genB L i b = true) : FP E F L j b
  | keep {i j b : Nat} (h : FP E F L i b) (e : E i j) (hk : keepB L i b = true) : FP E F L j b
/-- What is so behind a node. -/
noncomputable def beh (L : LawD) (i s : Nat) : Nat := andN s (L.ends.getD i 0) ||| L.makes.getD i 0
theorem beh_pb (L : LawD) (i : Nat) {s b : Nat} (hs : s < 256) (_hb : b < 8) : pb L.all (beh L i s) b = (genB L i b || (pb L.all s b && keepB L i b)) := by
  unfold pb beh genB keepB
  rw [Nat.testBit_or, andN_bit _ (by omega)]
  cases L.all <;> cases s.testBit b <;> cases (L.ends.getD i 0).testBit b <;> cases (L.makes.getD i 0).testBit b <;> rfl
theorem beh_lt {L : LawD} {i s : Nat} (hs : s < 256) (hm : ∀ i, L.makes.getD i 0 < 256) : beh L i s < 256 := by
  unfold beh
  refine lt_pow_of_bits (n := 8) fun k hk => ?_
  rw [Nat.testBit_or, Bool.or_eq_true, andN_bit _ (by omega)] at hk
  rcases hk with hk | hk
  · rw [Bool.and_eq_true] at hk; exact bit_lt (n := 8) hs hk.1
  · exact bit_lt (n := 8) (hm i) hk
def comb (all : Bool) (x y : Nat) : Nat := if all then x &&& y else x ||| y
theorem comb_pb (all : Bool) (x y b : Nat) : pb all (comb all x y) b = (pb all x b || pb all y b) := by
  unfold pb comb
  cases all
  · rw [if_neg (by decide), Nat.testBit_or]; cases x.testBit b <;> cases y.testBit b <;> rfl
  · rw [if_pos rfl, Nat.testBit_and]; cases x.testBit b <;> cases y.testBit b <;> rfl
theorem comb_lt {all : Bool} {x y : Nat} (hx : x < 256) (hy : y < 256) : comb all x y < 256 := by
  unfold comb
  split
  · exact Nat.lt_of_le_of_lt Nat.and_le_left hx
  · exact Nat.or_lt_two_pow (n := 8) hx hy
structure Fa (E : Nat → Nat → Prop) (F : Nat → Prop) (L : LawD) (n : Nat) (r : List Nat) (c : Nat) : Prop where
  len : r.length = n
  lt : ∀ i, r.getD i 0 < 256
  c8 : c < 256
  come : ∀ j, c.testBit j = true → FR E F j
  first : ∀ j, F j → c.testBit j = true
  sound : ∀ i b, i < n → b < 8 → pb L.all (r.getD i 0) b = true → FP E F L i b
  start : ∀ i b, F i → b < 8 → pb L.all L.start b = true → pb L.all (r.getD i 0) b = true
section
variable {E : Nat → Nat → Prop} {F : Nat → Prop} {L : LawD} {n : Nat} {r : List Nat} {c : Nat}
theorem getD_set_ {r : List Nat} {j : Nat} (hj : j < r.length) (s i : Nat) : (r.set j s).getD i 0 = if j = i then s else r.getD i 0 := by
  rw [List.getD_eq_getElem?_getD, List.getElem?_set, List.getD_eq_getElem?_getD]
  by_cases h : j = i
  · rw [if_pos h, if_pos h, if_pos hj]; rfl
  · rw [if_neg h, if_neg h]
theorem Fa.step (h : Fa E F L n r c) (hm : ∀ i, L.makes.getD i 0 < 256) {i j : Nat} (hi : i < n) (hj : j < n) (hj8 : j < 8) (hc : c.testBit i = true) (e : E i j) :
    Fa E F L n (r.set j (comb L.all (r.getD j 0) (beh L i (r.getD i 0)))) (c ||| 2 ^ j) := by
  have hjr : j < r.length := by rw [h.len]; exact hj
  refine ⟨by rw [List.length_set]; exact h.len, fun k => ?_, Nat.or_lt_two_pow (n := 8) h.c8 (Nat.pow_lt_pow_right (by decide) hj8), fun k hk => ?_, fun k hk => ?_, fun k b hk hb hp => ?_, fun k b hk hb hp => ?_⟩
  · rw [getD_set_ hjr]
    split
    · exact comb_lt (h.lt j) (beh_lt (h.lt i) hm)
    · exact h.lt k
  · rw [set_bit, Bool.or_eq_true, decide_eq_true_eq] at hk
    rcases hk with hk | rfl
    · exact h.come k hk
    · exact .step (h.come i hc) e
  · rw [set_bit, h.first k hk]; rfl
  · rw [getD_set_ hjr] at hp
    split at hp
    · rename_i ejk
      subst ejk
      rw [comb_pb, beh_pb L i (h.lt i) hb, Bool.or_eq_true, Bool.or_eq_true, Bool.and_eq_true] at hp
      rcases hp with hp | hp | ⟨hp, hk'⟩
      · exact h.sound _ b hk hb hp
      · exact .gen (h.come i hc) e hp
      · exact .keep (h.sound i b hi hb hp) e hk'
    · exact h.sound k b hk hb hp
  · rw [getD_set_ hjr]
    split
    · rename_i ejk
      subst ejk
      rw [comb_pb, h.start _ b hk hb hp]; rfl
    · exact h.start k b hk hb hp
/-- Nothing new along an edge. -/
def Cl (L : LawD) (r : List Nat) (c i j : Nat) : Prop := c.testBit j = true ∧ ∀ b, b < 8 → pb L.all (beh L i (r.getD i 0)) b = true → pb L.all (r.getD j 0) b = true
theorem Cl.of {i j : Nat} (hj : c.testBit j = true) (hs : comb L.all (r.getD j 0) (beh L i (r.getD i 0)) = r.getD j 0) : Cl L r c i j := ⟨hj, fun b _ hp => by
  rw [← hs, comb_pb, hp]; simp⟩
theorem Fa.done (h : Fa E F L n r c) (hcl : ∀ i j, c.testBit i = true → E i j → Cl L r c i j) :
    (∀ i, c.testBit i = true ↔ FR E F i) ∧ ∀ i b, i < n → b < 8 → (pb L.all (r.getD i 0) b = true ↔ FP E F L i b) := by
  have hR : ∀ i, FR E F i → c.testBit i = true := fun i hi => by
    induction hi with
    | first hf => exact h.first _ hf
    | step _ e ih => exact (hcl _ _ ih e).1
  have hP : ∀ i b, FP E F L i b → b < 8 → c.testBit i = true ∧ pb L.all (r.getD i 0) b = true := fun i b hp => by
    induction hp with
    | start hf hs => exact fun hb => ⟨h.first _ hf, h.start _ _ hf hb hs⟩
    | gen hr e hg =>
      intro hb
      have hc := hR _ hr
      refine ⟨(hcl _ _ hc e).1, (hcl _ _ hc e).2 _ hb ?_⟩
      rw [beh_pb L _ (h.lt _) hb, hg]; rfl
    | keep _ e hk ih =>
      intro hb
      obtain ⟨hc, hp⟩ := ih hb
      refine ⟨(hcl _ _ hc e).1, (hcl _ _ hc e).2 _ hb ?_⟩
      rw [beh_pb L _ (h.lt _) hb, hp, hk]; simp
  exact ⟨fun i => ⟨h.come i, hR i⟩, fun i b hi hb => ⟨h.sound i b hi hb, fun hp => (hP i b hp hb).2⟩⟩
/-- How much has come. -/
def wtF (all : Bool) (r : List Nat) (c : Nat) : Nat := (if all then 8 * r.length - wtR r else wtR r) + cnt8 c
theorem wtR_le_ : ∀ (r : List Nat), wtR r ≤ 8 * r.length
  | [] => Nat.le_refl _
  | a :: r => by
    have := wtR_le_ r
    have := cnt8_le a
    simp only [wtR, List.map_cons, List.sum_cons, List.length_cons] at *
    omega
theorem wtF_le (all : Bool) (r : List Nat) (c : Nat) : wtF all r c ≤ 8 * r.length + 8 := by
  have := wtR_le_ r
  have := cnt8_le c
  unfold wtF
  split <;> omega
theorem wtR_gt {r : List Nat} {j : Nat} (hj : j < r.length) (s : Nat) (h : cnt8 r[j] < cnt8 s) : wtR r < wtR (r.set j s) := by
  have h1 := wtR_set (r := r.set j s) (j := j) (by rw [List.length_set]; exact hj) r[j] (by rw [List.getElem_set_self]; exact h)
  rwa [List.set_set, List.set_getElem_self] at h1
theorem cnt8_up (c j : Nat) (hj : j < 8) : cnt8 c ≤ cnt8 (c ||| 2 ^ j) := by
  cases hb : c.testBit j
  · rw [cnt8_set hj hb]; omega
  · have : c ||| 2 ^ j = c := set_ext fun k => by
      rw [set_bit]
      by_cases e : j = k
      · subst e; rw [hb]; rfl
      · simp [e]
    rw [this]; exact Nat.le_refl _
theorem wtF_lt {all : Bool} {r : List Nat} {c j : Nat} (hj : j < r.length) (hj8 : j < 8) (hl : ∀ i, r.getD i 0 < 256) {y : Nat} (hy : y < 256) (hn : comb all (r.getD j 0) y ≠ r.getD j 0 ∨ c.testBit j = false) :
    wtF all r c < wtF all (r.set j (comb all (r.getD j 0) y)) (c ||| 2 ^ j) := by
  have hg : r.getD j 0 = r[j] := by rw [List.getD_eq_getElem?_getD, List.getElem?_eq_getElem hj]; rfl
  have hlj := hl j
  rw [hg] at hn hlj ⊢
  have hu := cnt8_up c j hj8
  have hle := wtR_le_ r
  by_cases hs : comb all r[j] y = r[j]
  · have hc := hn.resolve_left (fun h => h hs)
    rw [hs, List.set_getElem_self]
    unfold wtF
    have := cnt8_set hj8 hc
    omega
  · unfold wtF
    rw [List.length_set]
    cases all
    · have : cnt8 r[j] < cnt8 (comb false r[j] y) := cnt8_mono_lt (fun k hk => by unfold comb; rw [if_neg (by decide), Nat.testBit_or, hk]; rfl) (fun e => hs e.symm) (comb_lt hlj hy)
      have := wtR_gt hj _ this
      simp only [Bool.false_eq_true, if_false]
      omega
    · have : cnt8 (comb true r[j] y) < cnt8 r[j] := cnt8_mono_lt (fun k hk => by unfold comb at hk; rw [if_pos rfl, Nat.testBit_and, Bool.and_eq_true] at hk; exact hk.1) hs hlj
      have := wtR_set hj _ this
      simp only [if_true]
      omega
/-- A sweep: what it has seen so far. -/
structure Sw (E : Nat → Nat → Prop) (F : Nat → Prop) (L : LawD) (n w0 : Nat) (r : List Nat) (c : Nat) (more : Bool) (seen : Nat → Nat → Prop) : Prop where
  fa : Fa E F L n r c
  ge : w0 ≤ wtF L.all r c
  new : more = true → w0 < wtF L.all r c
  old : more = false → ∀ i j, seen i j → c.testBit i = true → E i j → Cl L r c i j
theorem Sw.mono {w0 : Nat} {more : Bool} {seen seen' : Nat → Nat → Prop} (h : Sw E F L n w0 r c more seen) (hs : ∀ i j, seen' i j → c.testBit i = true → E i j → seen i j) : Sw E F L n w0 r c more seen' :=
  ⟨h.fa, h.ge, h.new, fun hm i j hij hc e => h.old hm i j (hs i j hij hc e) hc e⟩
theorem Sw.same {w0 : Nat} {more : Bool} {seen seen' : Nat → Nat → Prop} (h : Sw E F L n w0 r c more seen) {i j : Nat} (hs : ∀ a b, seen' a b → seen a b ∨ (a = i ∧ b = j)) (hj : c.testBit j = true) (he : comb L.all (r.getD j 0) (beh L i (r.getD i 0)) = r.getD j 0) : Sw E F L n w0 r c more seen' :=
  ⟨h.fa, h.ge, h.new, fun hm a b hab hc e => by
    rcases hs a b hab with h1 | ⟨rfl, rfl⟩
    · exact h.old hm a b h1 hc e
    · exact Cl.of hj he⟩
theorem Sw.turn {w0 : Nat} {more : Bool} {seen : Nat → Nat → Prop} (h : Sw E F L n w0 r c more seen) (seen' : Nat → Nat → Prop) (hm : ∀ i, L.makes.getD i 0 < 256) {i j : Nat} (hi : i < n) (hj : j < n) (hj8 : j < 8) (hc : c.testBit i = true) (e : E i j)
    (hn : comb L.all (r.getD j 0) (beh L i (r.getD i 0)) ≠ r.getD j 0 ∨ c.testBit j = false) :
    Sw E F L n w0 (r.set j (comb L.all (r.getD j 0) (beh L i (r.getD i 0)))) (c ||| 2 ^ j) true seen' := by
  have hw := wtF_lt (all := L.all) (r := r) (c := c) (j := j) (by rw [h.fa.len]; exact hj) hj8 h.fa.lt (beh_lt (L := L) (i := i) (h.fa.lt i) hm) hn
  have := h.ge
  exact ⟨h.fa.step hm hi hj hj8 hc e, by omega, fun _ => by omega, fun h => by cases h⟩
end
end Go.Proofs.Ytljmignfbagomaa
