/- plan.ahead walked; tasks that wait in no circle. -/
import Derived.Test.YtdkkmmljaijomaaPlnA
namespace Go.Proofs.Ytdkkmmljaijomaa
open Go.RowKit

/-- What is done when k times all that is ready is done. -/
noncomputable def dnK (n : Nat) (ps : List (Int × Int)) : Nat → Nat
  | 0 => 0
  | k + 1 => dnK n ps k ||| rdW n (Pr ps) (dnK n ps k)
theorem dnK_lt (n : Nat) (ps : List (Int × Int)) : ∀ k, dnK n ps k < 256
  | 0 => by show (0 : Nat) < 256; omega
  | k + 1 => Nat.or_lt_two_pow (n := 8) (dnK_lt n ps k) (rdW_lt _)
theorem rdW_in' {n : Nat} {R : Nat → Nat → Prop} (h8 : n ≤ 8) (d i : Nat) : inW (rdW n R d) i ↔ Ready n R d i := by
  unfold rdW inW
  rw [setN_bit]
  exact ⟨fun h => h.2, fun h => ⟨Nat.lt_of_lt_of_le h.1 h8, h⟩⟩
theorem dnK_sub {n : Nat} {ps : List (Int × Int)} (h8 : n ≤ 8) : ∀ k, subW (dnK n ps k) (fullW n)
  | 0 => fun i hi => by unfold inW at hi; rw [show dnK n ps 0 = 0 from rfl, Nat.zero_testBit] at hi; cases hi
  | k + 1 => fun i hi => by
    rcases (or_in _ _ _).1 hi with hi | hi
    · exact dnK_sub h8 k i hi
    · exact (full_in n i).2 ((rdW_in' h8 _ _).1 hi).1
theorem dnK_up {n : Nat} {ps : List (Int × Int)} : ∀ m k, subW (dnK n ps k) (dnK n ps (k + m))
  | 0, _ => fun _ h => h
  | m + 1, k => fun i hi => (or_in _ _ _).2 (.inl (dnK_up m k i hi))
/-- Before each other. -/
inductive Star (R : Nat → Nat → Prop) : Nat → Nat → Prop
  | refl (a : Nat) : Star R a a
  | step {a b c : Nat} (h : R a b) (s : Star R b c) : Star R a c
theorem Star.trans {R : Nat → Nat → Prop} {a b c : Nat} (h : Star R a b) (k : Star R b c) : Star R a c := by
  induction h with
  | refl _ => exact k
  | step h _ ih => exact .step h (ih k)
/-- No task waits for itself. -/
def NoCirc (R : Nat → Nat → Prop) : Prop := ∀ i j, R i j → ¬ Star R j i
theorem Dag.no {n : Nat} {R : Nat → Nat → Prop} {rk : Nat → Nat} (hD : Dag n R rk) : NoCirc R := fun i j h hs => by
  have : ∀ {a b : Nat}, Star R a b → rk a ≤ rk b := fun {a b} h => by
    induction h with
    | refl _ => exact Nat.le_refl _
    | step h _ ih => have := (hD.lt _ _ h).2.2; omega
  have h1 := this hs
  have h2 := (hD.lt _ _ h).2.2
  omega
open Classical in
theorem ready_no {n : Nat} {R : Nat → Nat → Prop} (hlt : ∀ i j, R i j → i < n ∧ j < n) (h8 : n ≤ 8) (hno : NoCirc R) {d : Nat} (h : ∃ i, i < n ∧ d.testBit i = false) : ∃ i, Ready n R d i := by
  let f : Nat → Nat := fun x => cntB fun y => decide (Star R y x)
  have key : ∀ m i, f i ≤ m → i < n → d.testBit i = false → ∃ i, Ready n R d i := fun m => by
    induction m with
    | zero =>
      intro i hf hi hb
      have : 0 < f i := by
        have h1 := cntB_lt (p := fun _ => false) (q := fun y => decide (Star R y i)) (fun _ _ h => by cases h) (j := i) (by omega) (decide_eq_true (Star.refl i)) rfl
        exact Nat.lt_of_le_of_lt (Nat.zero_le _) h1
      omega
    | succ m ih =>
      intro i hf hi hb
      apply Classical.byContradiction
      intro hn
      refine hn ⟨i, hi, hb, fun j hj => ?_⟩
      apply Classical.byContradiction
      intro hj'
      have hlt' : f j < f i := cntB_lt (fun y _ hy => decide_eq_true ((of_decide_eq_true hy).trans (.step hj (.refl i)))) (j := i) (by omega) (decide_eq_true (Star.refl i)) (decide_eq_false (hno j i hj))
      exact hn (ih j (by omega) (hlt j i hj).1 (by unfold inW at hj'; simpa using hj'))
  obtain ⟨i, hi, hb⟩ := h
  exact key (f i) i (Nat.le_refl _) hi hb
theorem dnK_cnt {n : Nat} {ps : List (Int × Int)} (hI : Inn n ps) (h8 : n ≤ 8) (hno : NoCirc (Pr ps)) : ∀ k, k ≤ n → k ≤ cnt8 (dnK n ps k)
  | 0, _ => Nat.zero_le _
  | k + 1, hk => by
    have ih := dnK_cnt hI h8 hno k (by omega)
    by_cases hf : dnK n ps k = fullW n
    · have h1 : cnt8 (dnK n ps k) ≤ cnt8 (dnK n ps (k + 1)) := cnt8_sub (dnK_up 1 k)
      rw [hf, full_cnt h8] at h1; omega
    · obtain ⟨i, hi⟩ := ready_no (fun i j h => hI.lt h) h8 hno (not_full (dnK_sub h8 k) hf)
      have hin := (rdW_in' h8 (R := Pr ps) _ _).2 hi
      have h1 : cnt8 (dnK n ps k) < cnt8 (dnK n ps (k + 1)) := cnt8_mono_lt (dnK_up 1 k) (fun e => by
        have : inW (dnK n ps (k + 1)) i := (or_in _ _ _).2 (.inr hin)
        rw [← e] at this
        unfold inW at this
        rw [hi.2.1] at this; cases this) (dnK_lt _ _ _)
      omega
theorem full_of_no {n : Nat} {ps : List (Int × Int)} (hI : Inn n ps) (h8 : n ≤ 8) (hno : NoCirc (Pr ps)) : dnK n ps n = fullW n :=
  sub_eq (dnK_sub h8 n) (full_lt h8) (by rw [full_cnt h8]; exact dnK_cnt hI h8 hno n (Nat.le_refl _))
theorem dag_of_full {n : Nat} {ps : List (Int × Int)} (hI : Inn n ps) (h8 : n ≤ 8) (hf : dnK n ps n = fullW n) : ∃ rk, Dag n (Pr ps) rk := by
  have hex : ∀ i, i < n → ∃ k, inW (dnK n ps (k + 1)) i := fun i hi => ⟨n - 1, by rw [show n - 1 + 1 = n by omega, hf]; exact (full_in n i).2 hi⟩
  refine ⟨fun i => leastOf fun k => inW (dnK n ps (k + 1)) i, h8, fun j i hR => ?_, fun i hi => ?_⟩
  · obtain ⟨hj, hi⟩ := hI.lt hR
    refine ⟨hj, hi, ?_⟩
    obtain ⟨i1, i2⟩ := leastOf_spec (hex i hi)
    obtain ⟨j1, j2⟩ := leastOf_spec (hex j hj)
    show leastOf (fun k => inW (dnK n ps (k + 1)) j) < leastOf (fun k => inW (dnK n ps (k + 1)) i)
    generalize leastOf (fun k => inW (dnK n ps (k + 1)) i) = a at *
    generalize leastOf (fun k => inW (dnK n ps (k + 1)) j) = b at *
    rcases (or_in _ _ _).1 i1 with h | h
    · cases a with
      | zero => unfold inW at h; rw [show dnK n ps 0 = 0 from rfl, Nat.zero_testBit] at h; cases h
      | succ a => have := i2 a h; omega
    · have hp := ((rdW_in' h8 _ _).1 h).2.2 j hR
      cases a with
      | zero => unfold inW at hp; rw [show dnK n ps 0 = 0 from rfl, Nat.zero_testBit] at hp; cases hp
      | succ a => have := j2 a hp; omega
  · obtain ⟨i1, i2⟩ := leastOf_spec (hex i hi)
    have := i2 (n - 1) (by rw [show n - 1 + 1 = n by omega, hf]; exact (full_in n i).2 hi)
    show leastOf (fun k => inW (dnK n ps (k + 1)) i) < n
    omega
open Classical in
/-- What is wrong. -/
noncomputable def plErr (n : Int) (ps : List (Int × Int)) : Int :=
  if n < 1 ∨ 8 < n ∨ 28 < ps.length then 1 else if ¬ ∀ p ∈ ps, inP n p then 2 else if ¬ NoCirc (Pr ps) then 3 else 0
theorem plErr_1 {n : Int} {ps : List (Int × Int)} (h : n < 1 ∨ 8 < n ∨ 28 < ps.length) : plErr n ps = 1 := by unfold plErr; rw [if_pos h]
theorem plErr_2 {n : Int} {ps : List (Int × Int)} (h : ¬ (n < 1 ∨ 8 < n ∨ 28 < ps.length)) {p : Int × Int} (hp : p ∈ ps) (hn : ¬ inP n p) : plErr n ps = 2 := by
  unfold plErr; rw [if_neg h, if_pos fun ha => hn (ha p hp)]
theorem plErr_3 {n : Int} {ps : List (Int × Int)} (h : ¬ (n < 1 ∨ 8 < n ∨ 28 < ps.length)) (hI : ∀ p ∈ ps, inP n p) (hn : ¬ NoCirc (Pr ps)) : plErr n ps = 3 := by
  unfold plErr; rw [if_neg h, if_neg (fun h => h hI), if_pos hn]
theorem plErr_0 {n : Int} {ps : List (Int × Int)} (h : ¬ (n < 1 ∨ 8 < n ∨ 28 < ps.length)) (hI : ∀ p ∈ ps, inP n p) (hn : NoCirc (Pr ps)) : plErr n ps = 0 := by
  unfold plErr; rw [if_neg h, if_neg (fun h => h hI), if_neg (fun h => h hn)]
/-- All is right. -/
structure PlOk (n : Nat) (ps : List (Int × Int)) : Prop where
  n1 : 1 ≤ n
  n8 : n ≤ 8
  l28 : ps.length ≤ 28
  inn : Inn n ps
  no : NoCirc (Pr ps)
theorem plOk_of {n : Int} {ps : List (Int × Int)} (h : plErr n ps = 0) : ∃ m : Nat, n = m ∧ PlOk m ps := by
  unfold plErr at h
  split at h
  · cases h
  · split at h
    · cases h
    · split at h
      · cases h
      · rename_i h1 h2 h3
        obtain ⟨m, rfl⟩ := Int.eq_ofNat_of_zero_le (show 0 ≤ n by omega)
        exact ⟨m, rfl, by omega, by omega, by omega, Classical.not_not.1 h2, Classical.not_not.1 h3⟩
theorem PlOk.dag {n : Nat} {ps : List (Int × Int)} (h : PlOk n ps) : ∃ rk, Dag n (Pr ps) rk := dag_of_full h.inn h.n8 (full_of_no h.inn h.n8 h.no)
theorem plTail {α : Type} {l : List α} {k : Nat} (hk : k < l.length) {p : α → Prop} (h : ∀ x ∈ l.take k, p x) (h' : p l[k]) : ∀ x ∈ l.take (k + 1), p x := by
  rw [List.take_succ_eq_append_getElem hk]
  intro x hx
  rcases List.mem_append.1 hx with h1 | h1
  · exact h x h1
  · simp at h1; subst h1; exact h'

def AhEnd (n : Int) (ps : List (Int × Int)) (w : World) (e : Ending) (w' : World) : Prop :=
  ∃ v, e = .returned (.tuple #[v, .int .i64 (plErr n ps)]) ∧ Below w.heap.size w w' ∧ ((plErr n ps ≠ 0 ∧ v = .slice none 0 0) ∨ (∃ m : Nat, n = m ∧ PlOk m ps ∧ OwnU w' w.heap.size 50 v (preL m ps)))
theorem AhEnd.bad {n : Int} {ps : List (Int × Int)} {w w' : World} {E : Int} (h : plErr n ps = E) (h0 : E ≠ 0) (hW : Below w.heap.size w w') : AhEnd n ps w (.returned (.tuple #[.slice none 0 0, .int .i64 E])) w' :=
  ⟨_, by rw [h], hW, .inl ⟨by rw [h]; exact h0, rfl⟩⟩
theorem AhEnd.ok {m : Nat} {ps : List (Int × Int)} {w w' : World} {v : Value} (h : PlOk m ps) (he : plErr m ps = 0) (ho : OwnU w' w.heap.size 50 v (preL m ps)) (hW : Below w.heap.size w w') : AhEnd m ps w (.returned (.tuple #[v, .int .i64 0])) w' :=
  ⟨_, by rw [he], hW, .inr ⟨m, rfl, h, ho⟩⟩

set_option maxRecDepth 100000 in
set_option maxHeartbeats 8000000 in
theorem ahead_calls (n : Int) (A : Option Addr) (ps : List (Int × Int)) (cap : Nat) (w : World) (hA : RdP w A ps) (hm : ps.length ≤ maxLen) :
    Calls Try.prog 39 #[.int .i64 n, .slice A ps.length cap] w (AhEnd n ps w) := by
  unfold maxLen at hm
  have HA := Lib.hid hA; clear hA
  by_cases hn : n < 1 ∨ 8 < n ∨ 28 < ps.length
  · have He := Lib.hid (plErr_1 hn)
    have hd : n < 1 ∨ (1 ≤ n ∧ 8 < n) ∨ (1 ≤ n ∧ n ≤ 8 ∧ decide ((28 : Int) < (ps.length : Int)) = true) := by
      simp only [decide_eq_true_eq]; omega
    clear hn
    rcases hd with h1 | ⟨h1, h2⟩ | ⟨h1, h2, h3⟩
    all_goals
      go_enter Try.func39, Try.ntmps39
      go_wp2
      all_goals first | (exfalso; simp only [decide_eq_true_eq] at *; omega) | (go_ret2; exact AhEnd.bad He.out (by decide) (Below.refl _ _))
  obtain ⟨m, rfl⟩ := Int.eq_ofNat_of_zero_le (show 0 ≤ n by omega)
  have h1 : 1 ≤ m := by omega
  have h8 : m ≤ 8 := by omega
  have q1 : decide ((m : Int) < 1) = false := decide_eq_false (by omega)
  have q2 : decide (8 < m) = false := decide_eq_false (by omega)
  have q3 : decide (28 < ps.length) = false := decide_eq_false (by omega)
  have h28 : ps.length ≤ 28 := by omega
  have HN := Lib.hid hn
  clear hn hm
  go_enter Try.func39, Try.ntmps39
  go_wp2_with (at_make; refine wpList_makeU rfl _ _ rfl w.heap.size m rfl rfl (by omega) (Nat.le_refl _) ?_; intro w1 hown1 hgrow1)
  have HW1 := Lib.hid ((Below.refl w.heap.size w).grown hgrow1 (Nat.le_refl _) (fun k hk => by cases hk))
  rw [← preL_nil] at hown1
  have Hown1 := Lib.hid hown1
  clear q1 q2 q3 hown1 hgrow1
  go_loopw [25] (fun i wr => ∃ k : Nat, k ≤ ps.length ∧ i = .int .i64 k ∧ Hid (∀ p ∈ ps.take k, inP m p) ∧ OwnU wr w.heap.size 50 (.slice (some ⟨w.heap.size, 0, none⟩) m m) (preL m (ps.take k)) ∧ Below w.heap.size w wr) (fun i _ => ps.length - (intOf i).toNat)
  case atStart => exact ⟨0, Nat.zero_le _, rfl, fun p hp => by simp at hp, Hown1.out, HW1.out⟩
  case round =>
    obtain ⟨k, hk, rfl, hP, hown, hW⟩ := hrel
    have hw2 := hW.size
    have HW := Lib.hid hW
    have Hown := Lib.hid hown
    by_cases hlt : k < ps.length
    · obtain ⟨b, off, rfl, hb, c0, c1⟩ := RdP.at2 (Rd.below HA.out hW) hlt
      have Hst := Lib.hid (fun h => plTail (p := inP m) hlt hP.out h)
      have Hmem := Lib.hid (List.getElem_mem hlt)
      have Htk := Lib.hid (List.take_succ_eq_append_getElem hlt)
      have hlt : ((k : Nat) : Int) < ((ps.length : Nat) : Int) := by omega
      clear hP hW
      generalize ps[k] = p at *
      obtain ⟨x, y⟩ := p
      dsimp only at c0 c1
      by_cases hin : inP m (x, y)
      · have hin' := hin
        unfold inP at hin'
        dsimp only at hin'
        have Hin := Lib.hid hin
        clear hin
        obtain ⟨a1, a2, a3, a4⟩ := hin'
        obtain ⟨a, rfl⟩ := Int.eq_ofNat_of_zero_le a1
        obtain ⟨b', rfl⟩ := Int.eq_ofNat_of_zero_le a3
        have am : a < m := by omega
        have bm : b' < m := by omega
        have a32 : a < 32 := by omega
        have b32 : b' < 32 := by omega
        obtain ⟨g, eg, _, hg, _, hfz, hcell⟩ := OwnU.at2 hown (by rw [preL_len]; omega)
        injection eg with eg; injection eg with eg
        subst eg
        have c3 := hcell b' (by rw [preL_len]; omega)
        rw [preL_get] at c3
        have f2 := hfz b'
        have hSb := preS_lt (ps.take k) b'
        have pa : 2 ^ a < 2 ^ 8 := Nat.pow_lt_pow_right (by decide) (by omega)
        have r1 := pow_u32 a a32
        have r4 := or_u32 (preS (ps.take k) b') (2 ^ a) (by omega) (by omega)
        rw [Int.natCast_pow, show ((2 : Nat) : Int) = 2 from rfl] at r1 r4
        have Hpush := Lib.hid (preL_push (n := m) (ps := ps.take k) (a := a) (b := b') am h8)
        clear hown hfz hcell pa
        rcases (show (b' : Int) < (a : Int) ∨ (a : Int) ≤ (b' : Int) by omega) with hab | hab
        all_goals
          go_wp2
          all_goals (try (exfalso; omega; done))
          all_goals
            obtain ⟨w2, hw2e⟩ : ∃ w2, w2 = wr.alloc (.cells #[.int .i64 a, .int .i64 b'] 39) := ⟨_, rfl⟩
            rw [← hw2e]
            have e0 : w2.cell? ⟨wr.heap.size, 0, none⟩ = some (.int .i64 a) := by rw [hw2e]; exact cell_new _ _ _ _ rfl 0
            have e1 : w2.cell? ⟨wr.heap.size, 1, none⟩ = some (.int .i64 b') := by rw [hw2e]; exact cell_new _ _ _ _ rfl 1
            have hB2 : Below wr.heap.size wr w2 := by rw [hw2e]; exact (Below.refl _ _).alloc (Nat.le_refl _) _
            have c3' := (hB2.cell (p := ⟨w.heap.size, b', none⟩) hg).trans c3
            have f2' := (hB2.frozen (p := ⟨w.heap.size, b', none⟩) hg).trans f2
            have Hz2 := Lib.hid (show w2.heap.size = wr.heap.size + 1 by rw [hw2e]; simp)
            have hown2 := Own.below Hown.out hB2
            have hown3 := OwnU.set_ hown2 (k := b') (by rw [preL_len]; omega) (preS (ps.take k) b' ||| 2 ^ a)
            rw [Hpush.out, ← Htk.out] at hown3
            have Hown3 := Lib.hid hown3
            have HB3 := Lib.hid ((HW.out.trans (hB2.mono hw2)).setCell (p := ⟨w.heap.size, b', none⟩) (Nat.le_refl _) (.int .u32 (preS (ps.take k) b' ||| 2 ^ a : Nat)))
            clear hw2e hB2 c3 f2 c0 c1 hown2 hown3
            go_still_tail 10, (by kernel_rfl)
            go_wp2
            refine ⟨⟨k + 1, by omega, by go_num, Hst.out Hin.out, Hown3.out.drewN 1, HB3.out.drew⟩, by simp [intOf]; omega⟩
      · have Hin := Lib.hid hin
        have hd : ¬ (0 ≤ x ∧ x < m ∧ 0 ≤ y ∧ y < m) := hin
        clear hin
        have Hf := Lib.hid (plErr_2 HN.out Hmem.out Hin.out)
        clear hown
        rcases Int.lt_trichotomy x y with hab | rfl | hab
        all_goals
          go_wp2
          all_goals first
            | (exfalso; omega)
            | (go_ret2
               exact AhEnd.bad Hf.out (by decide) (HW.out.alloc hw2 _))
    · have : k = ps.length := by omega
      subst this
      have Hall := Lib.hid (show Inn m ps by have := hP.out; rwa [List.take_length] at this)
      rw [List.take_length] at hown
      have Hown := Lib.hid hown
      have HRd := Lib.hid (show RdU wr (some ⟨w.heap.size, 0, none⟩) (preL m ps) by
        obtain ⟨A9, c9, e9, h9⟩ := OwnU.rd hown
        rw [preL_len] at e9
        injection e9 with e9; rw [e9]; exact h9)
      obtain ⟨wo, rfl⟩ : ∃ wo : World, wo = wr := ⟨_, rfl⟩
      clear hP hown hlt hk hW
      go_wp2
      go_loop [9, 56] (fun d i => ∃ k : Nat, k ≤ m ∧ i = .int .i64 k ∧ d = .int .u32 (dnK m ps k : Nat)) (fun _ i => m - (intOf i).toNat)
      case atStart => exact ⟨0, Nat.zero_le _, rfl, rfl⟩
      case round =>
        obtain ⟨k, hk, rfl, rfl⟩ := hrel
        by_cases hlt : k < m
        · have d1 := dnK_lt m ps k
          have d2 := rdW_lt (n := m) (R := Pr ps) (dnK m ps k)
          have r5 := or_u32 (dnK m ps k) (rdW m (Pr ps) (dnK m ps k)) (by omega) (by omega)
          have Hs : Hid (dnK m ps k ||| rdW m (Pr ps) (dnK m ps k) = dnK m ps (k + 1)) := Lib.hid rfl
          have Hr := Lib.hid (ready_calls m (some ⟨w.heap.size, 0, none⟩) ps m (dnK m ps k) wo HRd.out Hall.out h8 (by omega))
          generalize rdW m (Pr ps) (dnK m ps k) = x at *
          generalize dnK m ps k = d at *
          go_wp2_with (go_at_call 40; refine Hr.out.mono ?_; rintro e w' ⟨rfl, rfl⟩)
          go_round
          case rel => exact ⟨k + 1, by omega, by go_num, by rw [Hs.out]⟩
          case measure => simp [intOf]; omega
        · have : k = m := by omega
          subst this
          have p1 := pow_u32 k (by omega)
          have pk : 2 ^ k ≤ 2 ^ 8 := Nat.pow_le_pow_right (by decide) (by omega)
          have pk1 : 1 ≤ 2 ^ k := Nat.one_le_two_pow
          have hfu : fullW k = 2 ^ k - 1 := rfl
          have Hfull := Lib.hid (fun hno => full_of_no Hall.out h8 hno)
          have Hdag := Lib.hid (fun hf => (dag_of_full Hall.out h8 hf))
          have d1 := dnK_lt k ps k
          have k32 : k < 32 := by omega
          generalize hd : dnK k ps k = d at *
          obtain ⟨P, hP⟩ : ∃ P, P = 2 ^ k := ⟨_, rfl⟩
          rw [← hP] at p1 pk pk1 hfu
          have hP' : (2 : Int) ^ k = (P : Int) := by rw [hP, Int.natCast_pow]; rfl
          have p2 : (P : Int) - 1 = ((fullW k : Nat) : Int) := by rw [hfu]; omega
          have hfl : fullW k < 256 := by rw [hfu]; omega
          by_cases hf : d = fullW k
          · have Hno := Lib.hid (show NoCirc (Pr ps) by obtain ⟨rk, hr⟩ := Hdag.out hf; exact hr.no)
            have Hok : Hid (PlOk k ps) := ⟨h1, h8, h28, Hall.out, Hno.out⟩
            have H0 := Lib.hid (plErr_0 HN.out Hall.out Hno.out)
            have q : (((d : Nat) : Int) != ((fullW k : Nat) : Int)) = false := by rw [bne_eq_false_iff_eq, hf]
            rw [hP'] at p1
            clear hf hP hd hfu hlt hk
            go_wp2
            all_goals (try (exfalso; omega))
            go_ret2
            exact AhEnd.ok Hok.out H0.out Hown.out HW.out
          · have Hno := Lib.hid (show ¬ NoCirc (Pr ps) from fun h => hf (Hfull.out h))
            have H3 := Lib.hid (plErr_3 HN.out Hall.out Hno.out)
            have q : (((d : Nat) : Int) != ((fullW k : Nat) : Int)) = true := by rw [bne_iff_ne]; omega
            rw [hP'] at p1
            clear hf hP hd hfu hlt hk
            go_wp2
            all_goals (try (exfalso; omega))
            go_ret2
            exact AhEnd.bad H3.out (by decide) HW.out
end Go.Proofs.Ytdkkmmljaijomaa
