/- hang.comes: from which nodes one can come to an end. -/
import Derived.Test.YtljmignfbagomaaRuleB
import Derived.StillTailTactics
namespace Go.Proofs.Ytljmignfbagomaa
open Go.RowKit

set_option maxHeartbeats 400000 in
theorem inSet_calls (N S : Nat) (x : Nat) (w : World) (hc : w.cell? ⟨N, 0, none⟩ = some (.int .u32 (S : Nat))) (hS : S < 256) (hx : x < 32) :
    Calls Try.prog 71 #[.int .i64 (x : Nat), .pointer (some ⟨N, 0, none⟩)] w fun e w' => e = .returned (.bool (S.testBit x)) ∧ w' = w := by
  have p1 := test1_u32 S x (by omega)
  go_enter Try.func71, Try.ntmps71
  go_wp2
  go_ret
  exact ⟨rfl, rfl⟩
def SetEnd (S : Nat) (l : List Int) (w : World) (e : Ending) (w' : World) : Prop :=
  w' = w ∧ ∃ m : Int, e = .returned (.int .i64 m) ∧ ((m = -1 ∧ ∀ x ∈ l, S.testBit x.toNat = false) ∨ (0 ≤ m ∧ ∃ x ∈ l, S.testBit x.toNat = true))
set_option maxHeartbeats 400000 in
theorem setIndex_calls (N S : Nat) (A : Option Addr) (l : List Int) (cap : Nat) (w : World) (hc : w.cell? ⟨N, 0, none⟩ = some (.int .u32 (S : Nat))) (hS : S < 256) (hl : ∀ x ∈ l, 0 ≤ x ∧ x < 8) (hA : RdI w A l) (hm : l.length ≤ 1000) :
    Calls Try.prog 70 #[.slice A l.length cap, .func (.func 71) #[] #[.pointer (some ⟨N, 0, none⟩)]] w (SetEnd S l w) := by
  have HA := Lib.hid hA; clear hA
  have Hc := Lib.hid hc; clear hc
  have Hl := Lib.hid hl; clear hl
  go_enter Try.func70, Try.ntmps70
  go_wp2
  go_loop [8] (fun i => ∃ k : Nat, k ≤ l.length ∧ i = .int .i64 k ∧ Hid (∀ x ∈ l.take k, S.testBit x.toNat = false)) (fun i => l.length - (intOf i).toNat)
  case atStart => exact ⟨0, Nat.zero_le _, rfl, fun x hx => by simp at hx⟩
  case round =>
    obtain ⟨k, hk, rfl, hP⟩ := hrel
    by_cases hlt : k < l.length
    · obtain ⟨b, off, rfl, hb, c0⟩ := RdI.at1 HA.out hlt
      have hmem := List.getElem_mem hlt
      obtain ⟨x0, x1⟩ := Hl.out _ hmem
      have Hmem := Lib.hid hmem
      have Hst := Lib.hid (take_all_succ (p := fun x => S.testBit x.toNat = false) hlt hP.out)
      clear hmem hP
      generalize l[k] = x at *
      obtain ⟨j, rfl⟩ := Int.eq_ofNat_of_zero_le x0
      have hj : j < 32 := by omega
      rw [Int.toNat_natCast] at Hst
      clear x0 x1
      have Hcl := Lib.hid (fun w hc => inSet_calls N S j w hc hS hj)
      cases hx : S.testBit j
      · have Hx := Lib.hid hx
        rw [hx] at Hcl
        clear hx
        go_wp2_with (go_at_call 71; refine (Hcl.out _ Hc.out).mono ?_; rintro e w' ⟨rfl, rfl⟩)
        go_round
        case rel => exact ⟨k + 1, by omega, by go_num, Hst.out Hx.out⟩
        case measure => simp [intOf]; omega
      · have Hx := Lib.hid hx
        rw [hx] at Hcl
        clear hx
        go_wp2_with (go_at_call 71; refine (Hcl.out _ Hc.out).mono ?_; rintro e w' ⟨rfl, rfl⟩)
        go_ret
        exact ⟨rfl, k, rfl, .inr ⟨by omega, (j : Int), Hmem.out, by rw [Int.toNat_natCast]; exact Hx.out⟩⟩
    · go_wp2
      go_ret
      have : k = l.length := by omega
      subst this
      have := hP.out
      rw [List.take_length] at this
      exact ⟨rfl, -1, rfl, .inl ⟨rfl, this⟩⟩
def anyIn (S : Nat) (l : List Int) : Bool := l.any fun x => S.testBit x.toNat
set_option maxHeartbeats 400000 in
theorem setContains_calls (N S : Nat) (A : Option Addr) (l : List Int) (cap : Nat) (w : World) (hc : w.cell? ⟨N, 0, none⟩ = some (.int .u32 (S : Nat))) (hS : S < 256) (hl : ∀ x ∈ l, 0 ≤ x ∧ x < 8) (hA : RdI w A l) (hm : l.length ≤ 1000) :
    Calls Try.prog 60 #[.slice A l.length cap, .func (.func 71) #[] #[.pointer (some ⟨N, 0, none⟩)]] w fun e w' => e = .returned (.bool (anyIn S l)) ∧ w' = w := by
  have HA := Lib.hid hA; clear hA
  have hall : (∀ x ∈ l, S.testBit x.toNat = false) → anyIn S l = false := fun h => by
    unfold anyIn
    rw [List.any_eq_false]
    intro x hx
    rw [h x hx]; simp
  have hany : (∃ x ∈ l, S.testBit x.toNat = true) → anyIn S l = true := fun ⟨x, hx, h⟩ => by
    unfold anyIn
    rw [List.any_eq_true]
    exact ⟨x, hx, h⟩
  have Hall := Lib.hid hall
  have Hany := Lib.hid hany
  clear hall hany
  go_enter Try.func60, Try.ntmps60
  go_wp2_with fail
  refine (setIndex_calls N S A l cap w hc hS hl HA.out hm).mono ?_
  rintro e w' ⟨rfl, m, rfl, h⟩
  rcases h with ⟨rfl, h⟩ | ⟨h0, h⟩
  · have Ha := Lib.hid (Hall.out h)
    clear h hm hl
    go_wp2
    go_ret
    exact ⟨ret_bool (by rw [Ha.out]), rfl⟩
  · have Ha := Lib.hid (Hany.out h)
    clear h hm hl
    go_wp2
    go_ret
    exact ⟨ret_bool (by rw [Ha.out]), rfl⟩

/-- From i one can come to an end without wo. -/
inductive Ends (ls : List (List Int)) (wo : Int) : Nat → Prop
  | stop {i : Nat} : ls[i]? = some [] → (i : Int) ≠ wo → Ends ls wo i
  | go {i j : Nat} {l : List Int} : ls[i]? = some l → (i : Int) ≠ wo → (j : Int) ∈ l → Ends ls wo j → Ends ls wo i
theorem Ends.lt {ls : List (List Int)} {wo : Int} {i : Nat} (h : Ends ls wo i) : i < ls.length := by
  cases h with
  | stop h _ => exact (List.getElem?_eq_some_iff.1 h).1
  | go h _ _ _ => exact (List.getElem?_eq_some_iff.1 h).1
noncomputable def endS (ls : List (List Int)) (wo : Int) : Nat := setN (Ends ls wo)
theorem endS_bit {ls : List (List Int)} (h8 : ls.length ≤ 8) (wo : Int) (i : Nat) : (endS ls wo).testBit i = true ↔ Ends ls wo i := by
  unfold endS
  rw [setN_bit]
  exact ⟨fun h => h.2, fun h => ⟨by have := h.lt; omega, h⟩⟩
theorem endS_lt (ls : List (List Int)) (wo : Int) : endS ls wo < 256 := setN_lt _
def mayEnd (l : List Int) (s : Nat) : Bool := l.length == 0 || anyIn s l
def EFix (ls : List (List Int)) (wo : Int) (s : Nat) : Prop := ∀ (i : Nat) (l : List Int), ls[i]? = some l → (i : Int) ≠ wo → mayEnd l s = true → s.testBit i = true
theorem mayEnd_iff {l : List Int} {s : Nat} (hl : ∀ x ∈ l, 0 ≤ x) : mayEnd l s = true ↔ l = [] ∨ ∃ j : Nat, (j : Int) ∈ l ∧ s.testBit j = true := by
  unfold mayEnd anyIn
  rw [Bool.or_eq_true, beq_iff_eq, List.length_eq_zero_iff, List.any_eq_true]
  constructor
  · rintro (h | ⟨x, hx, hb⟩)
    · exact Or.inl h
    · obtain ⟨j, rfl⟩ := Int.eq_ofNat_of_zero_le (hl x hx)
      exact Or.inr ⟨j, hx, by simpa using hb⟩
  · rintro (h | ⟨j, hj, hb⟩)
    · exact Or.inl h
    · exact Or.inr ⟨(j : Int), hj, by simpa using hb⟩
/-- Before pass p. -/
structure Eo (ls : List (List Int)) (wo : Int) (p s : Nat) : Prop where
  sound : ∀ i, s.testBit i = true → Ends ls wo i
  far : EFix ls wo s ∨ p ≤ cnt8 s
/-- Within a pass from the set was. -/
structure Ei (ls : List (List Int)) (wo : Int) (was s k : Nat) : Prop where
  sound : ∀ i, s.testBit i = true → Ends ls wo i
  sup : ∀ i, was.testBit i = true → s.testBit i = true
  done : ∀ i l, i < k → ls[i]? = some l → (i : Int) ≠ wo → mayEnd l was = true → s.testBit i = true
theorem Eo.first (ls : List (List Int)) (wo : Int) : Eo ls wo 0 0 := ⟨(fun i h => by rw [Nat.zero_testBit] at h; cases h), Or.inr (Nat.zero_le _)⟩
theorem Eo.start {ls : List (List Int)} {wo : Int} {p s : Nat} (h : Eo ls wo p s) : Ei ls wo s s 0 := ⟨h.sound, fun _ h => h, fun i l h => by omega⟩
theorem anyIn_mono {s t : Nat} {l : List Int} (h : ∀ i, s.testBit i = true → t.testBit i = true) (ha : anyIn s l = true) : anyIn t l = true := by
  unfold anyIn at *
  rw [List.any_eq_true] at *
  obtain ⟨x, hx, hb⟩ := ha
  exact ⟨x, hx, h _ hb⟩
theorem mayEnd_mono {s t : Nat} {l : List Int} (h : ∀ i, s.testBit i = true → t.testBit i = true) (ha : mayEnd l s = true) : mayEnd l t = true := by
  unfold mayEnd at *
  rw [Bool.or_eq_true] at *
  exact ha.imp id (anyIn_mono h)
theorem Ei.skip {ls : List (List Int)} {wo : Int} {was s k : Nat} {l : List Int} (h : Ei ls wo was s k) (hl : ls[k]? = some l) (hn : (k : Int) = wo ∨ mayEnd l s = false) : Ei ls wo was s (k + 1) :=
  ⟨h.sound, h.sup, fun i l' hi hl' hne hm => by
    rcases Nat.lt_or_ge i k with h1 | h1
    · exact h.done i l' h1 hl' hne hm
    · have : i = k := by omega
      subst this
      rw [hl] at hl'
      injection hl' with hl'
      subst hl'
      rcases hn with hn | hn
      · exact absurd hn hne
      · rw [mayEnd_mono h.sup hm] at hn; cases hn⟩
theorem Ei.push {ls : List (List Int)} {wo : Int} {was s k : Nat} {l : List Int} (h : Ei ls wo was s k) (hl : ls[k]? = some l) (h0 : ∀ x ∈ l, 0 ≤ x) (hne : (k : Int) ≠ wo) (hm : mayEnd l s = true) : Ei ls wo was (s ||| 2 ^ k) (k + 1) :=
  ⟨fun i hi => by
    rw [set_bit, Bool.or_eq_true, decide_eq_true_eq] at hi
    rcases hi with hi | rfl
    · exact h.sound i hi
    · rcases (mayEnd_iff h0).1 hm with rfl | ⟨j, hj, hb⟩
      · exact .stop hl hne
      · exact .go hl hne hj (h.sound j hb), fun i hi => by rw [set_bit, h.sup i hi]; rfl, fun i l' hi hl' hne' hm' => by
    rw [set_bit, Bool.or_eq_true, decide_eq_true_eq]
    rcases Nat.lt_or_ge i k with h1 | h1
    · exact Or.inl (h.done i l' h1 hl' hne' hm')
    · exact Or.inr (by omega)⟩
theorem EFix.all {ls : List (List Int)} {wo : Int} {s : Nat} (hf : EFix ls wo s) (h0 : ∀ l ∈ ls, ∀ x ∈ l, 0 ≤ x) : ∀ i, Ends ls wo i → s.testBit i = true := fun i h => by
  induction h with
  | stop h1 h2 => exact hf _ _ h1 h2 ((mayEnd_iff (h0 _ (List.mem_of_getElem? h1))).2 (Or.inl rfl))
  | go h1 h2 h3 _ ih => exact hf _ _ h1 h2 ((mayEnd_iff (h0 _ (List.mem_of_getElem? h1))).2 (Or.inr ⟨_, h3, ih⟩))
theorem Ei.next {ls : List (List Int)} {wo : Int} {p was s : Nat} (h0 : ∀ l ∈ ls, ∀ x ∈ l, 0 ≤ x) (h8 : ls.length ≤ 8) (ho : Eo ls wo p was) (h : Ei ls wo was s ls.length) : Eo ls wo (p + 1) s := by
  refine ⟨h.sound, ?_⟩
  by_cases e : was = s
  · subst e
    exact Or.inl fun i l hl hne hm => h.done i l (List.getElem?_eq_some_iff.1 hl).1 hl hne hm
  · have hs : s < 256 := lt_pow_of_bits (n := 8) fun k hk => by have := (h.sound k hk).lt; omega
    rcases ho.far with hf | hp
    · refine absurd (set_ext fun i => ?_) e
      rw [Bool.eq_iff_iff]
      exact ⟨h.sup i, fun hb => hf.all h0 i (h.sound i hb)⟩
    · have := cnt8_mono_lt h.sup e hs
      exact Or.inr (by omega)
theorem cnt8_full : ∀ n, n ≤ 8 → cnt8 (2 ^ n - 1) = n := by decide
theorem Eo.finish {ls : List (List Int)} {wo : Int} {s : Nat} (h0 : ∀ l ∈ ls, ∀ x ∈ l, 0 ≤ x) (h8 : ls.length ≤ 8) (h : Eo ls wo ls.length s) : s = endS ls wo := set_ext fun i => by
  rw [Bool.eq_iff_iff, endS_bit h8]
  refine ⟨h.sound i, fun he => ?_⟩
  rcases h.far with hf | hp
  · exact hf.all h0 i he
  · have hfull : s = 2 ^ ls.length - 1 := by
      apply Classical.byContradiction
      intro hne
      have hb : ∀ k, s.testBit k = true → (2 ^ ls.length - 1).testBit k = true := fun k hk => by
        rw [Nat.testBit_two_pow_sub_one]
        exact decide_eq_true (h.sound k hk).lt
      have hlt : 2 ^ ls.length - 1 < 256 := by
        have : 2 ^ ls.length ≤ 2 ^ 8 := Nat.pow_le_pow_right (by decide) h8
        omega
      have := cnt8_mono_lt hb hne hlt
      rw [cnt8_full _ h8] at this
      omega
    rw [hfull, Nat.testBit_two_pow_sub_one]
    exact decide_eq_true he.lt
theorem Eo.fits {ls : List (List Int)} {wo : Int} {p s : Nat} (h8 : ls.length ≤ 8) (h : Eo ls wo p s) : s < 256 := lt_pow_of_bits (n := 8) fun k hk => by have := (h.sound k hk).lt; omega
theorem Ei.fits {ls : List (List Int)} {wo : Int} {was s k : Nat} (h8 : ls.length ≤ 8) (h : Ei ls wo was s k) : s < 256 := lt_pow_of_bits (n := 8) fun k hk => by have := (h.sound k hk).lt; omega
end Go.Proofs.Ytljmignfbagomaa
