/- way.From: the nodes to which one comes. -/
import Derived.Test.YtljmignfbagomaaWayA
import Derived.Test.YtljmignfbagomaaQueue
import Derived.Test.YtljmignfbagomaaBits
import Derived.Deep.LoopGhost
namespace Go.Proofs.Ytljmignfbagomaa
open Go.RowKit

/-- One goes from a to b, which is not wo. -/
def Edge (ls : List (List Int)) (wo : Int) (a b : Nat) : Prop := ∃ l, ls[a]? = some l ∧ (b : Int) ∈ l ∧ (b : Int) ≠ wo
def WalkN (ls : List (List Int)) (wo : Int) : Nat → Nat → Nat → Prop
  | 0, a, b => a = b
  | n + 1, a, b => ∃ c, WalkN ls wo n a c ∧ Edge ls wo c b
def Comes_ (ls : List (List Int)) (wo : Int) (a b : Nat) : Prop := ∃ n, WalkN ls wo n a b
theorem Comes_.refl (ls : List (List Int)) (wo : Int) (a : Nat) : Comes_ ls wo a a := ⟨0, rfl⟩
theorem Comes_.step {ls : List (List Int)} {wo : Int} {a b c : Nat} (h : Comes_ ls wo a b) (e : Edge ls wo b c) : Comes_ ls wo a c := let ⟨n, h⟩ := h; ⟨n + 1, b, h, e⟩
theorem Comes_.closed {ls : List (List Int)} {wo : Int} {a : Nat} {p : Nat → Prop} (h0 : p a) (hs : ∀ b c, p b → Edge ls wo b c → p c) : ∀ b, Comes_ ls wo a b → p b := by
  rintro b ⟨n, h⟩
  induction n generalizing b with
  | zero => have h : a = b := h
            subst h; exact h0
  | succ n ih => obtain ⟨c, hc, he⟩ := h; exact hs c b (ih c hc) he
theorem Comes_.trans {ls : List (List Int)} {wo : Int} {a b c : Nat} (h : Comes_ ls wo a b) (k : Comes_ ls wo b c) : Comes_ ls wo a c :=
  Comes_.closed (p := fun x => Comes_ ls wo a x) h (fun _ _ hb he => hb.step he) c k
def Valid (ls : List (List Int)) : Prop := ∀ l ∈ ls, l.length ≤ 3 ∧ ∀ x ∈ l, 0 ≤ x ∧ x < ls.length
theorem Edge.lt {ls : List (List Int)} {wo : Int} {a b : Nat} (hv : Valid ls) (h : Edge ls wo a b) : a < ls.length ∧ b < ls.length := by
  obtain ⟨l, h1, h2, _⟩ := h
  refine ⟨(List.getElem?_eq_some_iff.1 h1).1, ?_⟩
  have := (hv l (List.mem_of_getElem? h1)).2 b h2
  omega

/-- The set s has just the nodes to which one comes from a. -/
def IsFrom (ls : List (List Int)) (wo : Int) (a : Nat) (s : Nat) : Prop := ∀ b, s.testBit b = true ↔ ((a : Int) ≠ wo ∧ Comes_ ls wo a b)

/-- What the loop keeps: the set s, the queue q. -/
structure Fr (ls : List (List Int)) (wo : Int) (a : Nat) (s : Nat) (q : List Int) : Prop where
  start : s.testBit a = true
  comes : ∀ b, s.testBit b = true → Comes_ ls wo a b
  low : ∀ b, s.testBit b = true → b < ls.length
  queue : ∀ x ∈ q, 0 ≤ x ∧ x < ls.length ∧ s.testBit x.toNat = true
  closed : ∀ b c, s.testBit b = true → (b : Int) ∉ q → Edge ls wo b c → s.testBit c = true
theorem Fr.fits {ls : List (List Int)} {wo : Int} {a s : Nat} {q : List Int} (h : Fr ls wo a s q) (h8 : ls.length ≤ 8) : s < 256 := by
  have := lt_pow_of_bits h.low
  exact Nat.lt_of_lt_of_le this (Nat.pow_le_pow_right (by decide) h8 : 2 ^ ls.length ≤ 2 ^ 8)
theorem Fr.first {ls : List (List Int)} {wo : Int} {a : Nat} (ha : a < ls.length) : Fr ls wo a (2 ^ a) [(a : Int)] := by
  have hb : ∀ b, (2 ^ a).testBit b = true → a = b := fun b h => by rw [testBit_pow] at h; exact of_decide_eq_true h
  refine ⟨by rw [testBit_pow]; simp, fun b h => by rw [← hb b h]; exact Comes_.refl _ _ _, fun b h => by rw [← hb b h]; exact ha, fun x hx => ?_, fun b c h hn _ => ?_⟩
  · simp at hx; subst hx
    exact ⟨by omega, by omega, by rw [Int.toNat_natCast, testBit_pow]; simp⟩
  · rw [← hb b h] at hn; simp at hn
theorem Fr.done {ls : List (List Int)} {wo : Int} {a s : Nat} (h : Fr ls wo a s []) (hne : (a : Int) ≠ wo) : IsFrom ls wo a s := fun b =>
  ⟨fun hb => ⟨hne, h.comes b hb⟩, fun ⟨_, hc⟩ => Comes_.closed (p := fun x => s.testBit x = true) h.start (fun b c hb he => h.closed b c hb (by simp) he) b hc⟩

/-- Within a round: the head q0 is under way, of its next nodes the first t are done. -/
structure Fi (ls : List (List Int)) (wo : Int) (a : Nat) (q0 : Nat) (l : List Int) (t : Nat) (s : Nat) (q : List Int) : Prop where
  fr : Fr ls wo a s q
  done : ∀ i (h : i < l.length), i < t → l[i] ≠ wo → s.testBit l[i].toNat = true
theorem Fi.skip {ls : List (List Int)} {wo : Int} {a q0 t s : Nat} {l q : List Int} (h : Fi ls wo a q0 l t s q) (ht : t < l.length) (hb : l[t] = wo ∨ s.testBit l[t].toNat = true) : Fi ls wo a q0 l (t + 1) s q :=
  ⟨h.fr, fun i hi hlt hne => by
    rcases Nat.lt_or_ge i t with h1 | h1
    · exact h.done i hi h1 hne
    · have : i = t := by omega
      subst this
      rcases hb with hb | hb
      · exact absurd hb hne
      · exact hb⟩
theorem Fi.push {ls : List (List Int)} {wo : Int} {a q0 t s j : Nat} {l q : List Int} (h : Fi ls wo a q0 l t s q) (ht : t < l.length) (hj : l[t] = (j : Int)) (hne : (j : Int) ≠ wo) (hlt : j < ls.length) (hl : ls[q0]? = some l) (hq0 : s.testBit q0 = true) :
    Fi ls wo a q0 l (t + 1) (s ||| 2 ^ j) (q ++ [(j : Int)]) := by
  have mono : ∀ b, s.testBit b = true → (s ||| 2 ^ j).testBit b = true := fun b hb => by rw [set_bit, hb]; rfl
  have hjt : (s ||| 2 ^ j).testBit j = true := by rw [set_bit]; simp
  have cases_ : ∀ b, (s ||| 2 ^ j).testBit b = true → s.testBit b = true ∨ j = b := fun b hb => by
    rw [set_bit, Bool.or_eq_true] at hb
    exact hb.imp id of_decide_eq_true
  have he : Edge ls wo q0 j := ⟨l, hl, by rw [← hj]; exact List.getElem_mem ht, hne⟩
  refine ⟨⟨mono _ h.fr.start, fun b hb => ?_, fun b hb => ?_, fun x hx => ?_, fun b c hb hn hbc => ?_⟩, fun i hi hit hne' => ?_⟩
  · rcases cases_ b hb with h1 | rfl
    · exact h.fr.comes b h1
    · exact (h.fr.comes q0 hq0).step he
  · rcases cases_ b hb with h1 | rfl
    · exact h.fr.low b h1
    · exact hlt
  · rcases List.mem_append.1 hx with h1 | h1
    · have := h.fr.queue x h1
      exact ⟨this.1, this.2.1, mono _ this.2.2⟩
    · simp at h1; subst h1
      exact ⟨by omega, by omega, by rw [Int.toNat_natCast]; exact hjt⟩
  · rcases cases_ b hb with h1 | rfl
    · exact mono c (h.fr.closed b c h1 (fun hm => hn (List.mem_append_left _ hm)) hbc)
    · exact absurd (List.mem_append_right _ (by simp)) hn
  · rcases Nat.lt_or_ge i t with h1 | h1
    · exact mono _ (h.done i hi h1 hne')
    · have : i = t := by omega
      subst this
      rw [hj, Int.toNat_natCast]; exact hjt
theorem Fi.finish {ls : List (List Int)} {wo : Int} {a q0 s : Nat} {l r : List Int} (h : Fi ls wo a q0 l l.length s ((q0 : Int) :: r)) (hl : ls[q0]? = some l) : Fr ls wo a s r := by
  refine ⟨h.fr.start, h.fr.comes, h.fr.low, fun x hx => h.fr.queue x (by simp [hx]), fun b c hb hn hbc => ?_⟩
  by_cases hbq : b = q0
  · subst hbq
    obtain ⟨l', h1, h2, h3⟩ := hbc
    rw [hl] at h1
    injection h1 with h1
    subst h1
    obtain ⟨i, hi, hc⟩ := List.getElem_of_mem h2
    have := h.done i hi hi (by rw [hc]; exact h3)
    rw [hc, Int.toNat_natCast] at this
    exact this
  · exact h.fr.closed b c hb (by simp; exact ⟨by omega, hn⟩) hbc
end Go.Proofs.Ytljmignfbagomaa
