/- What fact.Solve starts with: plain. -/
import Derived.Test.YtljmignfbagomaaFacE
namespace Go.Proofs.Ytljmignfbagomaa
open Go.RowKit

def EL (ls : List (List Int)) (L : LawD) (i j : Nat) : Prop := if L.back = true then EdgeG ls j i else EdgeG ls i j
def FL (ls : List (List Int)) (L : LawD) (i : Nat) : Prop := if L.back = true then ls[i]? = some [] else i = 0
/-- The way as it is gone, and its first nodes. -/
structure GO (ls : List (List Int)) (L : LawD) (g : List (List Int)) (f : Nat) : Prop where
  len : g.length = ls.length
  short : ∀ l ∈ g, l.length ≤ 24
  ins : ∀ l ∈ g, ∀ x ∈ l, ∃ j : Nat, x = j ∧ j < ls.length
  edge : ∀ i j, EdgeG g i j ↔ EL ls L i j
  f8 : f < 256
  fb : ∀ i, f.testBit i = true ↔ FL ls L i
theorem edge_lt {ls : List (List Int)} (hv : Valid ls) {i j : Nat} (h : EdgeG ls i j) : i < ls.length ∧ j < ls.length := by
  obtain ⟨l, h1, h2⟩ := h
  have := (hv l (List.mem_of_getElem? h1)).2 _ h2
  exact ⟨(List.getElem?_eq_some_iff.1 h1).1, by omega⟩
theorem GO.fwd {ls : List (List Int)} {L : LawD} (hb : L.back = false) (hv : Valid ls) : GO ls L ls 1 :=
  ⟨rfl, fun l hl => by have := (hv l hl).1; omega, fun l hl x hx => by
    have := (hv l hl).2 x hx
    exact ⟨x.toNat, by omega, by omega⟩, fun i j => by unfold EL; rw [if_neg (by rw [hb]; decide)], by decide, fun i => by
    unfold FL
    rw [if_neg (by rw [hb]; decide), show (1 : Nat) = 2 ^ 0 from rfl, testBit_pow, decide_eq_true_eq]
    exact ⟨fun h => h.symm, fun h => h.symm⟩⟩
theorem GO.bwd {ls g : List (List Int)} {L : LawD} (hb : L.back = true) (hv : Valid ls) (hg : TurnedF ls g) {f : Nat} (f8 : f < 256) (fb : ∀ i, f.testBit i = true ↔ ls[i]? = some []) : GO ls L g f := by
  have hm : ∀ (j : Nat) (l : List Int), g[j]? = some l → ∀ a : Nat, (a : Int) ∈ l ↔ EdgeG ls a j := fun j l hl a => by
    rw [hg.mem j l hl]
    constructor
    · rintro ⟨a', e, h⟩
      have : a = a' := by omega
      subst this; exact h
    · intro h; exact ⟨a, rfl, h⟩
  refine ⟨hg.len, fun l hl => ?_, fun l hl x hx => ?_, fun i j => ?_, f8, fun i => by unfold FL; rw [if_pos hb]; exact fb i⟩
  · obtain ⟨j, hj, rfl⟩ := List.getElem_of_mem hl
    exact hg.short j _ (List.getElem?_eq_getElem hj)
  · obtain ⟨j, hj, rfl⟩ := List.getElem_of_mem hl
    obtain ⟨a, rfl, h⟩ := (hg.mem j _ (List.getElem?_eq_getElem hj) x).1 hx
    exact ⟨a, rfl, (edge_lt hv h).1⟩
  · unfold EL
    rw [if_pos hb]
    constructor
    · rintro ⟨l, h1, h2⟩; exact (hm i l h1 j).1 h2
    · intro h
      have hi : i < g.length := by rw [hg.len]; exact (edge_lt hv h).2
      exact ⟨g[i], List.getElem?_eq_getElem hi, (hm i _ (List.getElem?_eq_getElem hi) j).2 h⟩
/-- Which nodes are ends. -/
def EndsW (ls : List (List Int)) (k f : Nat) : Prop := f < 256 ∧ ∀ i, f.testBit i = true ↔ (i < k ∧ ls[i]? = some [])
theorem EndsW.first (ls : List (List Int)) : EndsW ls 0 0 := ⟨by decide, fun i => by rw [Nat.zero_testBit]; constructor <;> (intro h; first | (cases h; done) | (exfalso; omega))⟩
theorem EndsW.yes {ls : List (List Int)} {k f : Nat} (h : EndsW ls k f) (hk : ls[k]? = some []) (h8 : k < 8) : EndsW ls (k + 1) (f ||| 2 ^ k) :=
  ⟨Nat.or_lt_two_pow (n := 8) h.1 (Nat.pow_lt_pow_right (by decide) h8), fun i => by
    rw [set_bit, Bool.or_eq_true, h.2, decide_eq_true_eq]
    constructor
    · rintro (⟨h1, h2⟩ | rfl)
      · exact ⟨by omega, h2⟩
      · exact ⟨by omega, hk⟩
    · rintro ⟨h1, h2⟩
      by_cases e : k = i
      · exact .inr e
      · exact .inl ⟨by omega, h2⟩⟩
theorem EndsW.no {ls : List (List Int)} {k f : Nat} (h : EndsW ls k f) (hk : ls[k]? ≠ some []) : EndsW ls (k + 1) f :=
  ⟨h.1, fun i => by
    rw [h.2]
    constructor
    · rintro ⟨h1, h2⟩; exact ⟨by omega, h2⟩
    · rintro ⟨h1, h2⟩
      refine ⟨?_, h2⟩
      by_cases e : i = k
      · subst e; exact absurd h2 hk
      · omega⟩
theorem EndsW.all {ls : List (List Int)} {f : Nat} (h : EndsW ls ls.length f) : ∀ i, f.testBit i = true ↔ ls[i]? = some [] := fun i => by
  rw [h.2]
  exact ⟨fun h => h.2, fun h => ⟨(List.getElem?_eq_some_iff.1 h).1, h⟩⟩
def initV (L : LawD) (f i : Nat) : Nat := if f.testBit i then L.start else if L.all then 255 else 0
def initL (L : LawD) (f n k : Nat) : List Nat := (List.range n).map fun i => if i < k then initV L f i else 0
theorem initL_len (L : LawD) (f n k : Nat) : (initL L f n k).length = n := by simp [initL]
theorem initL_zero (L : LawD) (f n : Nat) : initL L f n 0 = List.replicate n 0 := by
  refine List.ext_getElem (by simp [initL]) fun i h1 h2 => ?_
  simp [initL]
theorem initL_step (L : LawD) (f n k : Nat) : (initL L f n k).set k (initV L f k) = initL L f n (k + 1) := by
  refine List.ext_getElem (by simp [initL]) fun i h1 h2 => ?_
  rw [List.getElem_set]
  simp only [initL, List.getElem_map, List.getElem_range]
  by_cases e : k = i
  · subst e; rw [if_pos rfl, if_pos (by omega)]
  · rw [if_neg e]
    by_cases h : i < k
    · rw [if_pos h, if_pos (by omega)]
    · rw [if_neg h, if_neg (by omega)]
theorem initL_get {L : LawD} {f n k : Nat} (hk : k < n) : (initL L f n k).getD k 0 = 0 := by
  rw [getD_at (by rw [initL_len]; exact hk)]
  simp [initL]
theorem initL_all {L : LawD} {f n i : Nat} (hi : i < n) : (initL L f n n).getD i 0 = initV L f i := by
  rw [getD_at (by rw [initL_len]; exact hi)]
  simp [initL, hi]
theorem Fa.init {ls : List (List Int)} {L : LawD} {g : List (List Int)} {f : Nat} (hg : GO ls L g f) (ho : FacOk ls L) (h1 : 1 ≤ ls.length) : Fa (EL ls L) (FL ls L) L ls.length (initL L f ls.length ls.length) f := by
  have hv : ∀ i, initV L f i < 256 := fun i => by
    unfold initV
    split
    · exact ho.s8
    · split <;> decide
  have hF : ∀ i, FL ls L i → i < ls.length := fun i h => by
    unfold FL at h
    split at h
    · exact (List.getElem?_eq_some_iff.1 h).1
    · omega
  refine ⟨initL_len _ _ _ _, fun i => ?_, hg.f8, fun j hj => .first ((hg.fb j).1 hj), fun j hj => (hg.fb j).2 hj, fun i b hi hb hp => ?_, fun i b hi hb hp => ?_⟩
  · by_cases hi : i < ls.length
    · rw [initL_all hi]; exact hv i
    · rw [List.getD_eq_getElem?_getD, List.getElem?_eq_none (by rw [initL_len]; omega)]; decide
  · rw [initL_all hi] at hp
    unfold initV at hp
    split at hp
    · rename_i hf
      exact .start ((hg.fb i).1 hf) hp
    · exfalso
      unfold pb at hp
      cases ha : L.all
      · rw [ha] at hp; simp at hp
      · rw [ha] at hp
        simp only [if_true] at hp
        rw [show (255 : Nat) = 2 ^ 8 - 1 from rfl, Nat.testBit_two_pow_sub_one, decide_eq_true hb] at hp
        cases hp
  · rw [initL_all (hF i hi)]
    unfold initV
    rw [if_pos ((hg.fb i).2 hi)]
    exact hp
/-- What fact.Solve tells. -/
structure SolF (ls : List (List Int)) (L : LawD) (r : List Nat) : Prop where
  len : r.length = ls.length
  lt : ∀ i, r.getD i 0 < 256
  bit : ∀ i b, i < ls.length → b < 8 → (pb L.all (r.getD i 0) b = true ↔ FP (EL ls L) (FL ls L) L i b)
end Go.Proofs.Ytljmignfbagomaa
