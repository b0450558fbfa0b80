/- FactPath. -/
import Derived.Test.YtljmignfbagomaaFacH
import Derived.Test.YtljmignfbagomaaFacM
import Derived.Test.YtljmignfbagomaaByteW
import Derived.Deep.CutBlock
namespace Go.Proofs.Ytljmignfbagomaa
open Go.RowKit

structure GT (ls : List (List Int)) (L : LawD) (g : List (List Int)) : Prop where
  len : g.length = ls.length
  short : ∀ l ∈ g, l.length ≤ 24
  ins : ∀ l ∈ g, ∀ x ∈ l, ∃ j : Nat, x = j ∧ j < ls.length
  edge : ∀ i j, EdgeG g i j ↔ EL ls L i j
theorem GO.gt {ls : List (List Int)} {L : LawD} {g : List (List Int)} {f : Nat} (h : GO ls L g f) : GT ls L g := ⟨h.len, h.short, h.ins, h.edge⟩
theorem mem_trow2 {ls : List (List Int)} {j : Nat} {x : Int} : x ∈ trow ls j ↔ ∃ i : Nat, x = i ∧ EdgeG ls i j := by
  unfold trow tTo
  rw [List.mem_map]
  constructor
  · rintro ⟨a, ha, rfl⟩
    rw [List.mem_filter, List.mem_range, decide_eq_true_eq] at ha
    have h := ha.2
    rw [List.getD_eq_getElem?_getD, List.getElem?_eq_getElem ha.1] at h
    exact ⟨a, rfl, ls[a], List.getElem?_eq_getElem ha.1, h⟩
  · rintro ⟨i, rfl, l, h1, h2⟩
    refine ⟨i, ?_, rfl⟩
    rw [List.mem_filter, List.mem_range, decide_eq_true_eq]
    refine ⟨(List.getElem?_eq_some_iff.1 h1).1, ?_⟩
    rw [List.getD_eq_getElem?_getD, h1]
    exact h2
theorem turned_get {ls : List (List Int)} {i : Nat} {l : List Int} (h : (turned ls)[i]? = some l) : i < ls.length ∧ l = trow ls i := by
  have hi : i < ls.length := by have := (List.getElem?_eq_some_iff.1 h).1; simpa [turned] using this
  unfold turned at h
  rw [List.getElem?_map, List.getElem?_range hi] at h
  injection h with h
  exact ⟨hi, h.symm⟩
theorem GT.bwd {ls : List (List Int)} {L : LawD} (hb : L.back = true) (hv : Valid ls) (h8 : ls.length ≤ 8) : GT ls L (turned ls) := by
  refine ⟨by simp [turned], fun l hl => ?_, fun l hl x hx => ?_, fun i j => ?_⟩
  · obtain ⟨i, hi, rfl⟩ := List.getElem_of_mem hl
    obtain ⟨_, e⟩ := turned_get (List.getElem?_eq_getElem hi)
    rw [e]
    have := tTo_len ls i ls.length
    have : (trow ls i).length ≤ ls.length := this
    omega
  · obtain ⟨i, hi, rfl⟩ := List.getElem_of_mem hl
    obtain ⟨_, e⟩ := turned_get (List.getElem?_eq_getElem hi)
    rw [e] at hx
    obtain ⟨a, rfl, h⟩ := mem_trow2.1 hx
    exact ⟨a, rfl, (edge_lt hv h).1⟩
  · unfold EL
    rw [if_pos hb]
    constructor
    · rintro ⟨l, h1, h2⟩
      obtain ⟨_, rfl⟩ := turned_get h1
      obtain ⟨a, e, h⟩ := mem_trow2.1 h2
      have : j = a := by omega
      subst this; exact h
    · intro h
      have hi := (edge_lt hv h).2
      exact ⟨trow ls i, by unfold turned; rw [List.getElem?_map, List.getElem?_range hi]; rfl, mem_trow2.2 ⟨j, rfl, h⟩⟩
theorem PathP.one {ls : List (List Int)} {L : LawD} {a : Nat} (h : FL ls L a) (ha : a < ls.length) : PathP ls L [a] :=
  ⟨by simp, h, fun k hk => by simp at hk, fun k hk => by
    have : k = 0 := by simpa using hk
    subst this; exact ha⟩
theorem getD_app {ps : List Nat} {x k : Nat} (hk : k < ps.length) : (ps ++ [x]).getD k 0 = ps.getD k 0 := by
  rw [List.getD_eq_getElem?_getD, List.getD_eq_getElem?_getD, List.getElem?_append_left hk]
theorem getD_end (ps : List Nat) (x : Nat) : (ps ++ [x]).getD ps.length 0 = x := by
  rw [List.getD_eq_getElem?_getD]; simp
theorem PathP.app {ls : List (List Int)} {L : LawD} {ps : List Nat} (h : PathP ls L ps) {x : Nat} (hx : x < ls.length) (e : EL ls L (ps.getD (ps.length - 1) 0) x) : PathP ls L (ps ++ [x]) := by
  have hp := h.pos
  refine ⟨by simp, by rw [getD_app hp]; exact h.first, fun k hk => ?_, fun k hk => ?_⟩
  · simp at hk
    by_cases hl : k + 1 < ps.length
    · rw [getD_app hl, getD_app (by omega)]; exact h.step k hl
    · have e1 : k + 1 = ps.length := by omega
      rw [e1, getD_end, getD_app (by omega)]
      rw [show ps.length - 1 = k by omega] at e
      exact e
  · simp at hk
    by_cases hl : k < ps.length
    · rw [getD_app hl]; exact h.lt k hl
    · have e1 : k = ps.length := by omega
      rw [e1, getD_end]; exact hx
theorem natL_app (ps : List Nat) (x : Nat) : natL (ps ++ [x]) = natL ps ++ [(x : Int)] := by simp [natL]
/-- What the law asks at the end. -/
theorem path_in {ls : List (List Int)} {L : LawD} {ps : List Nat} {r : List Nat} (hp : PathP ls L ps) (ho : FacOk ls L) (hs : SolF ls L r) :
    (L.all = false → (alongTo L ps (ps.length - 1) ||| r.getD (ps.getD (ps.length - 1) 0) 0 == r.getD (ps.getD (ps.length - 1) 0) 0) = true) ∧
    (L.all = true → (r.getD (ps.getD (ps.length - 1) 0) 0 ||| alongTo L ps (ps.length - 1) == alongTo L ps (ps.length - 1)) = true) := by
  have hpos := hp.pos
  obtain ⟨_, h2, h3⟩ := hp.at_ ho (ps.length - 1) (by omega)
  have hl := hp.lt (ps.length - 1) (by omega)
  constructor
  · intro ha
    rw [in_iff]
    intro b hb
    have hb8 := bit_lt (n := 8) h2 hb
    have := (hs.bit _ b hl hb8).2 (h3 b hb8 (by unfold pb; rw [hb, ha]; rfl))
    unfold pb at this
    rw [ha] at this
    simpa using this
  · intro ha
    rw [in_iff]
    intro b hb
    have hb8 := bit_lt (n := 8) (hs.lt _) hb
    cases hc : (alongTo L ps (ps.length - 1)).testBit b
    · have := (hs.bit _ b hl hb8).2 (h3 b hb8 (by unfold pb; rw [hc, ha]; rfl))
      unfold pb at this
      rw [hb, ha] at this
      cases this
    · rfl
theorem last_app (ps : List Nat) (x : Nat) : (ps ++ [x]).getD ((ps ++ [x]).length - 1) 0 = x := by
  rw [List.length_append, List.length_singleton, Nat.add_sub_cancel, getD_end]
end Go.Proofs.Ytljmignfbagomaa
