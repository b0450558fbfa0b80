/- fact.behind; laws as arguments. -/
import Derived.Test.YtljmignfbagomaaFacP
import Derived.Test.YtljmignfbagomaaTurnA
import Derived.BigQuiet
import Derived.Deep.QuietTactic
import Derived.Deep.CutRange
import Derived.Deep.DeepCutAuto
namespace Go.Proofs.Ytljmignfbagomaa
open Go.RowKit

structure RdL (w : World) (A B : Option Addr) (L : LawD) : Prop where
  mr : RdU w A L.makes
  er : RdU w B L.ends
  st : L.start < 4294967296
  mb : ∀ x ∈ L.makes, x < 4294967296
  eb : ∀ x ∈ L.ends, x < 4294967296
theorem RdL.below {w w' : World} {A B : Option Addr} {L : LawD} (h : RdL w A B L) (hb : Below w.heap.size w w') : RdL w' A B L := ⟨Rd.below h.mr hb, Rd.below h.er hb, h.st, h.mb, h.eb⟩
def facErr (ls : List (List Int)) (L : LawD) : Int :=
  if wayErr ls ≠ 0 then wayErr ls else if L.makes.length ≠ ls.length ∨ L.ends.length ≠ ls.length then 3 else if (L.makes ++ L.ends ++ [L.start]).any (fun x => decide (255 < x)) then 4 else 0
/-- What a law that may be is. -/
structure FacOk (ls : List (List Int)) (L : LawD) : Prop where
  way : wayErr ls = 0
  ml : L.makes.length = ls.length
  el : L.ends.length = ls.length
  m8 : ∀ x ∈ L.makes, x < 256
  e8 : ∀ x ∈ L.ends, x < 256
  s8 : L.start < 256
theorem facErr_ok {ls : List (List Int)} {L : LawD} (h : facErr ls L = 0) : FacOk ls L := by
  unfold facErr at h
  split at h
  · rename_i h1; exact absurd h h1
  · rename_i h1
    split at h
    · cases h
    · rename_i h2
      split at h
      · cases h
      · rename_i h3
        have h3' : ∀ x ∈ L.makes ++ L.ends ++ [L.start], ¬ 255 < x := fun x hx hlt => h3 (by rw [List.any_eq_true]; exact ⟨x, hx, decide_eq_true hlt⟩)
        exact ⟨Classical.not_not.1 h1, Classical.not_not.1 (fun h => h2 (Or.inl h)), Classical.not_not.1 (fun h => h2 (Or.inr h)), fun x hx => by have := h3' x (by simp [hx]); omega, fun x hx => by have := h3' x (by simp [hx]); omega, by have := h3' L.start (by simp); omega⟩
theorem facErr_of {ls : List (List Int)} {L : LawD} (h : FacOk ls L) : facErr ls L = 0 := by
  unfold facErr
  rw [if_neg (fun h' => h' h.way), if_neg (by have := h.ml; have := h.el; omega), if_neg]
  rw [List.any_eq_true]
  rintro ⟨x, hx, hlt⟩
  have hlt := of_decide_eq_true hlt
  simp at hx
  rcases hx with hx | hx | hx
  · have := h.m8 x hx; omega
  · have := h.e8 x hx; omega
  · subst hx; have := h.s8; omega
theorem getD_lt256 {r : List Nat} (h : ∀ x ∈ r, x < 256) (i : Nat) : r.getD i 0 < 256 := by
  rw [List.getD_eq_getElem?_getD]
  cases e : r[i]? with
  | none => simp
  | some x => exact h x (List.mem_of_getElem? e)
theorem getD_at {r : List Nat} {i : Nat} (h : i < r.length) : r.getD i 0 = r[i] := by rw [List.getD_eq_getElem?_getD, List.getElem?_eq_getElem h]; rfl
set_option maxHeartbeats 1000000 in
theorem behind_calls (A B : Option Addr) (L : LawD) (ca cb i s : Nat) (w : World) (hL : RdL w A B L) (him : i < L.makes.length) (hie : i < L.ends.length) (hs : s < 256) (hm : ∀ x ∈ L.makes, x < 256) (he : ∀ x ∈ L.ends, x < 256) :
    Calls Try.prog 58 #[.agg #[.bool L.back, .bool L.all, .slice A L.makes.length ca, .slice B L.ends.length cb, .int .u32 (L.start : Nat)], .int .i64 (i : Nat), .int .u32 (s : Nat)] w fun e w' => e = .returned (.int .u32 (beh L i s : Nat)) ∧ Below w.heap.size w w' := by
  obtain ⟨b1, off1, rfl, hb1, d1⟩ := RdU.at1 hL.mr him
  obtain ⟨b2, off2, rfl, hb2, d2⟩ := RdU.at1 hL.er hie
  have HB := Lib.hid ((Below.refl w.heap.size w).alloc (Nat.le_refl _) (.cells #[.bool L.back, .bool L.all, .slice (some ⟨b1, off1, none⟩) L.makes.length ca, .slice (some ⟨b2, off2, none⟩) L.ends.length cb, .int .u32 (L.start : Nat)] 58))
  have h1 := getD_lt256 hm i
  have h2 := getD_lt256 he i
  have p1 := andN_u32 s (L.ends.getD i 0) (by omega) (by omega)
  have p2 := or_u32 (andN s (L.ends.getD i 0)) (L.makes.getD i 0) (andN_lt _ _) (by omega)
  have Hb := Lib.hid (show beh L i s = andN s (L.ends.getD i 0) ||| L.makes.getD i 0 from rfl)
  rw [← getD_at him] at d1
  rw [← getD_at hie] at d2
  have c0 := fun j => cell_new w #[Value.bool L.back, .bool L.all, .slice (some ⟨b1, off1, none⟩) L.makes.length ca, .slice (some ⟨b2, off2, none⟩) L.ends.length cb, .int .u32 (L.start : Nat)] 58 w.heap.size rfl j
  have c2 := c0 2
  have c3 := c0 3
  have d1 := (HB.out.cell (p := ⟨b1, off1 + i, none⟩) hb1).trans d1
  have d2 := (HB.out.cell (p := ⟨b2, off2 + i, none⟩) hb2).trans d2
  have q1 : ((i : Nat) : Int) < ((L.makes.length : Nat) : Int) := by omega
  have q2 : ((i : Nat) : Int) < ((L.ends.length : Nat) : Int) := by omega
  rw [Hb.out]
  clear h1 h2 hL Hb c0 hs hm he
  generalize andN s (L.ends.getD i 0) = x1 at *
  generalize x1 ||| L.makes.getD i 0 = x2 at *
  generalize L.makes.getD i 0 = x3 at *
  generalize L.ends.getD i 0 = x4 at *
  go_enter Try.func58, Try.ntmps58
  go_upto_region 1 with fail
  generalize w.alloc (Obj.cells #[Value.bool L.back, Value.bool L.all, Value.slice (some ⟨b1, off1, none⟩) L.makes.length ca, Value.slice (some ⟨b2, off2, none⟩) L.ends.length cb, Value.int IntKind.u32 (L.start : Nat)] 58) = w2 at *
  go_quiet (fail)
  go_wp2
  go_ret
  exact ⟨rfl, below_dN HB.out _⟩
end Go.Proofs.Ytljmignfbagomaa
