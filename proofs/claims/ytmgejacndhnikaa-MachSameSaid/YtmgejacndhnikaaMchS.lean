/- MachSame, plain: bytes without addresses, and where the addresses go. -/
import Derived.Test.YtmgejacndhnikaaMchQ
import Derived.Test.YtmgejacndhnikaaMachB
import Derived.Test.YtmgejacndhnikaaAppN
import Derived.Test.YtmgejacndhnikaaLLn
namespace Go.Proofs.Ytmgejacndhnikaa

def tstZ (b : Blk) : List Int := if 0 ≤ b.test then [72 + b.test, 0, 0] else []
def endZ (i : Nat) (b : Blk) : List Int := if b.thn < 0 then [0] else if b.thn ≠ (i : Int) + 1 then [64, 0, 0] else []
def blkZ (i : Nat) (b : Blk) : List Int := codeY b.code ++ (tstZ b ++ endZ i b)
def preZ (p : List Blk) (i : Nat) : List Int := ((List.range i).map fun j => blkZ j (p.getD j bnul)).flatten
/-- Which places want the address of which block, in a block that begins at k. -/
def tstP (k : Nat) (b : Blk) : List (Nat × Int) := if 0 ≤ b.test then [(k + (codeY b.code).length + 1, b.els)] else []
def endP (k i : Nat) (b : Blk) : List (Nat × Int) := if b.thn < 0 then [] else if b.thn ≠ (i : Int) + 1 then [(k + (codeY b.code).length + (tstZ b).length + 1, b.thn)] else []
def blkP (k i : Nat) (b : Blk) : List (Nat × Int) := tstP k b ++ endP k i b
def preP (p : List Blk) (i : Nat) : List (Nat × Int) := ((List.range i).map fun j => blkP (begY p j) j (p.getD j bnul)).flatten
theorem preZ_succ (p : List Blk) (i : Nat) : preZ p (i + 1) = preZ p i ++ blkZ i (p.getD i bnul) := by
  unfold preZ
  rw [List.range_succ, List.map_append, List.flatten_append]
  simp
theorem preP_succ (p : List Blk) (i : Nat) : preP p (i + 1) = preP p i ++ blkP (begY p i) i (p.getD i bnul) := by
  unfold preP
  rw [List.range_succ, List.map_append, List.flatten_append]
  simp
theorem tst_len (beg : Nat → Nat) (b : Blk) : (tstZ b).length = (tstY beg b).length := by unfold tstZ tstY; split <;> rfl
theorem end_len (beg : Nat → Nat) (i : Nat) (b : Blk) : (endZ i b).length = (endY beg i b).length := by unfold endZ endY; split; rfl; split <;> rfl
theorem blkZ_len (i : Nat) (b : Blk) : (blkZ i b).length = lenY i b := by
  rw [← blkY_len (fun _ => 0) i b]
  unfold blkZ blkY
  rw [List.length_append, List.length_append, List.length_append, List.length_append, tst_len (fun _ => 0), end_len (fun _ => 0)]
theorem preZ_len (p : List Blk) : ∀ i, (preZ p i).length = begY p i
  | 0 => rfl
  | i + 1 => by rw [preZ_succ, List.length_append, preZ_len p i, blkZ_len, begY_succ]
theorem app_alike {x x' y y' : List Int} (hl : x.length = x'.length) {P Q : Nat → Prop} (h1 : ∀ j, x.getD j 0 = x'.getD j 0 ∨ P j) (h2 : ∀ j, y.getD j 0 = y'.getD j 0 ∨ Q j) : ∀ j, (x ++ y).getD j 0 = (x' ++ y').getD j 0 ∨ (P j ∨ (x.length ≤ j ∧ Q (j - x.length))) := fun j => by
  simp only [List.getD_eq_getElem?_getD] at h1 h2 ⊢
  rcases Nat.lt_or_ge j x.length with h | h
  · rw [List.getElem?_append_left h, List.getElem?_append_left (by omega)]
    exact (h1 j).imp id Or.inl
  · rw [List.getElem?_append_right h, List.getElem?_append_right (by omega), ← hl]
    exact (h2 (j - x.length)).imp id (fun q => Or.inr ⟨h, q⟩)
theorem three_alike (a x y x' y' : Int) : ∀ j, [a, x, y].getD j 0 = [a, x', y'].getD j 0 ∨ (j = 1 ∨ j = 2)
  | 0 => .inl rfl
  | 1 => .inr (.inl rfl)
  | 2 => .inr (.inr rfl)
  | _ + 3 => .inl rfl
theorem blk_alike (beg : Nat → Nat) (k i : Nat) (b : Blk) : ∀ j, (blkZ i b).getD j 0 = (blkY beg i b).getD j 0 ∨ ∃ q ∈ blkP k i b, k + j = q.1 ∨ k + j = q.1 + 1 := by
  have ht : ∀ j, (tstZ b).getD j 0 = (tstY beg b).getD j 0 ∨ (0 ≤ b.test ∧ (j = 1 ∨ j = 2)) := fun j => by
    unfold tstZ tstY
    split
    · rename_i h
      exact (three_alike _ _ _ _ _ j).imp id (fun q => ⟨h, q⟩)
    · exact .inl rfl
  have he : ∀ j, (endZ i b).getD j 0 = (endY beg i b).getD j 0 ∨ (¬ b.thn < 0 ∧ b.thn ≠ (i : Int) + 1 ∧ (j = 1 ∨ j = 2)) := fun j => by
    unfold endZ endY
    split
    · exact .inl rfl
    · rename_i h
      split
      · rename_i h2
        exact (three_alike _ _ _ _ _ j).imp id (fun q => ⟨h, h2, q⟩)
      · exact .inl rfl
  intro j
  rcases app_alike rfl (P := fun _ => False) (fun _ => .inl rfl) (app_alike (tst_len beg b) ht he) j with h | h | ⟨h, h | ⟨h', h2, h3, h4⟩⟩
  · exact .inl h
  · exact h.elim
  · refine .inr ⟨(k + (codeY b.code).length + 1, b.els), List.mem_append_left _ ?_, ?_⟩
    · unfold tstP; rw [if_pos h.1]; exact List.mem_singleton.2 rfl
    · have := h.2; show k + j = _ ∨ k + j = _; dsimp only; omega
  · refine .inr ⟨(k + (codeY b.code).length + (tstZ b).length + 1, b.thn), List.mem_append_right _ ?_, ?_⟩
    · unfold endP; rw [if_neg h2, if_pos h3]; exact List.mem_singleton.2 rfl
    · show k + j = _ ∨ k + j = _; dsimp only; omega
/-- Where the bytes without addresses are not the program's, an address goes. -/
theorem pre_alike (p : List Blk) : ∀ n j, (preZ p n).getD j 0 = (preY p n).getD j 0 ∨ ∃ q ∈ preP p n, j = q.1 ∨ j = q.1 + 1
  | 0, _ => .inl rfl
  | n + 1, j => by
    rw [preZ_succ, preY_succ, preP_succ]
    rcases app_alike ((preZ_len p n).trans (preY_len p n).symm) (pre_alike p n) (blk_alike (begY p) (begY p n) n (p.getD n bnul)) j with h | ⟨q, hq, h⟩ | ⟨h, q, hq, h2⟩
    · exact .inl h
    · exact .inr ⟨q, List.mem_append_left _ hq, h⟩
    · refine .inr ⟨q, List.mem_append_right _ hq, ?_⟩
      rw [preZ_len] at h h2
      rwa [show begY p n + (j - begY p n) = j by omega] at h2
theorem three_at {c : List Int} {k : Nat} {a x y : Int} (h : HasAt c k [a, x, y]) : k + 1 + 1 < c.length ∧ c.getD (k + 1) 0 = x ∧ c.getD (k + 1 + 1) 0 = y := by
  obtain ⟨h1, h2⟩ := h
  simp at h1
  exact ⟨by omega, h2 1 (by simp), h2 2 (by simp)⟩
theorem blkP_at {c : List Int} {beg : Nat → Nat} {k i : Nat} {b : Blk} (h : HasAt c k (blkY beg i b)) : ∀ q ∈ blkP k i b, k < q.1 ∧ q.1 + 1 < k + lenY i b ∧ q.1 + 1 < c.length ∧ c.getD q.1 0 = loY (beg q.2.toNat) ∧ c.getD (q.1 + 1) 0 = hiY (beg q.2.toNat) := by
  have h1 : HasAt c k (codeY b.code ++ (tstY beg b ++ endY beg i b)) := h
  have hl := blkY_len beg i b
  unfold blkY at hl
  rw [List.length_append, List.length_append] at hl
  intro q hq
  rcases List.mem_append.1 hq with hq | hq
  · unfold tstP at hq
    split at hq
    · rename_i h0
      have e : tstY beg b = [72 + b.test, loY (beg b.els.toNat), hiY (beg b.els.toNat)] := by unfold tstY; rw [if_pos h0]
      have hq : q = _ := List.mem_singleton.1 hq
      subst hq
      have h2 := h1.right.left
      rw [e] at h2
      have h3 := three_at h2
      rw [e] at hl
      simp at hl
      exact ⟨by show k < k + _ + 1; omega, by show k + _ + 1 + 1 < _; omega, h3⟩
    · cases hq
  · unfold endP at hq
    split at hq
    · cases hq
    · rename_i h0
      split at hq
      · rename_i hi
        have e : endY beg i b = [64, loY (beg b.thn.toNat), hiY (beg b.thn.toNat)] := by unfold endY; rw [if_neg h0, if_pos hi]
        have hq : q = _ := List.mem_singleton.1 hq
        subst hq
        have h2 := h1.right.right
        rw [e, ← tst_len beg b] at h2
        have h3 := three_at h2
        rw [e, ← tst_len beg b] at hl
        simp at hl
        exact ⟨by show k < k + _ + _ + 1; omega, by show k + _ + _ + 1 + 1 < _; omega, h3⟩
      · cases hq
/-- What the program's bytes have at the places that want an address. -/
theorem preP_at {p : List Blk} : ∀ n, n ≤ p.length → ∀ q ∈ preP p n, q.1 + 1 < begY p n ∧ q.1 + 1 < (progY p).length ∧ (progY p).getD q.1 0 = loY (begY p q.2.toNat) ∧ (progY p).getD (q.1 + 1) 0 = hiY (begY p q.2.toNat)
  | 0, _, q, hq => by cases hq
  | n + 1, h, q, hq => by
    rw [preP_succ] at hq
    rw [begY_succ]
    rcases List.mem_append.1 hq with hq | hq
    · obtain ⟨h1, h2⟩ := preP_at n (by omega) q hq
      exact ⟨by omega, h2⟩
    · obtain ⟨_, h1, h2⟩ := blkP_at (progY_has (by omega : n < p.length)) q hq
      exact ⟨h1, h2⟩
end Go.Proofs.Ytmgejacndhnikaa
namespace Go.Proofs.Ytmgejacndhnikaa
set_option maxRecDepth 100000
open Go.RowKit

abbrev OwnB (w : World) (base : Nat) (v : Value) (l : List Int) : Prop := Own byteCells 1 w base 5 v l
theorem infoB : (Try.prog.info? 5).map (fun i => (i.zero, i.size, i.bytes)) = some (some (.int .u8 0), 1, 1) := by kernel_rfl
theorem byteCells_len (x : Int) : (byteCells x).length = 1 := rfl
theorem byteCells_one (x : Int) : ∀ u ∈ byteCells x, u.oneCell' = true := by intro u hu; simp [byteCells] at hu; subst hu; rfl
theorem OwnB.at2 {w : World} {base n c : Nat} {A : Option Addr} {l : List Int} (h : OwnB w base (.slice A n c) l) (hl : 0 < l.length) :
    ∃ g, A = some ⟨g, 0, none⟩ ∧ base ≤ g ∧ g < w.heap.size ∧ l.length ≤ c ∧ (∀ j, w.frozen? ⟨g, j, none⟩ = false) ∧ ∀ k (_hk : k < l.length), w.cell? ⟨g, k, none⟩ = some (.int .u8 l[k]) := by
  obtain ⟨g, cap, e, h1, h2, h3, h4⟩ := Own.some_ h hl
  injection e with e1 e2 e3
  subst e1 e2 e3
  refine ⟨g, rfl, h1, h2, h3, h4, fun k hk => ?_⟩
  have := Own.cell_ byteCells_len h hk (j := 0) (by decide)
  simpa [byteCells] using this
theorem OwnB.set_ {w : World} {base g cap n : Nat} {l : List Int} (h : OwnB w base (.slice (some ⟨g, 0, none⟩) n cap) l) {k : Nat} (_hk : k < l.length) (y : Int) :
    OwnB (w.setCell ⟨g, k, none⟩ (.int .u8 y)) base (.slice (some ⟨g, 0, none⟩) n cap) (l.set k y) := by
  have hn : n = l.length := by
    rcases h.2 with ⟨h0, _⟩ | ⟨_, _, _, h0, _⟩
    · cases h0
    · injection h0
  subst hn
  have e : ∀ l : List Int, l.flatMap byteCells = l.map (Value.int .u8) := fun l => by
    induction l with
    | nil => rfl
    | cons x r ih => rw [List.flatMap_cons, ih]; rfl
  have h1 := World.ownsRow.stored (w := w) (base := base) (e := 5) (size := 1) (g := g) (cap := cap) (n := l.length) (xs := l.flatMap byteCells) h k (.int .u8 y)
  unfold OwnB Own
  rw [e] at h1 ⊢
  rw [List.length_set, List.map_set]
  exact h1.1
end Go.Proofs.Ytmgejacndhnikaa
namespace Go.Proofs.Ytmgejacndhnikaa
set_option maxRecDepth 100000
open Go.RowKit

theorem rdB_new (w : World) (l : List Int) (cs : Array Value) (e s : Nat) (hs : w.heap.size = s) (hc : (l.map (Value.int .u8)).toArray = cs) : RdBy (w.alloc (.cells cs e)) (some ⟨s, 0, none⟩) l :=
  rd_new w l _ e s hs fun k x hx j hj => by
    have : j = 0 := by omega
    subst this
    simp [byteCells, ← hc, hx]
theorem wrap_u8_in {x : Int} (h0 : 0 ≤ x) (h1 : x ≤ 255) : IntKind.u8.wrap x = x := by rw [IntKind.wrap_u8]; omega
def StepE (s : Step) (w : World) (e : Ending) (w' : World) : Prop := ∃ A cap, e = .returned (.slice A (stepY s).length cap) ∧ RdBy w' A (stepY s) ∧ Below w.heap.size w w'
set_option maxHeartbeats 4000000 in
theorem mstep_calls (vars : Int) (s : Step) (w : World) (hv : vars ≤ 6) (hs : SOk vars s) : Calls Try.prog 43 #[s.agg] w (StepE s w) := by
  obtain ⟨o1, o6, on, ov, ot, oa⟩ := hs
  have u3 : IntKind.u8.wrap (24 + s.to) = 24 + s.to := wrap_u8_in (by omega) (by omega)
  by_cases h1 : s.op = 1
  · have := on h1
    have u4 : IntKind.u8.wrap s.val = s.val := wrap_u8_in (by omega) (by omega)
    have e : stepY s = [8, s.val, 24 + s.to] := by unfold stepY; rw [if_pos h1]
    unfold StepE
    rw [e]
    clear e on ov oa o1 o6
    obtain ⟨op, to, a, b, val⟩ := s
    dsimp only at *
    subst h1
    unfold Step.agg
    go_enter Try.func43, Try.ntmps43
    go_wp2
    go_ret
    exact ⟨_, _, rfl, rdB_new _ _ _ _ _ (by simp) rfl, ((Below.refl _ _).alloc (Nat.le_refl _) _).alloc (by simp) _⟩
  · by_cases h2 : s.op = 2
    · have := ov h2
      have u4 : IntKind.u8.wrap (16 + s.val) = 16 + s.val := wrap_u8_in (by omega) (by omega)
      have e : stepY s = [16 + s.val, 24 + s.to] := by unfold stepY; rw [if_neg h1, if_pos h2]
      unfold StepE
      rw [e]
      clear e on ov oa o1 o6 h1
      obtain ⟨op, to, a, b, val⟩ := s
      dsimp only at *
      subst h2
      unfold Step.agg
      go_enter Try.func43, Try.ntmps43
      go_wp2
      go_ret
      exact ⟨_, _, rfl, rdB_new _ _ _ _ _ (by simp) rfl, ((Below.refl _ _).alloc (Nat.le_refl _) _).alloc (by simp) _⟩
    · obtain ⟨a1, a2⟩ := oa (by omega)
      have u4 : IntKind.u8.wrap (16 + s.a) = 16 + s.a := wrap_u8_in (by omega) (by omega)
      have u5 : IntKind.u8.wrap ((s.op - 3 + 4) * 8 + s.b) = (s.op - 3 + 4) * 8 + s.b := wrap_u8_in (by omega) (by omega)
      have e : stepY s = [16 + s.a, (s.op - 3 + 4) * 8 + s.b, 24 + s.to] := by unfold stepY; rw [if_neg h1, if_neg h2]
      unfold StepE
      rw [e]
      clear e on ov oa
      obtain ⟨op, to, a, b, val⟩ := s
      dsimp only at *
      have q1 : (op == 1) = false := by rw [beq_eq_false_iff_ne]; exact h1
      have q2 : (op == 2) = false := by rw [beq_eq_false_iff_ne]; exact h2
      unfold Step.agg
      go_enter Try.func43, Try.ntmps43
      go_wp2
      go_ret
      exact ⟨_, _, rfl, rdB_new _ _ _ _ _ (by simp) rfl, ((Below.refl _ _).alloc (Nat.le_refl _) _).alloc (by simp) _⟩
end Go.Proofs.Ytmgejacndhnikaa
