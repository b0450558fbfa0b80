/- MachSame, plain: what orders do; orders of a step. -/
import Derived.Test.YtmgejacndhnikaaBackS
import Derived.Test.YtmgejacndhnikaaBlkH
namespace Go.Proofs.Ytmgejacndhnikaa

structure MS where
  at_ : Nat
  box : Int
  cell : List Int
/-- An order that is no stop, done; the next one is n bytes on. -/
def exM (s : Step) (n : Nat) (st : MS) : MS :=
  if s.op = 1 then ⟨st.at_ + n, s.val, st.cell⟩
  else if s.op = 2 then ⟨st.at_ + n, st.cell.getD s.to.toNat 0, st.cell⟩
  else if s.op = 3 then ⟨st.at_ + n, st.box, st.cell.set s.to.toNat st.box⟩
  else if s.op = 8 then ⟨s.val.toNat, st.box, st.cell⟩
  else if s.op = 9 then ⟨if st.cell.getD s.to.toNat 0 = 0 then s.val.toNat else st.at_ + n, st.box, st.cell⟩
  else ⟨st.at_ + n, doF (s.op - 4 + 3) st.box (st.cell.getD s.to.toNat 0), st.cell⟩
def ordAt (c : List Int) (k : Nat) : Step := ordOf (c.getD k 0) (c.getD (k + 1) 0) (c.getD (k + 2) 0)
def nxM (c : List Int) (st : MS) : MS := exM (ordAt c st.at_) (mSize (c.getD st.at_ 0)).toNat st
/-- n orders, none of them a stop. -/
def GoM (c : List Int) : Nat → MS → MS → Prop
  | 0, a, b => a = b
  | n + 1, a, b => ordIs c a.at_ ∧ (ordAt c a.at_).op ≠ 0 ∧ GoM c n (nxM c a) b
theorem GoM.trans {c : List Int} : ∀ {n m : Nat} {x y z : MS}, GoM c n x y → GoM c m y z → GoM c (n + m) x z
  | 0, m, x, y, z, h, k => by cases h; rw [Nat.zero_add]; exact k
  | n + 1, m, x, y, z, h, k => by
    rw [Nat.succ_add]
    exact ⟨h.1, h.2.1, h.2.2.trans k⟩
/-- These bytes lie at place k. -/
def HasAt (c : List Int) (k : Nat) (bs : List Int) : Prop := k + bs.length ≤ c.length ∧ ∀ (i : Nat) (h : i < bs.length), c.getD (k + i) 0 = bs[i]
theorem HasAt.left {c : List Int} {k : Nat} {x y : List Int} (h : HasAt c k (x ++ y)) : HasAt c k x := by
  obtain ⟨h1, h2⟩ := h
  rw [List.length_append] at h1
  refine ⟨by omega, fun i hi => ?_⟩
  rw [h2 i (by rw [List.length_append]; omega), List.getElem_append_left hi]
theorem HasAt.right {c : List Int} {k : Nat} {x y : List Int} (h : HasAt c k (x ++ y)) : HasAt c (k + x.length) y := by
  obtain ⟨h1, h2⟩ := h
  rw [List.length_append] at h1
  refine ⟨by omega, fun i hi => ?_⟩
  rw [Nat.add_assoc, h2 (x.length + i) (by rw [List.length_append]; omega), List.getElem_append_right (by omega)]
  simp
/-- A step's bytes. -/
def stepY (s : Step) : List Int := if s.op = 1 then [8, s.val, 24 + s.to] else if s.op = 2 then [16 + s.val, 24 + s.to] else [16 + s.a, (s.op - 3 + 4) * 8 + s.b, 24 + s.to]
theorem one_num {c : List Int} {k : Nat} {b : Int} {v : List Int} {x : Int} (h : HasAt c k [8, x]) : GoM c 1 ⟨k, b, v⟩ ⟨k + 2, x, v⟩ := by
  obtain ⟨h1, h2⟩ := h
  have e0 := h2 0 (by simp)
  have e1 := h2 1 (by simp)
  simp at e0 e1 h1
  refine ⟨⟨by show k < _; omega, ?_, ?_⟩, ?_, ?_⟩
  · show mSize (c.getD k 0) ≠ 0
    rw [List.getD_eq_getElem?_getD, e0]; decide
  · show (k : Int) + mSize (c.getD k 0) ≤ _
    rw [List.getD_eq_getElem?_getD, e0, show mSize 8 = 2 from rfl]; omega
  · show (ordOf (c.getD k 0) (c.getD (k + 1) 0) (c.getD (k + 2) 0)).op ≠ 0
    rw [List.getD_eq_getElem?_getD, e0]
    show (8 : Int) / 8 ≠ 0
    decide
  · show nxM c ⟨k, b, v⟩ = _
    unfold nxM ordAt exM ordOf
    dsimp only
    rw [show c.getD k 0 = 8 by rw [List.getD_eq_getElem?_getD, e0], show c.getD (k + 1) 0 = x by rw [List.getD_eq_getElem?_getD, e1]]
    rfl
/-- An order of one byte. -/
theorem one_byte {c : List Int} {k : Nat} {b : Int} {v : List Int} {y : Int} (h : HasAt c k [y]) (h2 : 2 ≤ y / 8) (h7 : y / 8 ≤ 7) (h6 : y % 8 < 6) :
    GoM c 1 ⟨k, b, v⟩ (exM ⟨y / 8, y % 8, 0, 0, 0⟩ 1 ⟨k, b, v⟩) := by
  obtain ⟨h1, h3⟩ := h
  have e0 : c.getD k 0 = y := h3 0 (by simp)
  simp at h1
  have hs : mSize y = 1 := by
    unfold mSize
    rw [if_neg (by omega), if_neg (by omega), if_neg (by omega), if_neg (by omega), if_neg (by omega), if_neg (by omega)]
  have ho : ordAt c k = ⟨y / 8, y % 8, 0, 0, 0⟩ := by
    unfold ordAt ordOf
    rw [e0, if_neg (by omega), if_neg (by omega), if_neg (by omega)]
  refine ⟨⟨by show k < _; omega, ?_, ?_⟩, ?_, ?_⟩
  · show mSize (c.getD k 0) ≠ 0
    rw [e0, hs]; decide
  · show (k : Int) + mSize (c.getD k 0) ≤ _
    rw [e0, hs]; omega
  · show (ordAt c k).op ≠ 0
    rw [ho]
    show y / 8 ≠ 0
    omega
  · show nxM c ⟨k, b, v⟩ = _
    unfold nxM
    dsimp only
    rw [ho, e0, hs]
    rfl
theorem put_go {c : List Int} {k : Nat} {b : Int} {v : List Int} {t : Int} (h : HasAt c k [24 + t]) (h0 : 0 ≤ t) (h6 : t < 6) : GoM c 1 ⟨k, b, v⟩ ⟨k + 1, b, v.set t.toNat b⟩ := by
  have := one_byte (b := b) (v := v) h (by omega) (by omega) (by omega)
  rw [show (24 + t) / 8 = 3 by omega, show (24 + t) % 8 = t by omega] at this
  exact this
theorem get_go {c : List Int} {k : Nat} {b : Int} {v : List Int} {t : Int} (h : HasAt c k [16 + t]) (h0 : 0 ≤ t) (h6 : t < 6) : GoM c 1 ⟨k, b, v⟩ ⟨k + 1, v.getD t.toNat 0, v⟩ := by
  have := one_byte (b := b) (v := v) h (by omega) (by omega) (by omega)
  rw [show (16 + t) / 8 = 2 by omega, show (16 + t) % 8 = t by omega] at this
  exact this
theorem op_go {c : List Int} {k : Nat} {b : Int} {v : List Int} {t o : Int} (h : HasAt c k [(o - 3 + 4) * 8 + t]) (h0 : 0 ≤ t) (h6 : t < 6) (o3 : 3 ≤ o) (o6 : o ≤ 6) : GoM c 1 ⟨k, b, v⟩ ⟨k + 1, doF o b (v.getD t.toNat 0), v⟩ := by
  have := one_byte (b := b) (v := v) h (by omega) (by omega) (by omega)
  rw [show ((o - 3 + 4) * 8 + t) / 8 = o + 1 by omega, show ((o - 3 + 4) * 8 + t) % 8 = t by omega] at this
  unfold exM at this
  dsimp only at this
  rw [if_neg (by omega), if_neg (by omega), if_neg (by omega), if_neg (by omega), if_neg (by omega), show o + 1 - 4 + 3 = o by omega] at this
  exact this
/-- A step's bytes do the step. -/
theorem step_go {c : List Int} {k : Nat} {b : Int} {v : List Int} {s : Step} {vars : Int} (hv : vars ≤ 6) (hs : SOk vars s) (h : HasAt c k (stepY s)) : ∃ n b', n ≤ 3 ∧ GoM c n ⟨k, b, v⟩ ⟨k + (stepY s).length, b', dg1 v s⟩ := by
  obtain ⟨o1, o6, on, ov, ot, oa⟩ := hs
  unfold stepY at h ⊢
  unfold dg1
  by_cases e1 : s.op = 1
  · rw [if_pos e1] at h
    rw [if_pos e1, if_pos e1]
    have h1 : HasAt c k ([8, s.val] ++ [24 + s.to]) := h
    exact ⟨1 + 1, _, by decide, (one_num h1.left).trans (put_go h1.right ot.1 (by omega))⟩
  · by_cases e2 : s.op = 2
    · rw [if_neg e1, if_pos e2] at h
      rw [if_neg e1, if_pos e2, if_neg e1, if_pos e2]
      have h1 : HasAt c k ([16 + s.val] ++ [24 + s.to]) := h
      exact ⟨1 + 1, _, by decide, (get_go h1.left (ov e2).1 (by have := (ov e2).2; omega)).trans (put_go h1.right ot.1 (by omega))⟩
    · rw [if_neg e1, if_neg e2] at h
      rw [if_neg e1, if_neg e2, if_neg e1, if_neg e2]
      obtain ⟨a1, a2⟩ := oa (by omega)
      have h1 : HasAt c k ([16 + s.a] ++ ([(s.op - 3 + 4) * 8 + s.b] ++ [24 + s.to])) := h
      exact ⟨1 + (1 + 1), _, by decide, (get_go h1.left a1.1 (by omega)).trans ((op_go h1.right.left a2.1 (by omega) (by omega) o6).trans (put_go h1.right.right ot.1 (by omega)))⟩
def codeY (l : List Step) : List Int := (l.map stepY).flatten
theorem code_go {c : List Int} {vars : Int} (hv : vars ≤ 6) : ∀ (l : List Step) (k : Nat) (b : Int) (v : List Int), (∀ s ∈ l, SOk vars s) → HasAt c k (codeY l) → ∃ n b', n ≤ 3 * l.length ∧ GoM c n ⟨k, b, v⟩ ⟨k + (codeY l).length, b', dgR v l⟩
  | [], k, b, v, _, _ => ⟨0, b, Nat.le_refl _, rfl⟩
  | s :: r, k, b, v, hs, h => by
    have h1 : HasAt c k (stepY s ++ codeY r) := h
    obtain ⟨n, b1, hn, g1⟩ := step_go (b := b) (v := v) hv (hs s List.mem_cons_self) h1.left
    obtain ⟨m, b2, hm, g2⟩ := code_go hv r _ b1 (dg1 v s) (fun s' h' => hs s' (List.mem_cons_of_mem _ h')) h1.right
    refine ⟨n + m, b2, by rw [List.length_cons]; omega, ?_⟩
    have e : k + (codeY (s :: r)).length = k + (stepY s).length + (codeY r).length := by
      show k + (stepY s ++ codeY r).length = _
      rw [List.length_append]; omega
    rw [e]
    exact g1.trans g2
/-- An order of three bytes. -/
theorem one_three {c : List Int} {k : Nat} {b : Int} {v : List Int} {y x z : Int} (h : HasAt c k [y, x, z]) (hy : y / 8 = 8 ∨ (y / 8 = 9 ∧ y % 8 < 6)) :
    GoM c 1 ⟨k, b, v⟩ (exM ⟨y / 8, if y / 8 = 8 then 0 else y % 8, 0, 0, x + z * 256⟩ 3 ⟨k, b, v⟩) := by
  obtain ⟨h1, h3⟩ := h
  have e0 : c.getD k 0 = y := h3 0 (by simp)
  have e1 : c.getD (k + 1) 0 = x := h3 1 (by simp)
  have e2 : c.getD (k + 2) 0 = z := h3 2 (by simp)
  simp at h1
  have hs : mSize y = 3 := by
    unfold mSize
    rw [if_neg (by omega), if_neg (by omega), if_neg (by omega)]
    by_cases h8 : y / 8 = 8
    · rw [if_pos h8]
    · rw [if_neg h8, if_neg (by omega), if_pos (by omega)]
  have ho : ordAt c k = ⟨y / 8, if y / 8 = 8 then 0 else y % 8, 0, 0, x + z * 256⟩ := by
    unfold ordAt ordOf
    rw [e0, e1, e2]
    rw [if_neg (show ¬ y / 8 = 1 by omega), if_pos (show y / 8 = 8 ∨ y / 8 = 9 by omega)]
    congr 1
    by_cases h8 : y / 8 = 8
    · rw [if_pos (by omega), if_pos h8]
    · rw [if_neg (by omega), if_neg h8]
  refine ⟨⟨by show k < _; omega, ?_, ?_⟩, ?_, ?_⟩
  · show mSize (c.getD k 0) ≠ 0
    rw [e0, hs]; decide
  · show (k : Int) + mSize (c.getD k 0) ≤ _
    rw [e0, hs]; omega
  · show (ordAt c k).op ≠ 0
    rw [ho]
    show y / 8 ≠ 0
    omega
  · show nxM c ⟨k, b, v⟩ = _
    unfold nxM
    dsimp only
    rw [ho, e0, hs]
    rfl
def loY (n : Nat) : Int := ((n % 256 : Nat) : Int)
def hiY (n : Nat) : Int := ((n / 256 : Nat) : Int)
theorem jump_go {c : List Int} {k n : Nat} {b : Int} {v : List Int} (h : HasAt c k [64, loY n, hiY n]) : GoM c 1 ⟨k, b, v⟩ ⟨n, b, v⟩ := by
  have := one_three (b := b) (v := v) h (.inl (by decide))
  unfold exM at this
  dsimp only at this
  rw [if_neg (by decide), if_neg (by decide), if_neg (by decide), if_pos (by decide)] at this
  rw [show (loY n + hiY n * 256).toNat = n by unfold loY hiY; omega] at this
  exact this
theorem zero_go {c : List Int} {k n : Nat} {b t : Int} {v : List Int} (h : HasAt c k [72 + t, loY n, hiY n]) (h0 : 0 ≤ t) (h6 : t < 6) : GoM c 1 ⟨k, b, v⟩ ⟨if v.getD t.toNat 0 = 0 then n else k + 3, b, v⟩ := by
  have := one_three (b := b) (v := v) h (.inr ⟨by omega, by omega⟩)
  unfold exM at this
  dsimp only at this
  rw [show (72 + t) / 8 = 9 by omega, show (72 + t) % 8 = t by omega] at this
  rw [if_neg (by decide), if_neg (by decide), if_neg (by decide), if_neg (by decide), if_pos rfl, if_neg (show ¬ ((9 : Int) = 8) by decide)] at this
  rw [show (loY n + hiY n * 256).toNat = n by unfold loY hiY; omega] at this
  exact this
/-- A block's bytes; beg says where blocks begin. -/
def tstY (beg : Nat → Nat) (b : Blk) : List Int := if 0 ≤ b.test then [72 + b.test, loY (beg b.els.toNat), hiY (beg b.els.toNat)] else []
def endY (beg : Nat → Nat) (i : Nat) (b : Blk) : List Int := if b.thn < 0 then [0] else if b.thn ≠ (i : Int) + 1 then [64, loY (beg b.thn.toNat), hiY (beg b.thn.toNat)] else []
def blkY (beg : Nat → Nat) (i : Nat) (b : Blk) : List Int := codeY b.code ++ (tstY beg b ++ endY beg i b)
def lenY (i : Nat) (b : Blk) : Nat := (codeY b.code).length + ((if 0 ≤ b.test then 3 else 0) + (if b.thn < 0 then 1 else if b.thn ≠ (i : Int) + 1 then 3 else 0))
theorem blkY_len (beg : Nat → Nat) (i : Nat) (b : Blk) : (blkY beg i b).length = lenY i b := by
  unfold blkY lenY tstY endY
  rw [List.length_append, List.length_append]
  congr 1
  congr 1
  · split <;> rfl
  · split
    · rfl
    · split <;> rfl
/-- Is there a stop at place k? -/
def StopM (c : List Int) (k : Nat) : Prop := ordIs c k ∧ (ordAt c k).op = 0
theorem stop_of {c : List Int} {k : Nat} (h : HasAt c k [0]) : StopM c k := by
  obtain ⟨h1, h3⟩ := h
  have e0 : c.getD k 0 = 0 := h3 0 (by simp)
  simp at h1
  refine ⟨⟨by omega, ?_, ?_⟩, ?_⟩
  · rw [e0]; decide
  · rw [e0, show mSize 0 = 1 from rfl]; omega
  · unfold ordAt ordOf
    rw [e0]; rfl
theorem blk_go {c : List Int} {beg : Nat → Nat} {i : Nat} {b : Blk} {vars : Int} {bx : Int} {v : List Int} (hv : vars ≤ 6) (hs : ∀ s ∈ b.code, SOk vars s) (ht : b.test < vars)
    (hb : b.thn = (i : Int) + 1 → beg (i + 1) = beg i + lenY i b) (h : HasAt c (beg i) (blkY beg i b)) :
    ∃ m b', m ≤ 3 * b.code.length + 2 ∧
      (if 0 ≤ b.test ∧ (dgR v b.code).getD b.test.toNat 0 = 0 then GoM c m ⟨beg i, bx, v⟩ ⟨beg b.els.toNat, b', dgR v b.code⟩
       else if 0 ≤ b.thn then GoM c m ⟨beg i, bx, v⟩ ⟨beg b.thn.toNat, b', dgR v b.code⟩
       else ∃ k, GoM c m ⟨beg i, bx, v⟩ ⟨k, b', dgR v b.code⟩ ∧ StopM c k) := by
  have h1 : HasAt c (beg i) (codeY b.code ++ (tstY beg b ++ endY beg i b)) := h
  obtain ⟨m, b1, hm, g1⟩ := code_go (b := bx) (v := v) hv b.code _ hs h1.left
  have h2 := h1.right
  -- behind the test
  have key : ∀ (m : Nat) (x : Nat), m ≤ 3 * b.code.length + 1 → x = beg i + (codeY b.code).length + (tstY beg b).length → GoM c m ⟨beg i, bx, v⟩ ⟨x, b1, dgR v b.code⟩ →
      ∃ m b', m ≤ 3 * b.code.length + 2 ∧ (if 0 ≤ b.thn then GoM c m ⟨beg i, bx, v⟩ ⟨beg b.thn.toNat, b', dgR v b.code⟩ else ∃ k, GoM c m ⟨beg i, bx, v⟩ ⟨k, b', dgR v b.code⟩ ∧ StopM c k) := fun m x hm hx g => by
    have h3 := h2.right
    rw [← hx] at h3
    by_cases h0 : b.thn < 0
    · have e : endY beg i b = [0] := by unfold endY; rw [if_pos h0]
      rw [e] at h3
      refine ⟨m, b1, by omega, ?_⟩
      rw [if_neg (by omega)]
      exact ⟨x, g, stop_of h3⟩
    · by_cases hi : b.thn = (i : Int) + 1
      · refine ⟨m, b1, by omega, ?_⟩
        rw [if_pos (by omega)]
        have e1 : b.thn.toNat = i + 1 := by omega
        have e2 : endY beg i b = [] := by unfold endY; rw [if_neg h0, if_neg (by simpa using hi)]
        have hl := blkY_len beg i b
        unfold blkY at hl
        rw [e2, List.append_nil, List.length_append] at hl
        rw [e1, hb hi, ← hl, ← Nat.add_assoc, ← hx]
        exact g
      · have e : endY beg i b = [64, loY (beg b.thn.toNat), hiY (beg b.thn.toNat)] := by unfold endY; rw [if_neg h0, if_pos hi]
        rw [e] at h3
        refine ⟨m + 1, b1, by omega, ?_⟩
        rw [if_pos (by omega)]
        exact g.trans (jump_go h3)
  by_cases ht0 : 0 ≤ b.test
  · have e : tstY beg b = [72 + b.test, loY (beg b.els.toNat), hiY (beg b.els.toNat)] := by unfold tstY; rw [if_pos ht0]
    have h4 := h2.left
    rw [e] at h4
    have g2 := zero_go (b := b1) (v := dgR v b.code) h4 ht0 (by omega)
    by_cases hz : (dgR v b.code).getD b.test.toNat 0 = 0
    · rw [if_pos hz] at g2
      refine ⟨m + 1, b1, by omega, ?_⟩
      rw [if_pos ⟨ht0, hz⟩]
      exact g1.trans g2
    · rw [if_neg hz] at g2
      obtain ⟨m2, b2, h5, h6⟩ := key (m + 1) _ (by omega) (by rw [e]; rfl) (g1.trans g2)
      refine ⟨m2, b2, h5, ?_⟩
      rw [if_neg (fun h => hz h.2)]
      exact h6
  · have e : tstY beg b = [] := by unfold tstY; rw [if_neg ht0]
    obtain ⟨m2, b2, h5, h6⟩ := key m _ (by omega) (by rw [e]; rfl) g1
    refine ⟨m2, b2, h5, ?_⟩
    rw [if_neg (fun h => ht0 h.1)]
    exact h6
def begY (p : List Blk) (i : Nat) : Nat := ((List.range i).map fun j => lenY j (p.getD j bnul)).sum
theorem begY_succ (p : List Blk) (i : Nat) : begY p (i + 1) = begY p i + lenY i (p.getD i bnul) := by
  unfold begY
  rw [List.range_succ, List.map_append, List.sum_append]
  simp
def preY (p : List Blk) (i : Nat) : List Int := ((List.range i).map fun j => blkY (begY p) j (p.getD j bnul)).flatten
theorem preY_succ (p : List Blk) (i : Nat) : preY p (i + 1) = preY p i ++ blkY (begY p) i (p.getD i bnul) := by
  unfold preY
  rw [List.range_succ, List.map_append, List.flatten_append]
  simp
theorem preY_len (p : List Blk) : ∀ i, (preY p i).length = begY p i
  | 0 => rfl
  | i + 1 => by rw [preY_succ, List.length_append, preY_len p i, blkY_len, begY_succ]
theorem preY_split (p : List Blk) {i : Nat} : ∀ {n : Nat}, i < n → ∃ r, preY p n = preY p i ++ (blkY (begY p) i (p.getD i bnul) ++ r)
  | 0, h => absurd h (Nat.not_lt_zero _)
  | n + 1, h => by
    rcases Nat.lt_or_ge i n with h1 | h1
    · obtain ⟨r, e⟩ := preY_split p h1
      exact ⟨r ++ blkY (begY p) n (p.getD n bnul), by rw [preY_succ, e, List.append_assoc, List.append_assoc]⟩
    · have : i = n := by omega
      subst this
      exact ⟨[], by rw [preY_succ, List.append_nil]⟩
/-- A program's bytes. -/
def progY (p : List Blk) : List Int := preY p p.length
theorem progY_has {p : List Blk} {i : Nat} (h : i < p.length) : HasAt (progY p) (begY p i) (blkY (begY p) i (p.getD i bnul)) := by
  obtain ⟨r, e⟩ := preY_split p h
  have hall : HasAt (progY p) 0 (preY p i ++ (blkY (begY p) i (p.getD i bnul) ++ r)) := by
    unfold progY
    rw [e]
    refine ⟨by omega, fun j hj => ?_⟩
    rw [Nat.zero_add, List.getD_eq_getElem?_getD, List.getElem?_eq_getElem hj]; rfl
  have := hall.right.left
  rwa [preY_len, Nat.zero_add] at this
theorem getD_pad {r z : List Int} {i : Int} (h0 : 0 ≤ i) (h : i < (r.length : Int)) : (r ++ z).getD i.toNat 0 = r.getD i.toNat 0 := by
  rw [List.getD_eq_getElem?_getD, List.getD_eq_getElem?_getD, List.getElem?_append_left (by omega)]
theorem dg1_pad {vars : Int} {r z : List Int} {s : Step} (hr : (r.length : Int) = vars) (hs : SOk vars s) : dg1 (r ++ z) s = dg1 r s ++ z := by
  obtain ⟨o1, o6, on, ov, ot, oa⟩ := hs
  unfold dg1
  rw [List.set_append_left _ _ (by omega)]
  congr 2
  by_cases e1 : s.op = 1
  · rw [if_pos e1, if_pos e1]
  · rw [if_neg e1, if_neg e1]
    by_cases e2 : s.op = 2
    · rw [if_pos e2, if_pos e2, getD_pad (ov e2).1 (by rw [hr]; exact (ov e2).2)]
    · rw [if_neg e2, if_neg e2]
      obtain ⟨a1, a2⟩ := oa (by omega)
      rw [getD_pad a1.1 (by rw [hr]; exact a1.2), getD_pad a2.1 (by rw [hr]; exact a2.2)]
theorem dgR_pad {vars : Int} {z : List Int} : ∀ (c : List Step) {r : List Int}, (r.length : Int) = vars → (∀ s ∈ c, SOk vars s) → dgR (r ++ z) c = dgR r c ++ z
  | [], _, _, _ => rfl
  | s :: c, r, hr, hs => by
    show dgR (dg1 (r ++ z) s) c = dgR (dg1 r s) c ++ z
    rw [dg1_pad hr (hs s List.mem_cons_self)]
    exact dgR_pad c (by rw [dg1_len]; exact hr) (fun s' h => hs s' (List.mem_cons_of_mem _ h))
/-- The bytes go as the blocks go. -/
theorem prog_go {vars : Int} {p : List Blk} {v : List Int} (hp : POk vars p) (hl : (v.length : Int) = vars) (hv : ∀ x ∈ v, 0 ≤ x ∧ x ≤ 255) (z : List Int) : ∀ k, runsB p v k →
    ∃ m b', m ≤ 62 * k ∧ (if 0 ≤ (stB p v k).1 then GoM (progY p) m ⟨0, 0, v ++ z⟩ ⟨begY p (stB p v k).1.toNat, b', (stB p v k).2 ++ z⟩ else ∃ q, GoM (progY p) m ⟨0, 0, v ++ z⟩ ⟨q, b', (stB p v k).2 ++ z⟩ ∧ StopM (progY p) q)
  | 0, _ => ⟨0, 0, Nat.zero_le _, by rw [if_pos (show (0 : Int) ≤ (stB p v 0).1 from Int.le_refl 0)]; exact rfl⟩
  | k + 1, hr => by
    have hk : runsB p v k := fun j hj => hr j (by omega)
    obtain ⟨m, b1, hm, g⟩ := prog_go hp hl hv z k hk
    have h0 := hr k (by omega)
    obtain ⟨a1, -, -, a4⟩ := st_ok hp hl hv k hk
    rw [if_pos h0] at g
    have e : stB p v (k + 1) = goB p (stB p v k).1 (stB p v k).2 := rfl
    rw [e]
    generalize stB p v k = st at *
    obtain ⟨i, v'⟩ := st
    dsimp only at h0 a1 a4 g ⊢
    obtain ⟨n, rfl⟩ := Int.eq_ofNat_of_zero_le h0
    have hn : n < p.length := by omega
    rw [Int.toNat_natCast] at g
    have hbo := hp.bs _ (List.getElem_mem hn)
    rw [← bget hn] at hbo
    have hmany : (p.getD n bnul).code.length ≤ 20 := by
      have h1 := manyB_mem (List.getElem_mem hn)
      have h2 := hp.many
      rw [bget hn]
      omega
    have hg := blk_go (bx := b1) (v := v' ++ z) hp.v6 hbo.code hbo.hi (fun _ => begY_succ p n) (progY_has hn)
    unfold goB
    dsimp only
    rw [Int.toNat_natCast]
    generalize p.getD n bnul = bl at *
    rw [dgR_pad _ a1 hbo.code] at hg
    obtain ⟨m2, b2, hm2, g2⟩ := hg
    refine ⟨m + m2, b2, by omega, ?_⟩
    have hiff : (0 ≤ bl.test ∧ (dgR v' bl.code ++ z).getD bl.test.toNat 0 = 0) ↔ (0 ≤ bl.test ∧ (dgR v' bl.code).getD bl.test.toNat 0 = 0) := and_congr_right fun h => by rw [getD_pad h (by rw [dgR_len, a1]; exact hbo.hi)]
    by_cases hz : 0 ≤ bl.test ∧ (dgR v' bl.code).getD bl.test.toNat 0 = 0
    · rw [if_pos (hiff.2 hz)] at g2
      rw [if_pos hz]
      rw [if_pos (hbo.two hz.1).2.1]
      exact g.trans g2
    · rw [if_neg (fun h => hz (hiff.1 h))] at g2
      rw [if_neg hz]
      by_cases ht : 0 ≤ bl.thn
      · rw [if_pos ht] at g2 ⊢
        exact g.trans g2
      · rw [if_neg ht] at g2 ⊢
        obtain ⟨q, g3, g4⟩ := g2
        exact ⟨q, g.trans g3, g4⟩
end Go.Proofs.Ytmgejacndhnikaa
