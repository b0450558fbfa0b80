/- MachSame, plain: how long the bytes are, and that they are bytes. -/
import Derived.Test.YtmgejacndhnikaaMchP
namespace Go.Proofs.Ytmgejacndhnikaa

def BdY (l : List Int) : Prop := ∀ x ∈ l, 0 ≤ x ∧ x ≤ 255
theorem BdY.app {x y : List Int} (h : BdY x) (k : BdY y) : BdY (x ++ y) := fun z hz => (List.mem_append.1 hz).elim (h z) (k z)
theorem stepY_len (s : Step) : (stepY s).length ≤ 3 := by unfold stepY; split <;> (try split) <;> simp
theorem stepY_bd {vars : Int} {s : Step} (hv : vars ≤ 6) (hs : SOk vars s) : BdY (stepY s) := by
  obtain ⟨o1, o6, on, ov, ot, oa⟩ := hs
  intro x hx
  unfold stepY at hx
  by_cases e1 : s.op = 1
  · rw [if_pos e1] at hx
    have := on e1
    simp at hx
    omega
  · by_cases e2 : s.op = 2
    · rw [if_neg e1, if_pos e2] at hx
      have := ov e2
      simp at hx
      omega
    · rw [if_neg e1, if_neg e2] at hx
      have := oa (by omega)
      simp at hx
      omega
theorem codeY_len : ∀ l : List Step, (codeY l).length ≤ 3 * l.length
  | [] => Nat.le_refl _
  | s :: r => by
    have h1 := codeY_len r
    have h2 := stepY_len s
    show (stepY s ++ codeY r).length ≤ _
    rw [List.length_append, List.length_cons]
    omega
theorem codeY_bd {vars : Int} (hv : vars ≤ 6) : ∀ {l : List Step}, (∀ s ∈ l, SOk vars s) → BdY (codeY l)
  | [], _ => fun x hx => by cases hx
  | s :: r, h => (stepY_bd hv (h s List.mem_cons_self)).app (codeY_bd hv (fun s' h' => h s' (List.mem_cons_of_mem _ h')))
theorem lenY_le (i : Nat) (b : Blk) : lenY i b ≤ 3 * b.code.length + 6 := by
  have := codeY_len b.code
  unfold lenY
  split <;> split <;> (try split) <;> omega
theorem begY_le (p : List Blk) : ∀ i, i ≤ p.length → begY p i ≤ 3 * manyB (p.take i) + 6 * i
  | 0, _ => Nat.zero_le _
  | i + 1, h => by
    have h1 := begY_le p i (by omega)
    have h2 := lenY_le i (p.getD i bnul)
    rw [begY_succ]
    rw [bget (by omega)] at h2 ⊢
    have e : manyB (p.take (i + 1)) = manyB (p.take i) + p[i].code.length := by
      unfold manyB
      rw [List.take_succ_eq_append_getElem (by omega), List.map_append, List.sum_append]
      simp
    omega
theorem manyB_take (p : List Blk) (i : Nat) : manyB (p.take i) ≤ manyB p := by
  have e : manyB p = manyB (p.take i) + manyB (p.drop i) := by
    conv => lhs; rw [← List.take_append_drop i p]
    unfold manyB
    rw [List.map_append, List.sum_append]
  omega
theorem begY_108 {vars : Int} {p : List Blk} (hp : POk vars p) {i : Nat} (hi : i ≤ p.length) : begY p i ≤ 108 := by
  have h1 := begY_le p i hi
  have h2 := manyB_take p i
  have h3 := hp.many
  have h4 := hp.n8
  omega
theorem progY_len {vars : Int} {p : List Blk} (hp : POk vars p) : (progY p).length ≤ 108 := by
  unfold progY
  rw [preY_len]
  exact begY_108 hp (Nat.le_refl _)
theorem loY_bd {n : Nat} (h : n ≤ 255) : (0 ≤ loY n ∧ loY n ≤ 255) ∧ 0 ≤ hiY n ∧ hiY n ≤ 255 := by unfold loY hiY; omega
theorem blkY_bd {vars : Int} {p : List Blk} (hp : POk vars p) {i : Nat} (hi : i < p.length) : BdY (blkY (begY p) i (p.getD i bnul)) := by
  have hbo := hp.bs _ (List.getElem_mem hi)
  rw [bget hi]
  generalize p[i] = b at *
  have v6 := hp.v6
  have hb : ∀ x : Int, x < p.length → begY p x.toNat ≤ 255 := fun x hx => by have := begY_108 hp (i := x.toNat) (by omega); omega
  refine (codeY_bd hp.v6 hbo.code).app (BdY.app (fun x hx => ?_) (fun x hx => ?_))
  · unfold tstY at hx
    split at hx
    · rename_i h0
      have h1 := loY_bd (hb b.els (hbo.two h0).2.2)
      have h2 := hbo.hi
      simp at hx
      rcases hx with rfl | rfl | rfl
      · omega
      · exact h1.1
      · exact h1.2
    · cases hx
  · unfold endY at hx
    split at hx
    · simp at hx; omega
    · rename_i h0
      split at hx
      · have h3 : b.thn < p.length := by
          by_cases ht : 0 ≤ b.test
          · exact (hbo.two ht).1.2
          · have := hbo.one (by have := hbo.lo; omega)
            omega
        have h1 := loY_bd (hb b.thn h3)
        simp at hx
        rcases hx with rfl | rfl | rfl
        · omega
        · exact h1.1
        · exact h1.2
      · cases hx
theorem progY_bd {vars : Int} {p : List Blk} (hp : POk vars p) : BdY (progY p) := by
  have key : ∀ n, n ≤ p.length → BdY (preY p n) := fun n => by
    induction n with
    | zero => intro _ x hx; cases hx
    | succ n ih =>
      intro h
      rw [preY_succ]
      exact (ih (by omega)).app (blkY_bd hp (by omega))
  exact key _ (Nat.le_refl _)
/-- Places that lie order behind order. -/
def WalksTo (c : List Int) : Nat → Nat → Nat → Prop
  | 0, a, b => a = b
  | n + 1, a, b => ordIs c a ∧ WalksTo c n (a + (mSize (c.getD a 0)).toNat) b
theorem WalksTo.trans {c : List Int} : ∀ {n m a b d : Nat}, WalksTo c n a b → WalksTo c m b d → WalksTo c (n + m) a d
  | 0, m, a, b, d, h, k => by cases h; rw [Nat.zero_add]; exact k
  | n + 1, m, a, b, d, h, k => by rw [Nat.succ_add]; exact ⟨h.1, h.2.trans k⟩
/-- One order of n bytes. -/
theorem walk_one {c : List Int} {k n : Nat} {y : Int} {r : List Int} (h : HasAt c k (y :: r)) (hn : n = (y :: r).length) (hs : mSize y = (n : Int)) : WalksTo c 1 k (k + n) := by
  have e0 : c.getD k 0 = y := h.2 0 (by simp)
  have h1 := h.1
  rw [← hn] at h1
  have hn0 : 0 < n := by rw [hn]; simp
  refine ⟨⟨by omega, by rw [e0, hs]; omega, by rw [e0, hs]; omega⟩, ?_⟩
  show k + (mSize (c.getD k 0)).toNat = k + n
  rw [e0, hs]; rfl
/-- Bytes that are orders, wherever they lie. -/
def OrdY (bs : List Int) : Prop := ∀ (c : List Int) (k : Nat), HasAt c k bs → ∃ n, WalksTo c n k (k + bs.length)
theorem OrdY.nil : OrdY [] := fun _ _ _ => ⟨0, rfl⟩
theorem OrdY.app {x y : List Int} (h : OrdY x) (k : OrdY y) : OrdY (x ++ y) := fun c q hq => by
  obtain ⟨n, h1⟩ := h c q hq.left
  obtain ⟨m, h2⟩ := k c _ hq.right
  refine ⟨n + m, ?_⟩
  rw [List.length_append, ← Nat.add_assoc]
  exact h1.trans h2
theorem OrdY.one {y : Int} {r : List Int} (hs : mSize y = ((y :: r).length : Int)) : OrdY (y :: r) := fun _ _ hq => ⟨1, walk_one hq rfl hs⟩
theorem size1 {y : Int} (h2 : 2 ≤ y / 8) (h7 : y / 8 ≤ 7) (h6 : y % 8 < 6) : mSize y = 1 := by
  unfold mSize
  rw [if_neg (by omega), if_neg (by omega), if_neg (by omega), if_neg (by omega), if_neg (by omega), if_neg (by omega)]
theorem stepY_ord {vars : Int} {s : Step} (hv : vars ≤ 6) (hs : SOk vars s) : OrdY (stepY s) := by
  obtain ⟨o1, o6, on, ov, ot, oa⟩ := hs
  have hput : OrdY [24 + s.to] := OrdY.one (size1 (by omega) (by omega) (by omega))
  unfold stepY
  by_cases e1 : s.op = 1
  · rw [if_pos e1]
    exact OrdY.app (x := [8, s.val]) (OrdY.one rfl) hput
  · rw [if_neg e1]
    by_cases e2 : s.op = 2
    · rw [if_pos e2]
      have := ov e2
      exact OrdY.app (x := [16 + s.val]) (OrdY.one (size1 (by omega) (by omega) (by omega))) hput
    · rw [if_neg e2]
      have := oa (by omega)
      exact OrdY.app (x := [16 + s.a]) (OrdY.one (size1 (by omega) (by omega) (by omega))) (OrdY.app (x := [(s.op - 3 + 4) * 8 + s.b]) (OrdY.one (size1 (by omega) (by omega) (by omega))) hput)
theorem codeY_ord {vars : Int} (hv : vars ≤ 6) : ∀ {l : List Step}, (∀ s ∈ l, SOk vars s) → OrdY (codeY l)
  | [], _ => OrdY.nil
  | s :: _, h => (stepY_ord hv (h s List.mem_cons_self)).app (codeY_ord hv (fun s' h' => h s' (List.mem_cons_of_mem _ h')))
theorem blkY_ord {vars n : Int} (hv : vars ≤ 6) (beg : Nat → Nat) (i : Nat) {b : Blk} (hb : BOk vars n b) : OrdY (blkY beg i b) := by
  refine (codeY_ord hv hb.code).app (OrdY.app ?_ ?_)
  · unfold tstY
    split
    · have := hb.hi
      refine OrdY.one ?_
      show mSize (72 + b.test) = 3
      unfold mSize
      rw [if_neg (by omega), if_neg (by omega), if_neg (by omega), if_neg (by omega), if_neg (by omega), if_pos (by omega)]
    · exact OrdY.nil
  · unfold endY
    split
    · exact OrdY.one rfl
    · split
      · exact OrdY.one rfl
      · exact OrdY.nil
/-- The bytes are orders, one behind the other. -/
theorem progY_ord {vars : Int} {p : List Blk} (hp : POk vars p) : ∃ n, WalksTo (progY p) n 0 (progY p).length := by
  have key : ∀ n, n ≤ p.length → OrdY (preY p n) := fun n => by
    induction n with
    | zero => intro _; exact OrdY.nil
    | succ n ih =>
      intro h
      rw [preY_succ]
      refine (ih (by omega)).app (blkY_ord hp.v6 _ _ (n := p.length) ?_)
      rw [bget (by omega)]
      exact hp.bs _ (List.getElem_mem (by omega))
  obtain ⟨n, h⟩ := key _ (Nat.le_refl _) (progY p) 0 ⟨by unfold progY; omega, fun j hj => by rw [Nat.zero_add, List.getD_eq_getElem?_getD]; unfold progY; rw [List.getElem?_eq_getElem hj]; rfl⟩
  rw [Nat.zero_add] at h
  exact ⟨n, h⟩
end Go.Proofs.Ytmgejacndhnikaa
