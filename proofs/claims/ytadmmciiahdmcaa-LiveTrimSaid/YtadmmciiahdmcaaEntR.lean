/- Rows of blocks that the call made; slices.Clone of blocks; slices.Reverse of steps. -/
import Derived.Test.YtadmmciiahdmcaaBlkA
import Derived.Test.YtadmmciiahdmcaaBlkF
import Derived.Test.YtadmmciiahdmcaaAppN
import Derived.Test.YtadmmciiahdmcaaBlkH
import Derived.Lib.SliceRun
import Derived.StillTailTactics
namespace Go.Proofs.Ytadmmciiahdmcaa
set_option maxRecDepth 100000
open Go.RowKit

theorem flat_one {α : Type} (f : α → Value) : ∀ l : List α, l.flatMap (fun i => [f i]) = l.map f
  | [] => rfl
  | x :: r => by rw [List.flatMap_cons, flat_one f r]; rfl
theorem own_ty {α : Type} {f : α → List Value} {size base E g : Nat} {w : World} {v : Value} {l : List α} (h : Own f size w base E v l) (hg : v.ownBlock = some g) : ∃ cur, w.heap[g]? = some (.cells cur E (0, 0)) := by
  rcases h.2 with ⟨h3, _⟩ | ⟨g', cap, cur, rfl, _, h4, _⟩
  · rw [h3] at hg; cases hg
  · injection hg with hg
    subst hg
    exact ⟨cur, h4⟩
theorem kept_ty {α β : Type} {f : α → List Value} {g : β → List Value} {size size' b b' E E' : Nat} {w w' : World} {u u' : Value} {x : List α} {y : List β} (h : Own f size w b E u x) (h' : Own g size' w b' E' u' y) (hne : E ≠ E') (hg : w.grownBy w' u'.ownBlock) : Own f size w' b E u x := by
  refine h.kept hg ?_
  rcases e : u.ownBlock with _ | k
  · exact .inl rfl
  · refine .inr fun e' => ?_
    obtain ⟨c, hc⟩ := own_ty h e
    obtain ⟨c', hc'⟩ := own_ty h' e'.symm
    rw [hc] at hc'
    injection hc' with hc'
    injection hc' with _ hc'
    exact hne hc'
/-- A row abides where the blocks of its element type do. -/
theorem own_tyk {α : Type} {f : α → List Value} {size base E : Nat} {w w' : World} {v : Value} {l : List α} (h : Own f size w base E v l) (hk : ∀ (k : Nat) (a : Array Value), w.heap[k]? = some (Obj.cells a E (0, 0)) → w'.heap[k]? = some (Obj.cells a E (0, 0))) : Own f size w' base E v l := by
  refine ⟨h.1, ?_⟩
  rcases h.2 with h3 | ⟨g, cap, cur, h1, h2, h3, h4⟩
  · exact .inl h3
  · exact .inr ⟨g, cap, cur, h1, h2, hk _ _ h3, h4⟩
/-- An entry of a row of blocks. -/
structure Ent where
  A : Option Addr
  n : Nat
  cap : Nat
  test : Int
  thn : Int
  els : Int
def Ent.cells (e : Ent) : List Value := [.slice e.A e.n e.cap, .int .i64 e.test, .int .i64 e.thn, .int .i64 e.els]
theorem entCells_len (e : Ent) : e.cells.length = 4 := rfl
theorem entCells_one (e : Ent) : ∀ u ∈ e.cells, u.oneCell' = true := by intro u hu; simp [Ent.cells] at hu; rcases hu with rfl | rfl | rfl | rfl <;> rfl
theorem infoBlk : (Try.prog.info? 25).map (fun i => (i.zero, i.size, i.bytes)) = some (some (.agg #[.slice none 0 0, .int .i64 0, .int .i64 0, .int .i64 0]), 4, 48) := by kernel_rfl
theorem wpList_appBk {w : World} {ops : Array Oper} {rest : List Oper} {o : Oper} {a : Act} {Q : Exit → Act → World → Prop} (hgd : o.guard = none) (s x : Operand)
    (ho : o.op = .call { callee := .builtin .append, args := #[s, x], argTypes := #[26, 26] })
    (base : Nat) (v : Value) (l : List Ent) (y : Ent) (hs : a.eval s = v) (hown : Own Ent.cells 4 w base 25 v l) (S c : Nat) (hx : a.eval x = .slice (some ⟨S, 0, none⟩) 1 c)
    (hnew : ∀ j, j < 4 → w.cell? ⟨S, j, none⟩ = y.cells[j]?) (hlen : l.length < 1000000) (hbase : base ≤ w.heap.size)
    (h : ∀ v' w', Own Ent.cells 4 w' base 25 v' (l ++ [y]) → w.grownBy w' v.ownBlock → wpList Try.prog ops Q rest (a.put o.dst v') w') : wpList Try.prog ops Q (o :: rest) a w :=
  wpList_app1 hgd s x 26 ho Ent.cells 4 48 25 (.agg #[.slice none 0 0, .int .i64 0, .int .i64 0, .int .i64 0]) Try.underlying26 infoBlk rfl (by decide) entCells_len entCells_one base v l y hs hown S c hx hnew (by unfold maxLen; omega) (by omega) hbase h
theorem Own.setJ {base E size n cap g : Nat} {w : World} {xs : List Value} (h : w.ownsRow base E size (.slice (some ⟨g, 0, none⟩) n cap) n xs) {j : Nat} (hj : j < n * size) (v : Value) : (w.setCell ⟨g, j, none⟩ v).ownsRow base E size (.slice (some ⟨g, 0, none⟩) n cap) n (xs.set j v) := by
  refine ⟨by rw [List.length_set]; exact h.1, ?_⟩
  rcases h.2 with ⟨h3, _⟩ | ⟨g', cap', cur, e, h2, h3, h4, h5, h6, h7⟩
  · cases h3
  · injection e with e1 e2 e3
    injection e1 with e1
    injection e1 with e1
    subst e1 e3
    refine .inr ⟨g, cap, cur.setIfInBounds j v, rfl, h2, ?_, h4, h5, by rw [Array.size_setIfInBounds]; exact h6, ?_⟩
    · obtain ⟨hlt, hv⟩ := Array.getElem?_eq_some_iff.1 h3
      unfold World.setCell
      rw [Array.getElem?_eq_getElem (by simpa using hlt), Array.getElem_modify]
      simp [hv]
    · rw [← h7]
      refine List.ext_getElem? fun i => ?_
      rw [List.getElem?_take, List.getElem?_set, List.getElem?_take, Array.toList_setIfInBounds, List.getElem?_set]
      by_cases hi : i < n * size
      · rw [if_pos hi, if_pos hi]
        by_cases e : j = i
        · subst e
          rw [if_pos rfl, if_pos rfl]
          have hc : j < cur.toList.length := by rw [Array.length_toList, h6]; exact Nat.lt_of_lt_of_le hj (Nat.mul_le_mul_right _ h4)
          have hc2 : j < (cur.toList.take (n * size)).length := by rw [List.length_take]; omega
          rw [if_pos hc, if_pos hc2]
        · rw [if_neg e, if_neg e]
      · rw [if_neg hi, if_neg hi]
        split
        · omega
        · rfl
theorem flat_set {α : Type} {f : α → List Value} {size : Nat} (hf : ∀ x, (f x).length = size) : ∀ (l : List α) (i j : Nat) (v : Value) (y : α) (hi : i < l.length), j < size → f y = (f l[i]).set j v → (l.flatMap f).set (i * size + j) v = (l.set i y).flatMap f
  | x :: r, 0, j, v, y, _, hj, hy => by
    rw [List.set_cons_zero, List.flatMap_cons, List.flatMap_cons, Nat.zero_mul, Nat.zero_add, List.set_append_left _ _ (by rw [hf]; exact hj), hy]; rfl
  | x :: r, i + 1, j, v, y, hi, hj, hy => by
    have ih := flat_set hf r i j v y (by simpa using hi) hj hy
    rw [List.set_cons_succ, List.flatMap_cons, List.flatMap_cons, List.set_append_right _ _ (by rw [hf, Nat.succ_mul]; omega), hf, ← ih]
    congr 2
    rw [Nat.succ_mul]; omega
/-- Blocks that lie somewhere, as entries. -/
theorem ents_of {w : World} {A : Option Addr} {l : List Blk} (h : RdBk w A l) : ∃ es : List Ent, es.length = l.length ∧ Rd Ent.cells 4 w A es ∧ ∀ (i : Nat) (e : Ent) (b : Blk), es[i]? = some e → l[i]? = some b → e.n = b.code.length ∧ e.test = b.test ∧ e.thn = b.thn ∧ e.els = b.els ∧ RdSt w e.A b.code := by
  rcases Nat.eq_zero_or_pos l.length with h0 | h0
  · have : l = [] := List.eq_nil_of_length_eq_zero h0
    subst this
    exact ⟨[], rfl, fun h => by simp at h, fun i e b h => by simp at h⟩
  obtain ⟨b, off, rfl, hb, hc⟩ := h h0
  have key : ∀ k, ∃ (A' : Option Addr) (cap' : Nat), ∀ x, l[k]? = some x → w.cell? ⟨b, off + k * 4, none⟩ = some (.slice A' x.code.length cap') ∧ w.cell? ⟨b, off + k * 4 + 1, none⟩ = some (.int .i64 x.test) ∧ w.cell? ⟨b, off + k * 4 + 2, none⟩ = some (.int .i64 x.thn) ∧ w.cell? ⟨b, off + k * 4 + 3, none⟩ = some (.int .i64 x.els) ∧ RdSt w A' x.code := fun k => by
    by_cases hk : k < l.length
    · obtain ⟨A', cap', h1⟩ := hc k _ (List.getElem?_eq_getElem hk)
      exact ⟨A', cap', fun x hx => by rw [List.getElem?_eq_getElem hk] at hx; injection hx with hx; rw [← hx]; exact h1⟩
    · exact ⟨none, 0, fun x hx => by rw [List.getElem?_eq_none (by omega)] at hx; cases hx⟩
  have hget : ∀ (i : Nat) (e : Ent), ((List.range l.length).map fun k => (⟨(key k).choose, (l.getD k bnul).code.length, (key k).choose_spec.choose, (l.getD k bnul).test, (l.getD k bnul).thn, (l.getD k bnul).els⟩ : Ent))[i]? = some e → i < l.length ∧ e = ⟨(key i).choose, (l.getD i bnul).code.length, (key i).choose_spec.choose, (l.getD i bnul).test, (l.getD i bnul).thn, (l.getD i bnul).els⟩ := fun i e he => by
    have hi := (List.getElem?_eq_some_iff.1 he).1
    simp at hi
    rw [List.getElem?_map, List.getElem?_range hi] at he
    injection he with he
    exact ⟨hi, he.symm⟩
  refine ⟨(List.range l.length).map fun k => ⟨(key k).choose, (l.getD k bnul).code.length, (key k).choose_spec.choose, (l.getD k bnul).test, (l.getD k bnul).thn, (l.getD k bnul).els⟩, by simp, fun _ => ⟨b, off, rfl, hb, fun k x hx j hj => ?_⟩, fun i e c he hcc => ?_⟩
  · obtain ⟨hi, rfl⟩ := hget k x hx
    obtain ⟨g0, g1, g2, g3, _⟩ := (key k).choose_spec.choose_spec _ (List.getElem?_eq_getElem hi)
    rw [← bget hi] at g0 g1 g2 g3
    rcases j with _ | _ | _ | _ | j
    · exact g0
    · exact g1
    · exact g2
    · exact g3
    · omega
  · obtain ⟨hi, rfl⟩ := hget i e he
    have hs := (key i).choose_spec.choose_spec _ hcc
    have hgd : l.getD i bnul = c := by rw [List.getD_eq_getElem?_getD, hcc]; rfl
    dsimp only
    rw [hgd]
    exact ⟨rfl, rfl, rfl, rfl, hs.2.2.2.2⟩
set_option maxHeartbeats 1000000 in
theorem cloneBk_calls (A : Option Addr) (l : List Ent) (cap : Nat) (w : World) (hA : Rd Ent.cells 4 w A l) (h1 : 1 ≤ l.length) (h16 : l.length ≤ 1000) :
    Calls Try.prog 46 #[.slice A l.length cap] w fun e w' => ∃ v, e = .returned v ∧ Own Ent.cells 4 w' w.heap.size 25 v l ∧ Below w.heap.size w w' := by
  have HA := Lib.hid hA
  obtain ⟨b, off, rfl, hb, -⟩ := hA (by omega)
  clear hA
  have HE := Lib.hid (own_new Ent.cells 4 25 entCells_len w w.heap.size (Nat.le_refl _) [] (by simp [maxLen]))
  have HR := Lib.hid (Rd.below HA.out ((Below.refl w.heap.size w).alloc (Nat.le_refl _) (.cells #[] 25)))
  obtain ⟨v3, w3, hrun, hO3, hg3, -⟩ := run_appN (P := Try.prog) 26 26 Ent.cells 4 48 25 (.agg #[.slice none 0 0, .int .i64 0, .int .i64 0, .int .i64 0]) Try.underlying26 infoBlk rfl (by decide) entCells_len entCells_one w.heap.size _ [] HE.out _ l cap HR.out (by simp [maxLen]; omega) (by simp; omega) (by simp)
  rw [List.nil_append] at hO3
  have HO3 := Lib.hid hO3
  have HW3 := Lib.hid (((Below.refl w.heap.size w).alloc (Nat.le_refl _) (.cells #[] 25)).grown hg3 (by simp) (fun k e => by have e : some w.heap.size = some k := e; injection e with e; omega))
  have Hrun := Lib.hid hrun
  clear hO3 hg3 hrun
  have q22 : ∀ (w : World) (a : Option Addr) (n c n' c' : Nat), (binOp .eql 26 (.slice a n c) (.slice none n' c')).run Try.prog w = .ok (.bool a.isNone) w := fun w a n c n' c' => Lib.run_eql_slice_nil w _ _ a n c n' c' Try.underlying26
  go_enter Try.func46, Try.ntmps46
  go_wp2_with (at_builtin; refine wpList_app_run rfl 26 _ _ rfl rfl rfl Hrun.out ?_)
  go_ret
  exact ⟨_, rfl, HO3.out, HW3.out⟩
end Go.Proofs.Ytadmmciiahdmcaa
