/- Rows of blocks that the call made; slices.Clone of blocks; slices.Reverse of steps. -/
import Derived.Test.YtmgejacndhnikaaOwnBk
import Derived.Test.YtmgejacndhnikaaBlkA
import Derived.Test.YtmgejacndhnikaaBlkH
import Derived.Test.YtmgejacndhnikaaAppN
import Derived.Lib.SliceRun
import Derived.StillTailTactics
import Derived.Deep.RegionHeld3
namespace Go.Proofs.Ytmgejacndhnikaa
set_option maxRecDepth 100000
open Go.RowKit

theorem flat_one {α : Type} (f : α → Value) : ∀ l : List α, l.flatMap (fun i => [f i]) = l.map f
  | [] => rfl
  | x :: r => by rw [List.flatMap_cons, flat_one f r]; rfl
theorem own_ty {α : Type} {f : α → List Value} {size base E g : Nat} {w : World} {v : Value} {l : List α} (h : Own f size w base E v l) (hg : v.ownBlock = some g) : ∃ cur, w.heap[g]? = some (.cells cur E (0, 0)) := by
  rcases h.2 with ⟨h3, _⟩ | ⟨g', cap, cur, rfl, _, h4, _⟩
  · rw [h3] at hg; cases hg
  · injection hg with hg
    subst hg
    exact ⟨cur, h4⟩
theorem kept_ty {α β : Type} {f : α → List Value} {g : β → List Value} {size size' b b' E E' : Nat} {w w' : World} {u u' : Value} {x : List α} {y : List β} (h : Own f size w b E u x) (h' : Own g size' w b' E' u' y) (hne : E ≠ E') (hg : w.grownBy w' u'.ownBlock) : Own f size w' b E u x := by
  refine h.kept hg ?_
  rcases e : u.ownBlock with _ | k
  · exact .inl rfl
  · refine .inr fun e' => ?_
    obtain ⟨c, hc⟩ := own_ty h e
    obtain ⟨c', hc'⟩ := own_ty h' e'.symm
    rw [hc] at hc'
    injection hc' with hc'
    injection hc' with _ hc'
    exact hne hc'
/-- A row abides where the blocks of its element type do. -/
theorem own_tyk {α : Type} {f : α → List Value} {size base E : Nat} {w w' : World} {v : Value} {l : List α} (h : Own f size w base E v l) (hk : ∀ (k : Nat) (a : Array Value), w.heap[k]? = some (Obj.cells a E (0, 0)) → w'.heap[k]? = some (Obj.cells a E (0, 0))) : Own f size w' base E v l := by
  refine ⟨h.1, ?_⟩
  rcases h.2 with h3 | ⟨g, cap, cur, h1, h2, h3, h4⟩
  · exact .inl h3
  · exact .inr ⟨g, cap, cur, h1, h2, hk _ _ h3, h4⟩
/-- An entry of a row of blocks. -/
structure Ent where
  A : Option Addr
  n : Nat
  cap : Nat
  test : Int
  thn : Int
  els : Int
def Ent.cells (e : Ent) : List Value := [.slice e.A e.n e.cap, .int .i64 e.test, .int .i64 e.thn, .int .i64 e.els]
theorem entCells_len (e : Ent) : e.cells.length = 4 := rfl
theorem entCells_one (e : Ent) : ∀ u ∈ e.cells, u.oneCell' = true := by intro u hu; simp [Ent.cells] at hu; rcases hu with rfl | rfl | rfl | rfl <;> rfl
theorem wpList_appBk {w : World} {ops : Array Oper} {rest : List Oper} {o : Oper} {a : Act} {Q : Exit → Act → World → Prop} (hgd : o.guard = none) (s x : Operand)
    (ho : o.op = .call { callee := .builtin .append, args := #[s, x], argTypes := #[22, 22] })
    (base : Nat) (v : Value) (l : List Ent) (y : Ent) (hs : a.eval s = v) (hown : Own Ent.cells 4 w base 85 v l) (S c : Nat) (hx : a.eval x = .slice (some ⟨S, 0, none⟩) 1 c)
    (hnew : ∀ j, j < 4 → w.cell? ⟨S, j, none⟩ = y.cells[j]?) (hlen : l.length < 1000000) (hbase : base ≤ w.heap.size)
    (h : ∀ v' w', Own Ent.cells 4 w' base 85 v' (l ++ [y]) → w.grownBy w' v.ownBlock → wpList Try.prog ops Q rest (a.put o.dst v') w') : wpList Try.prog ops Q (o :: rest) a w :=
  wpList_app1 hgd s x 22 ho Ent.cells 4 48 85 (.agg #[.slice none 0 0, .int .i64 0, .int .i64 0, .int .i64 0]) Try.underlying22 infoBlk rfl (by decide) entCells_len entCells_one base v l y hs hown S c hx hnew (by unfold maxLen; omega) (by omega) hbase h
theorem Own.setJ {base E size n cap g : Nat} {w : World} {xs : List Value} (h : w.ownsRow base E size (.slice (some ⟨g, 0, none⟩) n cap) n xs) {j : Nat} (hj : j < n * size) (v : Value) : (w.setCell ⟨g, j, none⟩ v).ownsRow base E size (.slice (some ⟨g, 0, none⟩) n cap) n (xs.set j v) := by
  refine ⟨by rw [List.length_set]; exact h.1, ?_⟩
  rcases h.2 with ⟨h3, _⟩ | ⟨g', cap', cur, e, h2, h3, h4, h5, h6, h7⟩
  · cases h3
  · injection e with e1 e2 e3
    injection e1 with e1
    injection e1 with e1
    subst e1 e3
    refine .inr ⟨g, cap, cur.setIfInBounds j v, rfl, h2, ?_, h4, h5, by rw [Array.size_setIfInBounds]; exact h6, ?_⟩
    · obtain ⟨hlt, hv⟩ := Array.getElem?_eq_some_iff.1 h3
      unfold World.setCell
      rw [Array.getElem?_eq_getElem (by simpa using hlt), Array.getElem_modify]
      simp [hv]
    · rw [← h7]
      refine List.ext_getElem? fun i => ?_
      rw [List.getElem?_take, List.getElem?_set, List.getElem?_take, Array.toList_setIfInBounds, List.getElem?_set]
      by_cases hi : i < n * size
      · rw [if_pos hi, if_pos hi]
        by_cases e : j = i
        · subst e
          rw [if_pos rfl, if_pos rfl]
          have hc : j < cur.toList.length := by rw [Array.length_toList, h6]; exact Nat.lt_of_lt_of_le hj (Nat.mul_le_mul_right _ h4)
          have hc2 : j < (cur.toList.take (n * size)).length := by rw [List.length_take]; omega
          rw [if_pos hc, if_pos hc2]
        · rw [if_neg e, if_neg e]
      · rw [if_neg hi, if_neg hi]
        split
        · omega
        · rfl
theorem flat_set {α : Type} {f : α → List Value} {size : Nat} (hf : ∀ x, (f x).length = size) : ∀ (l : List α) (i j : Nat) (v : Value) (y : α) (hi : i < l.length), j < size → f y = (f l[i]).set j v → (l.flatMap f).set (i * size + j) v = (l.set i y).flatMap f
  | x :: r, 0, j, v, y, _, hj, hy => by
    rw [List.set_cons_zero, List.flatMap_cons, List.flatMap_cons, Nat.zero_mul, Nat.zero_add, List.set_append_left _ _ (by rw [hf]; exact hj), hy]; rfl
  | x :: r, i + 1, j, v, y, hi, hj, hy => by
    have ih := flat_set hf r i j v y (by simpa using hi) hj hy
    rw [List.set_cons_succ, List.flatMap_cons, List.flatMap_cons, List.set_append_right _ _ (by rw [hf, Nat.succ_mul]; omega), hf, ← ih]
    congr 2
    rw [Nat.succ_mul]; omega
/-- Blocks that lie somewhere, as entries. -/
theorem ents_of {w : World} {A : Option Addr} {l : List Blk} (h : RdBk w A l) : ∃ es : List Ent, es.length = l.length ∧ Rd Ent.cells 4 w A es ∧ ∀ (i : Nat) (e : Ent) (b : Blk), es[i]? = some e → l[i]? = some b → e.n = b.code.length ∧ e.test = b.test ∧ e.thn = b.thn ∧ e.els = b.els ∧ RdSt w e.A b.code := by
  rcases Nat.eq_zero_or_pos l.length with h0 | h0
  · have : l = [] := List.eq_nil_of_length_eq_zero h0
    subst this
    exact ⟨[], rfl, fun h => by simp at h, fun i e b h => by simp at h⟩
  obtain ⟨b, off, rfl, hb, hc⟩ := h h0
  have key : ∀ k, ∃ (A' : Option Addr) (cap' : Nat), ∀ x, l[k]? = some x → w.cell? ⟨b, off + k * 4, none⟩ = some (.slice A' x.code.length cap') ∧ w.cell? ⟨b, off + k * 4 + 1, none⟩ = some (.int .i64 x.test) ∧ w.cell? ⟨b, off + k * 4 + 2, none⟩ = some (.int .i64 x.thn) ∧ w.cell? ⟨b, off + k * 4 + 3, none⟩ = some (.int .i64 x.els) ∧ RdSt w A' x.code := fun k => by
    by_cases hk : k < l.length
    · obtain ⟨A', cap', h1⟩ := hc k _ (List.getElem?_eq_getElem hk)
      exact ⟨A', cap', fun x hx => by rw [List.getElem?_eq_getElem hk] at hx; injection hx with hx; rw [← hx]; exact h1⟩
    · exact ⟨none, 0, fun x hx => by rw [List.getElem?_eq_none (by omega)] at hx; cases hx⟩
  have hget : ∀ (i : Nat) (e : Ent), ((List.range l.length).map fun k => (⟨(key k).choose, (l.getD k bnul).code.length, (key k).choose_spec.choose, (l.getD k bnul).test, (l.getD k bnul).thn, (l.getD k bnul).els⟩ : Ent))[i]? = some e → i < l.length ∧ e = ⟨(key i).choose, (l.getD i bnul).code.length, (key i).choose_spec.choose, (l.getD i bnul).test, (l.getD i bnul).thn, (l.getD i bnul).els⟩ := fun i e he => by
    have hi := (List.getElem?_eq_some_iff.1 he).1
    simp at hi
    rw [List.getElem?_map, List.getElem?_range hi] at he
    injection he with he
    exact ⟨hi, he.symm⟩
  refine ⟨(List.range l.length).map fun k => ⟨(key k).choose, (l.getD k bnul).code.length, (key k).choose_spec.choose, (l.getD k bnul).test, (l.getD k bnul).thn, (l.getD k bnul).els⟩, by simp, fun _ => ⟨b, off, rfl, hb, fun k x hx j hj => ?_⟩, fun i e c he hcc => ?_⟩
  · obtain ⟨hi, rfl⟩ := hget k x hx
    obtain ⟨g0, g1, g2, g3, _⟩ := (key k).choose_spec.choose_spec _ (List.getElem?_eq_getElem hi)
    rw [← bget hi] at g0 g1 g2 g3
    rcases j with _ | _ | _ | _ | j
    · exact g0
    · exact g1
    · exact g2
    · exact g3
    · omega
  · obtain ⟨hi, rfl⟩ := hget i e he
    have hs := (key i).choose_spec.choose_spec _ hcc
    have hgd : l.getD i bnul = c := by rw [List.getD_eq_getElem?_getD, hcc]; rfl
    dsimp only
    rw [hgd]
    exact ⟨rfl, rfl, rfl, rfl, hs.2.2.2.2⟩
set_option maxHeartbeats 1000000 in
theorem cloneBk_calls (A : Option Addr) (l : List Ent) (cap : Nat) (w : World) (hA : Rd Ent.cells 4 w A l) (h1 : 1 ≤ l.length) (h16 : l.length ≤ 1000) :
    Calls Try.prog 92 #[.slice A l.length cap] w fun e w' => ∃ v, e = .returned v ∧ Own Ent.cells 4 w' w.heap.size 85 v l ∧ Below w.heap.size w w' := by
  have HA := Lib.hid hA
  obtain ⟨b, off, rfl, hb, -⟩ := hA (by omega)
  clear hA
  have HE := Lib.hid (own_new Ent.cells 4 85 entCells_len w w.heap.size (Nat.le_refl _) [] (by simp [maxLen]))
  have HR := Lib.hid (Rd.below HA.out ((Below.refl w.heap.size w).alloc (Nat.le_refl _) (.cells #[] 85)))
  obtain ⟨v3, w3, hrun, hO3, hg3, -⟩ := run_appN (P := Try.prog) 22 22 Ent.cells 4 48 85 (.agg #[.slice none 0 0, .int .i64 0, .int .i64 0, .int .i64 0]) Try.underlying22 infoBlk rfl (by decide) entCells_len entCells_one w.heap.size _ [] HE.out _ l cap HR.out (by simp [maxLen]; omega) (by simp; omega) (by simp)
  rw [List.nil_append] at hO3
  have HO3 := Lib.hid hO3
  have HW3 := Lib.hid (((Below.refl w.heap.size w).alloc (Nat.le_refl _) (.cells #[] 85)).grown hg3 (by simp) (fun k e => by have e : some w.heap.size = some k := e; injection e with e; omega))
  have Hrun := Lib.hid hrun
  clear hO3 hg3 hrun
  have q22 : ∀ (w : World) (a : Option Addr) (n c n' c' : Nat), (binOp .eql 22 (.slice a n c) (.slice none n' c')).run Try.prog w = .ok (.bool a.isNone) w := fun w a n c n' c' => Lib.run_eql_slice_nil w _ _ a n c n' c' Try.underlying22
  go_enter Try.func92, Try.ntmps92
  go_wp2_with (at_builtin; refine wpList_app_run rfl 22 _ _ rfl rfl rfl Hrun.out ?_)
  go_ret
  exact ⟨_, rfl, HO3.out, HW3.out⟩
end Go.Proofs.Ytmgejacndhnikaa
namespace Go.Proofs.Ytmgejacndhnikaa
set_option maxRecDepth 100000
open Go.RowKit

def st0 : Step := ⟨0, 0, 0, 0, 0⟩
/-- The first k and the last k have changed places. -/
def revK (l : List Step) (k : Nat) : List Step := (List.range l.length).map fun x => if x < k ∨ l.length ≤ x + k then l.getD (l.length - 1 - x) st0 else l.getD x st0
theorem revK_len (l : List Step) (k : Nat) : (revK l k).length = l.length := by simp [revK]
theorem revK_get {l : List Step} {k x : Nat} (hx : x < (revK l k).length) : (revK l k)[x] = if x < k ∨ l.length ≤ x + k then l.getD (l.length - 1 - x) st0 else l.getD x st0 := by simp [revK]
theorem revK_zero (l : List Step) : revK l 0 = l := by
  refine List.ext_getElem (revK_len l 0) fun x h1 h2 => ?_
  rw [revK_get, if_neg (by omega), List.getD_eq_getElem?_getD, List.getElem?_eq_getElem h2]; rfl
theorem revK_end {l : List Step} {k : Nat} (hk : l.length ≤ 2 * k + 1) : revK l k = l.reverse := by
  refine List.ext_getElem (by rw [revK_len, List.length_reverse]) fun x h1 h2 => ?_
  have hx : x < l.length := by rw [revK_len] at h1; exact h1
  rw [revK_get, List.getElem_reverse]
  split
  · rw [List.getD_eq_getElem?_getD, List.getElem?_eq_getElem (by omega)]; rfl
  · rw [List.getD_eq_getElem?_getD, List.getElem?_eq_getElem hx]
    show l[x] = _
    congr 1; omega
theorem revK_step {l : List Step} {k : Nat} (hk : 2 * k + 1 < l.length) : ((revK l k).set k ((revK l k)[l.length - 1 - k]'(by rw [revK_len]; omega))).set (l.length - 1 - k) ((revK l k)[k]'(by rw [revK_len]; omega)) = revK l (k + 1) := by
  refine List.ext_getElem (by rw [List.length_set, List.length_set, revK_len, revK_len]) fun x h1 h2 => ?_
  have hx : x < l.length := by rw [revK_len] at h2; exact h2
  simp only [List.getElem_set, revK_get]
  by_cases e1 : l.length - 1 - k = x
  · rw [if_pos e1, if_neg (by omega), if_pos (by omega)]
    congr 1; omega
  · rw [if_neg e1]
    by_cases e2 : k = x
    · rw [if_pos e2, if_neg (by omega), if_pos (by omega)]
      congr 1; omega
    · rw [if_neg e2]
      by_cases e3 : x < k ∨ l.length ≤ x + k
      · rw [if_pos e3, if_pos (by omega)]
      · rw [if_neg e3, if_neg (by omega)]
/-- A step is written. -/
def setSt (w : World) (g i : Nat) (s : Step) : World := ((((w.setCell ⟨g, i * 5, none⟩ (.int .i64 s.op)).setCell ⟨g, i * 5 + 1, none⟩ (.int .i64 s.to)).setCell ⟨g, i * 5 + 2, none⟩ (.int .i64 s.a)).setCell ⟨g, i * 5 + 3, none⟩ (.int .i64 s.b)).setCell ⟨g, i * 5 + 4, none⟩ (.int .i64 s.val)
theorem five_sets : ∀ (l : List Step) (i : Nat) (s : Step), i < l.length → (((((l.flatMap Step.cells).set (i * 5) (.int .i64 s.op)).set (i * 5 + 1) (.int .i64 s.to)).set (i * 5 + 2) (.int .i64 s.a)).set (i * 5 + 3) (.int .i64 s.b)).set (i * 5 + 4) (.int .i64 s.val) = (l.set i s).flatMap Step.cells
  | x :: r, 0, s, _ => by
    obtain ⟨a, b, c, d, e⟩ := x
    rfl
  | x :: r, i + 1, s, h => by
    have ih := five_sets r i s (by simpa using h)
    obtain ⟨a, b, c, d, e⟩ := x
    rw [List.set_cons_succ, List.flatMap_cons, List.flatMap_cons, ← ih, show (i + 1) * 5 = i * 5 + 1 + 1 + 1 + 1 + 1 by omega]
    rfl
theorem OwnSt.setSt {w : World} {base g n cap : Nat} {l : List Step} (h : OwnSt w base 87 (.slice (some ⟨g, 0, none⟩) n cap) l) (hn : n = l.length) {i : Nat} (hi : i < l.length) (s : Step) : OwnSt (setSt w g i s) base 87 (.slice (some ⟨g, 0, none⟩) n cap) (l.set i s) := by
  subst hn
  have h' : w.ownsRow base 87 5 (.slice (some ⟨g, 0, none⟩) l.length cap) l.length (l.flatMap Step.cells) := h
  have h5 := Own.setJ (Own.setJ (Own.setJ (Own.setJ (Own.setJ h' (j := i * 5) (by omega) (.int .i64 s.op)) (j := i * 5 + 1) (by omega) (.int .i64 s.to)) (j := i * 5 + 2) (by omega) (.int .i64 s.a)) (j := i * 5 + 3) (by omega) (.int .i64 s.b)) (j := i * 5 + 4) (by omega) (.int .i64 s.val)
  rw [five_sets l i s hi] at h5
  show World.ownsRow _ _ _ _ _ (l.set i s).length _
  rw [List.length_set]
  exact h5
theorem bel1_setSt {w a : World} {g : Nat} (h : Bel1 g a w) (i : Nat) (s : Step) : Bel1 g a (setSt w g i s) := ((((h.set_ rfl _).set_ rfl _).set_ rfl _).set_ rfl _).set_ rfl _
set_option maxHeartbeats 4000000 in
theorem reverse_calls (base : Nat) (v : Value) (l : List Step) (w : World) (h : OwnSt w base 87 v l) (hl : l.length ≤ 1000) :
    Calls Try.prog 97 #[v] w fun e w' => (∃ u, e = .returned u) ∧ OwnSt w' base 87 v l.reverse ∧ w.grownBy w' v.ownBlock := by
  rcases Nat.eq_zero_or_pos l.length with h0 | h0
  · have : l = [] := List.eq_nil_of_length_eq_zero h0
    subst this
    have HO := Lib.hid h
    obtain ⟨A9, c9, rfl, hR, -⟩ := Own.form stepCells_len h
    clear h hR
    go_enter Try.func97, Try.ntmps97
    go_wp2
    go_loopw [2, 3] (fun i j wr => i = .int .i64 0 ∧ j = .int .i64 (-1) ∧ Hid (wr = w)) (fun i _ _ => 0)
    case atStart => exact ⟨rfl, rfl, Lib.hid rfl⟩
    case round =>
      obtain ⟨rfl, rfl, HWe⟩ := hrel
      obtain rfl := HWe.out
      go_wp2
      go_end0
      exact ⟨⟨_, rfl⟩, HO.out, ⟨rfl, rfl, rfl, Nat.le_refl _, fun _ _ _ => rfl⟩⟩
  · obtain ⟨g, cap, rfl, hg, hgl, hlc, -⟩ := Own.some_ h h0
    have HO := Lib.hid h
    clear h
    go_enter Try.func97, Try.ntmps97
    go_wp2
    go_loopw [2, 3] (fun i j wr => ∃ k : Nat, 2 * k ≤ l.length ∧ i = .int .i64 k ∧ j = .int .i64 ((l.length : Int) - 1 - k) ∧ Hid (OwnSt wr base 87 (.slice (some ⟨g, 0, none⟩) l.length cap) (revK l k)) ∧ Hid (Bel1 g w wr)) (fun i _ _ => l.length - (intOf i).toNat)
    case atStart => exact ⟨0, by omega, rfl, by first | rfl | go_num, Lib.hid (by rw [revK_zero]; exact HO.out), Lib.hid (Bel1.refl _ _)⟩
    case round =>
      clear HO
      obtain ⟨k, hk, rfl, rfl, HO, HB⟩ := hrel
      by_cases hlt : 2 * k + 1 < l.length
      · obtain ⟨w0, hw0⟩ : ∃ w0, w0 = wr.drew := ⟨_, rfl⟩
        have HO0 : Hid (OwnSt w0 base 87 (.slice (some ⟨g, 0, none⟩) l.length cap) (revK l k)) := Lib.hid (by rw [hw0]; exact Own.drew HO.out)
        have HB0 : Hid (Bel1 g w w0) := Lib.hid (by rw [hw0]; exact HB.out.drew)
        have Hw0 := Lib.hid hw0
        clear hw0
        have hk1 : k < (revK l k).length := by rw [revK_len]; omega
        have hk2 : l.length - 1 - k < (revK l k).length := by rw [revK_len]; omega
        obtain ⟨m, hm⟩ : ∃ m : Nat, m = l.length - 1 - k := ⟨_, rfl⟩
        have hmi : ((l.length : Int) - 1 - k) = (m : Int) := by omega
        have Hst := Lib.hid (revK_step hlt)
        have hrl := revK_len l k
        obtain ⟨A9, c9, e9, hR, -⟩ := Own.form stepCells_len HO0.out
        have eA : A9 = some ⟨g, 0, none⟩ := by injection e9 with e9; exact e9.symm
        clear e9
        subst eA
        obtain ⟨b1, o1, e1, hb1, x0, x1, x2, x3, x4⟩ := RdSt.at5 hR hk1
        obtain ⟨b2, o2, e2, hb2, y0, y1, y2, y3, y4⟩ := RdSt.at5 hR hk2
        injection e1 with e1
        injection e1 with e1 e1'
        subst e1 e1'
        injection e2 with e2
        injection e2 with e2 e2'
        subst e2 e2'
        rw [Nat.zero_add] at x0 x1 x2 x3 x4 y0 y1 y2 y3 y4
        have fz : ∀ j, w0.frozen? ⟨g, j, none⟩ = false := fun j => by obtain ⟨cur, hc⟩ := own_ty HO0.out rfl; simp [World.frozen?, hc]
        have HW2 : Hid (∀ s t : Step, Bel1 g w (setSt (setSt w0 g k s) g m t)) := Lib.hid fun s t => bel1_setSt (bel1_setSt HB0.out k s) m t
        have HO3 : Hid (OwnSt (setSt (setSt w0 g k ((revK l k)[l.length - 1 - k])) g m ((revK l k)[k])) base 87 (.slice (some ⟨g, 0, none⟩) l.length cap) (revK l (k + 1))) := Lib.hid (by
          have h1 := OwnSt.setSt HO0.out (by rw [revK_len]) hk1 ((revK l k)[l.length - 1 - k])
          have h2 := OwnSt.setSt h1 (by rw [List.length_set, revK_len]) (i := m) (by rw [List.length_set]; omega) ((revK l k)[k])
          rw [hm, Hst.out] at h2
          rw [hm]; exact h2)
        generalize (revK l k)[l.length - 1 - k] = t at *
        generalize (revK l k)[k] = s at *
        rw [← hm] at y0 y1 y2 y3 y4
        obtain ⟨sop, sto, sa, sb, sv⟩ := s
        obtain ⟨top, tto, ta, tb, tv⟩ := t
        dsimp only at x0 x1 x2 x3 x4 y0 y1 y2 y3 y4
        have HW3 := Lib.hid (HW2.out ⟨top, tto, ta, tb, tv⟩ ⟨sop, sto, sa, sb, sv⟩)
        clear HW2
        unfold setSt at HO3 HW3
        dsimp only at HO3 HW3
        have q1 : ((k : Nat) : Int) < (m : Int) := by omega
        have q2 : ((k : Nat) : Int) < ((l.length : Nat) : Int) := by omega
        have q3 : ((m : Nat) : Int) < ((l.length : Nat) : Int) := by omega
        have Hm := Lib.hid hm
        have Hk := Lib.hid hk
        have Hlt := Lib.hid hlt
        rw [hmi]
        have Hmi := Lib.hid hmi
        clear hm hmi hk hlt hR hb1 hb2 hrl hk1 hk2 HO HO0 HB HB0 Hst
        go_wp2
        refine wp_region_held_drew (S := fun _ => True) (by kernel_rfl) trivial (fun hH0 => ?_)
        rw [← Hw0.out]
        refine wpAnyH_take (i := 0) (oi := { dst := some 14, op := Go.Op.move (Go.Operand.tmp 0), type := 48, pos := "slices.go:485", after := #[], guard := none }) rfl (by kernel_rfl) (by kernel_rfl) (by kernel_rfl) (fun _ _ _ h => h) (Or.inl ⟨by rfl, fun w hw => by (go_simp; try with_reducible rfl)⟩) (by assumption) ?_
        try simp only [Act.put, List.setIfInBounds_toArray, List.set_cons_zero, List.set_cons_succ]
        refine wpAnyH_take (i := 1) (oi := { dst := some 15, op := Go.Op.move (Go.Operand.tmp 2), type := 3, pos := "slices.go:485", after := #[], guard := none }) rfl (by kernel_rfl) (by kernel_rfl) (by kernel_rfl) (fun _ _ _ h => h) (Or.inl ⟨by rfl, fun w hw => by (go_simp; try with_reducible rfl)⟩) (by assumption) ?_
        try simp only [Act.put, List.setIfInBounds_toArray, List.set_cons_zero, List.set_cons_succ]
        refine wpAnyH_take (i := 2) (oi := { dst := some 16, op := Go.Op.move (Go.Operand.tmp 0), type := 48, pos := "slices.go:485", after := #[{ on := 13, ground := Go.Ground.gcOnly Go.Departure.lateStores }], guard := none }) rfl (by kernel_rfl) (by kernel_rfl) (by kernel_rfl) (fun _ _ _ h => h) (Or.inl ⟨by rfl, fun w hw => by (go_simp; try with_reducible rfl)⟩) (by assumption) ?_
        try simp only [Act.put, List.setIfInBounds_toArray, List.set_cons_zero, List.set_cons_succ]
        refine wpAnyH_take (i := 3) (oi := { dst := some 17, op := Go.Op.move (Go.Operand.tmp 3), type := 3, pos := "slices.go:485", after := #[{ on := 13, ground := Go.Ground.gcOnly Go.Departure.lateStores }], guard := none }) rfl (by kernel_rfl) (by kernel_rfl) (by kernel_rfl) (fun _ _ _ h => h) (Or.inl ⟨by rfl, fun w hw => by (go_simp; try with_reducible rfl)⟩) (by assumption) ?_
        try simp only [Act.put, List.setIfInBounds_toArray, List.set_cons_zero, List.set_cons_succ]
        refine wpAnyH_take (i := 4) (oi := { dst := some 18, op := Go.Op.move (Go.Operand.tmp 0), type := 48, pos := "slices.go:485", after := #[], guard := none }) rfl (by kernel_rfl) (by kernel_rfl) (by kernel_rfl) (fun _ _ _ h => h) (Or.inl ⟨by rfl, fun w hw => by (go_simp; try with_reducible rfl)⟩) (by assumption) ?_
        try simp only [Act.put, List.setIfInBounds_toArray, List.set_cons_zero, List.set_cons_succ]
        refine wpAnyH_take (i := 5) (oi := { dst := some 19, op := Go.Op.move (Go.Operand.tmp 3), type := 3, pos := "slices.go:485", after := #[], guard := none }) rfl (by kernel_rfl) (by kernel_rfl) (by kernel_rfl) (fun _ _ _ h => h) (Or.inl ⟨by rfl, fun w hw => by (go_simp; try with_reducible rfl)⟩) (by assumption) ?_
        try simp only [Act.put, List.setIfInBounds_toArray, List.set_cons_zero, List.set_cons_succ]
        refine wpAnyH_take (i := 6) (oi := { dst := some 20, op := Go.Op.indexAddr 48 (Go.Operand.tmp 18) (Go.Operand.tmp 19), type := 0, pos := "slices.go:485", after := #[{ on := 4, ground := Go.Ground.data }, { on := 5, ground := Go.Ground.data }], guard := none }) rfl (by kernel_rfl) (by kernel_rfl) (by kernel_rfl) (fun _ _ _ h => h) (Or.inl ⟨by rfl, fun w hw => by (go_simp; try with_reducible rfl)⟩) (by assumption) ?_
        try simp only [Act.put, List.setIfInBounds_toArray, List.set_cons_zero, List.set_cons_succ]
        refine wpAnyH_take (i := 8) (oi := { dst := some 22, op := Go.Op.move (Go.Operand.tmp 0), type := 48, pos := "slices.go:485", after := #[], guard := none }) rfl (by kernel_rfl) (by kernel_rfl) (by kernel_rfl) (fun _ _ _ h => h) (Or.inl ⟨by rfl, fun w hw => by (go_simp; try with_reducible rfl)⟩) (by assumption) ?_
        try simp only [Act.put, List.setIfInBounds_toArray, List.set_cons_zero, List.set_cons_succ]
        refine wpAnyH_take (i := 9) (oi := { dst := some 23, op := Go.Op.move (Go.Operand.tmp 2), type := 3, pos := "slices.go:485", after := #[], guard := none }) rfl (by kernel_rfl) (by kernel_rfl) (by kernel_rfl) (fun _ _ _ h => h) (Or.inl ⟨by rfl, fun w hw => by (go_simp; try with_reducible rfl)⟩) (by assumption) ?_
        try simp only [Act.put, List.setIfInBounds_toArray, List.set_cons_zero, List.set_cons_succ]
        refine wpAnyH_take (i := 10) (oi := { dst := some 24, op := Go.Op.indexAddr 48 (Go.Operand.tmp 22) (Go.Operand.tmp 23), type := 0, pos := "slices.go:485", after := #[{ on := 8, ground := Go.Ground.data }, { on := 9, ground := Go.Ground.data }], guard := none }) rfl (by kernel_rfl) (by kernel_rfl) (by kernel_rfl) (fun _ _ _ h => h) (Or.inl ⟨by rfl, fun w hw => by (go_simp; try with_reducible rfl)⟩) (by assumption) ?_
        try simp only [Act.put, List.setIfInBounds_toArray, List.set_cons_zero, List.set_cons_succ]
        refine wpAnyH_ready (rs := [7, 11]) (by kernel_rfl) (by simp) ?_
        refine AllReadyH.cons (o := { dst := some 21, op := Go.Op.load 87 (Go.Operand.tmp 20), type := 87, pos := "slices.go:485", after := #[{ on := 6, ground := Go.Ground.data }], guard := none }) rfl (fun K hK => ?_) ?_
        · try rw [if_pos (by rfl)]
          go_simp
          refine hK.out _ _ trivial (fun hH1 => ?_)
          clear hK hH0
          have hH0 := hH1
          clear hH1
          try simp only [Act.put, List.setIfInBounds_toArray, List.set_cons_zero, List.set_cons_succ]
          refine wpAnyH_ready (rs := [11]) (by kernel_rfl) (by simp) ?_
          refine AllReadyH.cons (o := { dst := some 25, op := Go.Op.load 87 (Go.Operand.tmp 24), type := 87, pos := "slices.go:485", after := #[{ on := 10, ground := Go.Ground.data }], guard := none }) rfl (fun K hK => ?_) AllReadyH.nil
          try rw [if_pos (by rfl)]
          go_simp
          refine hK.out _ _ trivial (fun hH1 => ?_)
          clear hK hH0
          have hH0 := hH1
          clear hH1
          try simp only [Act.put, List.setIfInBounds_toArray, List.set_cons_zero, List.set_cons_succ]
          refine wpAnyH_take (i := 12) (oi := { dst := some 26, op := Go.Op.indexAddr 48 (Go.Operand.tmp 14) (Go.Operand.tmp 15), type := 0, pos := "slices.go:485", after := #[{ on := 0, ground := Go.Ground.data }, { on := 1, ground := Go.Ground.data }, { on := 0, ground := Go.Ground.phase }, { on := 1, ground := Go.Ground.phase }, { on := 2, ground := Go.Ground.textOnly Go.Departure.lateStores }, { on := 3, ground := Go.Ground.textOnly Go.Departure.lateStores }, { on := 4, ground := Go.Ground.phase }, { on := 5, ground := Go.Ground.phase }, { on := 6, ground := Go.Ground.phase }, { on := 7, ground := Go.Ground.phase }, { on := 8, ground := Go.Ground.textOnly Go.Departure.lateStores }, { on := 9, ground := Go.Ground.textOnly Go.Departure.lateStores }, { on := 10, ground := Go.Ground.textOnly Go.Departure.lateStoresUnsure }, { on := 11, ground := Go.Ground.phase }], guard := none }) rfl (by kernel_rfl) (by kernel_rfl) (by kernel_rfl) (fun _ _ _ h => h) (Or.inl ⟨by rfl, fun w hw => by (go_simp; try with_reducible rfl)⟩) (by assumption) ?_
          try simp only [Act.put, List.setIfInBounds_toArray, List.set_cons_zero, List.set_cons_succ]
          refine wpAnyH_ready (rs := [13]) (by kernel_rfl) (by simp) ?_
          refine AllReadyH.cons (o := { dst := none, op := Go.Op.store 87 (Go.Operand.tmp 26) (Go.Operand.tmp 21), type := 0, pos := "slices.go:485", after := #[{ on := 12, ground := Go.Ground.data }, { on := 7, ground := Go.Ground.data }, { on := 0, ground := Go.Ground.phase }, { on := 1, ground := Go.Ground.phase }, { on := 2, ground := Go.Ground.textOnly Go.Departure.lateStores }, { on := 3, ground := Go.Ground.textOnly Go.Departure.lateStores }, { on := 4, ground := Go.Ground.phase }, { on := 5, ground := Go.Ground.phase }, { on := 6, ground := Go.Ground.phase }, { on := 7, ground := Go.Ground.phase }, { on := 8, ground := Go.Ground.textOnly Go.Departure.lateStores }, { on := 9, ground := Go.Ground.textOnly Go.Departure.lateStores }, { on := 10, ground := Go.Ground.textOnly Go.Departure.lateStoresUnsure }, { on := 11, ground := Go.Ground.phase }], guard := none }) rfl (fun K hK => ?_) AllReadyH.nil
          try rw [if_pos (by rfl)]
          go_simp
          refine hK.out _ _ trivial (fun hH1 => ?_)
          clear hK hH0
          have hH0 := hH1
          clear hH1
          try simp only [Act.put, List.setIfInBounds_toArray, List.set_cons_zero, List.set_cons_succ]
          refine wpAnyH_take (i := 14) (oi := { dst := some 27, op := Go.Op.indexAddr 48 (Go.Operand.tmp 16) (Go.Operand.tmp 17), type := 0, pos := "slices.go:485", after := #[{ on := 2, ground := Go.Ground.data }, { on := 3, ground := Go.Ground.data }, { on := 0, ground := Go.Ground.phase }, { on := 1, ground := Go.Ground.phase }, { on := 2, ground := Go.Ground.phase }, { on := 3, ground := Go.Ground.phase }, { on := 4, ground := Go.Ground.phase }, { on := 5, ground := Go.Ground.phase }, { on := 6, ground := Go.Ground.phase }, { on := 7, ground := Go.Ground.phase }, { on := 8, ground := Go.Ground.phase }, { on := 9, ground := Go.Ground.phase }, { on := 10, ground := Go.Ground.phase }, { on := 11, ground := Go.Ground.phase }, { on := 12, ground := Go.Ground.phase }, { on := 13, ground := Go.Ground.phase }], guard := none }) rfl (by kernel_rfl) (by kernel_rfl) (by kernel_rfl) (fun _ _ _ h => h) (Or.inl ⟨by rfl, fun w hw => by (go_simp; try with_reducible rfl)⟩) (by assumption) ?_
          try simp only [Act.put, List.setIfInBounds_toArray, List.set_cons_zero, List.set_cons_succ]
          refine wpAnyH_ready (rs := [15]) (by kernel_rfl) (by simp) ?_
          refine AllReadyH.cons (o := { dst := none, op := Go.Op.store 87 (Go.Operand.tmp 27) (Go.Operand.tmp 25), type := 0, pos := "slices.go:485", after := #[{ on := 14, ground := Go.Ground.data }, { on := 11, ground := Go.Ground.data }, { on := 13, ground := Go.Ground.chain }, { on := 0, ground := Go.Ground.phase }, { on := 1, ground := Go.Ground.phase }, { on := 2, ground := Go.Ground.phase }, { on := 3, ground := Go.Ground.phase }, { on := 4, ground := Go.Ground.phase }, { on := 5, ground := Go.Ground.phase }, { on := 6, ground := Go.Ground.phase }, { on := 7, ground := Go.Ground.phase }, { on := 8, ground := Go.Ground.phase }, { on := 9, ground := Go.Ground.phase }, { on := 10, ground := Go.Ground.phase }, { on := 11, ground := Go.Ground.phase }, { on := 12, ground := Go.Ground.phase }, { on := 13, ground := Go.Ground.phase }], guard := none }) rfl (fun K hK => ?_) AllReadyH.nil
          try rw [if_pos (by rfl)]
          go_simp
          refine hK.out _ _ trivial (fun hH1 => ?_)
          clear hK hH0
          have hH0 := hH1
          clear hH1
          try simp only [Act.put, List.setIfInBounds_toArray, List.set_cons_zero, List.set_cons_succ]
          refine wpAnyH_done (by kernel_rfl) ?_ _
          clear hH0
          go_wp2
          go_roundw
          case rel => exact ⟨k + 1, by have := Hlt.out; omega, by go_num, congrArg (Value.int .i64) (by have := Hmi.out; omega), HO3, HW3⟩
          case measure => have := Hlt.out; simp [intOf]; omega
        refine AllReadyH.cons (o := { dst := some 25, op := Go.Op.load 87 (Go.Operand.tmp 24), type := 87, pos := "slices.go:485", after := #[{ on := 10, ground := Go.Ground.data }], guard := none }) rfl (fun K hK => ?_) AllReadyH.nil
        try rw [if_pos (by rfl)]
        go_simp
        refine hK.out _ _ trivial (fun hH1 => ?_)
        clear hK hH0
        have hH0 := hH1
        clear hH1
        try simp only [Act.put, List.setIfInBounds_toArray, List.set_cons_zero, List.set_cons_succ]
        refine wpAnyH_ready (rs := [7]) (by kernel_rfl) (by simp) ?_
        refine AllReadyH.cons (o := { dst := some 21, op := Go.Op.load 87 (Go.Operand.tmp 20), type := 87, pos := "slices.go:485", after := #[{ on := 6, ground := Go.Ground.data }], guard := none }) rfl (fun K hK => ?_) AllReadyH.nil
        try rw [if_pos (by rfl)]
        go_simp
        refine hK.out _ _ trivial (fun hH1 => ?_)
        clear hK hH0
        have hH0 := hH1
        clear hH1
        try simp only [Act.put, List.setIfInBounds_toArray, List.set_cons_zero, List.set_cons_succ]
        refine wpAnyH_take (i := 12) (oi := { dst := some 26, op := Go.Op.indexAddr 48 (Go.Operand.tmp 14) (Go.Operand.tmp 15), type := 0, pos := "slices.go:485", after := #[{ on := 0, ground := Go.Ground.data }, { on := 1, ground := Go.Ground.data }, { on := 0, ground := Go.Ground.phase }, { on := 1, ground := Go.Ground.phase }, { on := 2, ground := Go.Ground.textOnly Go.Departure.lateStores }, { on := 3, ground := Go.Ground.textOnly Go.Departure.lateStores }, { on := 4, ground := Go.Ground.phase }, { on := 5, ground := Go.Ground.phase }, { on := 6, ground := Go.Ground.phase }, { on := 7, ground := Go.Ground.phase }, { on := 8, ground := Go.Ground.textOnly Go.Departure.lateStores }, { on := 9, ground := Go.Ground.textOnly Go.Departure.lateStores }, { on := 10, ground := Go.Ground.textOnly Go.Departure.lateStoresUnsure }, { on := 11, ground := Go.Ground.phase }], guard := none }) rfl (by kernel_rfl) (by kernel_rfl) (by kernel_rfl) (fun _ _ _ h => h) (Or.inl ⟨by rfl, fun w hw => by (go_simp; try with_reducible rfl)⟩) (by assumption) ?_
        try simp only [Act.put, List.setIfInBounds_toArray, List.set_cons_zero, List.set_cons_succ]
        refine wpAnyH_ready (rs := [13]) (by kernel_rfl) (by simp) ?_
        refine AllReadyH.cons (o := { dst := none, op := Go.Op.store 87 (Go.Operand.tmp 26) (Go.Operand.tmp 21), type := 0, pos := "slices.go:485", after := #[{ on := 12, ground := Go.Ground.data }, { on := 7, ground := Go.Ground.data }, { on := 0, ground := Go.Ground.phase }, { on := 1, ground := Go.Ground.phase }, { on := 2, ground := Go.Ground.textOnly Go.Departure.lateStores }, { on := 3, ground := Go.Ground.textOnly Go.Departure.lateStores }, { on := 4, ground := Go.Ground.phase }, { on := 5, ground := Go.Ground.phase }, { on := 6, ground := Go.Ground.phase }, { on := 7, ground := Go.Ground.phase }, { on := 8, ground := Go.Ground.textOnly Go.Departure.lateStores }, { on := 9, ground := Go.Ground.textOnly Go.Departure.lateStores }, { on := 10, ground := Go.Ground.textOnly Go.Departure.lateStoresUnsure }, { on := 11, ground := Go.Ground.phase }], guard := none }) rfl (fun K hK => ?_) AllReadyH.nil
        try rw [if_pos (by rfl)]
        go_simp
        refine hK.out _ _ trivial (fun hH1 => ?_)
        clear hK hH0
        have hH0 := hH1
        clear hH1
        try simp only [Act.put, List.setIfInBounds_toArray, List.set_cons_zero, List.set_cons_succ]
        refine wpAnyH_take (i := 14) (oi := { dst := some 27, op := Go.Op.indexAddr 48 (Go.Operand.tmp 16) (Go.Operand.tmp 17), type := 0, pos := "slices.go:485", after := #[{ on := 2, ground := Go.Ground.data }, { on := 3, ground := Go.Ground.data }, { on := 0, ground := Go.Ground.phase }, { on := 1, ground := Go.Ground.phase }, { on := 2, ground := Go.Ground.phase }, { on := 3, ground := Go.Ground.phase }, { on := 4, ground := Go.Ground.phase }, { on := 5, ground := Go.Ground.phase }, { on := 6, ground := Go.Ground.phase }, { on := 7, ground := Go.Ground.phase }, { on := 8, ground := Go.Ground.phase }, { on := 9, ground := Go.Ground.phase }, { on := 10, ground := Go.Ground.phase }, { on := 11, ground := Go.Ground.phase }, { on := 12, ground := Go.Ground.phase }, { on := 13, ground := Go.Ground.phase }], guard := none }) rfl (by kernel_rfl) (by kernel_rfl) (by kernel_rfl) (fun _ _ _ h => h) (Or.inl ⟨by rfl, fun w hw => by (go_simp; try with_reducible rfl)⟩) (by assumption) ?_
        try simp only [Act.put, List.setIfInBounds_toArray, List.set_cons_zero, List.set_cons_succ]
        refine wpAnyH_ready (rs := [15]) (by kernel_rfl) (by simp) ?_
        refine AllReadyH.cons (o := { dst := none, op := Go.Op.store 87 (Go.Operand.tmp 27) (Go.Operand.tmp 25), type := 0, pos := "slices.go:485", after := #[{ on := 14, ground := Go.Ground.data }, { on := 11, ground := Go.Ground.data }, { on := 13, ground := Go.Ground.chain }, { on := 0, ground := Go.Ground.phase }, { on := 1, ground := Go.Ground.phase }, { on := 2, ground := Go.Ground.phase }, { on := 3, ground := Go.Ground.phase }, { on := 4, ground := Go.Ground.phase }, { on := 5, ground := Go.Ground.phase }, { on := 6, ground := Go.Ground.phase }, { on := 7, ground := Go.Ground.phase }, { on := 8, ground := Go.Ground.phase }, { on := 9, ground := Go.Ground.phase }, { on := 10, ground := Go.Ground.phase }, { on := 11, ground := Go.Ground.phase }, { on := 12, ground := Go.Ground.phase }, { on := 13, ground := Go.Ground.phase }], guard := none }) rfl (fun K hK => ?_) AllReadyH.nil
        try rw [if_pos (by rfl)]
        go_simp
        refine hK.out _ _ trivial (fun hH1 => ?_)
        clear hK hH0
        have hH0 := hH1
        clear hH1
        try simp only [Act.put, List.setIfInBounds_toArray, List.set_cons_zero, List.set_cons_succ]
        refine wpAnyH_done (by kernel_rfl) ?_ _
        clear hH0
        go_wp2
        go_roundw
        case rel => exact ⟨k + 1, by have := Hlt.out; omega, by go_num, congrArg (Value.int .i64) (by have := Hmi.out; omega), HO3, HW3⟩
        case measure => have := Hlt.out; simp [intOf]; omega
      · have HOe : Hid (OwnSt wr base 87 (.slice (some ⟨g, 0, none⟩) l.length cap) l.reverse) := Lib.hid (by rw [← revK_end (k := k) (by omega)]; exact HO.out)
        have q1 : ¬ ((k : Nat) : Int) < (l.length : Int) - 1 - (k : Int) := by omega
        clear hlt hk HO
        go_wp2
        go_end0
        exact ⟨⟨_, rfl⟩, HOe.out, ⟨HB.out.os, HB.out.tape, HB.out.output, HB.out.size, fun i hi hne => HB.out.block i hi (fun e => hne (by rw [e]; rfl))⟩⟩
end Go.Proofs.Ytmgejacndhnikaa
