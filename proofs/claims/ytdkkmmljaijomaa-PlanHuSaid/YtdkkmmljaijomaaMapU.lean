/- Sets of words as maps that the call has made (map[uint32]bool). -/
import Derived.Test.YtdkkmmljaijomaaMapF
import Derived.Test.YtdkkmmljaijomaaPlnP
import Derived.Maps.RangeWalk
namespace Go.Proofs.Ytdkkmmljaijomaa
open Go.RowKit Go.Maps
open Go.WideElems (Fit rd rg pl rd_key rd_val rg_of other_key)

def encU (x : Nat) : Value := .int .u32 (x : Int)
theorem encU_inj (x y : Nat) (h : encU x = encU y) : x = y := by unfold encU at h; injection h with _ h; omega
theorem wfU {x : Nat} (h : x < 4294967296) : (Lit.int .u32 (x : Int)).wf = true := by
  have h1 : IntKind.u32.min = 0 := rfl
  have h2 : IntKind.u32.max = 4294967295 := rfl
  simp only [Lit.wf, Bool.and_eq_true, decide_eq_true_eq]
  omega
theorem keyedU : Keyed Try.prog 50 := int_keyed Try.underlying50
theorem keyU {x : Nat} (h : x < 4294967296) : keyOf Try.prog 50 (encU x) = some (.int .u32 (x : Int)) := keyOf_int_mk Try.underlying50 (wfU h)
theorem key_inv {v : Value} {kl : Lit} (h : keyOf Try.prog 50 v = some kl) : ∃ x : Nat, x < 4294967296 ∧ v = encU x ∧ kl = .int .u32 (x : Int) := by
  obtain ⟨x, rfl, rfl, hw⟩ := keyOf_int_inv Try.underlying50 h
  have h1 : IntKind.u32.min = 0 := rfl
  have h2 : IntKind.u32.max = 4294967295 := rfl
  simp only [Lit.wf, Bool.and_eq_true, decide_eq_true_eq] at hw
  obtain ⟨n, rfl⟩ := Int.eq_ofNat_of_zero_le (show 0 ≤ x by omega)
  exact ⟨n, by omega, rfl, rfl⟩
open Classical in
noncomputable def setF (S : Nat → Prop) : Nat → Option Value := fun x => if S x then some (.bool true) else none
theorem setF_some {S : Nat → Prop} {x : Nat} : (setF S x).isSome = true ↔ S x := by
  unfold setF; split <;> simp [*]
theorem OwnM.small {w : World} {b n : Nat} {f : Nat → Option Value} (h : OwnM encU w 50 b n f) (hf : ∀ x, (f x).isSome = true → x < 256) : OwnM encU w 50 b 256 f := by
  obtain ⟨D, h1, h2, h3⟩ := h
  refine ⟨D, h1, ?_, h3⟩
  obtain ⟨es', hD', hp, -⟩ := h2.entries keyedU
  obtain ⟨es, clock, hb, F, hs, hD⟩ := h2
  refine ⟨es, clock, hb, F, ?_, hD⟩
  have e : es' = (es.toList.map (rg Try.prog 50 heldE)).foldr DataW.insert [] := by rw [hD'] at hD; injection hD
  rw [← length_read (P := Try.prog) (k := 50) (R0 := heldE) es, ← e]
  have hl : (es'.map (·.1)).length = es'.length := List.length_map ..
  rw [← hl]
  have hr : ((List.range 256).map fun x : Nat => Lit.int .u32 (x : Int)).length = 256 := by simp
  rw [← hr]
  refine nodup_len ?_ ?_
  · unfold List.Nodup; rw [List.pairwise_map]; exact hp
  · intro l hl
    obtain ⟨p, hpm, rfl⟩ := List.mem_map.1 hl
    have hpm' := hpm
    rw [e, mem_sorted] at hpm'
    obtain ⟨x, hx, rfl⟩ := List.mem_map.1 hpm'
    obtain ⟨y, hy⟩ := F.reads x hx
    rw [rg_of hy] at hpm ⊢
    have hk := rd_key hy
    obtain ⟨z, hz, ez, el⟩ := key_inv hk
    have hh : has D y.1 = true := by rw [hD', has_eq]; exact List.any_eq_true.2 ⟨_, hpm, WideAt.sameKey_self (keyedU.key hk)⟩
    rw [ez] at hk
    have h4 := (h3 z y.1 hk).1
    rw [hh] at h4
    rw [List.mem_map]
    exact ⟨z, by have := hf z h4.symm; simpa using this, el.symm⟩

/-- Block b of w is a set of words below 256. -/
def OwnS (w : World) (b : Nat) (S : Nat → Prop) : Prop := (∀ x, S x → x < 256) ∧ OwnM encU w 50 b 256 (setF S)
section
variable {w : World} {b : Nat} {S : Nat → Prop}
theorem OwnS.made (w : World) : OwnS (w.alloc (.map #[] 0)) w.heap.size (fun _ => False) := ⟨fun _ h => h.elim, by
  have := OwnM.made encU w 50
  have e : setF (fun _ => False) = fun _ => none := by funext x; unfold setF; rw [if_neg (fun h => h)]
  rw [e]
  exact OwnM.mono this (Nat.zero_le _)⟩
theorem OwnS.kept {w' : World} {row : Option Nat} (h : OwnS w b S) (hg : w.grownBy w' row) (hne : some b ≠ row) : OwnS w' b S := ⟨h.1, h.2.kept hg hne⟩
theorem OwnS.alloc (h : OwnS w b S) (o : Obj) : OwnS (w.alloc o) b S := ⟨h.1, h.2.alloc o⟩
theorem OwnS.lt (h : OwnS w b S) : b < w.heap.size := h.2.lt
theorem OwnS.drewN (h : OwnS w b S) (n : Nat) : OwnS (w.drewN n) b S := h
theorem OwnS.congr {T : Nat → Prop} (h : OwnS w b S) (e : ∀ x, S x ↔ T x) : OwnS w b T := by
  have : S = T := funext fun x => propext (e x)
  rw [← this]; exact h
theorem setF_put (S : Nat → Prop) (x : Nat) : putM (setF S) x (.bool true) = setF (fun y => S y ∨ y = x) := by
  funext y
  unfold putM
  by_cases e : y = x
  · rw [if_pos e]; unfold setF; rw [if_pos (.inr e)]
  · rw [if_neg e]; unfold setF
    by_cases hs : S y
    · rw [if_pos hs, if_pos (.inl hs)]
    · rw [if_neg hs, if_neg (fun h => h.elim hs e)]
theorem OwnS.put (h : OwnS w b S) {x : Nat} (hx : x < 256) :
    ∃ w', (Instr.mapUpdate 61 (.map (some b)) (.int .u32 (x : Int)) (.bool true)).run Try.prog w = .ok () w' ∧ OwnS w' b (fun y => S y ∨ y = x) ∧ w.grownBy w' (some b) := by
  obtain ⟨w', h1, h2, h3⟩ := OwnM.put h.2 keyedU encU_inj Try.underlying61 (by unfold maxLen; omega) (a := x) (keyU (by omega)) (.bool true)
  have hS : ∀ y, (S y ∨ y = x) → y < 256 := fun y hy => hy.elim (h.1 y) (fun e => by omega)
  rw [setF_put] at h2
  exact ⟨w', h1, ⟨hS, h2.small fun y hy => hS y (setF_some.1 hy)⟩, h3⟩
open Classical in
theorem OwnS.look (h : OwnS w b S) {x : Nat} (hx : x < 4294967296) :
    (Instr.lookup 61 (.map (some b)) (.int .u32 (x : Int)) false).run Try.prog w = .ok (.bool (decide (S x))) w := by
  have := OwnM.look h.2 keyedU Try.underlying61 (Try.zeroValue4 w) (a := x) (keyU hx)
  refine this.trans ?_
  unfold setF
  by_cases hs : S x
  · rw [if_pos hs, decide_eq_true hs]; rfl
  · rw [if_neg hs, decide_eq_false hs]; rfl
theorem OwnS.open_ (h : OwnS w b S) : ∃ D : DataW Value, w.ownsMap Try.prog 50 heldE b 256 D ∧ (∀ x : Nat, x < 4294967296 → (has D (.int .u32 (x : Int)) = true ↔ S x)) ∧ ∀ l, has D l = true → ∃ x : Nat, l = .int .u32 (x : Int) ∧ S x := by
  obtain ⟨hS, D, h1, h2, h3⟩ := h
  refine ⟨D, h2, fun x hx => ?_, fun l hl => ?_⟩
  · rw [(h3 x _ (keyU hx)).1]; exact setF_some
  · obtain ⟨es, clock, hb, F, hs, hD⟩ := h2
    rw [hD, has_eq, List.any_eq_true] at hl
    obtain ⟨p, hp, hpl⟩ := hl
    rw [mem_sorted] at hp
    obtain ⟨x, hx, rfl⟩ := List.mem_map.1 hp
    obtain ⟨y, hy⟩ := F.reads x hx
    rw [rg_of hy] at hpl
    have hk := rd_key hy
    obtain ⟨z, hz, ez, el⟩ := key_inv hk
    have e : y.1 = l := WideAt.sameKey_eq hpl
    refine ⟨z, by rw [← e]; exact el, ?_⟩
    rw [ez] at hk
    have h4 := (h3 z y.1 hk).1
    have hh : has D y.1 = true := by
      rw [hD, has_eq]
      exact List.any_eq_true.2 ⟨rg Try.prog 50 heldE x, mem_sorted.2 (List.mem_map.2 ⟨x, hx, rfl⟩), by rw [rg_of hy]; exact WideAt.sameKey_self (keyedU.key (rd_key hy))⟩
    rw [hh] at h4
    exact setF_some.1 h4.symm
end
section
variable {w : World} {b : Nat} {S : Nat → Prop} {ops : Array Oper} {rest : List Oper} {o : Oper} {a : Act} {Q : Exit → Act → World → Prop}
theorem wpList_putS (hg : o.guard = none) (m x v : Operand) (hop : o.op = Op.mapUpdate 61 m x v ∨ o.op = Op.insert 61 m x v)
    (hm : a.eval m = .map (some b)) (hown : OwnS w b S) (y : Nat) (hy : y < 256) (hx : a.eval x = .int .u32 (y : Int)) (hv : a.eval v = .bool true)
    (h : ∀ w', OwnS w' b (fun z => S z ∨ z = y) → w.grownBy w' (some b) → wpList Try.prog ops Q rest (a.put o.dst undef) w') : wpList Try.prog ops Q (o :: rest) a w := by
  refine wpList_plain hg fun K' hK' => ?_
  obtain ⟨w', hrun, r1, r2⟩ := hown.put hy
  unfold Oper.wp
  rcases hop with hop | hop <;>
  · simp [execOp, hop, hm, hx, hv, hrun, Result.andThen]
    exact hK' _ _ (h w' r1 r2)
open Classical in
theorem wpList_lookS (hg : o.guard = none) (m x : Operand) (hop : o.op = Op.lookup 61 m x false)
    (hm : a.eval m = .map (some b)) (hown : OwnS w b S) (y : Nat) (hy : y < 4294967296) (hx : a.eval x = .int .u32 (y : Int))
    (h : wpList Try.prog ops Q rest (a.put o.dst (.bool (decide (S y)))) w) : wpList Try.prog ops Q (o :: rest) a w := by
  refine wpList_plain hg fun K' hK' => ?_
  have hrun := hown.look hy
  unfold Oper.wp
  simp [execOp, hop, hm, hx, hrun, Result.andThen]
  exact hK' _ _ h
theorem wpList_lookS_yes (hg : o.guard = none) (m x : Operand) (hop : o.op = Op.lookup 61 m x false)
    (hm : a.eval m = .map (some b)) (hown : OwnS w b S) (y : Nat) (hy : y < 4294967296) (hx : a.eval x = .int .u32 (y : Int)) (hs : S y)
    (h : wpList Try.prog ops Q rest (a.put o.dst (.bool true)) w) : wpList Try.prog ops Q (o :: rest) a w := by
  classical
  refine wpList_lookS hg m x hop hm hown y hy hx ?_
  rw [decide_eq_true hs]; exact h
theorem wpList_lookS_no (hg : o.guard = none) (m x : Operand) (hop : o.op = Op.lookup 61 m x false)
    (hm : a.eval m = .map (some b)) (hown : OwnS w b S) (y : Nat) (hy : y < 4294967296) (hx : a.eval x = .int .u32 (y : Int)) (hs : ¬ S y)
    (h : wpList Try.prog ops Q rest (a.put o.dst (.bool false)) w) : wpList Try.prog ops Q (o :: rest) a w := by
  classical
  refine wpList_lookS hg m x hop hm hown y hy hx ?_
  rw [decide_eq_false hs]; exact h
/-- A range over a set under way: left says which are still to come. -/
structure RngS (w : World) (b r : Nat) (S left : Nat → Prop) (cnt : Nat) : Prop where
  ex : ∃ (D : DataW Value) (lf : Lit → Bool), w.ranges Try.prog 50 heldE b r 256 D lf cnt ∧ (∀ l, lf l = true → ∃ x : Nat, l = .int .u32 (x : Int) ∧ S x) ∧ ∀ x : Nat, x < 4294967296 → (lf (.int .u32 (x : Int)) = true ↔ left x)
  sub : ∀ x, left x → S x
theorem RngS.kept {r cnt : Nat} {left : Nat → Prop} {w' : World} {row : Option Nat} (h : RngS w b r S left cnt) (hg : w.grownBy w' row) (h1 : some b ≠ row) (h2 : some r ≠ row) : RngS w' b r S left cnt := by
  obtain ⟨⟨D, lf, a1, a2, a3⟩, hs⟩ := h
  exact ⟨⟨D, lf, a1.kept hg h1 h2, a2, a3⟩, hs⟩
theorem RngS.drewN {r cnt : Nat} {left : Nat → Prop} (h : RngS w b r S left cnt) (n : Nat) : RngS (w.drewN n) b r S left cnt := ⟨h.ex, h.sub⟩
theorem RngS.alloc {r cnt : Nat} {left : Nat → Prop} (h : RngS w b r S left cnt) (o : Obj) : RngS (w.alloc o) b r S left cnt := h.kept (World.grownBy_alloc w o none) (by simp) (by simp)
theorem RngS.lt {r cnt : Nat} {left : Nat → Prop} (h : RngS w b r S left cnt) : r < w.heap.size := by obtain ⟨⟨D, lf, a1, _⟩, _⟩ := h; exact a1.lt
theorem RngS.left_eq {r cnt : Nat} {left : Nat → Prop} (h : RngS w b r S left cnt) : w.rangeLeft b r = cnt := by obtain ⟨⟨D, lf, a1, _⟩, _⟩ := h; exact a1.left_eq
theorem RngS.congr {r cnt : Nat} {left left' : Nat → Prop} (h : RngS w b r S left cnt) (e : ∀ x, left x ↔ left' x) : RngS w b r S left' cnt := by
  have : left = left' := funext fun x => propext (e x)
  rw [← this]; exact h
theorem wpList_rangeS (hg : o.guard = none) (m : Operand) (hop : o.op = Op.range 61 m) (hm : a.eval m = .map (some b)) (hown : OwnS w b S)
    (h : ∀ w' cnt, RngS w' b w.heap.size S S cnt → w.grownBy w' none → w'.heap.size = w.heap.size + 1 → wpList Try.prog ops Q rest (a.put o.dst (.pointer (some ⟨w.heap.size, 0, none⟩))) w') : wpList Try.prog ops Q (o :: rest) a w := by
  obtain ⟨D, h1, h2, h3⟩ := hown.open_
  exact wpList_range_own w hg m _ hop _ _ keyedU Try.underlying61 heldE b 256 D hm h1 (fun w' r1 r2 r3 => h w' _ ⟨⟨D, _, r1, h3, h2⟩, fun _ h => h⟩ r2 r3)
theorem wpList_nextS (hg : o.guard = none) (it : Operand) (hop : o.op = Op.next it false) {r cnt : Nat} {left : Nat → Prop} (hit : a.eval it = .pointer (some ⟨r, 0, none⟩)) (h : RngS w b r S left cnt) (hS : ∀ x, S x → x < 256)
    (hDone : (∀ x, ¬ left x) → wpList Try.prog ops Q rest (a.put o.dst (.tuple #[.bool false])) w)
    (hMore : ∀ (x : Nat) (c : Value) (w' : World) (cnt' : Nat), left x → RngS w' b r S (fun z => left z ∧ z ≠ x) cnt' → cnt' < cnt → w.grownBy w' (some r) → w'.heap.size = w.heap.size →
      (Instr.entry (.pointer (some ⟨r, 0, none⟩))).run Try.prog w' = .ok (.tuple #[.int .u32 (x : Int), c]) w' → wpList Try.prog ops Q rest (a.put o.dst (.tuple #[.bool true, .int .u32 (x : Int), c])) w') : wpList Try.prog ops Q (o :: rest) a w := by
  obtain ⟨⟨D, lf, h1, h2, h3⟩, hs⟩ := h
  refine wpList_next_ranges w hg it hop _ keyedU heldE encU (fun c : Value => c) (fun key kl hk => by obtain ⟨x, _, e, _⟩ := key_inv hk; exact ⟨x, e⟩) (fun v _ _ => ⟨v, rfl⟩) b r 256 D lf cnt hit h1 (fun _ hl => hDone fun x hx => ?_) (fun x c kl y w' cnt' hk hl hv hat hr hlt hgr hsz hen => ?_)
  · have := hS x (hs x hx)
    have := (h3 x (by omega)).2 hx
    rw [hl] at this; cases this
  · obtain ⟨z, hz, ez, rfl⟩ := key_inv hk
    obtain rfl := encU_inj _ _ ez
    refine hMore x c w' cnt' ((h3 x hz).1 hl) ⟨⟨D, _, hr, fun l hl' => h2 l ?_, fun u hu => ?_⟩, fun u hu => hs u hu.1⟩ hlt hgr hsz hen
    · simp only [Bool.and_eq_true] at hl'; exact hl'.1
    · simp only [Bool.and_eq_true, Bool.not_eq_true']
      rw [h3 u hu]
      refine and_congr Iff.rfl ?_
      constructor
      · intro h e
        subst e
        rw [WideAt.sameKey_self (keyedU.key (keyU hz))] at h; cases h
      · intro h
        exact sameKey_ne (fun e => h (by injection e with _ e; omega))
end
end Go.Proofs.Ytdkkmmljaijomaa
