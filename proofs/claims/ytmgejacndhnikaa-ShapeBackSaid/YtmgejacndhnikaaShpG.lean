/- The blocks that shape.Flat lays down: a block's parts stored. -/
import Derived.Test.YtmgejacndhnikaaShpF
namespace Go.Proofs.Ytmgejacndhnikaa
set_option maxRecDepth 100000
open Go.RowKit

theorem flatL_code {d : Nat} {x : Shp} {r : List Shp} {p : List Blk} {i : Nat} (h : x.kind = 1) : flatL (d + 1) (x :: r) p i = flatL (d + 1) r (addC p i x.code) i := by
  conv => lhs; rw [flatL]
  rw [if_pos h]
theorem flatL_both {d : Nat} {x : Shp} {r : List Shp} {p : List Blk} {i : Nat} (h : x.kind = 2) {q s : List Blk} {a b : Nat}
    (h1 : flatL d x.thn (setG (p ++ [nbl] ++ [nbl]) i x.test (p.length : Nat) ((p.length + 1 : Nat) : Int)) p.length = (q, a)) (h2 : flatL d x.els q (p.length + 1) = (s, b)) :
    flatL (d + 1) (x :: r) p i = flatL (d + 1) r (setT (setT (s ++ [nbl]) a (s.length : Nat)) b (s.length : Nat)) s.length := by
  conv => lhs; rw [flatL]
  rw [if_neg (by omega), if_pos h]
  dsimp only
  rw [h1]
  dsimp only
  rw [h2]
theorem flatL_while {d : Nat} {x : Shp} {r : List Shp} {p : List Blk} {i : Nat} (h : x.kind = 3) {q : List Blk} {a : Nat}
    (h1 : flatL d x.thn ((setT (p ++ [zbl] ++ [nbl] ++ [nbl]) i (p.length : Nat)).set p.length ⟨[], x.test, ((p.length + 1 : Nat) : Int), ((p.length + 2 : Nat) : Int)⟩) (p.length + 1) = (q, a)) :
    flatL (d + 1) (x :: r) p i = flatL (d + 1) r (setT q a (p.length : Nat)) (p.length + 2) := by
  conv => lhs; rw [flatL]
  rw [if_neg (by omega), if_neg (by omega), if_pos h]
  dsimp only
  rw [h1]
theorem flat_len : ∀ (d : Nat) (l : List Shp) (p : List Blk) (i : Nat), (flatL d l p i).1.length ≤ p.length + 3 * cntL d l
  | d, [], p, i => by rw [flatL_nil]; exact Nat.le_add_right _ _
  | 0, x :: r, p, i => by rw [flatL]; exact Nat.le_add_right _ _
  | d + 1, x :: r, p, i => by
    rw [cntL_cons]
    by_cases h1 : x.kind = 1
    · rw [flatL_code h1]
      have := flat_len (d + 1) r (addC p i x.code) i
      rw [addC_len] at this
      omega
    · by_cases h2 : x.kind = 2
      · obtain ⟨⟨q, a⟩, hq⟩ : ∃ y, flatL d x.thn (setG (p ++ [nbl] ++ [nbl]) i x.test (p.length : Nat) ((p.length + 1 : Nat) : Int)) p.length = y := ⟨_, rfl⟩
        obtain ⟨⟨s, b⟩, hs⟩ : ∃ y, flatL d x.els q (p.length + 1) = y := ⟨_, rfl⟩
        rw [flatL_both h2 hq hs]
        have e1 := flat_len d x.thn (setG (p ++ [nbl] ++ [nbl]) i x.test (p.length : Nat) ((p.length + 1 : Nat) : Int)) p.length
        have e2 := flat_len d x.els q (p.length + 1)
        have e3 := flat_len (d + 1) r (setT (setT (s ++ [nbl]) a (s.length : Nat)) b (s.length : Nat)) s.length
        rw [hq, setG_len] at e1
        rw [hs] at e2
        rw [setT_len, setT_len] at e3
        simp at e1 e2 e3
        omega
      · by_cases h3 : x.kind = 3
        · obtain ⟨⟨q, a⟩, hq⟩ : ∃ y, flatL d x.thn ((setT (p ++ [zbl] ++ [nbl] ++ [nbl]) i (p.length : Nat)).set p.length ⟨[], x.test, ((p.length + 1 : Nat) : Int), ((p.length + 2 : Nat) : Int)⟩) (p.length + 1) = y := ⟨_, rfl⟩
          rw [flatL_while h3 hq]
          have e1 := flat_len d x.thn ((setT (p ++ [zbl] ++ [nbl] ++ [nbl]) i (p.length : Nat)).set p.length ⟨[], x.test, ((p.length + 1 : Nat) : Int), ((p.length + 2 : Nat) : Int)⟩) (p.length + 1)
          have e3 := flat_len (d + 1) r (setT q a (p.length : Nat)) (p.length + 2)
          rw [hq, List.length_set, setT_len] at e1
          rw [setT_len] at e3
          simp at e1 e3
          omega
        · rw [flatL, if_neg h1, if_neg h2, if_neg h3]
          have := flat_len (d + 1) r p i
          omega
  termination_by d l => (d, l.length)
section
variable {w0 w w' : World} {T g cap : Nat} {raws : List RB} {l : List Blk}
theorem FS.raw (h : FS w0 w T g cap raws l) {i : Nat} (hi : i < l.length) : ∃ x, raws[i]? = some x ∧ l[i]? = some (l.getD i bnul) ∧ x.t = (l.getD i bnul).test ∧ x.h = (l.getD i bnul).thn ∧ x.e = (l.getD i bnul).els ∧ OwnSt w w0.heap.size 87 x.v (l.getD i bnul).code := by
  have hr : i < raws.length := by rw [h.len]; exact hi
  have e : l[i]? = some (l.getD i bnul) := by rw [List.getD_eq_getElem?_getD, List.getElem?_eq_getElem hi]; rfl
  exact ⟨raws[i], List.getElem?_eq_getElem hr, e, h.at_ i _ _ (List.getElem?_eq_getElem hr) e⟩
theorem FS.cells (h : FS w0 w T g cap raws l) {i : Nat} {x : RB} (hx : raws[i]? = some x) : (w.cell? ⟨g, i * 4, none⟩ = some x.v ∧ w.cell? ⟨g, i * 4 + 1, none⟩ = some (.int .i64 x.t) ∧ w.cell? ⟨g, i * 4 + 2, none⟩ = some (.int .i64 x.h) ∧ w.cell? ⟨g, i * 4 + 3, none⟩ = some (.int .i64 x.e)) ∧ ∀ j, w.frozen? ⟨g, j, none⟩ = false := by
  have hi : i < raws.length := (List.getElem?_eq_some_iff.1 hx).1
  have hxe : raws[i] = x := (List.getElem?_eq_some_iff.1 hx).2
  have key := fun j hj => Own.cell_ rbCells_len h.own hi (j := j) hj
  obtain ⟨g', c', e, -, -, -, hf⟩ := Own.some_ h.own (by omega)
  injection e with e1 e2 e3
  injection e1 with e1
  injection e1 with e1
  subst e1
  rw [hxe] at key
  exact ⟨⟨by simpa [RB.cells] using key 0 (by decide), by simpa [RB.cells] using key 1 (by decide), by simpa [RB.cells] using key 2 (by decide), by simpa [RB.cells] using key 3 (by decide)⟩, hf⟩
theorem FS.tcell (h : FS w0 w T g cap raws l) : w.cell? ⟨T, 0, none⟩ = some (.slice (some ⟨g, 0, none⟩) l.length cap) := cell_h h.tc 0
/-- What a store at T's blocks keeps. -/
theorem FS.fr (h : FS w0 w T g cap raws l) {a : World} (hf : FrS a w) (j : Nat) (u : Value) : FrS a (w.setCell ⟨g, j, none⟩ u) := by
  obtain ⟨cur, hc⟩ := own_heap h.own
  exact hf.set (p := ⟨g, j, none⟩) hc (by decide)
/-- f.p[i].Then = n -/
theorem FS.stT (h : FS w0 w T g cap raws l) {i : Nat} (hi : i < l.length) (n : Int) : (∃ v, w.cell? ⟨g, i * 4 + 2, none⟩ = some v) ∧ w.frozen? ⟨g, i * 4 + 2, none⟩ = false ∧ ∃ raws', FS w0 (w.setCell ⟨g, i * 4 + 2, none⟩ (.int .i64 n)) T g cap raws' (setT l i n) := by
  obtain ⟨x, hx, hb, e1, e2, e3, _⟩ := h.raw hi
  obtain ⟨⟨_, _, c2, _⟩, hf⟩ := h.cells hx
  exact ⟨⟨_, c2⟩, hf _, _, h.store (j := 2) (x' := { x with h := n }) (b' := { l.getD i bnul with thn := n }) hx hb (by decide) rfl rfl rfl ⟨e1, rfl, e3⟩⟩
/-- f.p[i].Test, f.p[i].Then, f.p[i].Else = t, a, e -/
theorem FS.stG (h : FS w0 w T g cap raws l) {i : Nat} (hi : i < l.length) (t a e : Int) : ∃ raws1 l1 raws2 l2 raws3,
    ((∃ v, w.cell? ⟨g, i * 4 + 1, none⟩ = some v) ∧ w.frozen? ⟨g, i * 4 + 1, none⟩ = false ∧ FS w0 (w.setCell ⟨g, i * 4 + 1, none⟩ (.int .i64 t)) T g cap raws1 l1 ∧ l1.length = l.length) ∧
    ((∃ v, (w.setCell ⟨g, i * 4 + 1, none⟩ (.int .i64 t)).cell? ⟨g, i * 4 + 2, none⟩ = some v) ∧ (w.setCell ⟨g, i * 4 + 1, none⟩ (.int .i64 t)).frozen? ⟨g, i * 4 + 2, none⟩ = false ∧ FS w0 ((w.setCell ⟨g, i * 4 + 1, none⟩ (.int .i64 t)).setCell ⟨g, i * 4 + 2, none⟩ (.int .i64 a)) T g cap raws2 l2 ∧ l2.length = l.length) ∧
    ((∃ v, ((w.setCell ⟨g, i * 4 + 1, none⟩ (.int .i64 t)).setCell ⟨g, i * 4 + 2, none⟩ (.int .i64 a)).cell? ⟨g, i * 4 + 3, none⟩ = some v) ∧ ((w.setCell ⟨g, i * 4 + 1, none⟩ (.int .i64 t)).setCell ⟨g, i * 4 + 2, none⟩ (.int .i64 a)).frozen? ⟨g, i * 4 + 3, none⟩ = false ∧
      FS w0 (((w.setCell ⟨g, i * 4 + 1, none⟩ (.int .i64 t)).setCell ⟨g, i * 4 + 2, none⟩ (.int .i64 a)).setCell ⟨g, i * 4 + 3, none⟩ (.int .i64 e)) T g cap raws3 (setG l i t a e)) := by
  obtain ⟨x, hx, hb, e1, e2, e3, _⟩ := h.raw hi
  have hr : i < raws.length := by rw [h.len]; exact hi
  obtain ⟨⟨_, c1, _, _⟩, hf1⟩ := h.cells hx
  have h1 := h.store (j := 1) (u := .int .i64 t) (x' := { x with t := t }) (b' := { l.getD i bnul with test := t }) hx hb (by decide) rfl rfl rfl ⟨rfl, e2, e3⟩
  have x1 : (raws.set i { x with t := t })[i]? = some { x with t := t } := List.getElem?_set_self hr
  have b1 : (l.set i { l.getD i bnul with test := t })[i]? = some { l.getD i bnul with test := t } := List.getElem?_set_self hi
  obtain ⟨⟨_, _, c2, _⟩, hf2⟩ := h1.cells x1
  have h2 := h1.store (j := 2) (u := .int .i64 a) (x' := { x with t := t, h := a }) (b' := { l.getD i bnul with test := t, thn := a }) x1 b1 (by decide) rfl rfl rfl ⟨rfl, rfl, e3⟩
  rw [List.set_set, List.set_set] at h2
  have x2 : (raws.set i { x with t := t, h := a })[i]? = some { x with t := t, h := a } := List.getElem?_set_self hr
  have b2 : (l.set i { l.getD i bnul with test := t, thn := a })[i]? = some { l.getD i bnul with test := t, thn := a } := List.getElem?_set_self hi
  obtain ⟨⟨_, _, _, c3⟩, hf3⟩ := h2.cells x2
  have h3 := h2.store (j := 3) (u := .int .i64 e) (x' := { x with t := t, h := a, e := e }) (b' := { l.getD i bnul with test := t, thn := a, els := e }) x2 b2 (by decide) rfl rfl rfl ⟨rfl, rfl, rfl⟩
  rw [List.set_set, List.set_set] at h3
  exact ⟨_, _, _, _, _, ⟨⟨_, c1⟩, hf1 _, h1, List.length_set⟩, ⟨⟨_, c2⟩, hf2 _, h2, List.length_set⟩, ⟨_, c3⟩, hf3 _, h3⟩
/-- f.p[i] = a block without steps -/
theorem FS.set4 (h : FS w0 w T g cap raws l) {i : Nat} (hi : i < l.length) (t a e : Int) : ∃ raws', FS w0 ((((w.setCell ⟨g, i * 4, none⟩ (.slice none 0 0)).setCell ⟨g, i * 4 + 1, none⟩ (.int .i64 t)).setCell ⟨g, i * 4 + 2, none⟩ (.int .i64 a)).setCell ⟨g, i * 4 + 3, none⟩ (.int .i64 e)) T g cap raws' (l.set i ⟨[], t, a, e⟩) ∧ ∀ b, FrS b w → FrS b ((((w.setCell ⟨g, i * 4, none⟩ (.slice none 0 0)).setCell ⟨g, i * 4 + 1, none⟩ (.int .i64 t)).setCell ⟨g, i * 4 + 2, none⟩ (.int .i64 a)).setCell ⟨g, i * 4 + 3, none⟩ (.int .i64 e)) := by
  obtain ⟨x, hx, hb, e1, e2, e3, hO⟩ := h.raw hi
  have hr : i < raws.length := by rw [h.len]; exact hi
  have h0 := h.code (w' := w) hx hb (v' := .slice none 0 0) (c := []) (Own.nil_ _ _ _) ⟨rfl, rfl, rfl, Nat.le_refl _, fun _ _ _ => rfl⟩ (.inr (.inr rfl)) rfl
  obtain ⟨r1, l1, r2, l2, r3, ⟨_, _, k1, _⟩, ⟨_, _, k2, _⟩, _, _, h3⟩ := h0.stG (i := i) (by rw [List.length_set]; exact hi) t a e
  refine ⟨r3, ?_, fun b hb => k2.fr (k1.fr (h0.fr (h.fr hb _ _) _ _) _ _) _ _⟩
  have e : setG (l.set i { l.getD i bnul with code := [] }) i t a e = l.set i ⟨[], t, a, e⟩ := by
    unfold setG
    rw [List.set_set, getB_set hi, if_pos rfl]
  rw [e] at h3
  exact h3
theorem FS.set4c (h : FS w0 w T g cap raws l) {i : Nat} (hi : i < l.length) : ∃ v t a e, w.cell? ⟨g, i * 4, none⟩ = some v ∧ w.cell? ⟨g, i * 4 + 1, none⟩ = some t ∧ w.cell? ⟨g, i * 4 + 2, none⟩ = some a ∧ w.cell? ⟨g, i * 4 + 3, none⟩ = some e ∧ ∀ j, w.frozen? ⟨g, j, none⟩ = false := by
  obtain ⟨x, hx, _⟩ := h.raw hi
  obtain ⟨⟨c0, c1, c2, c3⟩, hf⟩ := h.cells hx
  exact ⟨_, _, _, _, c0, c1, c2, c3, hf⟩
/-- Steps go behind those of block i: the run, and what it leaves once it is stored. -/
theorem FS.adC (h : FS w0 w T g cap raws l) {i : Nat} (hi : i < l.length) {A : Option Addr} {c : List Step} (cp : Nat) (hA : RdSt w0 A c) (hlen : (l.getD i bnul).code.length + c.length ≤ 1000) :
    ∃ v A' n' c' w', w.cell? ⟨g, i * 4, none⟩ = some v ∧ (Builtin.append_ #[48, 48] 48 #[v, .slice A c.length cp]).run Try.prog w = .ok (.slice A' n' c') w' ∧ (w'.cell? ⟨g, i * 4, none⟩ = some v ∧ w'.frozen? ⟨g, i * 4, none⟩ = false) ∧ w'.cell? ⟨T, 0, none⟩ = some (.slice (some ⟨g, 0, none⟩) l.length cap) ∧ FrS w w' ∧
      ∃ raws', FS w0 (w'.setCell ⟨g, i * 4, none⟩ (.slice A' n' c')) T g cap raws' (addC l i c) ∧ FrS w (w'.setCell ⟨g, i * 4, none⟩ (.slice A' n' c')) := by
  obtain ⟨x, hx, hb, e1, e2, e3, hO⟩ := h.raw hi
  obtain ⟨⟨c0, _⟩, hf⟩ := h.cells hx
  obtain ⟨v', w', hrun, hO', hg, hat⟩ := run_appN (P := Try.prog) 48 48 Step.cells 5 40 87 (Step.mk 0 0 0 0 0).agg Try.underlying48 infoStep rfl (by decide) stepCells_len stepCells_one w0.heap.size _ _ hO A c cp (Rd.below hA h.bel) (by unfold maxLen; omega) (by omega) h.bel.size
  obtain ⟨A', c', e, _⟩ := Own.form stepCells_len hO'
  subst e
  obtain ⟨cur, hcur⟩ := own_heap h.own
  have hcur' := (hg.block g (lt_h hcur) (fun e => flat_off hO hcur (by decide) e.symm)).trans hcur
  have htc' := (hg.block T (lt_h h.tc) (fun e => flat_off hO h.tc (by decide) e.symm)).trans h.tc
  have hfr : FrS w w' := (FrS.refl w).grown hO (by decide) hg
  refine ⟨x.v, A', _, c', w', c0, hrun, ⟨?_, fz_h hcur' _⟩, cell_h htc' 0, hfr, _, h.code hx hb hO' hg (hat.elim .inl (fun e => .inr (.inl e))) rfl, hfr.set (p := ⟨g, i * 4, none⟩) hcur' (by decide)⟩
  rw [cell_h hcur' (i * 4), ← cell_h hcur (i * 4)]
  exact c0
end
end Go.Proofs.Ytmgejacndhnikaa
