/- codemasonref.Turned. -/
import Derived.Test.YtljmignfbagomaaRefs
namespace Go.Proofs.Ytljmignfbagomaa
open Go.RowKit

def tTo (ls : List (List Int)) (j i : Nat) : List Int := ((List.range i).filter fun a => decide ((j : Int) ∈ ls.getD a [])).map fun a : Nat => (a : Int)
def trow (ls : List (List Int)) (j : Nat) : List Int := tTo ls j ls.length
def turned (ls : List (List Int)) : List (List Int) := (List.range ls.length).map (trow ls)
theorem tTo_yes {ls : List (List Int)} {j i : Nat} (hi : i < ls.length) (h : (j : Int) ∈ ls[i]) : tTo ls j (i + 1) = tTo ls j i ++ [(i : Int)] := by
  unfold tTo
  rw [List.range_succ, List.filter_append, List.map_append]
  have : ls.getD i [] = ls[i] := by rw [List.getD_eq_getElem?_getD, List.getElem?_eq_getElem hi]; rfl
  simp only [List.filter_cons, this, decide_eq_true h, if_true, List.filter_nil, List.map_cons, List.map_nil]
theorem tTo_no {ls : List (List Int)} {j i : Nat} (hi : i < ls.length) (h : (j : Int) ∉ ls[i]) : tTo ls j (i + 1) = tTo ls j i := by
  unfold tTo
  rw [List.range_succ, List.filter_append, List.map_append]
  have : ls.getD i [] = ls[i] := by rw [List.getD_eq_getElem?_getD, List.getElem?_eq_getElem hi]; rfl
  simp only [List.filter_cons, this, decide_eq_false h, Bool.false_eq_true, if_false, List.filter_nil, List.map_nil, List.append_nil]
theorem tTo_len (ls : List (List Int)) (j i : Nat) : (tTo ls j i).length ≤ i := by
  unfold tTo
  rw [List.length_map]
  have := List.length_filter_le (fun a => decide ((j : Int) ∈ ls.getD a [])) (List.range i)
  simpa using this

/-- A row of whatever values: each a cell. -/
abbrev oneV (v : Value) : List Value := [v]
abbrev OwnV (w : World) (base E : Nat) (v : Value) (l : List Value) : Prop := Own oneV 1 w base E v l
theorem oneV_flat (l : List Value) : l.flatMap oneV = l := by
  induction l with
  | nil => rfl
  | cons x r ih => rw [List.flatMap_cons, ih]; rfl
theorem infoInts : (Try.prog.info? 32).map (fun i => (i.zero, i.size, i.bytes)) = some (some (.slice none 0 0), 1, 24) := by kernel_rfl
/-- 'make([][]int, n)'. -/
theorem wpList_makeN {w : World} {ops : Array Oper} {rest : List Oper} {o : Oper} {a : Act} {Q : Exit → Act → World → Prop} (hg : o.guard = none) (lo c : Operand) (hop : o.op = Op.makeSlice 22 lo c)
    (base n : Nat) (hl : a.eval lo = .int .i64 (n : Int)) (hc : a.eval c = .int .i64 (n : Int)) (hn : n < 1000000) (hbase : base ≤ w.heap.size)
    (h : ∀ w', OwnV w' base 32 (.slice (some ⟨w.heap.size, 0, none⟩) n n) (List.replicate n (.slice none 0 0)) → w.grownBy w' none → wpList Try.prog ops Q rest (a.put o.dst (.slice (some ⟨w.heap.size, 0, none⟩) n n)) w') : wpList Try.prog ops Q (o :: rest) a w := by
  obtain ⟨i, hi, hz0, hz1, hz2⟩ := info_parts infoInts
  refine wpList_make_full w hg lo c 22 hop base 32 i (.slice none 0 0) 1 Try.underlying22 hi hz0 hz1 .i64 .i64 n n n hl hc rfl rfl (by rw [hz2]; omega) (by unfold maxLen; omega) hbase fun w' h1 h2 => ?_
  refine h w' ?_ h2
  have e : (madeCells (Value.slice none 0 0).cells (n * 1)).toList = (List.replicate n (Value.slice none 0 0)).flatMap oneV := by
    rw [show (Value.slice none 0 0).cells = #[.slice none 0 0] from rfl, Nat.mul_one, toList_madeCells_one]
    rw [oneV_flat]
  rw [e] at h1
  unfold OwnV Own
  rw [List.length_replicate]
  exact h1
theorem OwnV.at2 {w : World} {base n c E : Nat} {A : Option Addr} {l : List Value} (h : OwnV w base E (.slice A n c) l) (hl : 0 < l.length) :
    ∃ g, A = some ⟨g, 0, none⟩ ∧ base ≤ g ∧ g < w.heap.size ∧ (∀ j, w.frozen? ⟨g, j, none⟩ = false) ∧ ∀ k (_hk : k < l.length), w.cell? ⟨g, k, none⟩ = some l[k] := by
  obtain ⟨g, cap, e, h1, h2, h3, h4⟩ := h.some_ hl
  injection e with e1 e2 e3
  subst e1 e2 e3
  refine ⟨g, rfl, h1, h2, h4, fun k hk => ?_⟩
  have := Own.cell_ (f := oneV) (size := 1) (fun _ => rfl) h hk (j := 0) (by decide)
  simpa using this
theorem OwnV.set_ {w : World} {base g cap n E : Nat} {l : List Value} (h : OwnV w base E (.slice (some ⟨g, 0, none⟩) n cap) l) {k : Nat} (y : Value) :
    OwnV (w.setCell ⟨g, k, none⟩ y) base E (.slice (some ⟨g, 0, none⟩) n cap) (l.set k y) := by
  have hn : n = l.length := by
    rcases h.2 with ⟨h0, _⟩ | ⟨_, _, _, h0, _⟩
    · cases h0
    · injection h0
  subst hn
  have h1 := World.ownsRow.stored (w := w) (base := base) (e := E) (size := 1) (g := g) (cap := cap) (n := l.length) (xs := l.flatMap oneV) h k y
  unfold OwnV Own
  rw [oneV_flat] at h1 ⊢
  rw [List.length_set]
  exact h1.1
theorem grown_set (w : World) (g k : Nat) (v : Value) : w.grownBy (w.setCell ⟨g, k, none⟩ v) (some g) :=
  ⟨rfl, rfl, rfl, by simp [World.setCell], fun i _ hne => Below.heap_setCell w ⟨g, k, none⟩ v i (fun e => hne (by rw [e]))⟩
/-- What reads on where one block alone turned. -/
theorem Rd.grown {α : Type} {f : α → List Value} {size : Nat} {w w' : World} {A : Option Addr} {l : List α} {g : Nat} (h : Rd f size w A l) (hg : w.grownBy w' (some g)) (hne : ∀ p, A = some p → p.block ≠ g) : Rd f size w' A l := fun hn => by
  obtain ⟨b, off, e, hb, hc⟩ := h hn
  refine ⟨b, off, e, by have := hg.size; omega, fun k x hx j hj => ?_⟩
  rw [← hc k x hx j hj]
  have := hg.block b hb (fun h => hne _ e (by injection h))
  simp only [World.cell?, this]

/-- The first j rows are turned, the others nil. -/
structure TN (ls : List (List Int)) (w : World) (base : Nat) (j : Nat) (vals : List Value) : Prop where
  len : vals.length = ls.length
  own : OwnV w base 32 (.slice (some ⟨base, 0, none⟩) ls.length ls.length) vals
  done : ∀ k (h : k < vals.length), k < j → ∃ A' cap', vals[k] = .slice A' (trow ls k).length cap' ∧ RdI w A' (trow ls k) ∧ ∀ p, A' = some p → base < p.block
  rest : ∀ k (h : k < vals.length), j ≤ k → vals[k] = .slice none 0 0
/-- Of row j what comes of the first i. -/
structure TI (ls : List (List Int)) (w0 w : World) (base : Nat) (j i : Nat) (vals : List Value) (v : Value) : Prop where
  own : OwnV w base 32 (.slice (some ⟨base, 0, none⟩) ls.length ls.length) (vals.set j v)
  row : OwnI w w0.heap.size 3 v (tTo ls j i)
  grown : w0.grownBy w (some base)
theorem TN.start {ls : List (List Int)} {w : World} {base j : Nat} {vals : List Value} (h : TN ls w base j vals) (hj : j < ls.length) : TI ls w w base j 0 vals (.slice none 0 0) :=
  ⟨by have hk : j < vals.length := by rw [h.len]; exact hj
      have : vals.set j (.slice none 0 0) = vals := by rw [← h.rest j hk (Nat.le_refl _)]; exact List.set_getElem_self hk
      rw [this]; exact h.own, Own.nil_ _ _ _, ⟨rfl, rfl, rfl, Nat.le_refl _, fun _ _ _ => rfl⟩⟩
theorem TI.finish {ls : List (List Int)} {w0 w : World} {base j : Nat} {vals : List Value} {v : Value} (h0 : TN ls w0 base j vals) (h : TI ls w0 w base j ls.length vals v) (hb : base < w0.heap.size) : TN ls w base (j + 1) (vals.set j v) := by
  refine ⟨by rw [List.length_set]; exact h0.len, h.own, fun k hk hlt => ?_, fun k hk hge => ?_⟩
  · rw [List.length_set] at hk
    rw [List.getElem_set]
    by_cases e : j = k
    · subst e
      rw [if_pos rfl]
      obtain ⟨A', cap', h1, h2, h3, _⟩ := h.row.form intCells_len
      exact ⟨A', cap', h1, h2, fun p hp => by have := (h3 p hp).1; omega⟩
    · rw [if_neg e]
      obtain ⟨A', cap', h1, h2, h3⟩ := h0.done k hk (by omega)
      exact ⟨A', cap', h1, Rd.grown h2 h.grown (fun p hp => by have := h3 p hp; omega), h3⟩
  · rw [List.length_set] at hk
    rw [List.getElem_set, if_neg (by omega)]
    exact h0.rest k hk (by omega)
/-- Rows of rows that lie in no block below base. -/
def RdNF (base : Nat) (w : World) (A : Option Addr) (ls : List (List Int)) : Prop :=
  0 < ls.length → ∃ b off, A = some ⟨b, off, none⟩ ∧ base ≤ b ∧ b < w.heap.size ∧
    ∀ (k : Nat) (l : List Int), ls[k]? = some l → ∃ A' cap', w.cell? ⟨b, off + k, none⟩ = some (.slice A' l.length cap') ∧ RdI w A' l ∧ ∀ p, A' = some p → base ≤ p.block
theorem RdNF.rd {base : Nat} {w : World} {A : Option Addr} {ls : List (List Int)} (h : RdNF base w A ls) : RdN w A ls := fun hn => by
  obtain ⟨b, off, e, _, hlt, hc⟩ := h hn
  refine ⟨b, off, e, hlt, fun k l hk => ?_⟩
  obtain ⟨A', cap', h1, h2, _⟩ := hc k l hk
  exact ⟨A', cap', h1, h2⟩
theorem RdNF.grown {base : Nat} {w w' : World} {A : Option Addr} {ls : List (List Int)} {g : Nat} (h : RdNF base w A ls) (hg : w.grownBy w' (some g)) (hlt : g < base) : RdNF base w' A ls := fun hn => by
  obtain ⟨b, off, e, hge, hb, hc⟩ := h hn
  refine ⟨b, off, e, hge, by have := hg.size; omega, fun k l hk => ?_⟩
  obtain ⟨A', cap', h1, h2, h3⟩ := hc k l hk
  refine ⟨A', cap', ?_, Rd.grown h2 hg (fun p hp => by have := h3 p hp; omega), h3⟩
  rw [← h1]
  have := hg.block b hb (fun h => by injection h with h; omega)
  simp only [World.cell?, this]
theorem TN.finish {ls : List (List Int)} {w : World} {base : Nat} {vals : List Value} (h : TN ls w base ls.length vals) : RdNF base w (some ⟨base, 0, none⟩) (turned ls) := fun hn => by
  have hn : 0 < vals.length := by rw [h.len]; simpa [turned] using hn
  obtain ⟨g, e, _, hlt, _, hc⟩ := OwnV.at2 h.own hn
  injection e with e; injection e with e
  subst e
  refine ⟨base, 0, rfl, Nat.le_refl _, hlt, fun k l hk => ?_⟩
  have hk1 : k < ls.length := by
    have := (List.getElem?_eq_some_iff.1 hk).1
    simpa [turned] using this
  have hl : l = trow ls k := by
    unfold turned at hk
    rw [List.getElem?_map, List.getElem?_range hk1] at hk
    injection hk with hk; exact hk.symm
  subst hl
  obtain ⟨A', cap', h1, h2, h3⟩ := h.done k (by rw [h.len]; exact hk1) hk1
  refine ⟨A', cap', ?_, h2, fun p hp => by have := h3 p hp; omega⟩
  rw [Nat.zero_add, hc k (by rw [h.len]; exact hk1), h1]

theorem own_far {w : World} {B E base : Nat} {v : Value} {l : List Int} (h : OwnI w B E v l) (hb : base < B) : some base ≠ v.ownBlock := by
  rcases h.2 with ⟨rfl, _⟩ | ⟨g, cap, cur, rfl, hg, _⟩
  · intro e; cases e
  · intro e
    have e : some base = some g := e
    injection e with e
    omega
theorem TI.push {ls : List (List Int)} {w0 w w3 : World} {base j i : Nat} {vals : List Value} {v v' : Value} {o : Obj} (h : TI ls w0 w base j i vals v) (hi : i < ls.length) (hm : (j : Int) ∈ ls[i]) (hb : base < w0.heap.size)
    (hgrow : (w.alloc o).grownBy w3 v.ownBlock) (hown : OwnI w3 w0.heap.size 3 v' (tTo ls j i ++ [(i : Int)])) :
    OwnV w3 base 32 (.slice (some ⟨base, 0, none⟩) ls.length ls.length) (vals.set j v) ∧ TI ls w0 (w3.setCell ⟨base, j, none⟩ v') base j (i + 1) vals v' := by
  have hV : OwnV w3 base 32 (.slice (some ⟨base, 0, none⟩) ls.length ls.length) (vals.set j v) := Own.kept (h.own.alloc o) hgrow (Or.inr (own_far h.row hb))
  have hs := h.grown.size
  refine ⟨hV, ⟨?_, ?_, ?_⟩⟩
  · have := OwnV.set_ hV (k := j) v'
    rw [List.set_set] at this
    exact this
  · rw [tTo_yes hi hm]
    exact Own.far hown (fun e => own_far hown hb e.symm) v'
  · have g1 : w0.grownBy (w.alloc o) (some base) := h.grown.andThen (World.grownBy_alloc w o none) (fun j hj => by cases hj)
    have g2 : w0.grownBy w3 (some base) := g1.andThen hgrow (fun j hj => by
      rcases h.row.2 with ⟨rfl, _⟩ | ⟨g, cap, cur, rfl, hg, _⟩
      · cases hj
      · have hj : some g = some j := hj
        injection hj with hj
        exact Or.inl (by omega))
    exact g2.andThen (grown_set w3 base j v') (fun j hj => Or.inr hj)

set_option maxHeartbeats 4000000 in
theorem turned_far (A : Option Addr) (ls : List (List Int)) (cap : Nat) (w : World) (hA : RdN w A ls) (h1 : 1 ≤ ls.length) (h8 : ls.length ≤ 8) (h3 : ∀ l ∈ ls, l.length ≤ 1000) :
    Calls Try.prog 20 #[.slice A ls.length cap] w fun e w' => ∃ B, e = .returned (.slice B ls.length ls.length) ∧ RdNF w.heap.size w' B (turned ls) ∧ Below w.heap.size w w' := by
  have HA := Lib.hid hA; clear hA
  have H3 := Lib.hid h3; clear h3
  go_enter Try.func20, Try.ntmps20
  go_wp2_with (at_make; refine wpList_makeN rfl _ _ rfl w.heap.size ls.length rfl rfl (by omega) (Nat.le_refl _) ?_; intro w1 hown1 hgrow1)
  have hW1 : Below w.heap.size w w1 := (Below.refl _ _).grown hgrow1 (Nat.le_refl _) (fun k hk => by cases hk)
  go_loopw [4] (fun j wr => ∃ (k : Nat) (vals : List Value), k ≤ ls.length ∧ j = .int .i64 k ∧ TN ls wr w.heap.size k vals ∧ Below w.heap.size w wr) (fun j _ => ls.length - (intOf j).toNat)
  case atStart => exact ⟨0, _, Nat.zero_le _, rfl, ⟨by simp, hown1, fun k _ h => by omega, fun k h _ => by simp⟩, hW1⟩
  case round =>
    clear hown1 hW1 hgrow1
    obtain ⟨j, vals, hj, rfl, hN, hW⟩ := hrel
    have hw1 := hW.size
    have HN := Lib.hid hN
    clear hN
    by_cases hlt : j < ls.length
    · obtain ⟨w0, rfl⟩ : ∃ w0 : World, w0 = wr := ⟨_, rfl⟩
      have hbase : w.heap.size < w0.heap.size := by
        obtain ⟨g, e, _, hlt, _⟩ := OwnV.at2 HN.out.own (by rw [HN.out.len]; omega)
        injection e with e; injection e with e
        omega
      go_wp2
      go_loopw [5] (fun i wr => ∃ (k : Nat) (v : Value), k ≤ ls.length ∧ i = .int .i64 k ∧ TI ls w0 wr w.heap.size j k vals v) (fun i _ => ls.length - (intOf i).toNat)
      case atStart => exact ⟨0, _, Nat.zero_le _, rfl, HN.out.start hlt⟩
      case round =>
        obtain ⟨i, v, hi, rfl, hI⟩ := hrel
        have hWr : Below w.heap.size w wr := hW.grown hI.grown hw1 (fun k hk => by injection hk with hk; omega)
        have hw2 := hI.grown.size
        by_cases hlti : i < ls.length
        · obtain ⟨b, off, A', cap', rfl, hb, c0, hR⟩ := RdN.at_ (RdN.below HA.out hWr) hlti
          have HR := Lib.hid hR
          have hlen := H3.out _ (List.getElem_mem hlti)
          have HI := Lib.hid hI
          have q1 : ((j : Nat) : Int) < ((ls.length : Nat) : Int) := by omega
          have hTL := tTo_len ls j i
          clear hR hI
          by_cases hm : (j : Int) ∈ ls[i]
          · have Hp := Lib.hid (fun (w3 : World) (v' : Value) (o : Obj) (hgrow : (wr.alloc o).grownBy w3 v.ownBlock) (hown : OwnI w3 w0.heap.size 3 v' (tTo ls j i ++ [(i : Int)])) => HI.out.push hlti hm hbase hgrow hown)
            have hd : decide ((j : Int) ∈ ls[i]) = true := decide_eq_true hm
            have Hd := Lib.hid hd
            clear hm hd
            generalize ls[i] = l at *
            obtain ⟨g, eg, _, hg2, hfz, hcell⟩ := OwnV.at2 HI.out.own (by rw [List.length_set, HN.out.len]; omega)
            injection eg with eg; injection eg with eg
            subst eg
            have c1 := hcell j (by rw [List.length_set, HN.out.len]; exact hlt)
            rw [List.getElem_set_self] at c1
            have f1 := hfz j
            clear hcell hfz
            go_wp2_with (first
              | (go_at_call 36; refine (has_calls _ l _ _ _ HR.out (by unfold maxLen; omega)).mono ?_; rintro e w2 ⟨rfl, rfl⟩; rw [Hd.out])
              | (at_builtin; refine wpList_appI rfl _ _ rfl w0.heap.size v _ (i : Int) rfl (HI.out.row.alloc _) _ _ rfl (cell_new _ _ _ _ (by simp) _) (by omega) (by simp; omega) ?_; intro v' w3 hown' hgrow
                 have hP := Hp.out _ _ _ hgrow hown'
                 obtain ⟨g3, eg3, _, hg3, hfz3, hcell3⟩ := OwnV.at2 hP.1 (by rw [List.length_set, HN.out.len]; omega)
                 injection eg3 with eg3; injection eg3 with eg3
                 subst eg3
                 have c3 := hcell3 j (by rw [List.length_set, HN.out.len]; exact hlt)
                 rw [List.getElem_set_self] at c3
                 have f3 := hfz3 j
                 have HP := Lib.hid hP
                 obtain ⟨B3, d3, rfl, _⟩ := OwnI.rd hown'
                 clear hP hown' hgrow hcell3 hfz3))
            go_roundw
            case rel => exact ⟨i + 1, .slice B3 ((tTo ls j i).length + 1) d3, by omega, by go_num, by have := HP.out.2; rw [List.length_append] at this; exact this⟩
            case measure => simp [intOf]; omega
          · have Hs := Lib.hid (tTo_no hlti hm)
            have Hd := Lib.hid (decide_eq_false hm)
            clear hm
            generalize ls[i] = l at *
            go_wp2_with (first
              | (go_at_call 36; refine (has_calls _ l _ _ _ HR.out (by unfold maxLen; omega)).mono ?_; rintro e w2 ⟨rfl, rfl⟩; rw [Hd.out]))
            go_roundw
            case rel => exact ⟨i + 1, v, by omega, by go_num, ⟨HI.out.own, by rw [Hs.out]; exact HI.out.row, HI.out.grown⟩⟩
            case measure => simp [intOf]; omega
        · have : i = ls.length := by omega
          subst this
          have HI := Lib.hid hI
          clear hI hlti hi
          go_wp2
          go_roundw
          case rel => exact ⟨j + 1, _, by omega, by go_num, HI.out.finish HN.out hbase, hWr⟩
          case measure => simp [intOf]; omega
    · have : j = ls.length := by omega
      subst this
      go_wp2
      go_ret
      exact ⟨_, rfl, HN.out.finish, hW⟩
theorem turned_calls (A : Option Addr) (ls : List (List Int)) (cap : Nat) (w : World) (hA : RdN w A ls) (h1 : 1 ≤ ls.length) (h8 : ls.length ≤ 8) (h3 : ∀ l ∈ ls, l.length ≤ 1000) :
    Calls Try.prog 20 #[.slice A ls.length cap] w fun e w' => ∃ B, e = .returned (.slice B ls.length ls.length) ∧ RdN w' B (turned ls) ∧ Below w.heap.size w w' :=
  (turned_far A ls cap w hA h1 h8 h3).mono fun _ _ ⟨B, e, h, hb⟩ => ⟨B, e, h.rd, hb⟩
end Go.Proofs.Ytljmignfbagomaa
