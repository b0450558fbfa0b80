/- way.walk: its closure, that calls itself. -/
import Derived.Test.YtljmignfbagomaaWayA
import Derived.Test.YtljmignfbagomaaFrom
import Derived.Test.YtljmignfbagomaaDfsP
import Derived.Test.YtljmignfbagomaaOwnBo
import Derived.Test.YtljmignfbagomaaRecK
import Derived.Laws.EntriesVeiled
import Derived.Test.YtljmignfbagomaaAppN
namespace Go.Proofs.Ytljmignfbagomaa
open Go.RowKit

/-- An edge of a way. -/
def EdW (ls : List (List Int)) (a b : Nat) : Prop := a < ls.length ∧ (b : Int) ∈ ls.getD a []
def snP (n : Nat) (sn : List Bool) (x : Nat) : Prop := x < n ∧ sn.getD x false = true
def natI (l : List Nat) : List Int := l.map fun x : Nat => (x : Int)
def unL (n : Nat) (sn : List Bool) : List Nat := (List.range n).filter fun x => !(sn.getD x false)
theorem nodup_sub_lenW {α : Type} : ∀ {l m : List α}, l.Nodup → (∀ x ∈ l, x ∈ m) → l.length ≤ m.length
  | [], _, _, _ => by simp
  | a :: l, m, hn, hs => by
    rw [List.nodup_cons] at hn
    obtain ⟨p, q, rfl⟩ := List.append_of_mem (hs a (by simp))
    have : l.length ≤ (p ++ q).length := nodup_sub_lenW hn.2 fun x hx => by
      have h1 := hs x (by simp [hx])
      have h2 : x ≠ a := fun e => hn.1 (e ▸ hx)
      simp only [List.mem_append, List.mem_cons] at h1 ⊢
      rcases h1 with h | h | h
      · exact .inl h
      · exact absurd h h2
      · exact .inr h
    simp at this ⊢; omega
theorem mem_unL {n x : Nat} {sn : List Bool} : x ∈ unL n sn ↔ x < n ∧ ¬ snP n sn x := by
  unfold unL snP
  rw [List.mem_filter, List.mem_range]
  cases sn.getD x false <;> simp
/-- What was seen, and what was left. -/
structure SeenBy (n : Nat) (sn sn' : List Bool) (l : List Nat) : Prop where
  len : sn'.length = sn.length
  iff : ∀ x, x < n → (snP n sn' x ↔ snP n sn x ∨ x ∈ l)
theorem SeenBy.less {n : Nat} {sn sn' : List Bool} {l : List Nat} (h : SeenBy n sn sn' l) (hn : l.Nodup) (hf : ∀ x ∈ l, ¬ snP n sn x ∧ x < n) : (unL n sn').length + l.length ≤ (unL n sn).length := by
  rw [← List.length_append]
  refine nodup_sub_lenW ?_ fun x hx => ?_
  · rw [List.nodup_append]
    refine ⟨List.Pairwise.filter _ List.nodup_range, hn, fun a ha b hb e => ?_⟩
    subst e
    rw [mem_unL] at ha
    exact ha.2 ((h.iff a ha.1).2 (.inr hb))
  · rcases List.mem_append.1 hx with hx | hx
    · rw [mem_unL] at hx ⊢
      exact ⟨hx.1, fun hs => hx.2 ((h.iff x hx.1).2 (.inl hs))⟩
    · have := hf x hx
      exact mem_unL.2 ⟨this.2, this.1⟩
/-- The boxes of next, left, seen and visit. -/
structure VS (w0 w : World) (S T P C gs B n : Nat) (A : Option Addr) (cap : Nat) (sn : List Bool) (v : Value) (lf : List Int) : Prop where
  bel : Below w0.heap.size w0 w
  hS : w.heap[S]? = some (.cells #[.slice (some ⟨gs, 0, none⟩) n n] 75 (0, 0))
  hT : w.heap[T]? = some (.cells #[.slice A n cap] 22 (0, 0))
  hP : w.heap[P]? = some (.cells #[.func (.func 64) #[] #[.pointer (some ⟨S, 0, none⟩), .pointer (some ⟨T, 0, none⟩), .pointer (some ⟨P, 0, none⟩), .pointer (some ⟨C, 0, none⟩)]] 76 (0, 0))
  hC : w.heap[C]? = some (.cells #[v] 32 (0, 0))
  seen : OwnBo w w0.heap.size 4 (.slice (some ⟨gs, 0, none⟩) n n) sn
  out : OwnI w B 3 v lf
  lt : (w0.heap.size ≤ S ∧ S < B) ∧ (w0.heap.size ≤ T ∧ T < B) ∧ (w0.heap.size ≤ P ∧ P < B) ∧ (w0.heap.size ≤ C ∧ C < B) ∧ (w0.heap.size ≤ gs ∧ gs < B) ∧ B ≤ w.heap.size
  ne : gs ≠ S ∧ gs ≠ T ∧ gs ≠ P ∧ gs ≠ C ∧ C ≠ S ∧ C ≠ T ∧ C ≠ P
section
variable {w0 w w' : World} {S T P C gs B n : Nat} {A : Option Addr} {cap : Nat} {sn : List Bool} {v v' : Value} {lf lf' : List Int}
theorem VS.alloc (h : VS w0 w S T P C gs B n A cap sn v lf) (o : Obj) : VS w0 (w.alloc o) S T P C gs B n A cap sn v lf :=
  ⟨h.bel.alloc h.bel.size o, (Below.heap_alloc w o S (lt_h h.hS)).trans h.hS, (Below.heap_alloc w o T (lt_h h.hT)).trans h.hT, (Below.heap_alloc w o P (lt_h h.hP)).trans h.hP, (Below.heap_alloc w o C (lt_h h.hC)).trans h.hC, h.seen.alloc o, h.out.alloc o, by have := h.lt; rw [World.size_alloc]; omega, h.ne⟩
theorem VS.see (h : VS w0 w S T P C gs B n A cap sn v lf) {i : Nat} (hi : i < sn.length) : VS w0 (w.setCell ⟨gs, i, none⟩ (.bool true)) S T P C gs B n A cap (sn.set i true) v lf := by
  have hl := h.lt
  have hne := h.ne
  refine ⟨h.bel.setCell (p := ⟨gs, i, none⟩) (by show _ ≤ gs; omega) _, (Below.heap_setCell w _ _ S (by show S ≠ gs; omega)).trans h.hS, (Below.heap_setCell w _ _ T (by show T ≠ gs; omega)).trans h.hT, (Below.heap_setCell w _ _ P (by show P ≠ gs; omega)).trans h.hP, (Below.heap_setCell w _ _ C (by show C ≠ gs; omega)).trans h.hC, OwnBo.set_ h.seen hi true, h.out.far (p := ⟨gs, i, none⟩) (fun e => by have h9 : B ≤ gs := (own_lt' h.out _ e).1; omega) _, by
    have : (w.setCell ⟨gs, i, none⟩ (.bool true)).heap.size = w.heap.size := by simp [World.setCell]
    rw [this]; exact hl, hne⟩
theorem VS.put (h : VS w0 w S T P C gs B n A cap sn v lf) (hg : w.grownBy w' v.ownBlock) (hown : OwnI w' B 3 v' lf') (hv : v'.ownBlock = v.ownBlock ∨ v'.ownBlock = some w.heap.size) : VS w0 (w'.setCell ⟨C, 0, none⟩ v') S T P C gs B n A cap sn v' lf' := by
  have hl := h.lt
  have hne := h.ne
  have hk : ∀ k o, w.heap[k]? = some o → k < B → w'.heap[k]? = some o := fun k o ho hk => (hg.block k (lt_h ho) (fun e => by have := (own_lt' h.out k e.symm).1; omega)).trans ho
  have hvC : v'.ownBlock ≠ some C := fun e => by
    rcases hv with hv | hv
    · have := (own_lt' h.out C (hv.symm.trans e)).1; omega
    · rw [hv] at e; injection e with e; omega
  have hsz : (w'.setCell ⟨C, 0, none⟩ v').heap.size = w'.heap.size := by simp [World.setCell]
  refine ⟨(h.bel.grown hg (by omega) (fun k e => by have := (own_lt' h.out k e).1; omega)).setCell (p := ⟨C, 0, none⟩) (by show _ ≤ C; omega) _, (Below.heap_setCell _ _ _ S (by show S ≠ C; omega)).trans (hk _ _ h.hS (by omega)), (Below.heap_setCell _ _ _ T (by show T ≠ C; omega)).trans (hk _ _ h.hT (by omega)), (Below.heap_setCell _ _ _ P (by show P ≠ C; omega)).trans (hk _ _ h.hP (by omega)), ?_, ?_, hown.far (p := ⟨C, 0, none⟩) hvC _, by
    rw [hsz]; have := hg.size; omega, hne⟩
  · have h0 := hk _ _ h.hC (by omega)
    show (w'.setCell ⟨C, 0, none⟩ v').heap[C]? = _
    simp [World.setCell, Array.getElem?_modify, h0]
  · refine (h.seen.kept hg ?_).far (p := ⟨C, 0, none⟩) (fun e => by have e : some gs = some C := e; injection e with e; omega) _
    exact .inr (fun e => by have e : some gs = v.ownBlock := e; have := (own_lt' h.out gs e.symm).1; omega)
theorem VS.sAt (h : VS w0 w S T P C gs B n A cap sn v lf) {j : Nat} (hj : j < sn.length) : gs < w.heap.size ∧ w.cell? ⟨gs, j, none⟩ = some (.bool (sn.getD j false)) ∧ w.frozen? ⟨gs, j, none⟩ = false := by
  obtain ⟨g, eg, _, hg2, _, hfz, hc⟩ := OwnBo.at2 h.seen (by omega)
  injection eg with eg; injection eg with eg
  subst eg
  refine ⟨hg2, ?_, hfz j⟩
  rw [List.getD_eq_getElem?_getD, List.getElem?_eq_getElem hj]
  exact hc j hj
end
theorem getD_setB {sn : List Bool} {i x : Nat} (hi : i < sn.length) : (sn.set i true).getD x false = if x = i then true else sn.getD x false := by
  rw [List.getD_eq_getElem?_getD, List.getD_eq_getElem?_getD, List.getElem?_set]
  by_cases e : i = x
  · subst e; rw [if_pos rfl, if_pos hi, if_pos rfl]; rfl
  · rw [if_neg e, if_neg (fun h => e h.symm)]
/-- What is left, as a function. -/
def markAll (sn : List Bool) (l : List Nat) : List Bool := l.foldl (fun s x => s.set x true) sn
def visS (f : List Bool → Nat → List Nat) (s : List Bool × List Nat) (y : Int) : List Bool × List Nat := if s.1.getD y.toNat false then s else (markAll s.1 (f s.1 y.toNat), s.2 ++ f s.1 y.toNat)
def visF (ls : List (List Int)) : Nat → List Bool → Nat → List Nat
  | 0, _, _ => []
  | k + 1, sn, i => ((ls.getD i []).foldl (visS (visF ls k)) (sn.set i true, [])).2 ++ [i]
theorem markAll_app (sn : List Bool) (a b : List Nat) : markAll sn (a ++ b) = markAll (markAll sn a) b := List.foldl_append ..
theorem markAll_len (l : List Nat) : ∀ sn : List Bool, (markAll sn l).length = sn.length := by
  induction l with
  | nil => intro sn; rfl
  | cons x r ih => intro sn; show (markAll (sn.set x true) r).length = _; rw [ih, List.length_set]
theorem markAll_get (l : List Nat) : ∀ (sn : List Bool) (x : Nat), x < sn.length → (markAll sn l).getD x false = (sn.getD x false || decide (x ∈ l)) := by
  induction l with
  | nil => intro sn x _; simp [markAll]
  | cons a r ih =>
    intro sn x hx
    show (markAll (sn.set a true) r).getD x false = _
    rw [ih _ x (by rw [List.length_set]; exact hx)]
    by_cases ha : a < sn.length
    · rw [getD_setB ha]
      by_cases e : x = a
      · rw [if_pos e]; simp [e]
      · rw [if_neg e]; simp [e]
    · rw [List.set_eq_of_length_le (by omega)]
      have : x ≠ a := by omega
      simp [this]
theorem mark_swap (sn : List Bool) (i : Nat) (m : List Nat) : markAll (sn.set i true) m = markAll sn (m ++ [i]) := by
  refine List.ext_getElem (by rw [markAll_len, markAll_len, List.length_set]) fun x h1 h2 => ?_
  rw [markAll_len] at h2
  have e1 := markAll_get m (sn.set i true) x (by rw [List.length_set]; exact h2)
  have e2 := markAll_get (m ++ [i]) sn x h2
  rw [List.getD_eq_getElem?_getD, List.getElem?_eq_getElem h1] at e1
  rw [List.getD_eq_getElem?_getD, List.getElem?_eq_getElem (by rw [markAll_len]; exact h2)] at e2
  refine e1.trans (Eq.trans ?_ e2.symm)
  by_cases hi : i < sn.length
  · rw [getD_setB hi]
    by_cases e : x = i
    · rw [if_pos e]; simp [e]
    · rw [if_neg e]; simp [e]
  · rw [List.set_eq_of_length_le (by omega)]
    have : x ≠ i := by omega
    simp [this]
def VisE (k : Nat) (w0 : World) (S T P C gs B n : Nat) (A : Option Addr) (cap : Nat) (ls : List (List Int)) (i : Nat) (sn : List Bool) (lf : List Int) (e : Ending) (w' : World) : Prop :=
  (∃ u, e = .returned u) ∧ ∃ v' sn' l, VS w0 w' S T P C gs B n A cap sn' v' (lf ++ natI l) ∧ VisD (EdW ls) n (snP n sn) i l ∧ SeenBy n sn sn' l ∧ sn' = markAll sn l ∧ l = visF ls k sn i
set_option maxRecDepth 100000 in
set_option maxHeartbeats 8000000 in
theorem visit_calls {w0 : World} {S T P C gs B n : Nat} {A : Option Addr} {cap : Nat} {ls : List (List Int)} (hA : RdN w0 A ls) (hn : ls.length = n) (hv : Valid ls) : ∀ k i : Nat, ∀ (w : World) (sn : List Bool) (v : Value) (lf : List Int), (unL n sn).length < k → i < n → ¬ snP n sn i → sn.length = n → lf.length + (unL n sn).length ≤ 1000 → VS w0 w S T P C gs B n A cap sn v lf →
    Calls Try.prog 64 #[.int .i64 i, .pointer (some ⟨S, 0, none⟩), .pointer (some ⟨T, 0, none⟩), .pointer (some ⟨P, 0, none⟩), .pointer (some ⟨C, 0, none⟩)] w (VisE k w0 S T P C gs B n A cap ls i sn lf) := by
  have HA := Lib.hid hA
  have HV := Lib.hid hv
  clear hA hv
  intro k
  induction k with
  | zero => intro i w sn v lf h; omega
  | succ k ih =>
    intro i w sn v lf hk hi hns hsl hlf hS
    have IH := Lib.hid ih
    clear ih
    have HS := Lib.hid hS
    have hlt := hS.lt
    have Hns := Lib.hid hns
    have hil : i < ls.length := by omega
    obtain ⟨g1, g2, g3⟩ := hS.sAt (j := i) (by omega)
    have cS := (cell_h hS.hS 0).trans (show _ = some (Value.slice (some ⟨gs, 0, none⟩) n n) from rfl)
    have q1 : ((i : Nat) : Int) < ((n : Nat) : Int) := by omega
    have HS1 := Lib.hid (hS.see (i := i) (by omega))
    have hl1 : (sn.set i true).length = n := by rw [List.length_set]; exact hsl
    obtain ⟨bK, offK, A1, cap1, rfl, hbK, kc0, hR1⟩ := RdN.at_ HA.out hil
    have HR1 := Lib.hid hR1
    have cT1 := (cell_h HS1.out.hT 0).trans (show _ = some (Value.slice (some ⟨bK, offK, none⟩) n cap) from rfl)
    have kc1 := (HS1.out.bel.cell (p := ⟨bK, offK + i, none⟩) hbK).trans kc0
    have hl3 := (HV.out _ (List.getElem_mem hil)).1
    have Hin := Lib.hid ((HV.out _ (List.getElem_mem hil)).2)
    have HEd : Hid (∀ y, EdW ls i y ↔ (y : Int) ∈ ls[i]) := Lib.hid (fun y => by
      unfold EdW
      rw [List.getD_eq_getElem?_getD, List.getElem?_eq_getElem hil]
      exact ⟨fun h => h.2, fun h => ⟨hil, h⟩⟩)
    have Hun1 : Hid ((unL n (sn.set i true)).length + 1 ≤ (unL n sn).length) := Lib.hid (by
      have := SeenBy.less (n := n) (sn := sn) (sn' := sn.set i true) (l := [i]) ⟨by rw [List.length_set], fun x hx => by
        unfold snP
        rw [getD_setB (by omega)]
        by_cases e : x = i
        · rw [if_pos e]; simp [e, hi]
        · rw [if_neg e]; simp [e]⟩ (by simp) (fun x hx => by simp at hx; subst hx; exact ⟨hns, hi⟩)
      simpa using this)
    have Hsn1 : Hid (∀ x, x < n → (snP n (sn.set i true) x ↔ snP n sn x ∨ x = i)) := Lib.hid (fun x hx => by
      unfold snP
      rw [getD_setB (by omega)]
      by_cases e : x = i
      · rw [if_pos e]; simp [e, hi]
      · rw [if_neg e]; simp [e])
    have Hnx : Hid (ls.getD i [] = ls[i]) := Lib.hid (by rw [List.getD_eq_getElem?_getD, List.getElem?_eq_getElem hil]; rfl)
    clear hS hns hR1 kc0
    generalize ls[i] = nx at *
    generalize hbv : sn.getD i false = bv at g2
    clear hbv
    go_enter Try.func64, Try.ntmps64
    go_wp2
    generalize w.setCell ⟨gs, i, none⟩ (.bool true) = w1 at *
    go_loopw [16] (fun ii wr => ∃ (t : Nat) (sn' : List Bool) (v' : Value) (m : List Nat), t ≤ nx.length ∧ ii = .int .i64 t ∧ Hid (VS w0 wr S T P C gs B n (some ⟨bK, offK, none⟩) cap sn' v' (lf ++ natI m)) ∧ Hid (ForD (EdW ls) n (snP n sn) i ((nx.take t).map Int.toNat) m) ∧ Hid (sn'.length = n ∧ (∀ x, x < n → (snP n sn' x ↔ snP n sn x ∨ x = i ∨ x ∈ m))) ∧ Hid ((nx.take t).foldl (visS (visF ls k)) (sn.set i true, []) = (sn', m) ∧ sn' = markAll (sn.set i true) m) ∧ (unL n sn').length ≤ (unL n (sn.set i true)).length ∧ (lf ++ natI m).length + (unL n sn').length ≤ 1000) (fun ii _ => nx.length - (intOf ii).toNat)
    case atStart => exact ⟨0, _, v, [], Nat.zero_le _, rfl, Lib.hid (by simpa [natI] using HS1.out), Lib.hid ForD.start, Lib.hid ⟨hl1, fun x hx => by rw [Hsn1.out x hx]; simp⟩, Lib.hid ⟨rfl, rfl⟩, Nat.le_refl _, by simp [natI]; have := Hun1.out; omega⟩
    case round =>
      clear HS HS1 cT1 kc1 cS g1 g2 g3
      obtain ⟨t, sn', v', m, ht, rfl, HS, HF, HN, HV2, hun, hlm⟩ := hrel
      have hl' := HN.out.1
      by_cases htl : t < nx.length
      · obtain ⟨b2, o2, rfl, hb2, c0⟩ := RdI.at1 (Rd.below HR1.out HS.out.bel) htl
        obtain ⟨y0, y1⟩ := Hin.out _ (List.getElem_mem htl)
        obtain ⟨y, hy⟩ := Int.eq_ofNat_of_zero_le y0
        rw [hy] at c0 y1
        have hyn : y < n := by omega
        have hE : EdW ls i y := (HEd.out y).2 (by rw [← hy]; exact List.getElem_mem htl)
        have HE := Lib.hid hE
        have Htk : Hid ((nx.take (t + 1)).map Int.toNat = (nx.take t).map Int.toNat ++ [y]) := Lib.hid (by
          rw [List.take_succ_eq_append_getElem htl, List.map_append, hy]; rfl)
        obtain ⟨g1, g2, g3⟩ := HS.out.sAt (j := y) (by omega)
        have cS := (cell_h HS.out.hS 0).trans (show _ = some (Value.slice (some ⟨gs, 0, none⟩) n n) from rfl)
        have q2 : ((t : Nat) : Int) < ((nx.length : Nat) : Int) := by omega
        have Hfs : Hid ((nx.take (t + 1)).foldl (visS (visF ls k)) (sn.set i true, []) = visS (visF ls k) (sn', m) (y : Int)) := Lib.hid (by
          rw [List.take_succ_eq_append_getElem htl, List.foldl_append, HV2.out.1, hy]; rfl)
        have q3 : ((y : Nat) : Int) < ((n : Nat) : Int) := by omega
        clear hy y0 hE
        cases hb : sn'.getD y false
        · have Hny : Hid (¬ snP n sn' y) := Lib.hid (fun h => by have := h.2; rw [hb] at this; cases this)
          rw [hb] at g2
          have cP := (cell_h HS.out.hP 0).trans (show _ = some (Value.func (.func 64) #[] #[.pointer (some ⟨S, 0, none⟩), .pointer (some ⟨T, 0, none⟩), .pointer (some ⟨P, 0, none⟩), .pointer (some ⟨C, 0, none⟩)]) from rfl)
          have HI := Lib.hid (IH.out y wr sn' v' (lf ++ natI m) (by have := Hun1.out; omega) hyn Hny.out hl' hlm HS.out)
          have Hvs : Hid (visS (visF ls k) (sn', m) (y : Int) = (markAll sn' (visF ls k sn' y), m ++ visF ls k sn' y)) := Lib.hid (by unfold visS; rw [Int.toNat_natCast, hb]; rfl)
          clear hb
          go_wp2_with fail
          refine HI.out.mono ?_
          rintro e w3 ⟨⟨u3, rfl⟩, v3, sn3, l3, hS3, hV3, hB3, hM3, hL3⟩
          have HV4 : Hid ((nx.take (t + 1)).foldl (visS (visF ls k)) (sn.set i true, []) = (sn3, m ++ l3) ∧ sn3 = markAll (sn.set i true) (m ++ l3)) := Lib.hid ⟨by rw [Hfs.out, Hvs.out, ← hL3, ← hM3], by rw [hM3, markAll_app, ← HV2.out.2]⟩
          have HV3 : Hid (VisD (EdW ls) n (fun x => snP n sn x ∨ x = i ∨ x ∈ m) y l3) := Lib.hid ⟨hV3.nodup, fun x hx => by
            have := hV3.fresh x hx
            exact ⟨fun h => this.1 ((HN.out.2 x this.2).2 h), this.2⟩, hV3.last, hV3.path, fun x hx z hz => by
            rcases hV3.edge x hx z hz with h | h
            · exact .inl ((HN.out.2 z h.1).1 h)
            · exact .inr h⟩
          have HF3 := Lib.hid (HF.out.take HE.out HV3.out)
          have hle := hB3.less hV3.nodup hV3.fresh
          have HS3 := Lib.hid hS3
          have HN3 : Hid (sn3.length = n ∧ (∀ x, x < n → (snP n sn3 x ↔ snP n sn x ∨ x = i ∨ x ∈ m ++ l3))) := Lib.hid ⟨hB3.len.trans hl', fun x hx => by
            rw [hB3.iff x hx, HN.out.2 x hx, List.mem_append]
            constructor
            · rintro ((h | h | h) | h)
              · exact .inl h
              · exact .inr (.inl h)
              · exact .inr (.inr (.inl h))
              · exact .inr (.inr (.inr h))
            · rintro (h | h | h | h)
              · exact .inl (.inl h)
              · exact .inl (.inr (.inl h))
              · exact .inl (.inr (.inr h))
              · exact .inr h⟩
          have hln : (lf ++ natI (m ++ l3)).length = (lf ++ natI m).length + l3.length := by simp [natI]; omega
          clear hS3 hV3 hB3 HI hM3 hL3
          go_wp2
          go_roundw
          case rel => exact ⟨t + 1, sn3, v3, m ++ l3, by omega, by go_num, Lib.hid (by have := HS3.out; rw [List.append_assoc] at this; simpa [natI] using this), Lib.hid (by rw [Htk.out]; exact HF3.out), HN3, HV4, by omega, by rw [hln]; omega⟩
          case measure => simp [intOf]; omega
        · rw [hb] at g2
          have HF3 := Lib.hid (HF.out.skip (c := y) ((HN.out.2 y hyn).1 ⟨hyn, hb⟩))
          have HV4 : Hid ((nx.take (t + 1)).foldl (visS (visF ls k)) (sn.set i true, []) = (sn', m) ∧ sn' = markAll (sn.set i true) m) := Lib.hid ⟨by rw [Hfs.out]; unfold visS; rw [Int.toNat_natCast, hb]; rfl, HV2.out.2⟩
          clear hb
          go_wp2
          go_roundw
          case rel => exact ⟨t + 1, sn', v', m, by omega, by go_num, HS, Lib.hid (by rw [Htk.out]; exact HF3.out), HN, HV4, hun, hlm⟩
          case measure => simp [intOf]; omega
      · have hte : t = nx.length := by omega
        subst hte
        have HD : Hid (VisD (EdW ls) n (snP n sn) i (m ++ [i])) := Lib.hid (HF.out.fin Hns.out hi (fun y hy => by
          rw [List.take_length]
          exact List.mem_map.2 ⟨(y : Int), (HEd.out y).1 hy, by simp⟩))
        have cC := (cell_h HS.out.hC 0).trans (show _ = some v' from rfl)
        have hol : (lf ++ natI m).length ≤ 1000 := by omega
        obtain ⟨Av, cv, rfl, -⟩ := Own.form intCells_len HS.out.out
        have HSa := Lib.hid (HS.out.alloc (.cells #[.int .i64 (i : Nat)] 3))
        have HRa := Lib.hid (rdI_new1 wr (i : Int) 3 wr.heap.size rfl)
        obtain ⟨v5, w5, hrun, hown, hgrow, hat⟩ := run_appN (P := Try.prog) 32 32 intCells 1 8 3 (.int .i64 0) Try.underlying32 infoInt rfl (by decide) intCells_len intCells_one B _ _ HSa.out.out (some ⟨wr.heap.size, 0, none⟩) [(i : Int)] 1 HRa.out (by simp [maxLen]; simp at hol; omega) (by simp; simp at hol; omega) HSa.out.lt.2.2.2.2.2
        obtain ⟨A5, c5', rfl, -⟩ := Own.form intCells_len hown
        have Hrun := Lib.hid hrun
        have HS5 := Lib.hid (HSa.out.put hgrow hown hat)
        obtain ⟨l5, hl5⟩ : ∃ l5, l5 = (lf ++ natI m ++ [(i : Int)]).length := ⟨_, rfl⟩
        rw [← hl5] at Hrun HS5
        have hC5 : w5.heap[C]? = some (.cells #[.slice Av (lf ++ natI m).length cv] 32 (0, 0)) := by
          refine (hgrow.block C (lt_h HSa.out.hC) (fun e => ?_)).trans HSa.out.hC
          have := (own_lt' HSa.out.out C e.symm).1
          have := HSa.out.lt
          omega
        have c5 := (cell_h hC5 0).trans (show _ = some _ from rfl)
        have f5 := fz_h hC5 0
        have HN5 : Hid (SeenBy n sn sn' (m ++ [i])) := Lib.hid ⟨hl'.trans hsl.symm, fun x hx => by
          rw [HN.out.2 x hx, List.mem_append]
          constructor
          · rintro (h | h | h)
            · exact .inl h
            · exact .inr (.inr (by simp [h]))
            · exact .inr (.inl h)
          · rintro (h | h | h)
            · exact .inl h
            · exact .inr (.inr h)
            · simp at h; exact .inr (.inl h)⟩
        have HVf : Hid (sn' = markAll sn (m ++ [i]) ∧ m ++ [i] = visF ls (k + 1) sn i) := Lib.hid ⟨by rw [HV2.out.2, mark_swap], by
          have := HV2.out.1
          rw [List.take_length] at this
          show _ = ((ls.getD i []).foldl (visS (visF ls k)) (sn.set i true, [])).2 ++ [i]
          rw [Hnx.out, this]⟩
        clear hrun hown hgrow hat hC5 HF HN hl5
        generalize (lf ++ natI m).length = ln at *
        go_wp2_with (at_builtin; refine wpList_app_run rfl 32 _ _ rfl rfl rfl Hrun.out ?_)
        go_end0
        exact ⟨⟨_, rfl⟩, _, sn', m ++ [i], by have := HS5.out; rw [List.append_assoc] at this; simpa [natI] using this, HD.out, HN5.out, HVf.out⟩
end Go.Proofs.Ytljmignfbagomaa
