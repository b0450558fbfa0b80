/- SingleSame: single.Build walked (written by snk.py out of snk.txt). -/
import Derived.Test.YtmgejacndhnikaaSnJ
import Derived.Test.YtmgejacndhnikaaSnG1
import Derived.Test.YtmgejacndhnikaaSnH
import Derived.Test.YtmgejacndhnikaaSnI
import Derived.Test.YtmgejacndhnikaaWayK
namespace Go.Proofs.Ytmgejacndhnikaa
set_option maxRecDepth 100000
open Go.RowKit

theorem off_ty {α : Type} {f : α → List Value} {size base E E' : Nat} {w : World} {v : Value} {l : List α} (h : Own f size w base E v l) {T : Nat} {cs : Array Value} (hT : w.heap[T]? = some (.cells cs E' (0, 0))) (hE : E ≠ E') : v.ownBlock ≠ some T := by
  rcases h.2 with ⟨rfl, _⟩ | ⟨g, cap, cur, rfl, _, hh, _⟩
  · intro e; cases e
  · intro e
    have e : some g = some T := e
    injection e with e
    subst e
    rw [hh] at hT
    injection hT with hT
    injection hT with _ h2 _
    exact hE h2
theorem two_ty {α β : Type} {f : α → List Value} {f' : β → List Value} {size size' base base' E E' : Nat} {w : World} {v v' : Value} {l : List α} {l' : List β} (h : Own f size w base E v l) (h' : Own f' size' w base' E' v' l') (hE : E ≠ E') : v.ownBlock = none ∨ v.ownBlock ≠ v'.ownBlock := by
  rcases h'.2 with ⟨rfl, _⟩ | ⟨g, cap, cur, rfl, _, hh, _⟩
  · rcases h.2 with ⟨rfl, _⟩ | ⟨g, cap, cur, rfl, _, hh, _⟩
    · exact .inl rfl
    · exact .inr (fun e => by cases e)
  · exact .inr (off_ty h hh hE)
theorem wErrs_ok {n : Nat} : ∀ {l : List (List Int)}, (∀ r ∈ l, r.length ≤ 3 ∧ ∀ x ∈ r, 0 ≤ x ∧ x < (n : Int)) → W.wErrs n l = 0
  | [], _ => rfl
  | r :: l, h => by
    obtain ⟨h1, h2⟩ := h r (by simp)
    have e : W.wErr1 n r = 0 := W.wErr1_0 (by omega) (by
      unfold insideB
      rw [List.all_eq_true]
      intro x hx
      have := h2 x hx
      simp
      omega)
    show (if W.wErr1 n r = 0 then W.wErrs n l else W.wErr1 n r) = 0
    rw [if_pos e]
    exact wErrs_ok (fun r' hr => h r' (by simp [hr]))
theorem valid_way {ls : List (List Int)} (h1 : 1 ≤ ls.length) (h8 : ls.length ≤ 8) (hv : W.Valid ls) : W.wayErr ls = 0 := by
  unfold W.wayErr
  rw [if_neg (by omega)]
  exact wErrs_ok hv
open Classical in
/-- Of the first n variables those that have a Join at block i. -/
noncomputable def jr (p : List Blk) (n i : Nat) : List Int := ((List.range n).filter fun v => decide (Jv (nexts p) (PutV p v) i)).map fun v : Nat => (v : Int)
theorem jr_yes {p : List Blk} {v i : Nat} (h : Jv (nexts p) (PutV p v) i) : jr p (v + 1) i = jr p v i ++ [(v : Int)] := by
  unfold jr
  rw [List.range_succ, List.filter_append, List.map_append]
  congr 1
  simp [h]
theorem jr_no {p : List Blk} {v i : Nat} (h : ¬ Jv (nexts p) (PutV p v) i) : jr p (v + 1) i = jr p v i := by
  unfold jr
  rw [List.range_succ, List.filter_append, List.map_append]
  simp [h]
theorem jr_len (p : List Blk) (n i : Nat) : (jr p n i).length ≤ n := by
  unfold jr
  rw [List.length_map]
  have := List.length_filter_le (fun v => @decide (Jv (nexts p) (PutV p v) i) (Classical.propDecidable _)) (List.range n)
  rw [List.length_range] at this
  exact this
noncomputable def jmid (p : List Blk) (v I : Nat) : List (List Int) := (List.range p.length).map fun i => if i < I then jr p (v + 1) i else jr p v i
theorem jmid_len (p : List Blk) (v I : Nat) : (jmid p v I).length = p.length := by simp [jmid]
theorem jmid_get {p : List Blk} {v I i : Nat} (hi : i < p.length) : (jmid p v I)[i]? = some (if i < I then jr p (v + 1) i else jr p v i) := by
  unfold jmid
  rw [List.getElem?_map, List.getElem?_range hi]; rfl
theorem jmid_end (p : List Blk) (v : Nat) : jmid p v p.length = jmid p (v + 1) 0 := by
  unfold jmid
  apply List.map_congr_left
  intro i hi
  rw [if_pos (List.mem_range.1 hi), if_neg (Nat.not_lt_zero _)]
theorem jmid_yes {p : List Blk} {v I : Nat} (hI : I < p.length) (h : Jv (nexts p) (PutV p v) I) : (jmid p v I).set I (jr p v I ++ [(v : Int)]) = jmid p v (I + 1) := by
  apply List.ext_getElem?
  intro i
  rw [List.getElem?_set]
  by_cases e : I = i
  · subst e
    rw [if_pos rfl, if_pos (by rw [jmid_len]; exact hI), jmid_get hI, if_pos (by omega), jr_yes h]
  · rw [if_neg e]
    rcases Nat.lt_or_ge i p.length with hi | hi
    · rw [jmid_get hi, jmid_get hi]
      congr 1
      by_cases h1 : i < I
      · rw [if_pos h1, if_pos (by omega)]
      · rw [if_neg h1, if_neg (by omega)]
    · rw [List.getElem?_eq_none (by rw [jmid_len]; exact hi), List.getElem?_eq_none (by rw [jmid_len]; exact hi)]
theorem jmid_no {p : List Blk} {v I : Nat} (h : ¬ Jv (nexts p) (PutV p v) I) : jmid p v (I + 1) = jmid p v I := by
  unfold jmid
  apply List.map_congr_left
  intro i hi
  by_cases e : i = I
  · subst e
    rw [if_pos (by omega), if_neg (by omega), jr_no h]
  · by_cases h1 : i < I
    · rw [if_pos h1, if_pos (by omega)]
    · rw [if_neg h1, if_neg (by omega)]
theorem jmid_0 (p : List Blk) : jmid p 0 0 = List.replicate p.length [] := by
  apply List.ext_getElem?
  intro i
  rcases Nat.lt_or_ge i p.length with hi | hi
  · rw [jmid_get hi, if_neg (by omega), List.getElem?_replicate, if_pos hi]
    rfl
  · rw [List.getElem?_eq_none (by rw [jmid_len]; exact hi), List.getElem?_eq_none (by simpa using hi)]
theorem jmid_all (p : List Blk) (vars : Nat) : jmid p vars 0 = joinsX vars p := by
  unfold jmid joinsX
  apply List.map_congr_left
  intro i hi
  rw [if_neg (Nat.not_lt_zero _)]
  rfl
/-- The blocks ahead of k that set v, and the beginning. -/
def PutK (p : List Blk) (v k q : Nat) : Prop := ∀ d, q.testBit d = true ↔ d = 0 ∨ (d < k ∧ ∃ s ∈ (p.getD d bnul).code, s.to = (v : Int))
theorem PutK.start (p : List Blk) (v : Nat) : PutK p v 0 1 := fun d => by
  have e : (1 : Nat) = 2 ^ 0 := rfl
  rw [e, W.testBit_pow]
  simp
  omega
theorem sets_any {p : List Blk} {v k : Nat} : (p.getD k bnul).code.any (setsB (v : Int)) = true ↔ ∃ s ∈ (p.getD k bnul).code, s.to = (v : Int) := by
  rw [List.any_eq_true]
  constructor
  · rintro ⟨s, h1, h2⟩; exact ⟨s, h1, by simpa [setsB] using h2⟩
  · rintro ⟨s, h1, h2⟩; exact ⟨s, h1, by simpa [setsB] using h2⟩
theorem PutK.yes {p : List Blk} {v k q : Nat} (h : PutK p v k q) (hk : (p.getD k bnul).code.any (setsB (v : Int)) = true) : PutK p v (k + 1) (q ||| 2 ^ k) := fun d => by
  rw [W.set_bit]
  have h1 := h d
  have h2 := sets_any.1 hk
  by_cases e : k = d
  · subst e
    simp
    exact .inr h2
  · simp [e, h1]
    constructor
    · rintro (h | ⟨h, h'⟩)
      · exact .inl h
      · exact .inr ⟨by omega, h'⟩
    · rintro (h | ⟨h, h'⟩)
      · exact .inl h
      · exact .inr ⟨by omega, h'⟩
theorem PutK.no {p : List Blk} {v k q : Nat} (h : PutK p v k q) (hk : (p.getD k bnul).code.any (setsB (v : Int)) = false) : PutK p v (k + 1) q := fun d => by
  rw [h d]
  constructor
  · rintro (h | ⟨h, h'⟩)
    · exact .inl h
    · exact .inr ⟨by omega, h'⟩
  · rintro (h | ⟨h, h'⟩)
    · exact .inl h
    · by_cases e : d = k
      · subst e
        have := sets_any.2 h'
        rw [hk] at this
        cases this
      · exact .inr ⟨by omega, h'⟩
theorem PutK.lt {p : List Blk} {v k q : Nat} (h : PutK p v k q) (hk : k ≤ 8) : q < 256 := W.lt_pow_of_bits (n := 8) fun d hd => by
  rcases (h d).1 hd with e | ⟨e, _⟩ <;> omega
theorem PutK.put {p : List Blk} {v q r : Nat} (h : PutK p v p.length q) (hr : W.IsFrom (nexts p) (-1) 0 r) (hlt : ∀ d, W.Rch (nexts p) d → d < p.length) (d : Nat) : (q &&& r).testBit d = true ↔ PutV p v d := by
  rw [Nat.testBit_and, Bool.and_eq_true, h d, hr d]
  unfold PutV
  constructor
  · rintro ⟨h1 | ⟨_, h1⟩, _, h2⟩
    · exact ⟨h2, .inl h1⟩
    · exact ⟨h2, .inr h1⟩
  · rintro ⟨h2, h1⟩
    refine ⟨?_, by omega, h2⟩
    rcases h1 with h1 | h1
    · exact .inl h1
    · exact .inr ⟨hlt d h2, h1⟩
def BuildE (vars : Nat) (p : List Blk) (w : World) (e : Ending) (w' : World) : Prop :=
  (∃ g c, e = .returned (.tuple #[.slice (some ⟨g, 0, none⟩) p.length c, .int .i64 0]) ∧ RdSg w' (some ⟨g, 0, none⟩) (endN (envX vars p)).out) ∧ Below w.heap.size w w'
theorem build_bad (vars : Int) (A : Option Addr) (p : List Blk) (cap : Nat) (w : World) (hA : RdBk w A p) (hm : p.length ≤ maxLen) (hmc : smallB p) (h : pkErr vars p ≠ 0) :
    Calls Try.prog 20 #[.int .i64 vars, .slice A p.length cap] w fun e w' => (∃ x, x ≠ 0 ∧ e = .returned (.tuple #[.slice none 0 0, .int .i64 x])) ∧ Below w.heap.size w w' := by
  have Hc := Lib.hid (way_bad vars A p cap w hA hm hmc h)
  clear hA h
  go_enter Try.func20, Try.ntmps20
  go_wp2_with fail
  (with_reducible refine Hc.out.mono ?_)
  rintro e w1 ⟨⟨x, hx, rfl⟩, hW⟩
  have q : (x != 0) = true := by rw [bne_iff_ne]; exact hx
  have HW := Lib.hid hW
  have HX := Lib.hid hx
  clear hW hx
  go_wp2
  go_ret2
  exact ⟨⟨x, HX.out, rfl⟩, HW.out⟩
/-- Joins as they lie: rows of the call's own; box PV is none of theirs. -/
structure JRow (w : World) (b B PV : Nat) (vals : List Value) (rows : List (List Int)) : Prop where
  ll : OwnLL w b B vals rows
  off : ∀ u ∈ vals, u.ownBlock ≠ some PV
theorem JRow.new {w : World} {b B : Nat} {vals : List Value} {rows : List (List Int)} (h : OwnLL w b B vals rows) {PV : Nat} (hP : w.heap.size ≤ PV) : JRow w b B PV vals rows :=
  ⟨h, fun u hu e => by
    obtain ⟨k, hk, rfl⟩ := List.getElem_of_mem hu
    have hr : k < rows.length := by rw [← h.len]; exact hk
    have := (own_lt' (h.row k _ _ (List.getElem?_eq_getElem hk) (List.getElem?_eq_getElem hr)) PV e).2
    omega⟩
set_option maxHeartbeats 64000000 in
theorem build_ok (vars : Nat) (A : Option Addr) (p : List Blk) (cap : Nat) (w : World) (hA : RdBk w A p) (hm : p.length ≤ maxLen) (hmc : smallB p) (h : pkErr vars p = 0) :
    Calls Try.prog 20 #[.int .i64 (vars : Nat), .slice A p.length cap] w (BuildE vars p w) := by
  have hp := pok_of h
  have n1 := hp.n1
  have n8 := hp.n8
  have v1 := hp.v1
  have v6 := hp.v6
  have hmany := hp.many
  have hlx : (nexts p).length = p.length := by simp [nexts]
  have hvx := nexts_valid hp
  have HP := Lib.hid hp
  have HV := Lib.hid hvx
  have HG := Lib.hid (gr_ok hp)
  have HA := Lib.hid hA
  have HRL : Hid (∀ d, W.Rch (nexts p) d → d < p.length) := Lib.hid (fun d hd => by have := W.Rch.lt (by rw [hlx]; exact n1) hvx hd; rwa [hlx] at this)
  have Hway := Lib.hid (way_ok vars A p cap w hA hm hmc h)
  have Hlx := Lib.hid hlx
  clear hA hp hvx h hm hmc hlx
  go_enter Try.func20, Try.ntmps20
  go_wp2_with fail
  (with_reducible refine Hway.out.mono ?_)
  rintro e w1 ⟨b1, rfl, hN1, hW1⟩
  have HN1 := Lib.hid hN1
  have He := W.edges_calls (some ⟨b1, 0, none⟩) (nexts p) p.length w1 hN1 (valid_way (by rw [Hlx.out]; exact n1) (by rw [Hlx.out]; exact n8) HV.out)
  rw [Hlx.out] at He
  have HE := Lib.hid He
  have HW1 := Lib.hid hW1
  clear hN1 He hW1 Hway
  go_wp2_with fail
  (with_reducible refine HE.out.mono ?_)
  rintro e w2 ⟨v2, rfl, hU2, hW2⟩
  obtain ⟨gE, cE, rfl, -, -, -, -, -⟩ := W.OwnU.at_ hU2 (by rw [W.edgesL_len, Hlx.out]; omega)
  rw [W.edgesL_len, Hlx.out] at hU2
  rw [W.edgesL_len, Hlx.out]
  have HU2 := Lib.hid hU2
  have HN2 := Lib.hid (HN1.out.below hW2)
  have Hf := fromS_ok (some ⟨b1, 0, none⟩) (nexts p) p.length w2 HN2.out (by rw [Hlx.out]; exact n1) (by rw [Hlx.out]; exact n8) HV.out (nexts_nodup p)
  rw [Hlx.out] at Hf
  have HF := Lib.hid Hf
  have HW2 := Lib.hid (HW1.out.trans (hW2.mono HW1.out.size))
  clear hU2 hW2 Hf HE
  go_wp2_with fail
  (with_reducible refine HF.out.mono ?_)
  rintro e w3 ⟨B3, rfl, hN3, hW3⟩
  have HN3 := Lib.hid (HN2.out.below hW3)
  have HFR3 := Lib.hid hN3
  have HU3 := Lib.hid (Own.below HU2.out hW3)
  have HW3 := Lib.hid (HW2.out.trans (hW3.mono HW2.out.size))
  have Hr := W.from_calls (some ⟨b1, 0, none⟩) (nexts p) p.length w3 0 (-1) HN3.out (by rw [Hlx.out]; exact n8) HV.out (by rw [Hlx.out]; exact n1)
  rw [Hlx.out, show ((0 : Nat) : Int) = 0 from rfl] at Hr
  have HR := Lib.hid Hr
  clear hN3 hW3 Hr HF
  go_wp2_with fail
  (with_reducible refine HR.out.mono ?_)
  rintro e w4 ⟨rc, rfl, hrc, hrc8, hW4⟩
  have HN4 := Lib.hid (HN3.out.below hW4)
  have HFR4 := Lib.hid (HFR3.out.below hW4)
  have HU4 := Lib.hid (Own.below HU3.out hW4)
  have HW4 := Lib.hid (HW3.out.trans (hW4.mono HW3.out.size))
  have HRC := Lib.hid hrc
  have HA4 := Lib.hid (HA.out.below HW4.out)
  clear hW4 hrc HR HN3 HFR3 HU3 HU2 HN2 HN1
  go_wp2_with (at_make; refine wpList_makeN rfl _ _ rfl w4.heap.size p.length rfl rfl (by omega) (Nat.le_refl _) ?_; intro w5 hown5 hgrow5)
  have hW5 : Below w4.heap.size w4 w5 := (Below.refl _ _).grown hgrow5 (Nat.le_refl _) (fun k hk => by cases hk)
  have hb5 : w4.heap.size < w5.heap.size := by
    obtain ⟨g, eg, _, hlt, _⟩ := OwnV.at2 hown5 (by simp; omega)
    injection eg with eg
    injection eg with eg
    omega
  have HLL := Lib.hid (OwnLL.made (B := w4.heap.size + 1) hown5 hb5 (by omega))
  rw [← jmid_0] at HLL
  have HW5 := Lib.hid hW5
  obtain ⟨JB, hJB⟩ : ∃ JB, JB = w4.heap.size := ⟨_, rfl⟩
  rw [← hJB] at HLL
  rw [← hJB]
  have HJB := Lib.hid hJB
  clear hown5 hgrow5 hW5 hb5 hJB
  go_loopw [42] (fun i wr => ∃ (v : Nat) (vals : List Value), i = .int .i64 (v : Nat) ∧ v ≤ vars ∧ Hid (OwnLL wr JB (JB + 1) vals (jmid p v 0)) ∧ Hid (Below w4.heap.size w4 wr)) (fun i _ => vars - (intOf i).toNat)
  case atStart => exact ⟨0, _, rfl, Nat.zero_le _, HLL, HW5⟩
  case round =>
    clear HLL HW5
    obtain ⟨v, vals, rfl, hv, HLL, HW⟩ := hrel
    by_cases hlt : v < vars
    · have hvl : ((v : Nat) : Int) < ((vars : Nat) : Int) := by omega
      have Hlt := Lib.hid hlt
      obtain ⟨PV, hPV⟩ : ∃ PV, PV = wr.heap.size := ⟨_, rfl⟩
      have HN6 := Lib.hid (heap_alloc_new wr (.cells #[.int .i64 (v : Nat)] 3))
      have HJ6 := Lib.hid (JRow.new (PV := wr.heap.size) HLL.out (Nat.le_refl _))
      have HL6 := Lib.hid (HLL.out.alloc (.cells #[.int .i64 (v : Nat)] 3))
      have HW6 := Lib.hid (HW.out.alloc HW.out.size (.cells #[.int .i64 (v : Nat)] 3))
      obtain ⟨w6, hw6⟩ : ∃ w6, w6 = wr.alloc (.cells #[.int .i64 (v : Nat)] 3) := ⟨_, rfl⟩
      rw [← hw6] at HN6 HL6 HW6
      rw [← hPV] at HN6 HJ6
      have HOff : Hid (∀ u ∈ vals, u.ownBlock ≠ some PV) := Lib.hid HJ6.out.off
      have Hw6 := Lib.hid hw6
      have HPV := Lib.hid hPV
      have hPVj : JB ≤ PV := by rw [hPV, HJB.out]; exact HW.out.size
      clear hw6 hPV HJ6 HLL HW hlt
      go_wp2
      rw [← HPV.out, ← Hw6.out]
      -- who sets it
      go_loopw [13, 47] (fun s i wr => ∃ (k q : Nat), i = .int .i64 (k : Nat) ∧ k ≤ p.length ∧ s = .int .u32 (q : Nat) ∧ Hid (PutK p v k q) ∧ Hid (Below w6.heap.size w6 wr)) (fun _ i _ => p.length - (intOf i).toNat)
      case atStart => exact ⟨0, 1, rfl, Nat.zero_le _, rfl, Lib.hid (PutK.start p v), Below.refl _ _⟩
      case round =>
        obtain ⟨k, q, rfl, hk, rfl, HK, HWk⟩ := hrel
        by_cases hltk : k < p.length
        · have hkl : ((k : Nat) : Int) < ((p.length : Nat) : Int) := by omega
          have HWz := Lib.hid (HW6.out.trans (HWk.out.mono HW6.out.size))
          obtain ⟨b, off, A', cap', rfl, hb, c0, c1, c2, c3, hS⟩ := RdBk.at_ (HA4.out.below HWz.out) hltk
          have hmb := manyB_mem (List.getElem_mem hltk)
          have hgd : p.getD k bnul = p[k] := bget hltk
          have Hany : Hid (∀ r, p[k].code.any (setsB (v : Int)) = r → (p.getD k bnul).code.any (setsB (v : Int)) = r) := Lib.hid (fun r hr => by rw [hgd]; exact hr)
          have hS2 := Rd.below hS ((Below.refl wr.heap.size wr).alloc (Nat.le_refl _) (.cells #[.slice A' p[k].code.length cap', .int .i64 p[k].test, .int .i64 p[k].thn, .int .i64 p[k].els] 85))
          have hcN := HN6.out
          have hPl := lt_h HN6.out
          have HWa := Lib.hid (HWk.out.alloc HWk.out.size (.cells #[.slice A' p[k].code.length cap', .int .i64 p[k].test, .int .i64 p[k].thn, .int .i64 p[k].els] 85))
          have Hco := Lib.hid (buildCo_calls (v : Int) A' p[k].code cap' PV _ hS2 (by omega) (cell_h ((HWa.out.block PV hPl).trans hcN) 0) (by have := HWa.out.size; omega))
          generalize p[k] = bk at *
          obtain ⟨code, test, thn, els⟩ := bk
          dsimp only at c0 c1 c2 c3 Hco HWa Hany
          clear hS hS2 hgd hmb hcN hPl HWz HWk
          have hk32 : k < 32 := by omega
          cases hx : code.any (setsB (v : Int))
          · have Hx := Lib.hid (HK.out.no (Hany.out _ hx))
            rw [hx] at Hco
            clear hx
            go_wp2_with fail
            (with_reducible refine Hco.out.mono ?_)
            rintro e w7 ⟨rfl, hB7⟩
            have HW7 := Lib.hid (HWa.out.trans (hB7.mono HWa.out.size))
            clear hB7 Hco
            go_wp2
            go_roundw
            case rel => exact ⟨k + 1, q, by go_num, by omega, rfl, Hx, HW7⟩
            case measure => simp [intOf]; omega
          · have hxx := HK.out.yes (Hany.out _ hx)
            have Hx := Lib.hid hxx
            have hq := HK.out.lt (by omega)
            rw [hx] at Hco
            have r1 := W.pow_u32 k (by omega)
            have r2 := W.or_u32 q (2 ^ k) (by omega) (Nat.lt_of_lt_of_le (Nat.pow_lt_pow_right (by decide) (by omega : k < 32)) (by decide))
            rw [Int.natCast_pow, show ((2 : Nat) : Int) = 2 from rfl] at r1 r2
            obtain ⟨qn, hqn⟩ : ∃ qn, qn = q ||| 2 ^ k := ⟨_, rfl⟩
            rw [← hqn] at Hx r2
            clear hx hxx hqn
            go_wp2_with fail
            (with_reducible refine Hco.out.mono ?_)
            rintro e w7 ⟨rfl, hB7⟩
            have HW7 := Lib.hid (HWa.out.trans (hB7.mono HWa.out.size))
            clear hB7 Hco
            go_wp2
            go_roundw
            case rel => exact ⟨k + 1, qn, by go_num, by omega, rfl, Hx, HW7⟩
            case measure => simp [intOf]; omega
        · have : k = p.length := by omega
          subst this
          have hq := HK.out.lt n8
          have a1 := W.and_u32 q rc (by omega) (by omega)
          have hpl := fun d => HK.out.put HRC.out HRL.out d
          have hq8 : q &&& rc < 256 := Nat.lt_of_le_of_lt Nat.and_le_left hq
          have Hme := Lib.hid (meet_calls (ls := nexts p) (P := PutV p v) (by rw [Hlx.out]; exact n1) (by rw [Hlx.out]; exact n8) HV.out hq8 hpl (fun d hd => by rw [Hlx.out]; exact HRL.out d hd.1) gE cE w1.heap.size wr (by rw [Hlx.out]; exact Own.below (Own.below HU4.out (HW6.out)) HWk.out))
          rw [Hlx.out] at Hme
          unfold MeetE at Hme
          rw [Hlx.out] at Hme
          obtain ⟨qm, hqm⟩ : ∃ qm, qm = q &&& rc := ⟨_, rfl⟩
          rw [← hqm] at Hme a1
          clear hqm hq8 hpl hq hltk hk HK
          go_wp2_with fail
          (with_reducible refine Hme.out.mono ?_)
          rintro e w7 ⟨⟨gB, o, rfl, hO7, hol, hoj⟩, hW7⟩
          have HO7 := Lib.hid hO7
          have Hol := Lib.hid hol
          have Hoj := Lib.hid hoj
          have hB67 : Below w6.heap.size w6 w7 := HWk.out.trans (hW7.mono HWk.out.size)
          have HL7 := Lib.hid (HL6.out.below hB67)
          have HN7 := Lib.hid ((hB67.block PV (lt_h HN6.out)).trans HN6.out)
          have HW7 := Lib.hid (HW6.out.trans (hB67.mono HW6.out.size))
          have Hw6l : Hid (w4.heap.size ≤ wr.heap.size) := Lib.hid (by have := HW6.out.size; have := HWk.out.size; omega)
          clear hO7 hol hoj hW7 hB67 Hme a1
          obtain ⟨wo, rfl⟩ : ∃ wo : World, wo = wr := ⟨_, rfl⟩
          go_wp2
          go_loopw [67] (fun i wr => ∃ (I : Nat) (vals : List Value), i = .int .i64 (I : Nat) ∧ I ≤ p.length ∧ Hid (OwnLL wr JB (JB + 1) vals (jmid p v I)) ∧ Hid (∀ u ∈ vals, u.ownBlock ≠ some PV) ∧ Hid (wr.heap[PV]? = some (.cells #[.int .i64 (v : Nat)] 3 (0, 0))) ∧ Hid (OwnBo wr wo.heap.size 4 (.slice (some ⟨gB, 0, none⟩) p.length p.length) o) ∧ Hid (Below w4.heap.size w4 wr)) (fun i _ => p.length - (intOf i).toNat)
          case atStart => exact ⟨0, vals, rfl, Nat.zero_le _, HL7, HOff, HN7, HO7, HW7⟩
          case round =>
            clear HL7 HOff HN7 HO7 HW7
            obtain ⟨I, vals, rfl, hI, HL, HOff, HNP, HO, HW⟩ := hrel
            by_cases hltI : I < p.length
            · have hIl : ((I : Nat) : Int) < ((p.length : Nat) : Int) := by omega
              obtain ⟨g', e', -, -, -, -, hcell⟩ := OwnBo.at2 HO.out (by rw [Hol.out]; omega)
              injection e' with e'
              injection e' with e'
              subst e'
              have hIo : I < o.length := by rw [Hol.out]; exact hltI
              have cI := hcell I hIo
              have hgetD : o.getD I false = o[I] := by rw [List.getD_eq_getElem?_getD, List.getElem?_eq_getElem hIo]; rfl
              have Hj := Lib.hid (Hoj.out I)
              rw [hgetD] at Hj
              generalize o[I] = oi at *
              clear hcell hgetD
              cases oi
              · have HN := Lib.hid (show OwnLL wr JB (JB + 1) vals (jmid p v (I + 1)) from by
                  rw [jmid_no (fun h => by have := Hj.out.2 h; cases this)]
                  exact HL.out)
                clear Hj
                go_wp2
                go_roundw
                case rel => exact ⟨I + 1, vals, by go_num, by omega, HN, HOff, HNP, HO, HW⟩
                case measure => simp [intOf]; omega
              · have hJv := Hj.out.1 rfl
                have HEQ := Lib.hid (jmid_yes hltI hJv)
                have hrow : (jmid p v I)[I]? = some (jr p v I) := by rw [jmid_get hltI, if_neg (by omega)]
                obtain ⟨u, hu⟩ : ∃ u, vals[I]? = some u := ⟨_, List.getElem?_eq_getElem (by rw [HL.out.len, jmid_len]; exact hltI)⟩
                have hjl := jr_len p v I
                have HRW := Lib.hid hrow
                have HVI := Lib.hid hu
                have Hjl : Hid ((jr p v I).length ≤ 6) := Lib.hid (by have := Hlt.out; omega)
                generalize jr p v I = jl at *
                have hOu := HL.out.row I u jl hu hrow
                obtain ⟨A1, c1, eu, -⟩ := OwnI.rd hOu
                obtain ⟨g3, eg3, _, hg3, hfz3, hcell3⟩ := OwnV.at2 HL.out.own (by rw [HL.out.len, jmid_len]; omega)
                injection eg3 with eg3
                injection eg3 with eg3
                subst eg3
                have d5 := hcell3 I (List.getElem?_eq_some_iff.1 hu).1
                rw [(List.getElem?_eq_some_iff.1 hu).2, eu] at d5
                have HD5 := Lib.hid d5
                obtain ⟨jn, hjn⟩ : ∃ jn, jn = jl.length := ⟨_, rfl⟩
                rw [← hjn] at eu
                have Heu := Lib.hid eu
                have Hjn := Lib.hid hjn
                have HK0 : Hid (wr.drew.cell? ⟨PV, 0, none⟩ = some (.int .i64 ((v : Nat) : Int))) := Lib.hid (cell_h HNP.out 0)
                have HPl := Lib.hid (lt_h HNP.out)
                have HPJ : Hid (PV ≠ JB) := Lib.hid (fun e => by
                  have h1 := HL.out.own
                  exact off_ty h1 HNP.out (by decide) (by rw [e]; rfl))
                clear hu hrow hjl hOu eu hfz3 hcell3 d5 hjn Hj hJv
                go_wp2
                refine wp_region_held_drew (S := fun w' => w'.cell? ⟨PV, 0, none⟩ = some (.int .i64 ((v : Nat) : Int))) (by kernel_rfl) HK0.out (fun hH0 => ?_)
                refine wpAnyH_take (i := 0) (oi := { dst := some 73, op := Go.Op.move (Go.Operand.tmp 11), type := 97, pos := "single.go:221", after := #[], guard := none }) rfl (by kernel_rfl) (by kernel_rfl) (by kernel_rfl) (fun _ _ _ h => h) (Or.inl ⟨by rfl, fun w hw => by (go_simp; try with_reducible rfl)⟩) (by assumption) ?_
                try simp only [Act.put, List.setIfInBounds_toArray, List.set_cons_zero, List.set_cons_succ]
                refine wpAnyH_take (i := 1) (oi := { dst := some 74, op := Go.Op.move (Go.Operand.tmp 16), type := 3, pos := "single.go:221", after := #[], guard := none }) rfl (by kernel_rfl) (by kernel_rfl) (by kernel_rfl) (fun _ _ _ h => h) (Or.inl ⟨by rfl, fun w hw => by (go_simp; try with_reducible rfl)⟩) (by assumption) ?_
                try simp only [Act.put, List.setIfInBounds_toArray, List.set_cons_zero, List.set_cons_succ]
                refine wpAnyH_take (i := 2) (oi := { dst := some 75, op := Go.Op.move (Go.Operand.tmp 11), type := 97, pos := "single.go:221", after := #[], guard := none }) rfl (by kernel_rfl) (by kernel_rfl) (by kernel_rfl) (fun _ _ _ h => h) (Or.inl ⟨by rfl, fun w hw => by (go_simp; try with_reducible rfl)⟩) (by assumption) ?_
                try simp only [Act.put, List.setIfInBounds_toArray, List.set_cons_zero, List.set_cons_succ]
                refine wpAnyH_take (i := 3) (oi := { dst := some 76, op := Go.Op.move (Go.Operand.tmp 16), type := 3, pos := "single.go:221", after := #[], guard := none }) rfl (by kernel_rfl) (by kernel_rfl) (by kernel_rfl) (fun _ _ _ h => h) (Or.inl ⟨by rfl, fun w hw => by (go_simp; try with_reducible rfl)⟩) (by assumption) ?_
                try simp only [Act.put, List.setIfInBounds_toArray, List.set_cons_zero, List.set_cons_succ]
                refine wpAnyH_take (i := 4) (oi := { dst := some 77, op := Go.Op.indexAddr 97 (Go.Operand.tmp 75) (Go.Operand.tmp 76), type := 0, pos := "single.go:221", after := #[{ on := 2, ground := Go.Ground.data }, { on := 3, ground := Go.Ground.data }], guard := none }) rfl (by kernel_rfl) (by kernel_rfl) (by kernel_rfl) (fun _ _ _ h => h) (Or.inl ⟨by rfl, fun w hw => by (go_simp; try with_reducible rfl)⟩) (by assumption) ?_
                try simp only [Act.put, List.setIfInBounds_toArray, List.set_cons_zero, List.set_cons_succ]
                refine wpAnyH_take (i := 6) (oi := { dst := some 79, op := Go.Op.load 3 (Go.Operand.tmp 12), type := 3, pos := "single.go:221", after := #[], guard := none }) rfl (by kernel_rfl) (by kernel_rfl) (by kernel_rfl) (fun _ _ _ h => h) (Or.inl ⟨by rfl, fun w hw => by (have c9 := hw; go_simp; try with_reducible rfl)⟩) (by assumption) ?_
                try simp only [Act.put, List.setIfInBounds_toArray, List.set_cons_zero, List.set_cons_succ]
                refine wpAnyH_ready (rs := [5, 7]) (by kernel_rfl) (by simp) ?_
                refine AllReadyH.cons (o := { dst := some 78, op := Go.Op.load 23 (Go.Operand.tmp 77), type := 23, pos := "single.go:221", after := #[{ on := 4, ground := Go.Ground.data }], guard := none }) rfl (fun K hK => ?_) ?_
                · have c9 := HD5.out
                  rw [← Hjn.out] at c9
                  go_simp
                  clear c9
                  refine hK.out _ _ hH0 (fun hH1 => ?_)
                  clear hK hH0
                  have hH0 := hH1
                  clear hH1
                  try simp only [Act.put, List.setIfInBounds_toArray, List.set_cons_zero, List.set_cons_succ]
                  refine wpAnyH_ready (rs := [7]) (by kernel_rfl) (by simp) ?_
                  refine AllReadyH.cons (o := { dst := some 80, op := Go.Op.buildSlice 23 1 #[(0, Go.Operand.tmp 79)], type := 23, pos := "single.go:221", after := #[{ on := 6, ground := Go.Ground.data }], guard := none }) rfl (fun K hK => ?_) AllReadyH.nil
                  go_simp
                  obtain ⟨u1, hu1⟩ : ∃ u1, u1 = (wr.alloc (.cells #[.int .i64 (v : Nat)] 3)).drew := ⟨_, rfl⟩
                  obtain ⟨sz, hsz⟩ : ∃ sz, sz = wr.heap.size := ⟨_, rfl⟩
                  rw [← hsz, ← hu1]
                  have HL1 : Hid (OwnLL u1 JB (JB + 1) vals (jmid p v I)) := Lib.hid (by rw [hu1]; exact (HL.out.alloc (.cells #[.int .i64 (v : Nat)] 3)).drew)
                  have HSz : Hid (u1.heap[sz]? = some (.cells #[.int .i64 (v : Nat)] 3 (0, 0))) := Lib.hid (by rw [hu1, hsz]; exact heap_alloc_new wr _)
                  have HNP1 : Hid (u1.heap[PV]? = some (.cells #[.int .i64 (v : Nat)] 3 (0, 0))) := Lib.hid (by rw [hu1]; exact (Below.heap_alloc wr _ PV HPl.out).trans HNP.out)
                  have HO1 : Hid (OwnBo u1 wo.heap.size 4 (.slice (some ⟨gB, 0, none⟩) p.length p.length) o) := Lib.hid (by rw [hu1]; exact Own.alloc HO.out _)
                  have HW1z : Hid (Below w4.heap.size w4 u1) := Lib.hid (by rw [hu1]; exact (HW.out.alloc HW.out.size (.cells #[.int .i64 (v : Nat)] 3)).drew)
                  have HD6 : Hid (u1.cell? ⟨JB, I, none⟩ = some (.slice A1 jl.length c1)) := Lib.hid (by rw [hu1]; exact (World.cell?_of_block (Below.heap_alloc wr _ JB HL.out.lt)).trans HD5.out)
                  have HPu1 : Hid (PV < u1.heap.size) := Lib.hid (lt_h HNP1.out)
                  clear hu1 hsz
                  have HK1 : Hid (u1.cell? ⟨PV, 0, none⟩ = some (.int .i64 ((v : Nat) : Int))) := Lib.hid (cell_h HNP1.out 0)
                  refine hK.out _ _ HK1.out (fun hH1 => ?_)
                  clear hK hH0
                  have hH0 := hH1
                  clear hH1
                  try simp only [Act.put, List.setIfInBounds_toArray, List.set_cons_zero, List.set_cons_succ]
                  refine wpAnyH_ready (rs := [8]) (by kernel_rfl) (by simp) ?_
                  refine AllReadyH.cons (o := { dst := some 81, op := Go.Op.call { callee := Go.Callee.builtin Go.Builtin.append, args := #[Go.Operand.tmp 78, Go.Operand.tmp 80], argTypes := #[23, 23] }, type := 23, pos := "single.go:221", after := #[{ on := 5, ground := Go.Ground.data }, { on := 7, ground := Go.Ground.data }], guard := none }) rfl (fun K hK => ?_) AllReadyH.nil
                  obtain ⟨v3, u3, hrun, hown, hgrow, hat⟩ := run_app1 (P := Try.prog) (w := u1) 23 23 intCells 1 8 3 (.int .i64 0) Try.underlying23 infoInt rfl (by decide) intCells_len intCells_one (JB + 1) u jl ((v : Nat) : Int) (HL1.out.row I u jl HVI.out HRW.out) sz 1 (fun j hj => by (obtain rfl : j = 0 := by omega); rw [cell_h HSz.out]; rfl) (by have := Hjl.out; unfold maxLen; omega) (by have := Hjl.out; omega) (by have := HL1.out.lt; omega)
                  have hP := HL1.out.grown HVI.out HRW.out hown hgrow hat
                  obtain ⟨A3, c3, e3, -⟩ := OwnI.rd hown
                  obtain ⟨n3, hn3⟩ : ∃ n3, n3 = (jl ++ [((v : Nat) : Int)]).length := ⟨_, rfl⟩
                  rw [← hn3] at e3
                  subst e3
                  rw [Heu.out] at hrun
                  try rw [if_pos (by rfl)]
                  refine wp_app_run 23 _ _ rfl rfl rfl hrun ?_
                  have hub : u.ownBlock ≠ some PV := HOff.out u (List.mem_of_getElem? HVI.out)
                  have hPk := (hgrow.block PV HPu1.out (fun e => hub e.symm)).trans HNP1.out
                  obtain ⟨g4, eg4, _, hg4, hfz4, hcell4⟩ := OwnV.at2 hP.1 (by rw [HL1.out.len, jmid_len]; omega)
                  injection eg4 with eg4
                  injection eg4 with eg4
                  subst eg4
                  have HC4 := Lib.hid (⟨hcell4 I (List.getElem?_eq_some_iff.1 HVI.out).1, hfz4 I⟩ : _ ∧ _)
                  have HL9 : Hid (OwnLL (u3.setCell ⟨JB, I, none⟩ (.slice A3 n3 c3)) JB (JB + 1) (vals.set I (.slice A3 n3 c3)) (jmid p v (I + 1))) := Lib.hid (by have := hP.2; rw [HEQ.out] at this; exact this)
                  have HOff9 : Hid (∀ x ∈ vals.set I (.slice A3 n3 c3), x.ownBlock ≠ some PV) := Lib.hid (fun x hx => by
                                                            rcases List.mem_or_eq_of_mem_set hx with hx | rfl
                                                            · exact HOff.out x hx
                                                            · rcases hat with e | e
                                                              · rw [e]; exact hub
                                                              · rw [e]; intro e2; injection e2 with e2; have := HPu1.out; omega)
                  have HNP9 : Hid ((u3.setCell ⟨JB, I, none⟩ (.slice A3 n3 c3)).heap[PV]? = some (.cells #[.int .i64 (v : Nat)] 3 (0, 0))) := Lib.hid ((Below.heap_setCell u3 ⟨JB, I, none⟩ _ PV HPJ.out).trans hPk)
                  have HO9 : Hid (OwnBo (u3.setCell ⟨JB, I, none⟩ (.slice A3 n3 c3)) wo.heap.size 4 (.slice (some ⟨gB, 0, none⟩) p.length p.length) o) := Lib.hid (by
                                                            have h1 := Own.kept HO1.out hgrow (two_ty HO1.out (HL1.out.row I u jl HVI.out HRW.out) (by decide))
                                                            refine Own.far (p := ⟨JB, I, none⟩) h1 (fun e => ?_) _
                                                            rcases two_ty h1 hP.1 (by decide) with e2 | e2
                                                            · rw [e] at e2; cases e2
                                                            · exact e2 e)
                  have HW9 : Hid (Below w4.heap.size w4 (u3.setCell ⟨JB, I, none⟩ (.slice A3 n3 c3))) := Lib.hid ((HW1z.out.grown hgrow HW1z.out.size (fun k hk => by have := (own_lt' (HL1.out.row I u jl HVI.out HRW.out) k hk).1; have := HJB.out; omega)).setCell (p := ⟨JB, I, none⟩) (by rw [HJB.out]; exact Nat.le_refl _) _)
                  have HK3 : Hid (u3.cell? ⟨PV, 0, none⟩ = some (.int .i64 ((v : Nat) : Int))) := Lib.hid (cell_h hPk 0)
                  clear hrun hown hgrow hat hP hub hPk hcell4 hfz4 hn3
                  refine hK.out _ _ HK3.out (fun hH1 => ?_)
                  clear hK hH0
                  have hH0 := hH1
                  clear hH1
                  try simp only [Act.put, List.setIfInBounds_toArray, List.set_cons_zero, List.set_cons_succ]
                  refine wpAnyH_take (i := 9) (oi := { dst := some 82, op := Go.Op.indexAddr 97 (Go.Operand.tmp 73) (Go.Operand.tmp 74), type := 0, pos := "single.go:221", after := #[{ on := 0, ground := Go.Ground.data }, { on := 1, ground := Go.Ground.data }, { on := 0, ground := Go.Ground.phase }, { on := 1, ground := Go.Ground.phase }, { on := 2, ground := Go.Ground.phase }, { on := 3, ground := Go.Ground.phase }, { on := 4, ground := Go.Ground.phase }, { on := 5, ground := Go.Ground.phase }, { on := 6, ground := Go.Ground.phase }, { on := 7, ground := Go.Ground.phase }, { on := 8, ground := Go.Ground.phase }], guard := none }) rfl (by kernel_rfl) (by kernel_rfl) (by kernel_rfl) (fun _ _ _ h => h) (Or.inl ⟨by rfl, fun w hw => by (go_simp; try with_reducible rfl)⟩) (by assumption) ?_
                  try simp only [Act.put, List.setIfInBounds_toArray, List.set_cons_zero, List.set_cons_succ]
                  refine wpAnyH_ready (rs := [10]) (by kernel_rfl) (by simp) ?_
                  refine AllReadyH.cons (o := { dst := none, op := Go.Op.store 23 (Go.Operand.tmp 82) (Go.Operand.tmp 81), type := 0, pos := "single.go:221", after := #[{ on := 9, ground := Go.Ground.data }, { on := 8, ground := Go.Ground.data }, { on := 8, ground := Go.Ground.chain }, { on := 0, ground := Go.Ground.phase }, { on := 1, ground := Go.Ground.phase }, { on := 2, ground := Go.Ground.phase }, { on := 3, ground := Go.Ground.phase }, { on := 4, ground := Go.Ground.phase }, { on := 5, ground := Go.Ground.phase }, { on := 6, ground := Go.Ground.phase }, { on := 7, ground := Go.Ground.phase }, { on := 8, ground := Go.Ground.phase }], guard := none }) rfl (fun K hK => ?_) AllReadyH.nil
                  obtain ⟨c9, f9⟩ := HC4.out
                  go_simp
                  clear c9 f9
                  refine hK.out _ _ (cell_h HNP9.out 0) (fun hH1 => ?_)
                  clear hK hH0
                  have hH0 := hH1
                  clear hH1
                  try simp only [Act.put, List.setIfInBounds_toArray, List.set_cons_zero, List.set_cons_succ]
                  refine wpAnyH_done (by kernel_rfl) ?_ _
                  clear hH0
                  go_wp2
                  go_roundw
                  case rel => exact ⟨I + 1, _, by go_num, by omega, HL9, HOff9, HNP9, HO9, HW9⟩
                  case measure => simp [intOf]; omega
                refine AllReadyH.cons (o := { dst := some 80, op := Go.Op.buildSlice 23 1 #[(0, Go.Operand.tmp 79)], type := 23, pos := "single.go:221", after := #[{ on := 6, ground := Go.Ground.data }], guard := none }) rfl (fun K hK => ?_) AllReadyH.nil
                go_simp
                obtain ⟨u1, hu1⟩ : ∃ u1, u1 = (wr.alloc (.cells #[.int .i64 (v : Nat)] 3)).drew := ⟨_, rfl⟩
                obtain ⟨sz, hsz⟩ : ∃ sz, sz = wr.heap.size := ⟨_, rfl⟩
                rw [← hsz, ← hu1]
                have HL1 : Hid (OwnLL u1 JB (JB + 1) vals (jmid p v I)) := Lib.hid (by rw [hu1]; exact (HL.out.alloc (.cells #[.int .i64 (v : Nat)] 3)).drew)
                have HSz : Hid (u1.heap[sz]? = some (.cells #[.int .i64 (v : Nat)] 3 (0, 0))) := Lib.hid (by rw [hu1, hsz]; exact heap_alloc_new wr _)
                have HNP1 : Hid (u1.heap[PV]? = some (.cells #[.int .i64 (v : Nat)] 3 (0, 0))) := Lib.hid (by rw [hu1]; exact (Below.heap_alloc wr _ PV HPl.out).trans HNP.out)
                have HO1 : Hid (OwnBo u1 wo.heap.size 4 (.slice (some ⟨gB, 0, none⟩) p.length p.length) o) := Lib.hid (by rw [hu1]; exact Own.alloc HO.out _)
                have HW1z : Hid (Below w4.heap.size w4 u1) := Lib.hid (by rw [hu1]; exact (HW.out.alloc HW.out.size (.cells #[.int .i64 (v : Nat)] 3)).drew)
                have HD6 : Hid (u1.cell? ⟨JB, I, none⟩ = some (.slice A1 jl.length c1)) := Lib.hid (by rw [hu1]; exact (World.cell?_of_block (Below.heap_alloc wr _ JB HL.out.lt)).trans HD5.out)
                have HPu1 : Hid (PV < u1.heap.size) := Lib.hid (lt_h HNP1.out)
                clear hu1 hsz
                have HK1 : Hid (u1.cell? ⟨PV, 0, none⟩ = some (.int .i64 ((v : Nat) : Int))) := Lib.hid (cell_h HNP1.out 0)
                refine hK.out _ _ HK1.out (fun hH1 => ?_)
                clear hK hH0
                have hH0 := hH1
                clear hH1
                try simp only [Act.put, List.setIfInBounds_toArray, List.set_cons_zero, List.set_cons_succ]
                refine wpAnyH_ready (rs := [5]) (by kernel_rfl) (by simp) ?_
                refine AllReadyH.cons (o := { dst := some 78, op := Go.Op.load 23 (Go.Operand.tmp 77), type := 23, pos := "single.go:221", after := #[{ on := 4, ground := Go.Ground.data }], guard := none }) rfl (fun K hK => ?_) AllReadyH.nil
                have c9 := HD6.out
                rw [← Hjn.out] at c9
                go_simp
                clear c9
                refine hK.out _ _ hH0 (fun hH1 => ?_)
                clear hK hH0
                have hH0 := hH1
                clear hH1
                try simp only [Act.put, List.setIfInBounds_toArray, List.set_cons_zero, List.set_cons_succ]
                refine wpAnyH_ready (rs := [8]) (by kernel_rfl) (by simp) ?_
                refine AllReadyH.cons (o := { dst := some 81, op := Go.Op.call { callee := Go.Callee.builtin Go.Builtin.append, args := #[Go.Operand.tmp 78, Go.Operand.tmp 80], argTypes := #[23, 23] }, type := 23, pos := "single.go:221", after := #[{ on := 5, ground := Go.Ground.data }, { on := 7, ground := Go.Ground.data }], guard := none }) rfl (fun K hK => ?_) AllReadyH.nil
                obtain ⟨v3, u3, hrun, hown, hgrow, hat⟩ := run_app1 (P := Try.prog) (w := u1) 23 23 intCells 1 8 3 (.int .i64 0) Try.underlying23 infoInt rfl (by decide) intCells_len intCells_one (JB + 1) u jl ((v : Nat) : Int) (HL1.out.row I u jl HVI.out HRW.out) sz 1 (fun j hj => by (obtain rfl : j = 0 := by omega); rw [cell_h HSz.out]; rfl) (by have := Hjl.out; unfold maxLen; omega) (by have := Hjl.out; omega) (by have := HL1.out.lt; omega)
                have hP := HL1.out.grown HVI.out HRW.out hown hgrow hat
                obtain ⟨A3, c3, e3, -⟩ := OwnI.rd hown
                obtain ⟨n3, hn3⟩ : ∃ n3, n3 = (jl ++ [((v : Nat) : Int)]).length := ⟨_, rfl⟩
                rw [← hn3] at e3
                subst e3
                rw [Heu.out] at hrun
                try rw [if_pos (by rfl)]
                refine wp_app_run 23 _ _ rfl rfl rfl hrun ?_
                have hub : u.ownBlock ≠ some PV := HOff.out u (List.mem_of_getElem? HVI.out)
                have hPk := (hgrow.block PV HPu1.out (fun e => hub e.symm)).trans HNP1.out
                obtain ⟨g4, eg4, _, hg4, hfz4, hcell4⟩ := OwnV.at2 hP.1 (by rw [HL1.out.len, jmid_len]; omega)
                injection eg4 with eg4
                injection eg4 with eg4
                subst eg4
                have HC4 := Lib.hid (⟨hcell4 I (List.getElem?_eq_some_iff.1 HVI.out).1, hfz4 I⟩ : _ ∧ _)
                have HL9 : Hid (OwnLL (u3.setCell ⟨JB, I, none⟩ (.slice A3 n3 c3)) JB (JB + 1) (vals.set I (.slice A3 n3 c3)) (jmid p v (I + 1))) := Lib.hid (by have := hP.2; rw [HEQ.out] at this; exact this)
                have HOff9 : Hid (∀ x ∈ vals.set I (.slice A3 n3 c3), x.ownBlock ≠ some PV) := Lib.hid (fun x hx => by
                                                            rcases List.mem_or_eq_of_mem_set hx with hx | rfl
                                                            · exact HOff.out x hx
                                                            · rcases hat with e | e
                                                              · rw [e]; exact hub
                                                              · rw [e]; intro e2; injection e2 with e2; have := HPu1.out; omega)
                have HNP9 : Hid ((u3.setCell ⟨JB, I, none⟩ (.slice A3 n3 c3)).heap[PV]? = some (.cells #[.int .i64 (v : Nat)] 3 (0, 0))) := Lib.hid ((Below.heap_setCell u3 ⟨JB, I, none⟩ _ PV HPJ.out).trans hPk)
                have HO9 : Hid (OwnBo (u3.setCell ⟨JB, I, none⟩ (.slice A3 n3 c3)) wo.heap.size 4 (.slice (some ⟨gB, 0, none⟩) p.length p.length) o) := Lib.hid (by
                                                            have h1 := Own.kept HO1.out hgrow (two_ty HO1.out (HL1.out.row I u jl HVI.out HRW.out) (by decide))
                                                            refine Own.far (p := ⟨JB, I, none⟩) h1 (fun e => ?_) _
                                                            rcases two_ty h1 hP.1 (by decide) with e2 | e2
                                                            · rw [e] at e2; cases e2
                                                            · exact e2 e)
                have HW9 : Hid (Below w4.heap.size w4 (u3.setCell ⟨JB, I, none⟩ (.slice A3 n3 c3))) := Lib.hid ((HW1z.out.grown hgrow HW1z.out.size (fun k hk => by have := (own_lt' (HL1.out.row I u jl HVI.out HRW.out) k hk).1; have := HJB.out; omega)).setCell (p := ⟨JB, I, none⟩) (by rw [HJB.out]; exact Nat.le_refl _) _)
                have HK3 : Hid (u3.cell? ⟨PV, 0, none⟩ = some (.int .i64 ((v : Nat) : Int))) := Lib.hid (cell_h hPk 0)
                clear hrun hown hgrow hat hP hub hPk hcell4 hfz4 hn3
                refine hK.out _ _ HK3.out (fun hH1 => ?_)
                clear hK hH0
                have hH0 := hH1
                clear hH1
                try simp only [Act.put, List.setIfInBounds_toArray, List.set_cons_zero, List.set_cons_succ]
                refine wpAnyH_take (i := 9) (oi := { dst := some 82, op := Go.Op.indexAddr 97 (Go.Operand.tmp 73) (Go.Operand.tmp 74), type := 0, pos := "single.go:221", after := #[{ on := 0, ground := Go.Ground.data }, { on := 1, ground := Go.Ground.data }, { on := 0, ground := Go.Ground.phase }, { on := 1, ground := Go.Ground.phase }, { on := 2, ground := Go.Ground.phase }, { on := 3, ground := Go.Ground.phase }, { on := 4, ground := Go.Ground.phase }, { on := 5, ground := Go.Ground.phase }, { on := 6, ground := Go.Ground.phase }, { on := 7, ground := Go.Ground.phase }, { on := 8, ground := Go.Ground.phase }], guard := none }) rfl (by kernel_rfl) (by kernel_rfl) (by kernel_rfl) (fun _ _ _ h => h) (Or.inl ⟨by rfl, fun w hw => by (go_simp; try with_reducible rfl)⟩) (by assumption) ?_
                try simp only [Act.put, List.setIfInBounds_toArray, List.set_cons_zero, List.set_cons_succ]
                refine wpAnyH_ready (rs := [10]) (by kernel_rfl) (by simp) ?_
                refine AllReadyH.cons (o := { dst := none, op := Go.Op.store 23 (Go.Operand.tmp 82) (Go.Operand.tmp 81), type := 0, pos := "single.go:221", after := #[{ on := 9, ground := Go.Ground.data }, { on := 8, ground := Go.Ground.data }, { on := 8, ground := Go.Ground.chain }, { on := 0, ground := Go.Ground.phase }, { on := 1, ground := Go.Ground.phase }, { on := 2, ground := Go.Ground.phase }, { on := 3, ground := Go.Ground.phase }, { on := 4, ground := Go.Ground.phase }, { on := 5, ground := Go.Ground.phase }, { on := 6, ground := Go.Ground.phase }, { on := 7, ground := Go.Ground.phase }, { on := 8, ground := Go.Ground.phase }], guard := none }) rfl (fun K hK => ?_) AllReadyH.nil
                obtain ⟨c9, f9⟩ := HC4.out
                go_simp
                clear c9 f9
                refine hK.out _ _ (cell_h HNP9.out 0) (fun hH1 => ?_)
                clear hK hH0
                have hH0 := hH1
                clear hH1
                try simp only [Act.put, List.setIfInBounds_toArray, List.set_cons_zero, List.set_cons_succ]
                refine wpAnyH_done (by kernel_rfl) ?_ _
                clear hH0
                go_wp2
                go_roundw
                case rel => exact ⟨I + 1, _, by go_num, by omega, HL9, HOff9, HNP9, HO9, HW9⟩
                case measure => simp [intOf]; omega
            · have : I = p.length := by omega
              subst this
              have HN := Lib.hid (show OwnLL wr JB (JB + 1) vals (jmid p (v + 1) 0) from by rw [← jmid_end]; exact HL.out)
              clear HL hltI hI
              go_wp2
              go_roundw
              case rel => exact ⟨v + 1, vals, by go_num, by have := Hlt.out; omega, HN, HW⟩
              case measure => have := Hlt.out; simp [intOf]; omega
    · have : vars = v := by omega
      subst this
      obtain ⟨wz, rfl⟩ : ∃ wz : World, wz = wr := ⟨_, rfl⟩
      have hRJ := HLL.out.rd
      rw [jmid_all] at hRJ
      have HX : Hid (HdX wz ⟨.slice A p.length cap, .slice (some ⟨b1, 0, none⟩) p.length p.length, .slice B3 p.length p.length, .slice (some ⟨JB, 0, none⟩) p.length p.length, vars, p.length⟩ (envX vars p)) := Lib.hid ⟨⟨A, cap, rfl, HA4.out.below HW.out⟩, ⟨_, _, rfl, HN4.out.below HW.out⟩, ⟨_, _, rfl, HFR4.out.below HW.out⟩, ⟨_, _, rfl, hRJ⟩, rfl, Hlx.out, by show (fromX (nexts p)).length = p.length; unfold fromX turnX; simp [Hlx.out], by show (joinsX vars p).length = p.length; simp [joinsX], fun i => by
        show ((fromX (nexts p)).getD i []).length ≤ 100
        have h1 : ∀ j, (turnRow (nexts p) j).length ≤ 8 := fun j => by
          unfold turnRow
          rw [List.length_map]
          have := List.length_filter_le (fun a => decide ((j : Int) ∈ (nexts p).getD a [])) (List.range (nexts p).length)
          rw [List.length_range, Hlx.out] at this
          rw [Hlx.out]
          omega
        unfold fromX turnX
        rw [List.getD_eq_getElem?_getD, List.getElem?_set]
        split
        · split
          · show (-1 :: turnRow (nexts p) 0).length ≤ 100
            have := h1 0
            rw [List.length_cons]; omega
          · exact Nat.zero_le _
        · rw [List.getElem?_map]
          cases hq : (List.range (nexts p).length)[i]? with
          | none => exact Nat.zero_le _
          | some j => have := h1 j; show (turnRow (nexts p) j).length ≤ 100; omega, fun i => by
        show ((nexts p).getD i []).length ≤ 100
        rcases Nat.lt_or_ge i p.length with hi | hi
        · rw [nexts_get hi]
          unfold nxB
          rw [List.length_append]
          split <;> split <;> simp
        · rw [nexts_out (by omega)]; exact Nat.zero_le _⟩
      have HAz := Lib.hid (HA4.out.below HW.out)
      have HWz := Lib.hid (HW4.out.trans (HW.out.mono HW4.out.size))
      clear hRJ HLL HW hlt hv HA4 HN4 HFR4 HU4
      go_wp2_with (at_make; refine wpList_makeSg rfl _ _ rfl p.length rfl rfl n8 ?_; intro wm hgm hbm)
      have HNN := heap_alloc_new wm (.cells #[.slice A p.length cap, .slice (some ⟨b1, 0, none⟩) p.length p.length, .slice B3 p.length p.length, .slice (some ⟨JB, 0, none⟩) p.length p.length, .int .i64 (vars : Nat), .int .i64 (vars : Nat), .int .u32 0, .slice (some ⟨wz.heap.size, 0, none⟩) p.length p.length] 110)
      have hbN := hbm.alloc hbm.size (.cells #[.slice A p.length cap, .slice (some ⟨b1, 0, none⟩) p.length p.length, .slice B3 p.length p.length, .slice (some ⟨JB, 0, none⟩) p.length p.length, .int .i64 (vars : Nat), .int .i64 (vars : Nat), .int .u32 0, .slice (some ⟨wz.heap.size, 0, none⟩) p.length p.length] 110)
      have hgN := (Below.heap_alloc wm (.cells #[.slice A p.length cap, .slice (some ⟨b1, 0, none⟩) p.length p.length, .slice B3 p.length p.length, .slice (some ⟨JB, 0, none⟩) p.length p.length, .int .i64 (vars : Nat), .int .i64 (vars : Nat), .int .u32 0, .slice (some ⟨wz.heap.size, 0, none⟩) p.length p.length] 110) _ (lt_h hgm)).trans hgm
      have hgT := lt_h hgm
      obtain ⟨g, hg⟩ : ∃ g, g = wz.heap.size := ⟨_, rfl⟩
      obtain ⟨T, hT⟩ : ∃ T, T = wm.heap.size := ⟨_, rfl⟩
      obtain ⟨wN, hwN⟩ : ∃ wN, wN = wm.alloc (.cells #[.slice A p.length cap, .slice (some ⟨b1, 0, none⟩) p.length p.length, .slice B3 p.length p.length, .slice (some ⟨JB, 0, none⟩) p.length p.length, .int .i64 (vars : Nat), .int .i64 (vars : Nat), .int .u32 0, .slice (some ⟨wz.heap.size, 0, none⟩) p.length p.length] 110) := ⟨_, rfl⟩
      rw [← hwN] at HNN hbN hgN
      have hwN2 := hwN
      rw [← hg, ← hT]
      rw [← hg] at HNN hgN hwN2
      rw [← hT] at HNN
      rw [← hwN2]
      obtain ⟨H, hH⟩ : ∃ H : Hdr, H = ⟨.slice A p.length cap, .slice (some ⟨b1, 0, none⟩) p.length p.length, .slice B3 p.length p.length, .slice (some ⟨JB, 0, none⟩) p.length p.length, vars, p.length⟩ := ⟨_, rfl⟩
      have HMD : Hid (∃ o, NmX wz wN H T g o (List.replicate p.length rs0) vars 0 nulV [] none) := Lib.hid (by
        have := NmX.made (w0 := wz) (w := wN) (H := H) (T := T) (g := g) (many := vars) hbN ⟨by rw [hT]; exact hbm.size, by rw [hg]; exact Nat.le_refl _⟩ (by rw [hT, hg]; omega) (by rw [hH]; exact HNN) (by rw [hH]; exact hgN)
        rw [hH] at this ⊢
        exact this)
      rw [← hH] at HX
      have HHp : Hid (H.pv = .slice A p.length cap ∧ H.n = p.length) := Lib.hid ⟨by rw [hH], by rw [hH]⟩
      have hgl : wz.heap.size ≤ g := by rw [hg]; exact Nat.le_refl _
      clear HNN hbN hgN hgT hg hT hwN hwN2 hgm hbm hH
      -- first
      go_loopw [19, 97] (fun f i wr => ∃ v : Nat, i = .int .i64 (v : Nat) ∧ v ≤ vars ∧ Hid (OwnI wr wN.heap.size 3 f ((List.range v).map fun u : Nat => (u : Int))) ∧ Hid (Below wN.heap.size wN wr)) (fun _ i _ => vars - (intOf i).toNat)
      case atStart => exact ⟨0, rfl, Nat.zero_le _, Own.nil_ _ _ _, Below.refl _ _⟩
      case round =>
        obtain ⟨v, rfl, hv, HO, HW⟩ := hrel
        by_cases hlt : v < vars
        · have hvl : ((v : Nat) : Int) < ((vars : Nat) : Int) := by omega
          have HEQ : Hid ((List.range (v + 1)).map (fun u : Nat => (u : Int)) = (List.range v).map (fun u : Nat => (u : Int)) ++ [(v : Int)]) := Lib.hid (by rw [List.range_succ, List.map_append]; rfl)
          have hll : ((List.range v).map fun u : Nat => (u : Int)).length = v := by simp
          generalize (List.range v).map (fun u : Nat => (u : Int)) = L at *
          obtain ⟨A1, c1, rfl, -⟩ := OwnI.rd HO.out
          have Hll : L.length ≤ 6 := by omega
          have HWs := Lib.hid HW.out.size
          clear hll
          go_wp2_with (first
            | (at_builtin; refine wpList_appI rfl _ _ rfl wN.heap.size _ _ (v : Int) rfl (HO.out.alloc _) _ _ rfl (cell_new _ _ _ _ (by simp) _) (by omega) (by have := HWs.out; simp; omega) ?_; intro v5 w5 hY5 hg5
               rw [← HEQ.out] at hY5
               have HY5 := Lib.hid hY5
               have HW5 := Lib.hid (below_own (HW.out.alloc HWs.out (.cells #[.int .i64 (v : Nat)] 3)) hg5 (HO.out.alloc _) (Nat.le_refl _) (by have := HWs.out; simp; omega))
               clear hY5 hg5))
          go_roundw
          case rel => exact ⟨v + 1, by go_num, by omega, HY5, HW5⟩
          case measure => simp [intOf]; omega
        · have : vars = v := by omega
          subst this
          have hFL : (List.range vars).map (fun u : Nat => (u : Int)) = firstL (envX vars p) := rfl
          have hO := HO.out
          rw [hFL] at hO
          have hfl : (firstL (envX vars p)).length = vars := firstL_len _
          obtain ⟨nf, cf, rfl, -, -, -, -, -⟩ := OwnI.at_ hO (by omega)
          obtain ⟨o0, hM⟩ := HMD.out
          obtain ⟨o1, hN⟩ := hM.names HW.out hO
          have HN := Lib.hid hN
          rw [hfl] at HN
          rw [hfl]
          have Hfl := Lib.hid hfl
          have H0 : Hid ((List.replicate p.length rs0).map RS.sg = (List.range p.length).map fun j => if j < 0 then rawSg (envX vars p) j else rs0.sg) := Lib.hid (by
            apply List.ext_getElem (by simp)
            intro i h1 h2
            simp)
          clear hO hfl hFL HO HW hM hN hlt hv HMD
          obtain ⟨wo, rfl⟩ : ∃ wo : World, wo = wr := ⟨_, rfl⟩
          go_wp2
          go_loopw [107] (fun i wr => ∃ (k : Nat) (rs : List RS) (o : Nat → Nat × Nat), i = .int .i64 (k : Nat) ∧ k ≤ p.length ∧ Hid (NmX wz wr H T g o rs vars 0 (.slice (some ⟨nf, 0, none⟩) vars cf) (firstL (envX vars p)) none) ∧ Hid (rs.map RS.sg = (List.range p.length).map fun j => if j < k then rawSg (envX vars p) j else rs0.sg)) (fun i _ => p.length - (intOf i).toNat)
          case atStart => exact ⟨0, _, o1, rfl, Nat.zero_le _, HN, H0⟩
          case round =>
            clear HN H0
            obtain ⟨k, rs, o, rfl, hk, HS, HR⟩ := hrel
            by_cases hlt : k < p.length
            · have hkl : ((k : Nat) : Int) < ((p.length : Nat) : Int) := by omega
              have hkr : k < rs.length := by rw [HS.out.len, HHp.out.2]; exact hlt
              obtain ⟨x, hx⟩ : ∃ x, rs[k]? = some x := ⟨_, List.getElem?_eq_getElem hkr⟩
              obtain ⟨b, off, A', cap', rfl, hb, c0, c1, c2, c3, -⟩ := RdBk.at_ (HAz.out.below HS.out.bel) hlt
              have HRW : Hid (rawSg (envX vars p) k = ⟨[], [], if 0 ≤ p[k].test then p[k].test else -1, p[k].thn, p[k].els, firstL (envX vars p)⟩) := Lib.hid (by
                unfold rawSg
                rw [show (envX vars p).p.getD k bnul = p[k] from bget hlt])
              have HNEW : Hid (∀ x' : RS, x'.sg = rawSg (envX vars p) k → (rs.set k x').map RS.sg = (List.range p.length).map fun j => if j < k + 1 then rawSg (envX vars p) j else rs0.sg) := Lib.hid (fun x' hx' => by
                rw [(map_sg HR.out hx (x' := x')).2, hx']
                apply List.ext_getElem (by simp)
                intro i h1 h2
                simp only [List.getElem_set, List.getElem_map, List.getElem_range]
                have hi : i < p.length := by simpa using h2
                by_cases e : k = i
                · subst e
                  rw [if_pos rfl, if_pos (by omega)]
                · rw [if_neg e]
                  by_cases e2 : i < k
                  · rw [if_pos e2, if_pos (by omega)]
                  · rw [if_neg e2, if_neg (by omega)])
              obtain ⟨o4, ho4, hz⟩ := HS.out.owner (0, 9)
              generalize p[k] = bk at *
              obtain ⟨code, test, thn, els⟩ := bk
              dsimp only at c0 c1 c2 c3 HRW
              have HC1 := Lib.hid (hz.alloc (.cells #[.slice A' code.length cap', .int .i64 test, .int .i64 thn, .int .i64 els] 85)).drew
              have HSB1 : Hid (((wr.alloc (.cells #[.slice A' code.length cap', .int .i64 test, .int .i64 thn, .int .i64 els] 85)).drew).heap[wr.heap.size]? = some (.cells #[.slice A' code.length cap', .int .i64 test, .int .i64 thn, .int .i64 els] 85 (0, 0))) := Lib.hid (heap_alloc_new wr (.cells #[.slice A' code.length cap', .int .i64 test, .int .i64 thn, .int .i64 els] 85))
              obtain ⟨PB, hPB⟩ : ∃ PB, PB = wr.heap.size := ⟨_, rfl⟩
              have HoS : Hid (o4 PB = (0, 9)) := Lib.hid (by rw [hPB]; exact ho4)
              obtain ⟨u1, hu1⟩ : ∃ u1, u1 = wr.alloc (.cells #[.slice A' code.length cap', .int .i64 test, .int .i64 thn, .int .i64 els] 85) := ⟨_, rfl⟩
              rw [← hu1] at HC1 HSB1
              rw [← hPB] at HSB1
              obtain ⟨Ax, cx, ex, hRx⟩ := OwnI.rd HC1.out.nm
              have ex' : Ax = some ⟨nf, 0, none⟩ := by injection ex with e1 e2 e3; exact e1.symm
              subst ex'
              have hCL := cloneI_calls (some ⟨nf, 0, none⟩) (firstL (envX vars p)) cf u1.drew hRx (by rw [Hfl.out]; omega) (by rw [Hfl.out]; omega)
              rw [Hfl.out] at hCL
              have HCL := Lib.hid hCL
              have HX := Lib.hid HX.out
              have Hx := Lib.hid hx
              have Hlt := Lib.hid hlt
              have HK0 : Hid (u1.drew.cell? ⟨T, 7, none⟩ = some (.slice (some ⟨g, 0, none⟩) H.n H.n) ∧ u1.drew.cell? ⟨PB, 2, none⟩ = some (.int .i64 thn) ∧ u1.drew.cell? ⟨PB, 3, none⟩ = some (.int .i64 els)) := Lib.hid ⟨HC1.out.t.2.2.2.1, cell_h HSB1.out 2, cell_h HSB1.out 3⟩
              have hkn : ((k : Nat) : Int) < ((H.n : Nat) : Int) := by rw [HHp.out.2]; omega
              have Hkr := Lib.hid hkr
              clear ho4 hz hx hkr hlt hRx ex hCL HS HR
              go_wp2
              rw [← hPB, ← hu1]
              clear hPB hu1 c0 c1 c2 c3
              refine wp_region_held_drew (S := fun w' => w'.cell? ⟨T, 7, none⟩ = some (.slice (some ⟨g, 0, none⟩) H.n H.n) ∧ w'.cell? ⟨PB, 2, none⟩ = some (.int .i64 thn) ∧ w'.cell? ⟨PB, 3, none⟩ = some (.int .i64 els)) (by kernel_rfl) HK0.out (fun hH0 => ?_)
              refine wpAnyH_take (i := 0) (oi := { dst := some 112, op := Go.Op.move (Go.Operand.tmp 18), type := 108, pos := "single.go:231", after := #[], guard := none }) rfl (by kernel_rfl) (by kernel_rfl) (by kernel_rfl) (fun _ _ _ h => h) (Or.inl ⟨by rfl, fun w hw => by (go_simp; try with_reducible rfl)⟩) (by assumption) ?_
              try simp only [Act.put, List.setIfInBounds_toArray, List.set_cons_zero, List.set_cons_succ]
              refine wpAnyH_take (i := 1) (oi := { dst := some 113, op := Go.Op.nilCheck (Go.Operand.tmp 112), type := 0, pos := "single.go:231", after := #[{ on := 0, ground := Go.Ground.data }], guard := none }) rfl (by kernel_rfl) (by kernel_rfl) (by kernel_rfl) (fun _ _ _ h => h) (Or.inl ⟨by rfl, fun w hw => by (go_simp; try with_reducible rfl)⟩) (by assumption) ?_
              try simp only [Act.put, List.setIfInBounds_toArray, List.set_cons_zero, List.set_cons_succ]
              refine wpAnyH_take (i := 2) (oi := { dst := some 114, op := Go.Op.fieldAddr 110 (Go.Operand.tmp 113) 7, type := 0, pos := "single.go:231", after := #[{ on := 1, ground := Go.Ground.data }], guard := none }) rfl (by kernel_rfl) (by kernel_rfl) (by kernel_rfl) (fun _ _ _ h => h) (Or.inl ⟨by rfl, fun w hw => by (go_simp; try with_reducible rfl)⟩) (by assumption) ?_
              try simp only [Act.put, List.setIfInBounds_toArray, List.set_cons_zero, List.set_cons_succ]
              refine wpAnyH_take (i := 3) (oi := { dst := some 115, op := Go.Op.load 39 (Go.Operand.tmp 114), type := 39, pos := "single.go:231", after := #[{ on := 2, ground := Go.Ground.data }], guard := none }) rfl (by kernel_rfl) (by kernel_rfl) (by kernel_rfl) (fun _ _ _ h => h) (Or.inl ⟨by rfl, fun w hw => by (obtain ⟨p0, p1, p2⟩ := hw; go_simp; try with_reducible rfl)⟩) (by assumption) ?_
              try simp only [Act.put, List.setIfInBounds_toArray, List.set_cons_zero, List.set_cons_succ]
              refine wpAnyH_take (i := 4) (oi := { dst := some 116, op := Go.Op.move (Go.Operand.tmp 21), type := 3, pos := "single.go:231", after := #[], guard := none }) rfl (by kernel_rfl) (by kernel_rfl) (by kernel_rfl) (fun _ _ _ h => h) (Or.inl ⟨by rfl, fun w hw => by (go_simp; try with_reducible rfl)⟩) (by assumption) ?_
              try simp only [Act.put, List.setIfInBounds_toArray, List.set_cons_zero, List.set_cons_succ]
              refine wpAnyH_take (i := 5) (oi := { dst := some 117, op := Go.Op.fieldAddr 85 (Go.Operand.tmp 22) 2, type := 0, pos := "single.go:231", after := #[], guard := none }) rfl (by kernel_rfl) (by kernel_rfl) (by kernel_rfl) (fun _ _ _ h => h) (Or.inl ⟨by rfl, fun w hw => by (go_simp; try with_reducible rfl)⟩) (by assumption) ?_
              try simp only [Act.put, List.setIfInBounds_toArray, List.set_cons_zero, List.set_cons_succ]
              refine wpAnyH_take (i := 6) (oi := { dst := some 118, op := Go.Op.load 3 (Go.Operand.tmp 117), type := 3, pos := "single.go:231", after := #[{ on := 5, ground := Go.Ground.data }], guard := none }) rfl (by kernel_rfl) (by kernel_rfl) (by kernel_rfl) (fun _ _ _ h => h) (Or.inl ⟨by rfl, fun w hw => by (obtain ⟨p0, p1, p2⟩ := hw; go_simp; try with_reducible rfl)⟩) (by assumption) ?_
              try simp only [Act.put, List.setIfInBounds_toArray, List.set_cons_zero, List.set_cons_succ]
              refine wpAnyH_take (i := 7) (oi := { dst := some 119, op := Go.Op.fieldAddr 85 (Go.Operand.tmp 22) 3, type := 0, pos := "single.go:231", after := #[], guard := none }) rfl (by kernel_rfl) (by kernel_rfl) (by kernel_rfl) (fun _ _ _ h => h) (Or.inl ⟨by rfl, fun w hw => by (go_simp; try with_reducible rfl)⟩) (by assumption) ?_
              try simp only [Act.put, List.setIfInBounds_toArray, List.set_cons_zero, List.set_cons_succ]
              refine wpAnyH_take (i := 8) (oi := { dst := some 120, op := Go.Op.load 3 (Go.Operand.tmp 119), type := 3, pos := "single.go:231", after := #[{ on := 7, ground := Go.Ground.data }], guard := none }) rfl (by kernel_rfl) (by kernel_rfl) (by kernel_rfl) (fun _ _ _ h => h) (Or.inl ⟨by rfl, fun w hw => by (obtain ⟨p0, p1, p2⟩ := hw; go_simp; try with_reducible rfl)⟩) (by assumption) ?_
              try simp only [Act.put, List.setIfInBounds_toArray, List.set_cons_zero, List.set_cons_succ]
              refine wpAnyH_take (i := 9) (oi := { dst := some 121, op := Go.Op.move (Go.Operand.tmp 19), type := 23, pos := "single.go:231", after := #[], guard := none }) rfl (by kernel_rfl) (by kernel_rfl) (by kernel_rfl) (fun _ _ _ h => h) (Or.inl ⟨by rfl, fun w hw => by (go_simp; try with_reducible rfl)⟩) (by assumption) ?_
              try simp only [Act.put, List.setIfInBounds_toArray, List.set_cons_zero, List.set_cons_succ]
              refine wpAnyH_ready (rs := [10]) (by kernel_rfl) (by simp) ?_
              refine AllReadyH.cons (o := { dst := some 122, op := Go.Op.call { callee := Go.Callee.value (Go.Operand.func 59), args := #[Go.Operand.tmp 121], argTypes := #[23] }, type := 23, pos := "single.go:231", after := #[{ on := 9, ground := Go.Ground.data }], guard := none }) rfl (fun K hK => ?_) AllReadyH.nil
              go_simp
              go_at_call 59
              (with_reducible refine HCL.out.mono ?_)
              rintro e u2 ⟨v9, rfl, hO9, hB9⟩
              obtain ⟨nl, cl, rfl, -, -, -, -, -⟩ := OwnI.at_ hO9 (by rw [Hfl.out]; omega)
              obtain ⟨o6, ho6, h6⟩ := HC1.out.put6 Hx.out hB9 hO9 (-1) thn els
              rw [Hfl.out] at h6
              rw [Hfl.out]
              have hPn : PB ≠ g := fun e => by have h1 := HC1.out.tg.2; have h2 := HoS.out; rw [e, h1] at h2; cases h2
              have hN2 := (hB9.block PB (lt_h HSB1.out)).trans HSB1.out
              have hC2 := HC1.out.below hB9
              have HG6 := Lib.hid (hC2.g6 Hkr.out)
              have HK2 : Hid (u2.cell? ⟨T, 7, none⟩ = some (.slice (some ⟨g, 0, none⟩) H.n H.n) ∧ u2.cell? ⟨PB, 2, none⟩ = some (.int .i64 thn) ∧ u2.cell? ⟨PB, 3, none⟩ = some (.int .i64 els)) := Lib.hid ⟨hC2.t.2.2.2.1, cell_h hN2 2, cell_h hN2 3⟩
              have HS6 := Lib.hid h6
              have HN6 : Hid ((((((((u2.setCell ⟨g, k * 6, none⟩ nulV).setCell ⟨g, k * 6 + 1, none⟩ nulV).setCell ⟨g, k * 6 + 2, none⟩ (.int .i64 (-1))).setCell ⟨g, k * 6 + 3, none⟩ (.int .i64 thn)).setCell ⟨g, k * 6 + 4, none⟩ (.int .i64 els)).setCell ⟨g, k * 6 + 5, none⟩ (.slice (some ⟨nl, 0, none⟩) vars cl)).heap[PB]? = some (.cells #[.slice A' code.length cap', .int .i64 test, .int .i64 thn, .int .i64 els] 85 (0, 0)))) := Lib.hid (by rw [Below.heap_setCell _ _ _ _ (by exact hPn), Below.heap_setCell _ _ _ _ (by exact hPn), Below.heap_setCell _ _ _ _ (by exact hPn), Below.heap_setCell _ _ _ _ (by exact hPn), Below.heap_setCell _ _ _ _ (by exact hPn), Below.heap_setCell _ _ _ _ (by exact hPn)]; exact hN2)
              clear hO9 hB9 hN2 hC2 h6 ho6 hPn
              refine hK.out _ _ HK2.out (fun hH1 => ?_)
              clear hK hH0
              have hH0 := hH1
              clear hH1
              try simp only [Act.put, List.setIfInBounds_toArray, List.set_cons_zero, List.set_cons_succ]
              refine wpAnyH_take (i := 11) (oi := { dst := some 123, op := Go.Op.build 114 #[(2, Go.Operand.const (Go.Value.int Go.IntKind.i64 (-1))), (3, Go.Operand.tmp 118), (4, Go.Operand.tmp 120), (5, Go.Operand.tmp 122)], type := 114, pos := "single.go:231", after := #[{ on := 6, ground := Go.Ground.data }, { on := 8, ground := Go.Ground.data }, { on := 10, ground := Go.Ground.data }], guard := none }) rfl (by kernel_rfl) (by kernel_rfl) (by kernel_rfl) (fun _ _ _ h => h) (Or.inl ⟨by rfl, fun w hw => by (go_simp; try with_reducible rfl)⟩) (by assumption) ?_
              try simp only [Act.put, List.setIfInBounds_toArray, List.set_cons_zero, List.set_cons_succ]
              refine wpAnyH_take (i := 12) (oi := { dst := some 124, op := Go.Op.indexAddr 39 (Go.Operand.tmp 115) (Go.Operand.tmp 116), type := 0, pos := "single.go:231", after := #[{ on := 3, ground := Go.Ground.data }, { on := 4, ground := Go.Ground.data }, { on := 0, ground := Go.Ground.phase }, { on := 1, ground := Go.Ground.phase }, { on := 2, ground := Go.Ground.phase }, { on := 3, ground := Go.Ground.phase }, { on := 4, ground := Go.Ground.phase }, { on := 5, ground := Go.Ground.phase }, { on := 6, ground := Go.Ground.phase }, { on := 7, ground := Go.Ground.phase }, { on := 8, ground := Go.Ground.phase }, { on := 9, ground := Go.Ground.phase }, { on := 10, ground := Go.Ground.phase }, { on := 11, ground := Go.Ground.phase }], guard := none }) rfl (by kernel_rfl) (by kernel_rfl) (by kernel_rfl) (fun _ _ _ h => h) (Or.inl ⟨by rfl, fun w hw => by (go_simp; try with_reducible rfl)⟩) (by assumption) ?_
              try simp only [Act.put, List.setIfInBounds_toArray, List.set_cons_zero, List.set_cons_succ]
              refine wpAnyH_ready (rs := [13]) (by kernel_rfl) (by simp) ?_
              refine AllReadyH.cons (o := { dst := none, op := Go.Op.store 114 (Go.Operand.tmp 124) (Go.Operand.tmp 123), type := 0, pos := "single.go:231", after := #[{ on := 12, ground := Go.Ground.data }, { on := 11, ground := Go.Ground.data }, { on := 10, ground := Go.Ground.chain }, { on := 0, ground := Go.Ground.phase }, { on := 1, ground := Go.Ground.phase }, { on := 2, ground := Go.Ground.phase }, { on := 3, ground := Go.Ground.phase }, { on := 4, ground := Go.Ground.phase }, { on := 5, ground := Go.Ground.phase }, { on := 6, ground := Go.Ground.phase }, { on := 7, ground := Go.Ground.phase }, { on := 8, ground := Go.Ground.phase }, { on := 9, ground := Go.Ground.phase }, { on := 10, ground := Go.Ground.phase }, { on := 11, ground := Go.Ground.phase }], guard := none }) rfl (fun K hK => ?_) AllReadyH.nil
              obtain ⟨z0, z1, z2, z3, z4, z5, y0, y1, y2, y3, y4, y5, yf⟩ := HG6.out
              go_simp
              clear y0 y1 y2 y3 y4 y5 yf
              obtain ⟨u6, hu6⟩ : ∃ u6, u6 = (((((u2.setCell ⟨g, k * 6, none⟩ nulV).setCell ⟨g, k * 6 + 1, none⟩ nulV).setCell ⟨g, k * 6 + 2, none⟩ (.int .i64 (-1))).setCell ⟨g, k * 6 + 3, none⟩ (.int .i64 thn)).setCell ⟨g, k * 6 + 4, none⟩ (.int .i64 els)).setCell ⟨g, k * 6 + 5, none⟩ (.slice (some ⟨nl, 0, none⟩) vars cl) := ⟨_, rfl⟩
              rw [← hu6]
              rw [← hu6] at HS6 HN6
              clear hu6
              refine hK.out _ _ ⟨HS6.out.t.2.2.2.1, cell_h HN6.out 2, cell_h HN6.out 3⟩ (fun hH1 => ?_)
              clear hK hH0
              have hH0 := hH1
              clear hH1
              try simp only [Act.put, List.setIfInBounds_toArray, List.set_cons_zero, List.set_cons_succ]
              refine wpAnyH_done (by kernel_rfl) ?_ _
              clear hH0
              have d1 := cell_h HN6.out 1
              have hx6 : (rs.set k ⟨nulV, [], nulV, [], -1, thn, els, .slice (some ⟨nl, 0, none⟩) vars cl, firstL (envX vars p)⟩)[k]? = some ⟨nulV, [], nulV, [], -1, thn, els, .slice (some ⟨nl, 0, none⟩) vars cl, firstL (envX vars p)⟩ := List.getElem?_set_self Hkr.out
              by_cases ht : 0 ≤ test
              · have h7 := (HS6.out.setTest hx6 test).drew
                rw [List.set_set] at h7
                have HS7 := Lib.hid h7
                have HR7 := Lib.hid (HNEW.out ⟨nulV, [], nulV, [], test, thn, els, .slice (some ⟨nl, 0, none⟩) vars cl, firstL (envX vars p)⟩ (by rw [HRW.out, if_pos ht]; rfl))
                have cT7 := HS6.out.t.2.2.2.1
                obtain ⟨⟨-, -, y2, -⟩, yf⟩ := HS6.out.g_ hx6
                have f2 := yf (k * 6 + 2)
                clear h7 hx6 yf HS6 HN6
                go_wp2
                go_still_tail 9, (by kernel_rfl)
                go_wp2
                go_roundw
                case rel => exact ⟨k + 1, _, _, by go_num, by have := Hlt.out; omega, HS7, HR7⟩
                case measure => have := Hlt.out; simp [intOf]; omega
              · have HR7 := Lib.hid (HNEW.out ⟨nulV, [], nulV, [], -1, thn, els, .slice (some ⟨nl, 0, none⟩) vars cl, firstL (envX vars p)⟩ (by rw [HRW.out, if_neg ht]; rfl))
                clear hx6
                go_wp2
                go_roundw
                case rel => exact ⟨k + 1, _, _, by go_num, by have := Hlt.out; omega, HS6, HR7⟩
                case measure => have := Hlt.out; simp [intOf]; omega
            · have : k = p.length := by omega
              subst this
              have hst : rs.map RS.sg = (startN (envX vars p)).out := by
                rw [HR.out]
                apply List.map_congr_left
                intro i hi
                rw [if_pos (List.mem_range.1 hi)]
              obtain ⟨Ax, cx, ex, hRx⟩ := OwnI.rd HS.out.nm
              have ex' : Ax = some ⟨nf, 0, none⟩ := by injection ex with e1 e2 e3; exact e1.symm
              subst ex'
              have hsrc : srcOf (envX vars p) (startN (envX vars p)) (-1) = firstL (envX vars p) := by unfold srcOf; rw [if_pos (by decide)]
              have hu : undN (envX vars p) (startN (envX vars p)) < p.length + 1 := by
                have := List.length_filter_le (fun i => !(startN (envX vars p)).done.testBit i) (List.range (envX vars p).p.length)
                rw [List.length_range] at this
                unfold undN
                have e : (envX vars p).p.length = p.length := rfl
                omega
              have hw := nwalk_calls HG.out HX.out (T := T) (g := g) (p.length + 1) (startN (envX vars p)) _ _ _ (-1) 0 (start_inv (E := envX vars p) (R := W.Rch (nexts p)) (D := W.Dom (nexts p))) hu HG.out.r0 HG.out.frm0 (.inl ⟨rfl, rfl⟩) wr o rs (some ⟨nf, 0, none⟩) cf HS.out.noname hst (by rw [hsrc]; exact hRx)
              rw [hsrc, Hfl.out] at hw
              have hend : walkN (envX vars p) (p.length + 1) (-1) 0 (firstL (envX vars p)) (startN (envX vars p)) = endN (envX vars p) := rfl
              rw [hend, show ((0 : Nat) : Int) = 0 from rfl] at hw
              have HWK := Lib.hid hw
              clear hw hend hu hsrc hRx ex hst HS HR hlt hk
              go_wp2_with fail
              (with_reducible refine HWK.out.mono ?_)
              rintro e w9 ⟨⟨u9, rfl⟩, o9, rs9, h9, hr9, -⟩
              have cT7 := h9.t.2.2.2.1
              have HRD := Lib.hid h9.rd
              rw [hr9, HHp.out.2] at *
              have HB9 := Lib.hid (HWz.out.trans (h9.bel.mono HWz.out.size))
              clear h9 hr9
              go_wp2
              go_ret2
              exact ⟨⟨g, p.length, rfl, HRD.out⟩, HB9.out⟩
end Go.Proofs.Ytmgejacndhnikaa
