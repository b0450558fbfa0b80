/- value.Least walked. -/
import Derived.Test.YtmglhppfdhphbaaValL
import Derived.Test.YtmglhppfdhphbaaValA
import Derived.Test.YtmglhppfdhphbaaOwnBo
import Derived.StillTailTactics
import Derived.Deep.CutRange
import Derived.Deep.DeepCutAuto
import Derived.Deep.RegionHeld3
namespace Go.Proofs.Ytmglhppfdhphbaa
open Go.RowKit

/-- What is needed, as far as it has been swept: from t on all is closed. -/
structure NL (l : List Term) (t : Nat) (r : List Bool) : Prop where
  len : r.length = l.length
  sound : ∀ i, r.getD i false = true → Nd l i
  root : r.getD (fN l (l.length - 1)) false = true
  closed : ∀ i, t ≤ i → i < l.length → r.getD i false = true → 2 < (kN l i).op → r.getD (kN l i).a.toNat false = true ∧ r.getD (kN l i).b.toNat false = true
section
variable {l : List Term} {vars : Int}
theorem getB_set {r : List Bool} {j : Nat} (hj : j < r.length) (s : Bool) (i : Nat) : (r.set j s).getD i false = if j = i then s else r.getD i false := by
  rw [List.getD_eq_getElem?_getD, List.getElem?_set, List.getD_eq_getElem?_getD]
  by_cases h : j = i
  · rw [if_pos h, if_pos h, if_pos hj]; rfl
  · rw [if_neg h, if_neg h]
theorem NL.first (h1 : 1 ≤ l.length) : NL l l.length ((List.replicate l.length false).set (fN l (l.length - 1)) true) := by
  have hr := fN_le (l := l) (show l.length - 1 < l.length by omega)
  have hlt : fN l (l.length - 1) < (List.replicate l.length false).length := by simp; omega
  refine ⟨by simp, fun i h => ?_, by rw [getB_set hlt, if_pos rfl], fun i h1 h2 => by omega⟩
  rw [getB_set hlt] at h
  split at h
  · rename_i e; subst e; exact .root
  · rw [List.getD_eq_getElem?_getD, List.getElem?_replicate] at h
    split at h <;> simp at h
theorem NL.skip {t : Nat} {r : List Bool} (h : NL l (t + 1) r) (hn : r.getD t false = true → ¬ 2 < (kN l t).op) : NL l t r :=
  ⟨h.len, h.sound, h.root, fun i hi hl hr h2 => by
    by_cases e : i = t
    · subst e; exact absurd h2 (hn hr)
    · exact h.closed i (by omega) hl hr h2⟩
theorem NL.step (hok : ∀ k (h : k < l.length), TOk vars k l[k]) {t a b : Nat} {r : List Bool} (h : NL l (t + 1) r) (ht : t < l.length) (hr : r.getD t false = true) (h2 : 2 < (kN l t).op) (ea : (kN l t).a = a) (eb : (kN l t).b = b) : NL l t ((r.set a true).set b true) := by
  obtain ⟨a', b', ea', eb', la, lb, _⟩ := (ownK hok ht).node h2
  have : a = a' := by omega
  subst this
  have : b = b' := by omega
  subst this
  have hal : a < r.length := by rw [h.len]; omega
  have hbl : b < (r.set a true).length := by rw [List.length_set, h.len]; omega
  have key : ∀ i, ((r.set a true).set b true).getD i false = if b = i then true else if a = i then true else r.getD i false := fun i => by rw [getB_set hbl, getB_set hal]
  have up : ∀ i, r.getD i false = true → ((r.set a true).set b true).getD i false = true := fun i hi => by
    rw [key]
    by_cases e1 : b = i
    · rw [if_pos e1]
    · rw [if_neg e1]
      by_cases e2 : a = i
      · rw [if_pos e2]
      · rw [if_neg e2]; exact hi
  refine ⟨by rw [List.length_set, List.length_set]; exact h.len, fun i hi => ?_, up _ h.root, fun i hi hl hri h2i => ?_⟩
  · rw [key] at hi
    split at hi
    · rename_i e; subst e; exact (h.sound t hr).cb h2 eb
    · split at hi
      · rename_i e; subst e; exact (h.sound t hr).ca h2 ea
      · exact h.sound i hi
  · by_cases e : i = t
    · subst e
      rw [ea, eb, Int.toNat_natCast, Int.toNat_natCast]
      refine ⟨?_, ?_⟩
      · rw [key]
        by_cases e1 : b = a
        · rw [if_pos e1]
        · rw [if_neg e1, if_pos rfl]
      · rw [key, if_pos rfl]
    · rw [key, if_neg (by omega), if_neg (by omega)] at hri
      obtain ⟨c1, c2⟩ := h.closed i (by omega) hl hri h2i
      exact ⟨up _ c1, up _ c2⟩
theorem NL.all (hok : ∀ k (h : k < l.length), TOk vars k l[k]) (h1 : 1 ≤ l.length) {r : List Bool} (h : NL l 0 r) : ∀ i, r.getD i false = true ↔ Nd l i := fun i => by
  refine ⟨h.sound i, fun hn => ?_⟩
  induction hn with
  | root => exact h.root
  | @ca i a hn h2 e ih =>
    have := (h.closed i (Nat.zero_le _) (hn.facts hok h1).1 ih h2).1
    rwa [e, Int.toNat_natCast] at this
  | @cb i b hn h2 e ih =>
    have := (h.closed i (Nat.zero_le _) (hn.facts hok h1).1 ih h2).2
    rwa [e, Int.toNat_natCast] at this
end
theorem wpList_app_run {P : Program} {ops : Array Oper} {rest : List Oper} {o : Oper} {a : Act} {w : World} {Q : Exit → Act → World → Prop} (hgd : o.guard = none) (t : TypeId) (s x : Operand) (ho : o.op = .call { callee := .builtin .append, args := #[s, x], argTypes := #[t, t] })
    {v x' v' : Value} {w' : World} (hs : a.eval s = v) (hx : a.eval x = x') (hrun : (Builtin.append_ #[t, t] o.type #[v, x']).run P w = .ok v' w') (h : wpList P ops Q rest (a.put o.dst v') w') : wpList P ops Q (o :: rest) a w :=
  wpList_plain hgd fun _ hK => wp_app_run t s x ho hs hx hrun (hK _ _ h)
theorem fz_of {w : World} {N E : Nat} {cs : Array Value} (h : w.heap[N]? = some (.cells cs E (0, 0))) (off : Nat) : w.frozen? ⟨N, off, none⟩ = false := by simp [World.frozen?, h]
/-- In the midst of a round: the number row, the row of least terms, the copy of the term at N. -/
structure MR (wb w : World) (n N : Nat) (nb : List Int) (v : Value) (out : List Term) (t : Term) : Prop where
  nb : OwnI w wb.heap.size 3 (.slice (some ⟨wb.heap.size, 0, none⟩) n n) nb
  out : OwnT w (wb.heap.size + 1) v out
  bel : Below wb.heap.size wb w
  gt : wb.heap.size < N
  lt : N < w.heap.size
  ne : v.ownBlock ≠ some N
  hh : w.heap[N]? = some (.cells t.cells.toArray 37 (0, 0))
section
variable {wb w : World} {n N : Nat} {nb : List Int} {v : Value} {out : List Term} {t : Term}
theorem MR.cs (h : MR wb w n N nb v out t) (j : Nat) : w.cell? ⟨N, j, none⟩ = t.cells[j]? := by
  rw [cell_of_row w N j _ _ _ h.hh, List.getElem?_toArray]
theorem MR.at4 (h : MR wb w n N nb v out t) : w.cell? ⟨N, 0, none⟩ = some (.int .i64 t.op) ∧ w.cell? ⟨N, 1, none⟩ = some (.int .i64 t.a) ∧ w.cell? ⟨N, 2, none⟩ = some (.int .i64 t.b) ∧ w.cell? ⟨N, 3, none⟩ = some (.int .i64 t.val) := ⟨h.cs 0, h.cs 1, h.cs 2, h.cs 3⟩
theorem MR.fz (h : MR wb w n N nb v out t) (j : Nat) : w.frozen? ⟨N, j, none⟩ = false := fz_of h.hh j
theorem MR.drew (h : MR wb w n N nb v out t) : MR wb w.drew n N nb v out t := ⟨h.nb, h.out, h.bel.drew, h.gt, h.lt, h.ne, h.hh⟩
theorem MR.set12 (h : MR wb w n N nb v out t) (a b : Int) : MR wb ((w.setCell ⟨N, 1, none⟩ (.int .i64 a)).setCell ⟨N, 2, none⟩ (.int .i64 b)) n N nb v out ⟨t.op, a, b, t.val⟩ := by
  have hbn : (Value.slice (some ⟨wb.heap.size, 0, none⟩) n n).ownBlock ≠ some N := fun e => by
    have e : some wb.heap.size = some N := e
    injection e with e; have := h.gt; omega
  exact ⟨(h.nb.far (p := ⟨N, 1, none⟩) hbn _).far (p := ⟨N, 2, none⟩) hbn _, (h.out.far (p := ⟨N, 1, none⟩) h.ne _).far (p := ⟨N, 2, none⟩) h.ne _,
    (h.bel.setCell (p := ⟨N, 1, none⟩) (Nat.le_of_lt h.gt) _).setCell (p := ⟨N, 2, none⟩) (Nat.le_of_lt h.gt) _, h.gt, by simpa [World.setCell] using h.lt, h.ne,
    heap_setCell_ _ N 2 _ _ _ (heap_setCell_ w N 1 _ _ _ h.hh)⟩
end
set_option maxRecDepth 100000 in
set_option maxHeartbeats 8000000 in
theorem leastT_calls (vars : Int) (A : Option Addr) (l : List Term) (cap : Nat) (w : World) (hA : RdT w A l) (h0 : tErr vars l = 0) (h1 : 1 ≤ l.length) (h16 : l.length ≤ 16) (hv : vars ≤ 6) (hok : ∀ k (h : k < l.length), TOk vars k l[k]) :
    Calls Try.prog 32 #[.int .i64 vars, .slice A l.length cap] w fun e w' => ∃ v, e = .returned (.tuple #[v, .int .i64 0]) ∧ OwnT w' w.heap.size v (leastL l) ∧ Below w.heap.size w w' := by
  have HA := Lib.hid hA; clear hA
  have Hok := Lib.hid hok; clear hok
  have H0 := Lib.hid h0; clear h0
  go_enter Try.func32, Try.ntmps32
  go_wp2_with (first
    | (go_at_call 37; refine (check_calls vars A l cap w HA.out (by unfold maxLen; omega)).mono ?_; rintro e w1 ⟨rfl, hW⟩; rw [H0.out]; have HW1 := Lib.hid hW; have HA1 := Lib.hid (Rd.below HA.out hW); clear hW)
    | (go_at_call 38; refine (numbers_calls vars A l cap w1 HA1.out h16 hv Hok.out).mono ?_
       rintro e w2 ⟨v5, v6, rfl, hF, hK, hW2⟩
       have HF := Lib.hid hF
       have HK := Lib.hid hK
       have HW2 := Lib.hid (HW1.out.trans (hW2.mono HW1.out.size))
       obtain ⟨gF, cF, rfl, hgF, hgF2, _, _, hcF⟩ := OwnI.at_ hF (by rw [fsTo_len (Nat.le_refl _)]; omega)
       obtain ⟨AK, cK, rfl, hRK⟩ := OwnT.rd hK
       rw [fsTo_len (Nat.le_refl _), ksTo_len (Nat.le_refl _)]
       have HcF : Hid (∀ k, k < l.length → w2.cell? ⟨gF, k, none⟩ = some (.int .i64 (fN l k : Nat))) := Lib.hid fun k hk => by
         have h := hcF k (by rw [fsTo_len (Nat.le_refl _)]; exact hk)
         rw [h, ← fN_int hk, List.getD_eq_getElem?_getD, List.getElem?_eq_getElem (by rw [fsTo_len (Nat.le_refl _)]; exact hk)]; rfl
       have HRK := Lib.hid hRK
       clear hW2 hF hK hcF hRK)
    | (at_make; refine wpList_makeBo rfl _ _ rfl w2.heap.size l.length rfl rfl (by omega) (Nat.le_refl _) ?_; intro w3 hown3 hgrow3
       have HW3 := Lib.hid ((Below.refl w2.heap.size w2).grown hgrow3 (Nat.le_refl _) (fun k hk => by cases hk))
       have HO3 := Lib.hid hown3
       have hw3 := hgrow3.size
       obtain ⟨R, hR⟩ : ∃ R, R = fN l (l.length - 1) := ⟨_, rfl⟩
       have hRl : R < l.length := by have := fN_le (l := l) (show l.length - 1 < l.length by omega); omega
       have d1 := (HW3.out.cell (p := ⟨gF, l.length - 1, none⟩) hgF2).trans (HcF.out (l.length - 1) (by omega))
       rw [← hR] at d1
       obtain ⟨g9, eg9, _, hg9, _, hfz, hcell⟩ := OwnBo.at2 hown3 (by simp; omega)
       injection eg9 with eg9; injection eg9 with eg9
       subst eg9
       have f2 := hfz R
       have c2 := hcell R (by simp; omega)
       have HR := Lib.hid hR
       have q1 : ((R : Nat) : Int) < ((l.length : Nat) : Int) := by omega
       clear hown3 hgrow3 hfz hcell hR))
  have HO4 := Lib.hid (OwnBo.set_ HO3.out (k := R) (by simp; omega) true)
  have HW4 := Lib.hid (HW3.out.setCell (p := ⟨w2.heap.size, R, none⟩) (Nat.le_refl _) (.bool true))
  have HN4 : Hid (NL l l.length ((List.replicate l.length false).set R true)) := Lib.hid (by rw [HR.out]; exact NL.first h1)
  clear d1 f2 c2 HO3 HW3
  generalize hb : w2.heap.size = b at *
  go_loopw [10] (fun i wr => ∃ (t : Nat) (r : List Bool), t ≤ l.length ∧ i = .int .i64 ((t : Int) - 1) ∧ OwnBo wr b 4 (.slice (some ⟨b, 0, none⟩) l.length l.length) r ∧ Hid (NL l t r) ∧ Below b w2 wr) (fun i _ => (intOf i + 1).toNat)
  case atStart => exact ⟨l.length, _, Nat.le_refl _, by first | rfl | go_num, HO4.out, HN4, HW4.out⟩
  case round =>
    clear HO4 HW4 HN4
    obtain ⟨t, r, ht, rfl, hown, hN, hW⟩ := hrel
    have HO := Lib.hid hown
    have HW := Lib.hid hW
    cases t with
    | zero =>
      have hq : ((0 : Nat) : Int) - 1 = -1 := rfl
      rw [hq]
      have Hnd := Lib.hid (hN.out.all Hok.out h1)
      obtain ⟨g9, eg9, _, hg9, _, hfz, hcell⟩ := OwnBo.at2 hown (by rw [hN.out.len]; omega)
      injection eg9 with eg9; injection eg9 with eg9
      subst eg9
      have Hneed : Hid (∀ k, k < l.length → wr.cell? ⟨b, k, none⟩ = some (.bool (r.getD k false))) := Lib.hid fun k hk => by
        have hk' : k < r.length := by rw [hN.out.len]; exact hk
        rw [hcell k hk', List.getD_eq_getElem?_getD, List.getElem?_eq_getElem hk']; rfl
      obtain ⟨wb, rfl⟩ : ∃ wb : World, wb = wr := ⟨_, rfl⟩
      have HKb := Lib.hid (Rd.below HRK.out (by rw [hb]; exact hW) : RdT wb AK (ksTo l l.length))
      clear hfz hcell hown hN
      go_wp2_with (first
      | (at_make; refine wpList_makeI rfl _ _ rfl wb.heap.size l.length rfl rfl (by omega) (Nat.le_refl _) ?_; intro w4 hown4 hgrow4
         have HW4 := Lib.hid ((Below.refl wb.heap.size wb).grown hgrow4 (Nat.le_refl _) (fun k hk => by cases hk))
         have HO4 := Lib.hid hown4
         have hw4 : wb.heap.size < w4.heap.size := by
           obtain ⟨g, eg, _, hlt, _⟩ := OwnI.at2 hown4 (by simp; omega)
           injection eg with eg; injection eg with eg
           omega
         clear hown4 hgrow4))
      go_loopw [75, 12] (fun i v wr => ∃ (k : Nat) (nb : List Int), k ≤ l.length ∧ i = .int .i64 k ∧ nb.length = l.length ∧ OwnI wr wb.heap.size 3 (.slice (some ⟨wb.heap.size, 0, none⟩) l.length l.length) nb ∧ Hid (∀ j, j < k → Nd l j → nb.getD j 0 = ((nuN l j : Nat) : Int)) ∧ OwnT wr (wb.heap.size + 1) v ((ndL l k).map (renT l)) ∧ Below wb.heap.size wb wr) (fun i _ _ => l.length - (intOf i).toNat)
      case atStart => exact ⟨0, _, Nat.zero_le _, rfl, by simp, HO4.out, Lib.hid (fun j h => by omega), Own.nil_ _ _ _, HW4.out⟩
      case round =>
        clear HO4 HW4
        obtain ⟨k, nb, hk, rfl, hnl, hnb, hP, hout, hW'⟩ := hrel
        have HNb := Lib.hid hnb
        have HOut := Lib.hid hout
        have HWr := Lib.hid hW'
        have Hnl := Lib.hid hnl
        by_cases hlt : k < l.length
        · have hbb : b < wb.heap.size := hg9
          have hkl : k < (ksTo l l.length).length := by rw [ksTo_len (Nat.le_refl _)]; exact hlt
          obtain ⟨bK, offK, rfl, hbK, k0, k1, k2, k3⟩ := RdT.at4 (Rd.below HKb.out hW') hkl
          have ek : (ksTo l l.length)[k] = kN l k := by
            have h := ksTo_at (l := l) (Nat.le_refl _) hlt
            rw [List.getElem?_eq_getElem hkl] at h
            injection h
          rw [ek] at k0 k1 k2 k3
          have c5 := (hW'.cell (p := ⟨b, k, none⟩) hbb).trans (Hneed.out k hlt)
          have qk : ((k : Nat) : Int) < ((l.length : Nat) : Int) := by omega
          have hws := hW'.size
          have hbr : b < wr.heap.size := by omega
          have HNb2 := Lib.hid (HNb.out.alloc (.cells #[.int .i64 (kN l k).op, .int .i64 (kN l k).a, .int .i64 (kN l k).b, .int .i64 (kN l k).val] 37))
          have HOut2 := Lib.hid (HOut.out.alloc (.cells #[.int .i64 (kN l k).op, .int .i64 (kN l k).a, .int .i64 (kN l k).b, .int .i64 (kN l k).val] 37))
          have HWr2 := Lib.hid (HWr.out.alloc hws (.cells #[.int .i64 (kN l k).op, .int .i64 (kN l k).a, .int .i64 (kN l k).b, .int .i64 (kN l k).val] 37))
          have hnd := Hnd.out k
          have Hnode := Lib.hid (ownK Hok.out hlt).node
          obtain ⟨g8, eg8, _, hg8, _, hfz, hcell⟩ := OwnI.at2 HNb2.out (by rw [hnl]; omega)
          injection eg8 with eg8; injection eg8 with eg8
          subst eg8
          have d5 := hcell k (by rw [hnl]; exact hlt)
          have f5 := hfz k
          have Hcell := Lib.hid hcell
          clear hnb hout hW' ek hkl hcell hfz
          generalize nb[k]'(by rw [hnl]; exact hlt) = old at *
          cases hr : r.getD k false
          · have hno : ¬ Nd l k := fun h => by rw [hnd.2 h] at hr; cases hr
            have HOe := Lib.hid (show (ndL l (k + 1)).map (renT l) = (ndL l k).map (renT l) by rw [ndL_succ, if_neg hno, List.append_nil])
            have HPn : Hid (∀ j, j < k + 1 → Nd l j → nb.getD j 0 = ((nuN l j : Nat) : Int)) := Lib.hid fun j hj hn => by
              by_cases e : j = k
              · subst e; exact absurd hn hno
              · exact hP.out j (by omega) hn
            rw [hr] at c5
            clear hr hnd hno Hnode d5 f5 hnl
            generalize hkt : kN l k = kt at *
            clear hkt
            go_wp2
            go_roundw
            case rel => exact ⟨k + 1, nb, by omega, by go_num, Hnl.out, HNb2.out, HPn, by rw [HOe.out]; exact HOut2.out, HWr2.out⟩
            case measure => first | (simp [intOf]; done) | (simp [intOf]; omega)
          · have hyes : Nd l k := hnd.1 hr
            have HOe := Lib.hid (show (ndL l (k + 1)).map (renT l) = (ndL l k).map (renT l) ++ [renT l k] by rw [ndL_succ, if_pos hyes, List.map_append]; rfl)
            obtain ⟨Av, cv, rfl, hRv⟩ := OwnT.rd HOut2.out
            have hol : ((ndL l k).map (renT l)).length = nuN l k := by rw [List.length_map]; rfl
            rw [hol]
            rw [hol] at HOut2 HOut
            have hbw : wb.heap.size < wr.heap.size := (own_lt HNb.out _ rfl).2
            have Hol := Lib.hid hol
            have hsz : (wr.setCell ⟨wb.heap.size, k, none⟩ (.int .i64 (nuN l k : Nat))).heap.size = wr.heap.size := by simp [World.setCell]
            have HNb3 := Lib.hid ((OwnI.set_ HNb.out (k := k) (by rw [hnl]; exact hlt) ((nuN l k : Nat) : Int)).alloc (.cells #[.int .i64 (kN l k).op, .int .i64 (kN l k).a, .int .i64 (kN l k).b, .int .i64 (kN l k).val] 37))
            have HOut3 := Lib.hid ((Own.far HOut.out (p := ⟨wb.heap.size, k, none⟩) (fun e => by have h : wb.heap.size + 1 ≤ wb.heap.size := (own_lt HOut.out _ e).1; omega) (.int .i64 (nuN l k : Nat))).alloc (.cells #[.int .i64 (kN l k).op, .int .i64 (kN l k).a, .int .i64 (kN l k).b, .int .i64 (kN l k).val] 37))
            have HWr3 := Lib.hid ((HWr.out.setCell (p := ⟨wb.heap.size, k, none⟩) (Nat.le_refl _) (.int .i64 (nuN l k : Nat))).alloc (by rw [hsz]; exact hws) (.cells #[.int .i64 (kN l k).op, .int .i64 (kN l k).a, .int .i64 (kN l k).b, .int .i64 (kN l k).val] 37))
            have hhN : ((wr.setCell ⟨wb.heap.size, k, none⟩ (.int .i64 (nuN l k : Nat))).alloc (.cells #[.int .i64 (kN l k).op, .int .i64 (kN l k).a, .int .i64 (kN l k).b, .int .i64 (kN l k).val] 37)).heap[wr.heap.size]? = some (.cells (kN l k).cells.toArray 37 (0, 0)) := by
              have h := heap_alloc_new (wr.setCell ⟨wb.heap.size, k, none⟩ (.int .i64 (nuN l k : Nat))) (.cells #[.int .i64 (kN l k).op, .int .i64 (kN l k).a, .int .i64 (kN l k).b, .int .i64 (kN l k).val] 37)
              rw [hsz] at h; exact h
            have HPn : Hid (∀ j, j < k + 1 → Nd l j → (nb.set k ((nuN l k : Nat) : Int)).getD j 0 = ((nuN l j : Nat) : Int)) := Lib.hid fun j hj hn => by
              rw [List.getD_eq_getElem?_getD, List.getElem?_set]
              by_cases e : k = j
              · subst e; rw [if_pos rfl, if_pos (by rw [Hnl.out]; exact hlt)]; rfl
              · rw [if_neg e, ← List.getD_eq_getElem?_getD]; exact hP.out j (by omega) hn
            have hnk := nuN_le (l := l) k
            rw [hr] at c5
            have HM0 : Hid (MR wb ((wr.setCell ⟨wb.heap.size, k, none⟩ (.int .i64 (nuN l k : Nat))).alloc (.cells #[.int .i64 (kN l k).op, .int .i64 (kN l k).a, .int .i64 (kN l k).b, .int .i64 (kN l k).val] 37)) l.length wr.heap.size (nb.set k ((nuN l k : Nat) : Int)) (.slice Av (nuN l k) cv) ((ndL l k).map (renT l)) (kN l k)) :=
              Lib.hid ⟨HNb3.out, HOut3.out, HWr3.out, by omega, by simp [World.setCell], fun e => by have := (own_lt HOut.out _ e).2; omega, hhN⟩
            obtain ⟨wt, hwt⟩ : ∃ wt, wt = (wr.setCell ⟨wb.heap.size, k, none⟩ (.int .i64 (nuN l k : Nat))).alloc (.cells #[.int .i64 (kN l k).op, .int .i64 (kN l k).a, .int .i64 (kN l k).b, .int .i64 (kN l k).val] 37) := ⟨_, rfl⟩
            rw [← hwt] at HM0
            go_upto_if 92 with fail
            rw [← hwt]
            clear hwt hhN hsz HNb2 HOut2 HWr2 HNb3 HOut3 HWr3 d5 f5 c5 k0 k1 k2 k3 Hcell hRv hol
            have hNN : wr.heap.size < wr.heap.size + 1 := by omega
            generalize wr.heap.size = N at *
            by_cases h2 : 2 < (kN l k).op
            · obtain ⟨a, b', ea, eb, la, lb, -⟩ := Hnode.out h2
              have Htz0 := Lib.hid (renT_node h2 ea eb)
              have hd : decide (2 < (kN l k).op) = true := decide_eq_true h2
              rw [hd]
              have HMd := Lib.hid HM0.out.drew
              have Ht1 := Lib.hid HMd.out.at4.2.1
              have Ht2 := Lib.hid HMd.out.at4.2.2.1
              rw [ea] at Ht1
              rw [eb] at Ht2
              have hna := HPn.out a (by omega) (hyes.ca h2 ea)
              have hnb' := HPn.out b' (by omega) (hyes.cb h2 eb)
              obtain ⟨g7, eg7, _, _, _, _, hcell7⟩ := OwnI.at2 HMd.out.nb (by rw [List.length_set, hnl]; omega)
              injection eg7 with eg7; injection eg7 with eg7
              subst eg7
              have Hna : Hid (wt.drew.cell? ⟨wb.heap.size, a, none⟩ = some (.int .i64 (nuN l a : Nat))) := Lib.hid (by
                rw [hcell7 a (by rw [List.length_set, hnl]; omega), ← hna, List.getD_eq_getElem?_getD, List.getElem?_eq_getElem (by rw [List.length_set, hnl]; omega)]; rfl)
              have Hnb : Hid (wt.drew.cell? ⟨wb.heap.size, b', none⟩ = some (.int .i64 (nuN l b' : Nat))) := Lib.hid (by
                rw [hcell7 b' (by rw [List.length_set, hnl]; omega), ← hnb', List.getD_eq_getElem?_getD, List.getElem?_eq_getElem (by rw [List.length_set, hnl]; omega)]; rfl)
              have Hft := Lib.hid (fun j => HMd.out.fz j)
              have Ht2b : Hid ((wt.drew.setCell ⟨N, 1, none⟩ (.int .i64 (nuN l a : Nat))).cell? ⟨N, 2, none⟩ = some (.int .i64 (b' : Nat))) := Lib.hid ((World.cell?_setCell_other wt.drew _ _ _ (fun e => by injection e with _ e; cases e)).trans Ht2.out)
              have Hft2 : Hid (∀ j, (wt.drew.setCell ⟨N, 1, none⟩ (.int .i64 (nuN l a : Nat))).frozen? ⟨N, j, none⟩ = false) := Lib.hid (fun j => by rw [World.frozen?_setCell]; exact Hft.out j)
              have qa : ((a : Nat) : Int) < ((l.length : Nat) : Int) := by omega
              have qb : ((b' : Nat) : Int) < ((l.length : Nat) : Int) := by omega
              clear HM0 hna hnb' hcell7 h2 hd ea eb Hnode
              go_wp2
              -- the second region
              refine wp_region_held_drew (S := fun _ => True) (by kernel_rfl) trivial (fun hH0 => ?_)
              generalize wt.drew = w0 at *
              refine wpAnyH_take (i := 0) (oi := { dst := some 93, op := Go.Op.move (Go.Operand.tmp 11), type := 23, pos := "value.go:64", after := #[], guard := none }) rfl (by kernel_rfl) (by kernel_rfl) (by kernel_rfl) (fun _ _ _ h => h) (Or.inl ⟨by rfl, fun w hw => by (go_simp; try with_reducible rfl)⟩) (by assumption) ?_
              try simp only [Act.put, List.setIfInBounds_toArray, List.set_cons_zero, List.set_cons_succ]
              refine wpAnyH_take (i := 1) (oi := { dst := some 94, op := Go.Op.fieldAddr 37 (Go.Operand.tmp 14) 1, type := 0, pos := "value.go:64", after := #[], guard := none }) rfl (by kernel_rfl) (by kernel_rfl) (by kernel_rfl) (fun _ _ _ h => h) (Or.inl ⟨by rfl, fun w hw => by (go_simp; try with_reducible rfl)⟩) (by assumption) ?_
              try simp only [Act.put, List.setIfInBounds_toArray, List.set_cons_zero, List.set_cons_succ]
              refine wpAnyH_take (i := 5) (oi := { dst := some 98, op := Go.Op.move (Go.Operand.tmp 11), type := 23, pos := "value.go:64", after := #[], guard := none }) rfl (by kernel_rfl) (by kernel_rfl) (by kernel_rfl) (fun _ _ _ h => h) (Or.inl ⟨by rfl, fun w hw => by (go_simp; try with_reducible rfl)⟩) (by assumption) ?_
              try simp only [Act.put, List.setIfInBounds_toArray, List.set_cons_zero, List.set_cons_succ]
              refine wpAnyH_take (i := 6) (oi := { dst := some 99, op := Go.Op.fieldAddr 37 (Go.Operand.tmp 14) 2, type := 0, pos := "value.go:64", after := #[], guard := none }) rfl (by kernel_rfl) (by kernel_rfl) (by kernel_rfl) (fun _ _ _ h => h) (Or.inl ⟨by rfl, fun w hw => by (go_simp; try with_reducible rfl)⟩) (by assumption) ?_
              try simp only [Act.put, List.setIfInBounds_toArray, List.set_cons_zero, List.set_cons_succ]
              refine wpAnyH_ready (rs := [2, 7]) (by kernel_rfl) (by simp) ?_
              refine AllReadyH.cons (o := { dst := some 95, op := Go.Op.load 3 (Go.Operand.tmp 94), type := 3, pos := "value.go:64", after := #[{ on := 1, ground := Go.Ground.data }], guard := none }) rfl (fun K hK => ?_) ?_
              · have cc := Ht1.out
                go_simp
                clear cc
                refine hK.out _ _ trivial (fun hH => ?_)
                clear hK
                try simp only [Act.put, List.setIfInBounds_toArray, List.set_cons_zero, List.set_cons_succ]
                refine wpAnyH_take (i := 3) (oi := { dst := some 96, op := Go.Op.indexAddr 23 (Go.Operand.tmp 93) (Go.Operand.tmp 95), type := 0, pos := "value.go:64", after := #[{ on := 0, ground := Go.Ground.data }, { on := 2, ground := Go.Ground.data }], guard := none }) rfl (by kernel_rfl) (by kernel_rfl) (by kernel_rfl) (fun _ _ _ h => h) (Or.inl ⟨by rfl, fun w hw => by (go_simp; try with_reducible rfl)⟩) (by assumption) ?_
                try simp only [Act.put, List.setIfInBounds_toArray, List.set_cons_zero, List.set_cons_succ]
                refine wpAnyH_ready (rs := [4, 7]) (by kernel_rfl) (by simp) ?_
                refine AllReadyH.cons (o := { dst := some 97, op := Go.Op.load 3 (Go.Operand.tmp 96), type := 3, pos := "value.go:64", after := #[{ on := 3, ground := Go.Ground.data }], guard := none }) rfl (fun K hK => ?_) ?_
                · have cc := Hna.out
                  go_simp
                  clear cc
                  refine hK.out _ _ trivial (fun hH => ?_)
                  clear hK
                  try simp only [Act.put, List.setIfInBounds_toArray, List.set_cons_zero, List.set_cons_succ]
                  refine wpAnyH_ready (rs := [7]) (by kernel_rfl) (by simp) ?_
                  refine AllReadyH.cons (o := { dst := some 100, op := Go.Op.load 3 (Go.Operand.tmp 99), type := 3, pos := "value.go:64", after := #[{ on := 6, ground := Go.Ground.data }], guard := none }) rfl (fun K hK => ?_) AllReadyH.nil
                  have cc := Ht2.out
                  go_simp
                  clear cc
                  refine hK.out _ _ trivial (fun hH => ?_)
                  clear hK
                  try simp only [Act.put, List.setIfInBounds_toArray, List.set_cons_zero, List.set_cons_succ]
                  refine wpAnyH_take (i := 8) (oi := { dst := some 101, op := Go.Op.indexAddr 23 (Go.Operand.tmp 98) (Go.Operand.tmp 100), type := 0, pos := "value.go:64", after := #[{ on := 5, ground := Go.Ground.data }, { on := 7, ground := Go.Ground.data }], guard := none }) rfl (by kernel_rfl) (by kernel_rfl) (by kernel_rfl) (fun _ _ _ h => h) (Or.inl ⟨by rfl, fun w hw => by (go_simp; try with_reducible rfl)⟩) (by assumption) ?_
                  try simp only [Act.put, List.setIfInBounds_toArray, List.set_cons_zero, List.set_cons_succ]
                  refine wpAnyH_take (i := 10) (oi := { dst := some 103, op := Go.Op.fieldAddr 37 (Go.Operand.tmp 14) 1, type := 0, pos := "value.go:64", after := #[{ on := 0, ground := Go.Ground.phase }, { on := 1, ground := Go.Ground.phase }, { on := 2, ground := Go.Ground.phase }, { on := 3, ground := Go.Ground.phase }, { on := 4, ground := Go.Ground.phase }, { on := 5, ground := Go.Ground.textOnly Go.Departure.lateStores }, { on := 6, ground := Go.Ground.phase }, { on := 7, ground := Go.Ground.phase }, { on := 8, ground := Go.Ground.textOnly Go.Departure.lateStoresUnsure }, { on := 9, ground := Go.Ground.textOnly Go.Departure.lateStoresUnsure }], guard := none }) rfl (by kernel_rfl) (by kernel_rfl) (by kernel_rfl) (fun _ _ _ h => h) (Or.inl ⟨by rfl, fun w hw => by (go_simp; try with_reducible rfl)⟩) (by assumption) ?_
                  try simp only [Act.put, List.setIfInBounds_toArray, List.set_cons_zero, List.set_cons_succ]
                  refine wpAnyH_ready (rs := [9, 11]) (by kernel_rfl) (by simp) ?_
                  refine AllReadyH.cons (o := { dst := some 102, op := Go.Op.load 3 (Go.Operand.tmp 101), type := 3, pos := "value.go:64", after := #[{ on := 8, ground := Go.Ground.data }], guard := none }) rfl (fun K hK => ?_) ?_
                  · have cc := Hnb.out
                    go_simp
                    clear cc
                    refine hK.out _ _ trivial (fun hH => ?_)
                    clear hK
                    try simp only [Act.put, List.setIfInBounds_toArray, List.set_cons_zero, List.set_cons_succ]
                    refine wpAnyH_ready (rs := [11]) (by kernel_rfl) (by simp) ?_
                    refine AllReadyH.cons (o := { dst := none, op := Go.Op.store 3 (Go.Operand.tmp 103) (Go.Operand.tmp 97), type := 0, pos := "value.go:64", after := #[{ on := 10, ground := Go.Ground.data }, { on := 4, ground := Go.Ground.data }, { on := 0, ground := Go.Ground.phase }, { on := 1, ground := Go.Ground.phase }, { on := 2, ground := Go.Ground.phase }, { on := 3, ground := Go.Ground.phase }, { on := 4, ground := Go.Ground.phase }, { on := 5, ground := Go.Ground.textOnly Go.Departure.lateStores }, { on := 6, ground := Go.Ground.phase }, { on := 7, ground := Go.Ground.phase }, { on := 8, ground := Go.Ground.textOnly Go.Departure.lateStoresUnsure }, { on := 9, ground := Go.Ground.textOnly Go.Departure.lateStoresUnsure }], guard := none }) rfl (fun K hK => ?_) AllReadyH.nil
                    have cc := Ht1.out
                    have ff := Hft.out 1
                    go_simp
                    clear cc ff
                    refine hK.out _ _ trivial (fun hH => ?_)
                    clear hK
                    try simp only [Act.put, List.setIfInBounds_toArray, List.set_cons_zero, List.set_cons_succ]
                    refine wpAnyH_take (i := 12) (oi := { dst := some 104, op := Go.Op.fieldAddr 37 (Go.Operand.tmp 14) 2, type := 0, pos := "value.go:64", after := #[{ on := 0, ground := Go.Ground.phase }, { on := 1, ground := Go.Ground.phase }, { on := 2, ground := Go.Ground.phase }, { on := 3, ground := Go.Ground.phase }, { on := 4, ground := Go.Ground.phase }, { on := 5, ground := Go.Ground.phase }, { on := 6, ground := Go.Ground.phase }, { on := 7, ground := Go.Ground.phase }, { on := 8, ground := Go.Ground.phase }, { on := 9, ground := Go.Ground.phase }, { on := 10, ground := Go.Ground.phase }, { on := 11, ground := Go.Ground.phase }], guard := none }) rfl (by kernel_rfl) (by kernel_rfl) (by kernel_rfl) (fun _ _ _ h => h) (Or.inl ⟨by rfl, fun w hw => by (go_simp; try with_reducible rfl)⟩) (by assumption) ?_
                    try simp only [Act.put, List.setIfInBounds_toArray, List.set_cons_zero, List.set_cons_succ]
                    refine wpAnyH_ready (rs := [13]) (by kernel_rfl) (by simp) ?_
                    refine AllReadyH.cons (o := { dst := none, op := Go.Op.store 3 (Go.Operand.tmp 104) (Go.Operand.tmp 102), type := 0, pos := "value.go:64", after := #[{ on := 12, ground := Go.Ground.data }, { on := 9, ground := Go.Ground.data }, { on := 11, ground := Go.Ground.chain }, { on := 0, ground := Go.Ground.phase }, { on := 1, ground := Go.Ground.phase }, { on := 2, ground := Go.Ground.phase }, { on := 3, ground := Go.Ground.phase }, { on := 4, ground := Go.Ground.phase }, { on := 5, ground := Go.Ground.phase }, { on := 6, ground := Go.Ground.phase }, { on := 7, ground := Go.Ground.phase }, { on := 8, ground := Go.Ground.phase }, { on := 9, ground := Go.Ground.phase }, { on := 10, ground := Go.Ground.phase }, { on := 11, ground := Go.Ground.phase }], guard := none }) rfl (fun K hK => ?_) AllReadyH.nil
                    have cc := Ht2b.out
                    have ff := Hft2.out 2
                    go_simp
                    clear cc ff
                    refine hK.out _ _ trivial (fun hH => ?_)
                    clear hK
                    try simp only [Act.put, List.setIfInBounds_toArray, List.set_cons_zero, List.set_cons_succ]
                    refine wpAnyH_done (by kernel_rfl) ?_ _
                    have HZ := Lib.hid (HMd.out.set12 (nuN l a : Nat) (nuN l b' : Nat))
                    have Htz := Lib.hid Htz0.out
                    generalize (w0.setCell ⟨N, 1, none⟩ (.int .i64 (nuN l a : Nat))).setCell ⟨N, 2, none⟩ (.int .i64 (nuN l b' : Nat)) = wz at *
                    generalize (Term.mk (kN l k).op (nuN l a : Nat) (nuN l b' : Nat) (kN l k).val) = tz at *
                    clear Ht1 Ht2 Hna Hnb Hft Ht2b Hft2 HMd Htz0 qa qb
                    obtain ⟨m0, m1, m2, m3⟩ := HZ.out.at4
                    obtain ⟨v9, w9, hrun, hown9, hgrow9, hat9⟩ := run_app1 (P := Try.prog) (w := wz.alloc (.cells #[.int .i64 tz.op, .int .i64 tz.a, .int .i64 tz.b, .int .i64 tz.val] 37)) 22 22 Term.cells 4 32 37 (Term.mk 0 0 0 0).agg Try.underlying22 infoTerm rfl (by decide) termCells_len termCells_one (wb.heap.size + 1) _ ((ndL l k).map (renT l)) tz (HZ.out.out.alloc _) wz.heap.size 1 (fun j hj => by rw [cell_new wz #[Value.int .i64 tz.op, .int .i64 tz.a, .int .i64 tz.b, .int .i64 tz.val] 37 wz.heap.size rfl]; exact List.getElem?_toArray) (by rw [Hol.out]; unfold maxLen; omega) (by rw [Hol.out]; omega) (by have := HZ.out.lt; have := HZ.out.gt; simp; omega)
                    have HO9 : Hid (OwnT w9 (wb.heap.size + 1) v9 ((ndL l (k + 1)).map (renT l))) := Lib.hid (by rw [HOe.out, Htz.out]; exact hown9)
                    have HN9 := Lib.hid ((HZ.out.nb.alloc (.cells #[.int .i64 tz.op, .int .i64 tz.a, .int .i64 tz.b, .int .i64 tz.val] 37)).kept hgrow9 (Or.inr (fun e => by have h := (own_lt HZ.out.out _ e.symm).1; have h : wb.heap.size + 1 ≤ wb.heap.size := h; omega)))
                    have HW9 := Lib.hid ((HZ.out.bel.alloc (by have := HZ.out.lt; have := HZ.out.gt; omega) (.cells #[.int .i64 tz.op, .int .i64 tz.a, .int .i64 tz.b, .int .i64 tz.val] 37)).grown hgrow9 (by have := HZ.out.lt; have := HZ.out.gt; simp; omega) (fun j hj => by have := (own_lt HZ.out.out j hj).1; omega))
                    have Hrun := Lib.hid hrun
                    clear hrun hown9 hgrow9 hat9
                    go_wp2_with (at_builtin; refine wpList_app_run rfl 22 _ _ rfl rfl rfl Hrun.out ?_)
                    go_roundw
                    case rel => exact ⟨k + 1, _, by omega, by go_num, by rw [List.length_set]; exact Hnl.out, HN9.out, HPn, HO9.out, HW9.out⟩
                    case measure => first | (simp [intOf]; done) | (simp [intOf]; omega)
                  refine AllReadyH.cons (o := { dst := none, op := Go.Op.store 3 (Go.Operand.tmp 103) (Go.Operand.tmp 97), type := 0, pos := "value.go:64", after := #[{ on := 10, ground := Go.Ground.data }, { on := 4, ground := Go.Ground.data }, { on := 0, ground := Go.Ground.phase }, { on := 1, ground := Go.Ground.phase }, { on := 2, ground := Go.Ground.phase }, { on := 3, ground := Go.Ground.phase }, { on := 4, ground := Go.Ground.phase }, { on := 5, ground := Go.Ground.textOnly Go.Departure.lateStores }, { on := 6, ground := Go.Ground.phase }, { on := 7, ground := Go.Ground.phase }, { on := 8, ground := Go.Ground.textOnly Go.Departure.lateStoresUnsure }, { on := 9, ground := Go.Ground.textOnly Go.Departure.lateStoresUnsure }], guard := none }) rfl (fun K hK => ?_) AllReadyH.nil
                  have cc := Ht1.out
                  have ff := Hft.out 1
                  go_simp
                  clear cc ff
                  refine hK.out _ _ trivial (fun hH => ?_)
                  clear hK
                  try simp only [Act.put, List.setIfInBounds_toArray, List.set_cons_zero, List.set_cons_succ]
                  refine wpAnyH_ready (rs := [9]) (by kernel_rfl) (by simp) ?_
                  refine AllReadyH.cons (o := { dst := some 102, op := Go.Op.load 3 (Go.Operand.tmp 101), type := 3, pos := "value.go:64", after := #[{ on := 8, ground := Go.Ground.data }], guard := none }) rfl (fun K hK => ?_) AllReadyH.nil
                  have cc := Hnb.out
                  go_simp
                  clear cc
                  refine hK.out _ _ trivial (fun hH => ?_)
                  clear hK
                  try simp only [Act.put, List.setIfInBounds_toArray, List.set_cons_zero, List.set_cons_succ]
                  refine wpAnyH_take (i := 12) (oi := { dst := some 104, op := Go.Op.fieldAddr 37 (Go.Operand.tmp 14) 2, type := 0, pos := "value.go:64", after := #[{ on := 0, ground := Go.Ground.phase }, { on := 1, ground := Go.Ground.phase }, { on := 2, ground := Go.Ground.phase }, { on := 3, ground := Go.Ground.phase }, { on := 4, ground := Go.Ground.phase }, { on := 5, ground := Go.Ground.phase }, { on := 6, ground := Go.Ground.phase }, { on := 7, ground := Go.Ground.phase }, { on := 8, ground := Go.Ground.phase }, { on := 9, ground := Go.Ground.phase }, { on := 10, ground := Go.Ground.phase }, { on := 11, ground := Go.Ground.phase }], guard := none }) rfl (by kernel_rfl) (by kernel_rfl) (by kernel_rfl) (fun _ _ _ h => h) (Or.inl ⟨by rfl, fun w hw => by (go_simp; try with_reducible rfl)⟩) (by assumption) ?_
                  try simp only [Act.put, List.setIfInBounds_toArray, List.set_cons_zero, List.set_cons_succ]
                  refine wpAnyH_ready (rs := [13]) (by kernel_rfl) (by simp) ?_
                  refine AllReadyH.cons (o := { dst := none, op := Go.Op.store 3 (Go.Operand.tmp 104) (Go.Operand.tmp 102), type := 0, pos := "value.go:64", after := #[{ on := 12, ground := Go.Ground.data }, { on := 9, ground := Go.Ground.data }, { on := 11, ground := Go.Ground.chain }, { on := 0, ground := Go.Ground.phase }, { on := 1, ground := Go.Ground.phase }, { on := 2, ground := Go.Ground.phase }, { on := 3, ground := Go.Ground.phase }, { on := 4, ground := Go.Ground.phase }, { on := 5, ground := Go.Ground.phase }, { on := 6, ground := Go.Ground.phase }, { on := 7, ground := Go.Ground.phase }, { on := 8, ground := Go.Ground.phase }, { on := 9, ground := Go.Ground.phase }, { on := 10, ground := Go.Ground.phase }, { on := 11, ground := Go.Ground.phase }], guard := none }) rfl (fun K hK => ?_) AllReadyH.nil
                  have cc := Ht2b.out
                  have ff := Hft2.out 2
                  go_simp
                  clear cc ff
                  refine hK.out _ _ trivial (fun hH => ?_)
                  clear hK
                  try simp only [Act.put, List.setIfInBounds_toArray, List.set_cons_zero, List.set_cons_succ]
                  refine wpAnyH_done (by kernel_rfl) ?_ _
                  have HZ := Lib.hid (HMd.out.set12 (nuN l a : Nat) (nuN l b' : Nat))
                  have Htz := Lib.hid Htz0.out
                  generalize (w0.setCell ⟨N, 1, none⟩ (.int .i64 (nuN l a : Nat))).setCell ⟨N, 2, none⟩ (.int .i64 (nuN l b' : Nat)) = wz at *
                  generalize (Term.mk (kN l k).op (nuN l a : Nat) (nuN l b' : Nat) (kN l k).val) = tz at *
                  clear Ht1 Ht2 Hna Hnb Hft Ht2b Hft2 HMd Htz0 qa qb
                  obtain ⟨m0, m1, m2, m3⟩ := HZ.out.at4
                  obtain ⟨v9, w9, hrun, hown9, hgrow9, hat9⟩ := run_app1 (P := Try.prog) (w := wz.alloc (.cells #[.int .i64 tz.op, .int .i64 tz.a, .int .i64 tz.b, .int .i64 tz.val] 37)) 22 22 Term.cells 4 32 37 (Term.mk 0 0 0 0).agg Try.underlying22 infoTerm rfl (by decide) termCells_len termCells_one (wb.heap.size + 1) _ ((ndL l k).map (renT l)) tz (HZ.out.out.alloc _) wz.heap.size 1 (fun j hj => by rw [cell_new wz #[Value.int .i64 tz.op, .int .i64 tz.a, .int .i64 tz.b, .int .i64 tz.val] 37 wz.heap.size rfl]; exact List.getElem?_toArray) (by rw [Hol.out]; unfold maxLen; omega) (by rw [Hol.out]; omega) (by have := HZ.out.lt; have := HZ.out.gt; simp; omega)
                  have HO9 : Hid (OwnT w9 (wb.heap.size + 1) v9 ((ndL l (k + 1)).map (renT l))) := Lib.hid (by rw [HOe.out, Htz.out]; exact hown9)
                  have HN9 := Lib.hid ((HZ.out.nb.alloc (.cells #[.int .i64 tz.op, .int .i64 tz.a, .int .i64 tz.b, .int .i64 tz.val] 37)).kept hgrow9 (Or.inr (fun e => by have h := (own_lt HZ.out.out _ e.symm).1; have h : wb.heap.size + 1 ≤ wb.heap.size := h; omega)))
                  have HW9 := Lib.hid ((HZ.out.bel.alloc (by have := HZ.out.lt; have := HZ.out.gt; omega) (.cells #[.int .i64 tz.op, .int .i64 tz.a, .int .i64 tz.b, .int .i64 tz.val] 37)).grown hgrow9 (by have := HZ.out.lt; have := HZ.out.gt; simp; omega) (fun j hj => by have := (own_lt HZ.out.out j hj).1; omega))
                  have Hrun := Lib.hid hrun
                  clear hrun hown9 hgrow9 hat9
                  go_wp2_with (at_builtin; refine wpList_app_run rfl 22 _ _ rfl rfl rfl Hrun.out ?_)
                  go_roundw
                  case rel => exact ⟨k + 1, _, by omega, by go_num, by rw [List.length_set]; exact Hnl.out, HN9.out, HPn, HO9.out, HW9.out⟩
                  case measure => first | (simp [intOf]; done) | (simp [intOf]; omega)
                refine AllReadyH.cons (o := { dst := some 100, op := Go.Op.load 3 (Go.Operand.tmp 99), type := 3, pos := "value.go:64", after := #[{ on := 6, ground := Go.Ground.data }], guard := none }) rfl (fun K hK => ?_) AllReadyH.nil
                have cc := Ht2.out
                go_simp
                clear cc
                refine hK.out _ _ trivial (fun hH => ?_)
                clear hK
                try simp only [Act.put, List.setIfInBounds_toArray, List.set_cons_zero, List.set_cons_succ]
                refine wpAnyH_take (i := 8) (oi := { dst := some 101, op := Go.Op.indexAddr 23 (Go.Operand.tmp 98) (Go.Operand.tmp 100), type := 0, pos := "value.go:64", after := #[{ on := 5, ground := Go.Ground.data }, { on := 7, ground := Go.Ground.data }], guard := none }) rfl (by kernel_rfl) (by kernel_rfl) (by kernel_rfl) (fun _ _ _ h => h) (Or.inl ⟨by rfl, fun w hw => by (go_simp; try with_reducible rfl)⟩) (by assumption) ?_
                try simp only [Act.put, List.setIfInBounds_toArray, List.set_cons_zero, List.set_cons_succ]
                refine wpAnyH_ready (rs := [4, 9]) (by kernel_rfl) (by simp) ?_
                refine AllReadyH.cons (o := { dst := some 97, op := Go.Op.load 3 (Go.Operand.tmp 96), type := 3, pos := "value.go:64", after := #[{ on := 3, ground := Go.Ground.data }], guard := none }) rfl (fun K hK => ?_) ?_
                · have cc := Hna.out
                  go_simp
                  clear cc
                  refine hK.out _ _ trivial (fun hH => ?_)
                  clear hK
                  try simp only [Act.put, List.setIfInBounds_toArray, List.set_cons_zero, List.set_cons_succ]
                  refine wpAnyH_take (i := 10) (oi := { dst := some 103, op := Go.Op.fieldAddr 37 (Go.Operand.tmp 14) 1, type := 0, pos := "value.go:64", after := #[{ on := 0, ground := Go.Ground.phase }, { on := 1, ground := Go.Ground.phase }, { on := 2, ground := Go.Ground.phase }, { on := 3, ground := Go.Ground.phase }, { on := 4, ground := Go.Ground.phase }, { on := 5, ground := Go.Ground.textOnly Go.Departure.lateStores }, { on := 6, ground := Go.Ground.phase }, { on := 7, ground := Go.Ground.phase }, { on := 8, ground := Go.Ground.textOnly Go.Departure.lateStoresUnsure }, { on := 9, ground := Go.Ground.textOnly Go.Departure.lateStoresUnsure }], guard := none }) rfl (by kernel_rfl) (by kernel_rfl) (by kernel_rfl) (fun _ _ _ h => h) (Or.inl ⟨by rfl, fun w hw => by (go_simp; try with_reducible rfl)⟩) (by assumption) ?_
                  try simp only [Act.put, List.setIfInBounds_toArray, List.set_cons_zero, List.set_cons_succ]
                  refine wpAnyH_ready (rs := [9, 11]) (by kernel_rfl) (by simp) ?_
                  refine AllReadyH.cons (o := { dst := some 102, op := Go.Op.load 3 (Go.Operand.tmp 101), type := 3, pos := "value.go:64", after := #[{ on := 8, ground := Go.Ground.data }], guard := none }) rfl (fun K hK => ?_) ?_
                  · have cc := Hnb.out
                    go_simp
                    clear cc
                    refine hK.out _ _ trivial (fun hH => ?_)
                    clear hK
                    try simp only [Act.put, List.setIfInBounds_toArray, List.set_cons_zero, List.set_cons_succ]
                    refine wpAnyH_ready (rs := [11]) (by kernel_rfl) (by simp) ?_
                    refine AllReadyH.cons (o := { dst := none, op := Go.Op.store 3 (Go.Operand.tmp 103) (Go.Operand.tmp 97), type := 0, pos := "value.go:64", after := #[{ on := 10, ground := Go.Ground.data }, { on := 4, ground := Go.Ground.data }, { on := 0, ground := Go.Ground.phase }, { on := 1, ground := Go.Ground.phase }, { on := 2, ground := Go.Ground.phase }, { on := 3, ground := Go.Ground.phase }, { on := 4, ground := Go.Ground.phase }, { on := 5, ground := Go.Ground.textOnly Go.Departure.lateStores }, { on := 6, ground := Go.Ground.phase }, { on := 7, ground := Go.Ground.phase }, { on := 8, ground := Go.Ground.textOnly Go.Departure.lateStoresUnsure }, { on := 9, ground := Go.Ground.textOnly Go.Departure.lateStoresUnsure }], guard := none }) rfl (fun K hK => ?_) AllReadyH.nil
                    have cc := Ht1.out
                    have ff := Hft.out 1
                    go_simp
                    clear cc ff
                    refine hK.out _ _ trivial (fun hH => ?_)
                    clear hK
                    try simp only [Act.put, List.setIfInBounds_toArray, List.set_cons_zero, List.set_cons_succ]
                    refine wpAnyH_take (i := 12) (oi := { dst := some 104, op := Go.Op.fieldAddr 37 (Go.Operand.tmp 14) 2, type := 0, pos := "value.go:64", after := #[{ on := 0, ground := Go.Ground.phase }, { on := 1, ground := Go.Ground.phase }, { on := 2, ground := Go.Ground.phase }, { on := 3, ground := Go.Ground.phase }, { on := 4, ground := Go.Ground.phase }, { on := 5, ground := Go.Ground.phase }, { on := 6, ground := Go.Ground.phase }, { on := 7, ground := Go.Ground.phase }, { on := 8, ground := Go.Ground.phase }, { on := 9, ground := Go.Ground.phase }, { on := 10, ground := Go.Ground.phase }, { on := 11, ground := Go.Ground.phase }], guard := none }) rfl (by kernel_rfl) (by kernel_rfl) (by kernel_rfl) (fun _ _ _ h => h) (Or.inl ⟨by rfl, fun w hw => by (go_simp; try with_reducible rfl)⟩) (by assumption) ?_
                    try simp only [Act.put, List.setIfInBounds_toArray, List.set_cons_zero, List.set_cons_succ]
                    refine wpAnyH_ready (rs := [13]) (by kernel_rfl) (by simp) ?_
                    refine AllReadyH.cons (o := { dst := none, op := Go.Op.store 3 (Go.Operand.tmp 104) (Go.Operand.tmp 102), type := 0, pos := "value.go:64", after := #[{ on := 12, ground := Go.Ground.data }, { on := 9, ground := Go.Ground.data }, { on := 11, ground := Go.Ground.chain }, { on := 0, ground := Go.Ground.phase }, { on := 1, ground := Go.Ground.phase }, { on := 2, ground := Go.Ground.phase }, { on := 3, ground := Go.Ground.phase }, { on := 4, ground := Go.Ground.phase }, { on := 5, ground := Go.Ground.phase }, { on := 6, ground := Go.Ground.phase }, { on := 7, ground := Go.Ground.phase }, { on := 8, ground := Go.Ground.phase }, { on := 9, ground := Go.Ground.phase }, { on := 10, ground := Go.Ground.phase }, { on := 11, ground := Go.Ground.phase }], guard := none }) rfl (fun K hK => ?_) AllReadyH.nil
                    have cc := Ht2b.out
                    have ff := Hft2.out 2
                    go_simp
                    clear cc ff
                    refine hK.out _ _ trivial (fun hH => ?_)
                    clear hK
                    try simp only [Act.put, List.setIfInBounds_toArray, List.set_cons_zero, List.set_cons_succ]
                    refine wpAnyH_done (by kernel_rfl) ?_ _
                    have HZ := Lib.hid (HMd.out.set12 (nuN l a : Nat) (nuN l b' : Nat))
                    have Htz := Lib.hid Htz0.out
                    generalize (w0.setCell ⟨N, 1, none⟩ (.int .i64 (nuN l a : Nat))).setCell ⟨N, 2, none⟩ (.int .i64 (nuN l b' : Nat)) = wz at *
                    generalize (Term.mk (kN l k).op (nuN l a : Nat) (nuN l b' : Nat) (kN l k).val) = tz at *
                    clear Ht1 Ht2 Hna Hnb Hft Ht2b Hft2 HMd Htz0 qa qb
                    obtain ⟨m0, m1, m2, m3⟩ := HZ.out.at4
                    obtain ⟨v9, w9, hrun, hown9, hgrow9, hat9⟩ := run_app1 (P := Try.prog) (w := wz.alloc (.cells #[.int .i64 tz.op, .int .i64 tz.a, .int .i64 tz.b, .int .i64 tz.val] 37)) 22 22 Term.cells 4 32 37 (Term.mk 0 0 0 0).agg Try.underlying22 infoTerm rfl (by decide) termCells_len termCells_one (wb.heap.size + 1) _ ((ndL l k).map (renT l)) tz (HZ.out.out.alloc _) wz.heap.size 1 (fun j hj => by rw [cell_new wz #[Value.int .i64 tz.op, .int .i64 tz.a, .int .i64 tz.b, .int .i64 tz.val] 37 wz.heap.size rfl]; exact List.getElem?_toArray) (by rw [Hol.out]; unfold maxLen; omega) (by rw [Hol.out]; omega) (by have := HZ.out.lt; have := HZ.out.gt; simp; omega)
                    have HO9 : Hid (OwnT w9 (wb.heap.size + 1) v9 ((ndL l (k + 1)).map (renT l))) := Lib.hid (by rw [HOe.out, Htz.out]; exact hown9)
                    have HN9 := Lib.hid ((HZ.out.nb.alloc (.cells #[.int .i64 tz.op, .int .i64 tz.a, .int .i64 tz.b, .int .i64 tz.val] 37)).kept hgrow9 (Or.inr (fun e => by have h := (own_lt HZ.out.out _ e.symm).1; have h : wb.heap.size + 1 ≤ wb.heap.size := h; omega)))
                    have HW9 := Lib.hid ((HZ.out.bel.alloc (by have := HZ.out.lt; have := HZ.out.gt; omega) (.cells #[.int .i64 tz.op, .int .i64 tz.a, .int .i64 tz.b, .int .i64 tz.val] 37)).grown hgrow9 (by have := HZ.out.lt; have := HZ.out.gt; simp; omega) (fun j hj => by have := (own_lt HZ.out.out j hj).1; omega))
                    have Hrun := Lib.hid hrun
                    clear hrun hown9 hgrow9 hat9
                    go_wp2_with (at_builtin; refine wpList_app_run rfl 22 _ _ rfl rfl rfl Hrun.out ?_)
                    go_roundw
                    case rel => exact ⟨k + 1, _, by omega, by go_num, by rw [List.length_set]; exact Hnl.out, HN9.out, HPn, HO9.out, HW9.out⟩
                    case measure => first | (simp [intOf]; done) | (simp [intOf]; omega)
                  refine AllReadyH.cons (o := { dst := none, op := Go.Op.store 3 (Go.Operand.tmp 103) (Go.Operand.tmp 97), type := 0, pos := "value.go:64", after := #[{ on := 10, ground := Go.Ground.data }, { on := 4, ground := Go.Ground.data }, { on := 0, ground := Go.Ground.phase }, { on := 1, ground := Go.Ground.phase }, { on := 2, ground := Go.Ground.phase }, { on := 3, ground := Go.Ground.phase }, { on := 4, ground := Go.Ground.phase }, { on := 5, ground := Go.Ground.textOnly Go.Departure.lateStores }, { on := 6, ground := Go.Ground.phase }, { on := 7, ground := Go.Ground.phase }, { on := 8, ground := Go.Ground.textOnly Go.Departure.lateStoresUnsure }, { on := 9, ground := Go.Ground.textOnly Go.Departure.lateStoresUnsure }], guard := none }) rfl (fun K hK => ?_) AllReadyH.nil
                  have cc := Ht1.out
                  have ff := Hft.out 1
                  go_simp
                  clear cc ff
                  refine hK.out _ _ trivial (fun hH => ?_)
                  clear hK
                  try simp only [Act.put, List.setIfInBounds_toArray, List.set_cons_zero, List.set_cons_succ]
                  refine wpAnyH_ready (rs := [9]) (by kernel_rfl) (by simp) ?_
                  refine AllReadyH.cons (o := { dst := some 102, op := Go.Op.load 3 (Go.Operand.tmp 101), type := 3, pos := "value.go:64", after := #[{ on := 8, ground := Go.Ground.data }], guard := none }) rfl (fun K hK => ?_) AllReadyH.nil
                  have cc := Hnb.out
                  go_simp
                  clear cc
                  refine hK.out _ _ trivial (fun hH => ?_)
                  clear hK
                  try simp only [Act.put, List.setIfInBounds_toArray, List.set_cons_zero, List.set_cons_succ]
                  refine wpAnyH_take (i := 12) (oi := { dst := some 104, op := Go.Op.fieldAddr 37 (Go.Operand.tmp 14) 2, type := 0, pos := "value.go:64", after := #[{ on := 0, ground := Go.Ground.phase }, { on := 1, ground := Go.Ground.phase }, { on := 2, ground := Go.Ground.phase }, { on := 3, ground := Go.Ground.phase }, { on := 4, ground := Go.Ground.phase }, { on := 5, ground := Go.Ground.phase }, { on := 6, ground := Go.Ground.phase }, { on := 7, ground := Go.Ground.phase }, { on := 8, ground := Go.Ground.phase }, { on := 9, ground := Go.Ground.phase }, { on := 10, ground := Go.Ground.phase }, { on := 11, ground := Go.Ground.phase }], guard := none }) rfl (by kernel_rfl) (by kernel_rfl) (by kernel_rfl) (fun _ _ _ h => h) (Or.inl ⟨by rfl, fun w hw => by (go_simp; try with_reducible rfl)⟩) (by assumption) ?_
                  try simp only [Act.put, List.setIfInBounds_toArray, List.set_cons_zero, List.set_cons_succ]
                  refine wpAnyH_ready (rs := [13]) (by kernel_rfl) (by simp) ?_
                  refine AllReadyH.cons (o := { dst := none, op := Go.Op.store 3 (Go.Operand.tmp 104) (Go.Operand.tmp 102), type := 0, pos := "value.go:64", after := #[{ on := 12, ground := Go.Ground.data }, { on := 9, ground := Go.Ground.data }, { on := 11, ground := Go.Ground.chain }, { on := 0, ground := Go.Ground.phase }, { on := 1, ground := Go.Ground.phase }, { on := 2, ground := Go.Ground.phase }, { on := 3, ground := Go.Ground.phase }, { on := 4, ground := Go.Ground.phase }, { on := 5, ground := Go.Ground.phase }, { on := 6, ground := Go.Ground.phase }, { on := 7, ground := Go.Ground.phase }, { on := 8, ground := Go.Ground.phase }, { on := 9, ground := Go.Ground.phase }, { on := 10, ground := Go.Ground.phase }, { on := 11, ground := Go.Ground.phase }], guard := none }) rfl (fun K hK => ?_) AllReadyH.nil
                  have cc := Ht2b.out
                  have ff := Hft2.out 2
                  go_simp
                  clear cc ff
                  refine hK.out _ _ trivial (fun hH => ?_)
                  clear hK
                  try simp only [Act.put, List.setIfInBounds_toArray, List.set_cons_zero, List.set_cons_succ]
                  refine wpAnyH_done (by kernel_rfl) ?_ _
                  have HZ := Lib.hid (HMd.out.set12 (nuN l a : Nat) (nuN l b' : Nat))
                  have Htz := Lib.hid Htz0.out
                  generalize (w0.setCell ⟨N, 1, none⟩ (.int .i64 (nuN l a : Nat))).setCell ⟨N, 2, none⟩ (.int .i64 (nuN l b' : Nat)) = wz at *
                  generalize (Term.mk (kN l k).op (nuN l a : Nat) (nuN l b' : Nat) (kN l k).val) = tz at *
                  clear Ht1 Ht2 Hna Hnb Hft Ht2b Hft2 HMd Htz0 qa qb
                  obtain ⟨m0, m1, m2, m3⟩ := HZ.out.at4
                  obtain ⟨v9, w9, hrun, hown9, hgrow9, hat9⟩ := run_app1 (P := Try.prog) (w := wz.alloc (.cells #[.int .i64 tz.op, .int .i64 tz.a, .int .i64 tz.b, .int .i64 tz.val] 37)) 22 22 Term.cells 4 32 37 (Term.mk 0 0 0 0).agg Try.underlying22 infoTerm rfl (by decide) termCells_len termCells_one (wb.heap.size + 1) _ ((ndL l k).map (renT l)) tz (HZ.out.out.alloc _) wz.heap.size 1 (fun j hj => by rw [cell_new wz #[Value.int .i64 tz.op, .int .i64 tz.a, .int .i64 tz.b, .int .i64 tz.val] 37 wz.heap.size rfl]; exact List.getElem?_toArray) (by rw [Hol.out]; unfold maxLen; omega) (by rw [Hol.out]; omega) (by have := HZ.out.lt; have := HZ.out.gt; simp; omega)
                  have HO9 : Hid (OwnT w9 (wb.heap.size + 1) v9 ((ndL l (k + 1)).map (renT l))) := Lib.hid (by rw [HOe.out, Htz.out]; exact hown9)
                  have HN9 := Lib.hid ((HZ.out.nb.alloc (.cells #[.int .i64 tz.op, .int .i64 tz.a, .int .i64 tz.b, .int .i64 tz.val] 37)).kept hgrow9 (Or.inr (fun e => by have h := (own_lt HZ.out.out _ e.symm).1; have h : wb.heap.size + 1 ≤ wb.heap.size := h; omega)))
                  have HW9 := Lib.hid ((HZ.out.bel.alloc (by have := HZ.out.lt; have := HZ.out.gt; omega) (.cells #[.int .i64 tz.op, .int .i64 tz.a, .int .i64 tz.b, .int .i64 tz.val] 37)).grown hgrow9 (by have := HZ.out.lt; have := HZ.out.gt; simp; omega) (fun j hj => by have := (own_lt HZ.out.out j hj).1; omega))
                  have Hrun := Lib.hid hrun
                  clear hrun hown9 hgrow9 hat9
                  go_wp2_with (at_builtin; refine wpList_app_run rfl 22 _ _ rfl rfl rfl Hrun.out ?_)
                  go_roundw
                  case rel => exact ⟨k + 1, _, by omega, by go_num, by rw [List.length_set]; exact Hnl.out, HN9.out, HPn, HO9.out, HW9.out⟩
                  case measure => first | (simp [intOf]; done) | (simp [intOf]; omega)
                refine AllReadyH.cons (o := { dst := some 102, op := Go.Op.load 3 (Go.Operand.tmp 101), type := 3, pos := "value.go:64", after := #[{ on := 8, ground := Go.Ground.data }], guard := none }) rfl (fun K hK => ?_) AllReadyH.nil
                have cc := Hnb.out
                go_simp
                clear cc
                refine hK.out _ _ trivial (fun hH => ?_)
                clear hK
                try simp only [Act.put, List.setIfInBounds_toArray, List.set_cons_zero, List.set_cons_succ]
                refine wpAnyH_ready (rs := [4]) (by kernel_rfl) (by simp) ?_
                refine AllReadyH.cons (o := { dst := some 97, op := Go.Op.load 3 (Go.Operand.tmp 96), type := 3, pos := "value.go:64", after := #[{ on := 3, ground := Go.Ground.data }], guard := none }) rfl (fun K hK => ?_) AllReadyH.nil
                have cc := Hna.out
                go_simp
                clear cc
                refine hK.out _ _ trivial (fun hH => ?_)
                clear hK
                try simp only [Act.put, List.setIfInBounds_toArray, List.set_cons_zero, List.set_cons_succ]
                refine wpAnyH_take (i := 10) (oi := { dst := some 103, op := Go.Op.fieldAddr 37 (Go.Operand.tmp 14) 1, type := 0, pos := "value.go:64", after := #[{ on := 0, ground := Go.Ground.phase }, { on := 1, ground := Go.Ground.phase }, { on := 2, ground := Go.Ground.phase }, { on := 3, ground := Go.Ground.phase }, { on := 4, ground := Go.Ground.phase }, { on := 5, ground := Go.Ground.textOnly Go.Departure.lateStores }, { on := 6, ground := Go.Ground.phase }, { on := 7, ground := Go.Ground.phase }, { on := 8, ground := Go.Ground.textOnly Go.Departure.lateStoresUnsure }, { on := 9, ground := Go.Ground.textOnly Go.Departure.lateStoresUnsure }], guard := none }) rfl (by kernel_rfl) (by kernel_rfl) (by kernel_rfl) (fun _ _ _ h => h) (Or.inl ⟨by rfl, fun w hw => by (go_simp; try with_reducible rfl)⟩) (by assumption) ?_
                try simp only [Act.put, List.setIfInBounds_toArray, List.set_cons_zero, List.set_cons_succ]
                refine wpAnyH_ready (rs := [11]) (by kernel_rfl) (by simp) ?_
                refine AllReadyH.cons (o := { dst := none, op := Go.Op.store 3 (Go.Operand.tmp 103) (Go.Operand.tmp 97), type := 0, pos := "value.go:64", after := #[{ on := 10, ground := Go.Ground.data }, { on := 4, ground := Go.Ground.data }, { on := 0, ground := Go.Ground.phase }, { on := 1, ground := Go.Ground.phase }, { on := 2, ground := Go.Ground.phase }, { on := 3, ground := Go.Ground.phase }, { on := 4, ground := Go.Ground.phase }, { on := 5, ground := Go.Ground.textOnly Go.Departure.lateStores }, { on := 6, ground := Go.Ground.phase }, { on := 7, ground := Go.Ground.phase }, { on := 8, ground := Go.Ground.textOnly Go.Departure.lateStoresUnsure }, { on := 9, ground := Go.Ground.textOnly Go.Departure.lateStoresUnsure }], guard := none }) rfl (fun K hK => ?_) AllReadyH.nil
                have cc := Ht1.out
                have ff := Hft.out 1
                go_simp
                clear cc ff
                refine hK.out _ _ trivial (fun hH => ?_)
                clear hK
                try simp only [Act.put, List.setIfInBounds_toArray, List.set_cons_zero, List.set_cons_succ]
                refine wpAnyH_take (i := 12) (oi := { dst := some 104, op := Go.Op.fieldAddr 37 (Go.Operand.tmp 14) 2, type := 0, pos := "value.go:64", after := #[{ on := 0, ground := Go.Ground.phase }, { on := 1, ground := Go.Ground.phase }, { on := 2, ground := Go.Ground.phase }, { on := 3, ground := Go.Ground.phase }, { on := 4, ground := Go.Ground.phase }, { on := 5, ground := Go.Ground.phase }, { on := 6, ground := Go.Ground.phase }, { on := 7, ground := Go.Ground.phase }, { on := 8, ground := Go.Ground.phase }, { on := 9, ground := Go.Ground.phase }, { on := 10, ground := Go.Ground.phase }, { on := 11, ground := Go.Ground.phase }], guard := none }) rfl (by kernel_rfl) (by kernel_rfl) (by kernel_rfl) (fun _ _ _ h => h) (Or.inl ⟨by rfl, fun w hw => by (go_simp; try with_reducible rfl)⟩) (by assumption) ?_
                try simp only [Act.put, List.setIfInBounds_toArray, List.set_cons_zero, List.set_cons_succ]
                refine wpAnyH_ready (rs := [13]) (by kernel_rfl) (by simp) ?_
                refine AllReadyH.cons (o := { dst := none, op := Go.Op.store 3 (Go.Operand.tmp 104) (Go.Operand.tmp 102), type := 0, pos := "value.go:64", after := #[{ on := 12, ground := Go.Ground.data }, { on := 9, ground := Go.Ground.data }, { on := 11, ground := Go.Ground.chain }, { on := 0, ground := Go.Ground.phase }, { on := 1, ground := Go.Ground.phase }, { on := 2, ground := Go.Ground.phase }, { on := 3, ground := Go.Ground.phase }, { on := 4, ground := Go.Ground.phase }, { on := 5, ground := Go.Ground.phase }, { on := 6, ground := Go.Ground.phase }, { on := 7, ground := Go.Ground.phase }, { on := 8, ground := Go.Ground.phase }, { on := 9, ground := Go.Ground.phase }, { on := 10, ground := Go.Ground.phase }, { on := 11, ground := Go.Ground.phase }], guard := none }) rfl (fun K hK => ?_) AllReadyH.nil
                have cc := Ht2b.out
                have ff := Hft2.out 2
                go_simp
                clear cc ff
                refine hK.out _ _ trivial (fun hH => ?_)
                clear hK
                try simp only [Act.put, List.setIfInBounds_toArray, List.set_cons_zero, List.set_cons_succ]
                refine wpAnyH_done (by kernel_rfl) ?_ _
                have HZ := Lib.hid (HMd.out.set12 (nuN l a : Nat) (nuN l b' : Nat))
                have Htz := Lib.hid Htz0.out
                generalize (w0.setCell ⟨N, 1, none⟩ (.int .i64 (nuN l a : Nat))).setCell ⟨N, 2, none⟩ (.int .i64 (nuN l b' : Nat)) = wz at *
                generalize (Term.mk (kN l k).op (nuN l a : Nat) (nuN l b' : Nat) (kN l k).val) = tz at *
                clear Ht1 Ht2 Hna Hnb Hft Ht2b Hft2 HMd Htz0 qa qb
                obtain ⟨m0, m1, m2, m3⟩ := HZ.out.at4
                obtain ⟨v9, w9, hrun, hown9, hgrow9, hat9⟩ := run_app1 (P := Try.prog) (w := wz.alloc (.cells #[.int .i64 tz.op, .int .i64 tz.a, .int .i64 tz.b, .int .i64 tz.val] 37)) 22 22 Term.cells 4 32 37 (Term.mk 0 0 0 0).agg Try.underlying22 infoTerm rfl (by decide) termCells_len termCells_one (wb.heap.size + 1) _ ((ndL l k).map (renT l)) tz (HZ.out.out.alloc _) wz.heap.size 1 (fun j hj => by rw [cell_new wz #[Value.int .i64 tz.op, .int .i64 tz.a, .int .i64 tz.b, .int .i64 tz.val] 37 wz.heap.size rfl]; exact List.getElem?_toArray) (by rw [Hol.out]; unfold maxLen; omega) (by rw [Hol.out]; omega) (by have := HZ.out.lt; have := HZ.out.gt; simp; omega)
                have HO9 : Hid (OwnT w9 (wb.heap.size + 1) v9 ((ndL l (k + 1)).map (renT l))) := Lib.hid (by rw [HOe.out, Htz.out]; exact hown9)
                have HN9 := Lib.hid ((HZ.out.nb.alloc (.cells #[.int .i64 tz.op, .int .i64 tz.a, .int .i64 tz.b, .int .i64 tz.val] 37)).kept hgrow9 (Or.inr (fun e => by have h := (own_lt HZ.out.out _ e.symm).1; have h : wb.heap.size + 1 ≤ wb.heap.size := h; omega)))
                have HW9 := Lib.hid ((HZ.out.bel.alloc (by have := HZ.out.lt; have := HZ.out.gt; omega) (.cells #[.int .i64 tz.op, .int .i64 tz.a, .int .i64 tz.b, .int .i64 tz.val] 37)).grown hgrow9 (by have := HZ.out.lt; have := HZ.out.gt; simp; omega) (fun j hj => by have := (own_lt HZ.out.out j hj).1; omega))
                have Hrun := Lib.hid hrun
                clear hrun hown9 hgrow9 hat9
                go_wp2_with (at_builtin; refine wpList_app_run rfl 22 _ _ rfl rfl rfl Hrun.out ?_)
                go_roundw
                case rel => exact ⟨k + 1, _, by omega, by go_num, by rw [List.length_set]; exact Hnl.out, HN9.out, HPn, HO9.out, HW9.out⟩
                case measure => first | (simp [intOf]; done) | (simp [intOf]; omega)
              refine AllReadyH.cons (o := { dst := some 100, op := Go.Op.load 3 (Go.Operand.tmp 99), type := 3, pos := "value.go:64", after := #[{ on := 6, ground := Go.Ground.data }], guard := none }) rfl (fun K hK => ?_) AllReadyH.nil
              have cc := Ht2.out
              go_simp
              clear cc
              refine hK.out _ _ trivial (fun hH => ?_)
              clear hK
              try simp only [Act.put, List.setIfInBounds_toArray, List.set_cons_zero, List.set_cons_succ]
              refine wpAnyH_take (i := 8) (oi := { dst := some 101, op := Go.Op.indexAddr 23 (Go.Operand.tmp 98) (Go.Operand.tmp 100), type := 0, pos := "value.go:64", after := #[{ on := 5, ground := Go.Ground.data }, { on := 7, ground := Go.Ground.data }], guard := none }) rfl (by kernel_rfl) (by kernel_rfl) (by kernel_rfl) (fun _ _ _ h => h) (Or.inl ⟨by rfl, fun w hw => by (go_simp; try with_reducible rfl)⟩) (by assumption) ?_
              try simp only [Act.put, List.setIfInBounds_toArray, List.set_cons_zero, List.set_cons_succ]
              refine wpAnyH_ready (rs := [2, 9]) (by kernel_rfl) (by simp) ?_
              refine AllReadyH.cons (o := { dst := some 95, op := Go.Op.load 3 (Go.Operand.tmp 94), type := 3, pos := "value.go:64", after := #[{ on := 1, ground := Go.Ground.data }], guard := none }) rfl (fun K hK => ?_) ?_
              · have cc := Ht1.out
                go_simp
                clear cc
                refine hK.out _ _ trivial (fun hH => ?_)
                clear hK
                try simp only [Act.put, List.setIfInBounds_toArray, List.set_cons_zero, List.set_cons_succ]
                refine wpAnyH_take (i := 3) (oi := { dst := some 96, op := Go.Op.indexAddr 23 (Go.Operand.tmp 93) (Go.Operand.tmp 95), type := 0, pos := "value.go:64", after := #[{ on := 0, ground := Go.Ground.data }, { on := 2, ground := Go.Ground.data }], guard := none }) rfl (by kernel_rfl) (by kernel_rfl) (by kernel_rfl) (fun _ _ _ h => h) (Or.inl ⟨by rfl, fun w hw => by (go_simp; try with_reducible rfl)⟩) (by assumption) ?_
                try simp only [Act.put, List.setIfInBounds_toArray, List.set_cons_zero, List.set_cons_succ]
                refine wpAnyH_ready (rs := [4, 9]) (by kernel_rfl) (by simp) ?_
                refine AllReadyH.cons (o := { dst := some 97, op := Go.Op.load 3 (Go.Operand.tmp 96), type := 3, pos := "value.go:64", after := #[{ on := 3, ground := Go.Ground.data }], guard := none }) rfl (fun K hK => ?_) ?_
                · have cc := Hna.out
                  go_simp
                  clear cc
                  refine hK.out _ _ trivial (fun hH => ?_)
                  clear hK
                  try simp only [Act.put, List.setIfInBounds_toArray, List.set_cons_zero, List.set_cons_succ]
                  refine wpAnyH_take (i := 10) (oi := { dst := some 103, op := Go.Op.fieldAddr 37 (Go.Operand.tmp 14) 1, type := 0, pos := "value.go:64", after := #[{ on := 0, ground := Go.Ground.phase }, { on := 1, ground := Go.Ground.phase }, { on := 2, ground := Go.Ground.phase }, { on := 3, ground := Go.Ground.phase }, { on := 4, ground := Go.Ground.phase }, { on := 5, ground := Go.Ground.textOnly Go.Departure.lateStores }, { on := 6, ground := Go.Ground.phase }, { on := 7, ground := Go.Ground.phase }, { on := 8, ground := Go.Ground.textOnly Go.Departure.lateStoresUnsure }, { on := 9, ground := Go.Ground.textOnly Go.Departure.lateStoresUnsure }], guard := none }) rfl (by kernel_rfl) (by kernel_rfl) (by kernel_rfl) (fun _ _ _ h => h) (Or.inl ⟨by rfl, fun w hw => by (go_simp; try with_reducible rfl)⟩) (by assumption) ?_
                  try simp only [Act.put, List.setIfInBounds_toArray, List.set_cons_zero, List.set_cons_succ]
                  refine wpAnyH_ready (rs := [9, 11]) (by kernel_rfl) (by simp) ?_
                  refine AllReadyH.cons (o := { dst := some 102, op := Go.Op.load 3 (Go.Operand.tmp 101), type := 3, pos := "value.go:64", after := #[{ on := 8, ground := Go.Ground.data }], guard := none }) rfl (fun K hK => ?_) ?_
                  · have cc := Hnb.out
                    go_simp
                    clear cc
                    refine hK.out _ _ trivial (fun hH => ?_)
                    clear hK
                    try simp only [Act.put, List.setIfInBounds_toArray, List.set_cons_zero, List.set_cons_succ]
                    refine wpAnyH_ready (rs := [11]) (by kernel_rfl) (by simp) ?_
                    refine AllReadyH.cons (o := { dst := none, op := Go.Op.store 3 (Go.Operand.tmp 103) (Go.Operand.tmp 97), type := 0, pos := "value.go:64", after := #[{ on := 10, ground := Go.Ground.data }, { on := 4, ground := Go.Ground.data }, { on := 0, ground := Go.Ground.phase }, { on := 1, ground := Go.Ground.phase }, { on := 2, ground := Go.Ground.phase }, { on := 3, ground := Go.Ground.phase }, { on := 4, ground := Go.Ground.phase }, { on := 5, ground := Go.Ground.textOnly Go.Departure.lateStores }, { on := 6, ground := Go.Ground.phase }, { on := 7, ground := Go.Ground.phase }, { on := 8, ground := Go.Ground.textOnly Go.Departure.lateStoresUnsure }, { on := 9, ground := Go.Ground.textOnly Go.Departure.lateStoresUnsure }], guard := none }) rfl (fun K hK => ?_) AllReadyH.nil
                    have cc := Ht1.out
                    have ff := Hft.out 1
                    go_simp
                    clear cc ff
                    refine hK.out _ _ trivial (fun hH => ?_)
                    clear hK
                    try simp only [Act.put, List.setIfInBounds_toArray, List.set_cons_zero, List.set_cons_succ]
                    refine wpAnyH_take (i := 12) (oi := { dst := some 104, op := Go.Op.fieldAddr 37 (Go.Operand.tmp 14) 2, type := 0, pos := "value.go:64", after := #[{ on := 0, ground := Go.Ground.phase }, { on := 1, ground := Go.Ground.phase }, { on := 2, ground := Go.Ground.phase }, { on := 3, ground := Go.Ground.phase }, { on := 4, ground := Go.Ground.phase }, { on := 5, ground := Go.Ground.phase }, { on := 6, ground := Go.Ground.phase }, { on := 7, ground := Go.Ground.phase }, { on := 8, ground := Go.Ground.phase }, { on := 9, ground := Go.Ground.phase }, { on := 10, ground := Go.Ground.phase }, { on := 11, ground := Go.Ground.phase }], guard := none }) rfl (by kernel_rfl) (by kernel_rfl) (by kernel_rfl) (fun _ _ _ h => h) (Or.inl ⟨by rfl, fun w hw => by (go_simp; try with_reducible rfl)⟩) (by assumption) ?_
                    try simp only [Act.put, List.setIfInBounds_toArray, List.set_cons_zero, List.set_cons_succ]
                    refine wpAnyH_ready (rs := [13]) (by kernel_rfl) (by simp) ?_
                    refine AllReadyH.cons (o := { dst := none, op := Go.Op.store 3 (Go.Operand.tmp 104) (Go.Operand.tmp 102), type := 0, pos := "value.go:64", after := #[{ on := 12, ground := Go.Ground.data }, { on := 9, ground := Go.Ground.data }, { on := 11, ground := Go.Ground.chain }, { on := 0, ground := Go.Ground.phase }, { on := 1, ground := Go.Ground.phase }, { on := 2, ground := Go.Ground.phase }, { on := 3, ground := Go.Ground.phase }, { on := 4, ground := Go.Ground.phase }, { on := 5, ground := Go.Ground.phase }, { on := 6, ground := Go.Ground.phase }, { on := 7, ground := Go.Ground.phase }, { on := 8, ground := Go.Ground.phase }, { on := 9, ground := Go.Ground.phase }, { on := 10, ground := Go.Ground.phase }, { on := 11, ground := Go.Ground.phase }], guard := none }) rfl (fun K hK => ?_) AllReadyH.nil
                    have cc := Ht2b.out
                    have ff := Hft2.out 2
                    go_simp
                    clear cc ff
                    refine hK.out _ _ trivial (fun hH => ?_)
                    clear hK
                    try simp only [Act.put, List.setIfInBounds_toArray, List.set_cons_zero, List.set_cons_succ]
                    refine wpAnyH_done (by kernel_rfl) ?_ _
                    have HZ := Lib.hid (HMd.out.set12 (nuN l a : Nat) (nuN l b' : Nat))
                    have Htz := Lib.hid Htz0.out
                    generalize (w0.setCell ⟨N, 1, none⟩ (.int .i64 (nuN l a : Nat))).setCell ⟨N, 2, none⟩ (.int .i64 (nuN l b' : Nat)) = wz at *
                    generalize (Term.mk (kN l k).op (nuN l a : Nat) (nuN l b' : Nat) (kN l k).val) = tz at *
                    clear Ht1 Ht2 Hna Hnb Hft Ht2b Hft2 HMd Htz0 qa qb
                    obtain ⟨m0, m1, m2, m3⟩ := HZ.out.at4
                    obtain ⟨v9, w9, hrun, hown9, hgrow9, hat9⟩ := run_app1 (P := Try.prog) (w := wz.alloc (.cells #[.int .i64 tz.op, .int .i64 tz.a, .int .i64 tz.b, .int .i64 tz.val] 37)) 22 22 Term.cells 4 32 37 (Term.mk 0 0 0 0).agg Try.underlying22 infoTerm rfl (by decide) termCells_len termCells_one (wb.heap.size + 1) _ ((ndL l k).map (renT l)) tz (HZ.out.out.alloc _) wz.heap.size 1 (fun j hj => by rw [cell_new wz #[Value.int .i64 tz.op, .int .i64 tz.a, .int .i64 tz.b, .int .i64 tz.val] 37 wz.heap.size rfl]; exact List.getElem?_toArray) (by rw [Hol.out]; unfold maxLen; omega) (by rw [Hol.out]; omega) (by have := HZ.out.lt; have := HZ.out.gt; simp; omega)
                    have HO9 : Hid (OwnT w9 (wb.heap.size + 1) v9 ((ndL l (k + 1)).map (renT l))) := Lib.hid (by rw [HOe.out, Htz.out]; exact hown9)
                    have HN9 := Lib.hid ((HZ.out.nb.alloc (.cells #[.int .i64 tz.op, .int .i64 tz.a, .int .i64 tz.b, .int .i64 tz.val] 37)).kept hgrow9 (Or.inr (fun e => by have h := (own_lt HZ.out.out _ e.symm).1; have h : wb.heap.size + 1 ≤ wb.heap.size := h; omega)))
                    have HW9 := Lib.hid ((HZ.out.bel.alloc (by have := HZ.out.lt; have := HZ.out.gt; omega) (.cells #[.int .i64 tz.op, .int .i64 tz.a, .int .i64 tz.b, .int .i64 tz.val] 37)).grown hgrow9 (by have := HZ.out.lt; have := HZ.out.gt; simp; omega) (fun j hj => by have := (own_lt HZ.out.out j hj).1; omega))
                    have Hrun := Lib.hid hrun
                    clear hrun hown9 hgrow9 hat9
                    go_wp2_with (at_builtin; refine wpList_app_run rfl 22 _ _ rfl rfl rfl Hrun.out ?_)
                    go_roundw
                    case rel => exact ⟨k + 1, _, by omega, by go_num, by rw [List.length_set]; exact Hnl.out, HN9.out, HPn, HO9.out, HW9.out⟩
                    case measure => first | (simp [intOf]; done) | (simp [intOf]; omega)
                  refine AllReadyH.cons (o := { dst := none, op := Go.Op.store 3 (Go.Operand.tmp 103) (Go.Operand.tmp 97), type := 0, pos := "value.go:64", after := #[{ on := 10, ground := Go.Ground.data }, { on := 4, ground := Go.Ground.data }, { on := 0, ground := Go.Ground.phase }, { on := 1, ground := Go.Ground.phase }, { on := 2, ground := Go.Ground.phase }, { on := 3, ground := Go.Ground.phase }, { on := 4, ground := Go.Ground.phase }, { on := 5, ground := Go.Ground.textOnly Go.Departure.lateStores }, { on := 6, ground := Go.Ground.phase }, { on := 7, ground := Go.Ground.phase }, { on := 8, ground := Go.Ground.textOnly Go.Departure.lateStoresUnsure }, { on := 9, ground := Go.Ground.textOnly Go.Departure.lateStoresUnsure }], guard := none }) rfl (fun K hK => ?_) AllReadyH.nil
                  have cc := Ht1.out
                  have ff := Hft.out 1
                  go_simp
                  clear cc ff
                  refine hK.out _ _ trivial (fun hH => ?_)
                  clear hK
                  try simp only [Act.put, List.setIfInBounds_toArray, List.set_cons_zero, List.set_cons_succ]
                  refine wpAnyH_ready (rs := [9]) (by kernel_rfl) (by simp) ?_
                  refine AllReadyH.cons (o := { dst := some 102, op := Go.Op.load 3 (Go.Operand.tmp 101), type := 3, pos := "value.go:64", after := #[{ on := 8, ground := Go.Ground.data }], guard := none }) rfl (fun K hK => ?_) AllReadyH.nil
                  have cc := Hnb.out
                  go_simp
                  clear cc
                  refine hK.out _ _ trivial (fun hH => ?_)
                  clear hK
                  try simp only [Act.put, List.setIfInBounds_toArray, List.set_cons_zero, List.set_cons_succ]
                  refine wpAnyH_take (i := 12) (oi := { dst := some 104, op := Go.Op.fieldAddr 37 (Go.Operand.tmp 14) 2, type := 0, pos := "value.go:64", after := #[{ on := 0, ground := Go.Ground.phase }, { on := 1, ground := Go.Ground.phase }, { on := 2, ground := Go.Ground.phase }, { on := 3, ground := Go.Ground.phase }, { on := 4, ground := Go.Ground.phase }, { on := 5, ground := Go.Ground.phase }, { on := 6, ground := Go.Ground.phase }, { on := 7, ground := Go.Ground.phase }, { on := 8, ground := Go.Ground.phase }, { on := 9, ground := Go.Ground.phase }, { on := 10, ground := Go.Ground.phase }, { on := 11, ground := Go.Ground.phase }], guard := none }) rfl (by kernel_rfl) (by kernel_rfl) (by kernel_rfl) (fun _ _ _ h => h) (Or.inl ⟨by rfl, fun w hw => by (go_simp; try with_reducible rfl)⟩) (by assumption) ?_
                  try simp only [Act.put, List.setIfInBounds_toArray, List.set_cons_zero, List.set_cons_succ]
                  refine wpAnyH_ready (rs := [13]) (by kernel_rfl) (by simp) ?_
                  refine AllReadyH.cons (o := { dst := none, op := Go.Op.store 3 (Go.Operand.tmp 104) (Go.Operand.tmp 102), type := 0, pos := "value.go:64", after := #[{ on := 12, ground := Go.Ground.data }, { on := 9, ground := Go.Ground.data }, { on := 11, ground := Go.Ground.chain }, { on := 0, ground := Go.Ground.phase }, { on := 1, ground := Go.Ground.phase }, { on := 2, ground := Go.Ground.phase }, { on := 3, ground := Go.Ground.phase }, { on := 4, ground := Go.Ground.phase }, { on := 5, ground := Go.Ground.phase }, { on := 6, ground := Go.Ground.phase }, { on := 7, ground := Go.Ground.phase }, { on := 8, ground := Go.Ground.phase }, { on := 9, ground := Go.Ground.phase }, { on := 10, ground := Go.Ground.phase }, { on := 11, ground := Go.Ground.phase }], guard := none }) rfl (fun K hK => ?_) AllReadyH.nil
                  have cc := Ht2b.out
                  have ff := Hft2.out 2
                  go_simp
                  clear cc ff
                  refine hK.out _ _ trivial (fun hH => ?_)
                  clear hK
                  try simp only [Act.put, List.setIfInBounds_toArray, List.set_cons_zero, List.set_cons_succ]
                  refine wpAnyH_done (by kernel_rfl) ?_ _
                  have HZ := Lib.hid (HMd.out.set12 (nuN l a : Nat) (nuN l b' : Nat))
                  have Htz := Lib.hid Htz0.out
                  generalize (w0.setCell ⟨N, 1, none⟩ (.int .i64 (nuN l a : Nat))).setCell ⟨N, 2, none⟩ (.int .i64 (nuN l b' : Nat)) = wz at *
                  generalize (Term.mk (kN l k).op (nuN l a : Nat) (nuN l b' : Nat) (kN l k).val) = tz at *
                  clear Ht1 Ht2 Hna Hnb Hft Ht2b Hft2 HMd Htz0 qa qb
                  obtain ⟨m0, m1, m2, m3⟩ := HZ.out.at4
                  obtain ⟨v9, w9, hrun, hown9, hgrow9, hat9⟩ := run_app1 (P := Try.prog) (w := wz.alloc (.cells #[.int .i64 tz.op, .int .i64 tz.a, .int .i64 tz.b, .int .i64 tz.val] 37)) 22 22 Term.cells 4 32 37 (Term.mk 0 0 0 0).agg Try.underlying22 infoTerm rfl (by decide) termCells_len termCells_one (wb.heap.size + 1) _ ((ndL l k).map (renT l)) tz (HZ.out.out.alloc _) wz.heap.size 1 (fun j hj => by rw [cell_new wz #[Value.int .i64 tz.op, .int .i64 tz.a, .int .i64 tz.b, .int .i64 tz.val] 37 wz.heap.size rfl]; exact List.getElem?_toArray) (by rw [Hol.out]; unfold maxLen; omega) (by rw [Hol.out]; omega) (by have := HZ.out.lt; have := HZ.out.gt; simp; omega)
                  have HO9 : Hid (OwnT w9 (wb.heap.size + 1) v9 ((ndL l (k + 1)).map (renT l))) := Lib.hid (by rw [HOe.out, Htz.out]; exact hown9)
                  have HN9 := Lib.hid ((HZ.out.nb.alloc (.cells #[.int .i64 tz.op, .int .i64 tz.a, .int .i64 tz.b, .int .i64 tz.val] 37)).kept hgrow9 (Or.inr (fun e => by have h := (own_lt HZ.out.out _ e.symm).1; have h : wb.heap.size + 1 ≤ wb.heap.size := h; omega)))
                  have HW9 := Lib.hid ((HZ.out.bel.alloc (by have := HZ.out.lt; have := HZ.out.gt; omega) (.cells #[.int .i64 tz.op, .int .i64 tz.a, .int .i64 tz.b, .int .i64 tz.val] 37)).grown hgrow9 (by have := HZ.out.lt; have := HZ.out.gt; simp; omega) (fun j hj => by have := (own_lt HZ.out.out j hj).1; omega))
                  have Hrun := Lib.hid hrun
                  clear hrun hown9 hgrow9 hat9
                  go_wp2_with (at_builtin; refine wpList_app_run rfl 22 _ _ rfl rfl rfl Hrun.out ?_)
                  go_roundw
                  case rel => exact ⟨k + 1, _, by omega, by go_num, by rw [List.length_set]; exact Hnl.out, HN9.out, HPn, HO9.out, HW9.out⟩
                  case measure => first | (simp [intOf]; done) | (simp [intOf]; omega)
                refine AllReadyH.cons (o := { dst := some 102, op := Go.Op.load 3 (Go.Operand.tmp 101), type := 3, pos := "value.go:64", after := #[{ on := 8, ground := Go.Ground.data }], guard := none }) rfl (fun K hK => ?_) AllReadyH.nil
                have cc := Hnb.out
                go_simp
                clear cc
                refine hK.out _ _ trivial (fun hH => ?_)
                clear hK
                try simp only [Act.put, List.setIfInBounds_toArray, List.set_cons_zero, List.set_cons_succ]
                refine wpAnyH_ready (rs := [4]) (by kernel_rfl) (by simp) ?_
                refine AllReadyH.cons (o := { dst := some 97, op := Go.Op.load 3 (Go.Operand.tmp 96), type := 3, pos := "value.go:64", after := #[{ on := 3, ground := Go.Ground.data }], guard := none }) rfl (fun K hK => ?_) AllReadyH.nil
                have cc := Hna.out
                go_simp
                clear cc
                refine hK.out _ _ trivial (fun hH => ?_)
                clear hK
                try simp only [Act.put, List.setIfInBounds_toArray, List.set_cons_zero, List.set_cons_succ]
                refine wpAnyH_take (i := 10) (oi := { dst := some 103, op := Go.Op.fieldAddr 37 (Go.Operand.tmp 14) 1, type := 0, pos := "value.go:64", after := #[{ on := 0, ground := Go.Ground.phase }, { on := 1, ground := Go.Ground.phase }, { on := 2, ground := Go.Ground.phase }, { on := 3, ground := Go.Ground.phase }, { on := 4, ground := Go.Ground.phase }, { on := 5, ground := Go.Ground.textOnly Go.Departure.lateStores }, { on := 6, ground := Go.Ground.phase }, { on := 7, ground := Go.Ground.phase }, { on := 8, ground := Go.Ground.textOnly Go.Departure.lateStoresUnsure }, { on := 9, ground := Go.Ground.textOnly Go.Departure.lateStoresUnsure }], guard := none }) rfl (by kernel_rfl) (by kernel_rfl) (by kernel_rfl) (fun _ _ _ h => h) (Or.inl ⟨by rfl, fun w hw => by (go_simp; try with_reducible rfl)⟩) (by assumption) ?_
                try simp only [Act.put, List.setIfInBounds_toArray, List.set_cons_zero, List.set_cons_succ]
                refine wpAnyH_ready (rs := [11]) (by kernel_rfl) (by simp) ?_
                refine AllReadyH.cons (o := { dst := none, op := Go.Op.store 3 (Go.Operand.tmp 103) (Go.Operand.tmp 97), type := 0, pos := "value.go:64", after := #[{ on := 10, ground := Go.Ground.data }, { on := 4, ground := Go.Ground.data }, { on := 0, ground := Go.Ground.phase }, { on := 1, ground := Go.Ground.phase }, { on := 2, ground := Go.Ground.phase }, { on := 3, ground := Go.Ground.phase }, { on := 4, ground := Go.Ground.phase }, { on := 5, ground := Go.Ground.textOnly Go.Departure.lateStores }, { on := 6, ground := Go.Ground.phase }, { on := 7, ground := Go.Ground.phase }, { on := 8, ground := Go.Ground.textOnly Go.Departure.lateStoresUnsure }, { on := 9, ground := Go.Ground.textOnly Go.Departure.lateStoresUnsure }], guard := none }) rfl (fun K hK => ?_) AllReadyH.nil
                have cc := Ht1.out
                have ff := Hft.out 1
                go_simp
                clear cc ff
                refine hK.out _ _ trivial (fun hH => ?_)
                clear hK
                try simp only [Act.put, List.setIfInBounds_toArray, List.set_cons_zero, List.set_cons_succ]
                refine wpAnyH_take (i := 12) (oi := { dst := some 104, op := Go.Op.fieldAddr 37 (Go.Operand.tmp 14) 2, type := 0, pos := "value.go:64", after := #[{ on := 0, ground := Go.Ground.phase }, { on := 1, ground := Go.Ground.phase }, { on := 2, ground := Go.Ground.phase }, { on := 3, ground := Go.Ground.phase }, { on := 4, ground := Go.Ground.phase }, { on := 5, ground := Go.Ground.phase }, { on := 6, ground := Go.Ground.phase }, { on := 7, ground := Go.Ground.phase }, { on := 8, ground := Go.Ground.phase }, { on := 9, ground := Go.Ground.phase }, { on := 10, ground := Go.Ground.phase }, { on := 11, ground := Go.Ground.phase }], guard := none }) rfl (by kernel_rfl) (by kernel_rfl) (by kernel_rfl) (fun _ _ _ h => h) (Or.inl ⟨by rfl, fun w hw => by (go_simp; try with_reducible rfl)⟩) (by assumption) ?_
                try simp only [Act.put, List.setIfInBounds_toArray, List.set_cons_zero, List.set_cons_succ]
                refine wpAnyH_ready (rs := [13]) (by kernel_rfl) (by simp) ?_
                refine AllReadyH.cons (o := { dst := none, op := Go.Op.store 3 (Go.Operand.tmp 104) (Go.Operand.tmp 102), type := 0, pos := "value.go:64", after := #[{ on := 12, ground := Go.Ground.data }, { on := 9, ground := Go.Ground.data }, { on := 11, ground := Go.Ground.chain }, { on := 0, ground := Go.Ground.phase }, { on := 1, ground := Go.Ground.phase }, { on := 2, ground := Go.Ground.phase }, { on := 3, ground := Go.Ground.phase }, { on := 4, ground := Go.Ground.phase }, { on := 5, ground := Go.Ground.phase }, { on := 6, ground := Go.Ground.phase }, { on := 7, ground := Go.Ground.phase }, { on := 8, ground := Go.Ground.phase }, { on := 9, ground := Go.Ground.phase }, { on := 10, ground := Go.Ground.phase }, { on := 11, ground := Go.Ground.phase }], guard := none }) rfl (fun K hK => ?_) AllReadyH.nil
                have cc := Ht2b.out
                have ff := Hft2.out 2
                go_simp
                clear cc ff
                refine hK.out _ _ trivial (fun hH => ?_)
                clear hK
                try simp only [Act.put, List.setIfInBounds_toArray, List.set_cons_zero, List.set_cons_succ]
                refine wpAnyH_done (by kernel_rfl) ?_ _
                have HZ := Lib.hid (HMd.out.set12 (nuN l a : Nat) (nuN l b' : Nat))
                have Htz := Lib.hid Htz0.out
                generalize (w0.setCell ⟨N, 1, none⟩ (.int .i64 (nuN l a : Nat))).setCell ⟨N, 2, none⟩ (.int .i64 (nuN l b' : Nat)) = wz at *
                generalize (Term.mk (kN l k).op (nuN l a : Nat) (nuN l b' : Nat) (kN l k).val) = tz at *
                clear Ht1 Ht2 Hna Hnb Hft Ht2b Hft2 HMd Htz0 qa qb
                obtain ⟨m0, m1, m2, m3⟩ := HZ.out.at4
                obtain ⟨v9, w9, hrun, hown9, hgrow9, hat9⟩ := run_app1 (P := Try.prog) (w := wz.alloc (.cells #[.int .i64 tz.op, .int .i64 tz.a, .int .i64 tz.b, .int .i64 tz.val] 37)) 22 22 Term.cells 4 32 37 (Term.mk 0 0 0 0).agg Try.underlying22 infoTerm rfl (by decide) termCells_len termCells_one (wb.heap.size + 1) _ ((ndL l k).map (renT l)) tz (HZ.out.out.alloc _) wz.heap.size 1 (fun j hj => by rw [cell_new wz #[Value.int .i64 tz.op, .int .i64 tz.a, .int .i64 tz.b, .int .i64 tz.val] 37 wz.heap.size rfl]; exact List.getElem?_toArray) (by rw [Hol.out]; unfold maxLen; omega) (by rw [Hol.out]; omega) (by have := HZ.out.lt; have := HZ.out.gt; simp; omega)
                have HO9 : Hid (OwnT w9 (wb.heap.size + 1) v9 ((ndL l (k + 1)).map (renT l))) := Lib.hid (by rw [HOe.out, Htz.out]; exact hown9)
                have HN9 := Lib.hid ((HZ.out.nb.alloc (.cells #[.int .i64 tz.op, .int .i64 tz.a, .int .i64 tz.b, .int .i64 tz.val] 37)).kept hgrow9 (Or.inr (fun e => by have h := (own_lt HZ.out.out _ e.symm).1; have h : wb.heap.size + 1 ≤ wb.heap.size := h; omega)))
                have HW9 := Lib.hid ((HZ.out.bel.alloc (by have := HZ.out.lt; have := HZ.out.gt; omega) (.cells #[.int .i64 tz.op, .int .i64 tz.a, .int .i64 tz.b, .int .i64 tz.val] 37)).grown hgrow9 (by have := HZ.out.lt; have := HZ.out.gt; simp; omega) (fun j hj => by have := (own_lt HZ.out.out j hj).1; omega))
                have Hrun := Lib.hid hrun
                clear hrun hown9 hgrow9 hat9
                go_wp2_with (at_builtin; refine wpList_app_run rfl 22 _ _ rfl rfl rfl Hrun.out ?_)
                go_roundw
                case rel => exact ⟨k + 1, _, by omega, by go_num, by rw [List.length_set]; exact Hnl.out, HN9.out, HPn, HO9.out, HW9.out⟩
                case measure => first | (simp [intOf]; done) | (simp [intOf]; omega)
              refine AllReadyH.cons (o := { dst := some 102, op := Go.Op.load 3 (Go.Operand.tmp 101), type := 3, pos := "value.go:64", after := #[{ on := 8, ground := Go.Ground.data }], guard := none }) rfl (fun K hK => ?_) AllReadyH.nil
              have cc := Hnb.out
              go_simp
              clear cc
              refine hK.out _ _ trivial (fun hH => ?_)
              clear hK
              try simp only [Act.put, List.setIfInBounds_toArray, List.set_cons_zero, List.set_cons_succ]
              refine wpAnyH_ready (rs := [2]) (by kernel_rfl) (by simp) ?_
              refine AllReadyH.cons (o := { dst := some 95, op := Go.Op.load 3 (Go.Operand.tmp 94), type := 3, pos := "value.go:64", after := #[{ on := 1, ground := Go.Ground.data }], guard := none }) rfl (fun K hK => ?_) AllReadyH.nil
              have cc := Ht1.out
              go_simp
              clear cc
              refine hK.out _ _ trivial (fun hH => ?_)
              clear hK
              try simp only [Act.put, List.setIfInBounds_toArray, List.set_cons_zero, List.set_cons_succ]
              refine wpAnyH_take (i := 3) (oi := { dst := some 96, op := Go.Op.indexAddr 23 (Go.Operand.tmp 93) (Go.Operand.tmp 95), type := 0, pos := "value.go:64", after := #[{ on := 0, ground := Go.Ground.data }, { on := 2, ground := Go.Ground.data }], guard := none }) rfl (by kernel_rfl) (by kernel_rfl) (by kernel_rfl) (fun _ _ _ h => h) (Or.inl ⟨by rfl, fun w hw => by (go_simp; try with_reducible rfl)⟩) (by assumption) ?_
              try simp only [Act.put, List.setIfInBounds_toArray, List.set_cons_zero, List.set_cons_succ]
              refine wpAnyH_ready (rs := [4]) (by kernel_rfl) (by simp) ?_
              refine AllReadyH.cons (o := { dst := some 97, op := Go.Op.load 3 (Go.Operand.tmp 96), type := 3, pos := "value.go:64", after := #[{ on := 3, ground := Go.Ground.data }], guard := none }) rfl (fun K hK => ?_) AllReadyH.nil
              have cc := Hna.out
              go_simp
              clear cc
              refine hK.out _ _ trivial (fun hH => ?_)
              clear hK
              try simp only [Act.put, List.setIfInBounds_toArray, List.set_cons_zero, List.set_cons_succ]
              refine wpAnyH_take (i := 10) (oi := { dst := some 103, op := Go.Op.fieldAddr 37 (Go.Operand.tmp 14) 1, type := 0, pos := "value.go:64", after := #[{ on := 0, ground := Go.Ground.phase }, { on := 1, ground := Go.Ground.phase }, { on := 2, ground := Go.Ground.phase }, { on := 3, ground := Go.Ground.phase }, { on := 4, ground := Go.Ground.phase }, { on := 5, ground := Go.Ground.textOnly Go.Departure.lateStores }, { on := 6, ground := Go.Ground.phase }, { on := 7, ground := Go.Ground.phase }, { on := 8, ground := Go.Ground.textOnly Go.Departure.lateStoresUnsure }, { on := 9, ground := Go.Ground.textOnly Go.Departure.lateStoresUnsure }], guard := none }) rfl (by kernel_rfl) (by kernel_rfl) (by kernel_rfl) (fun _ _ _ h => h) (Or.inl ⟨by rfl, fun w hw => by (go_simp; try with_reducible rfl)⟩) (by assumption) ?_
              try simp only [Act.put, List.setIfInBounds_toArray, List.set_cons_zero, List.set_cons_succ]
              refine wpAnyH_ready (rs := [11]) (by kernel_rfl) (by simp) ?_
              refine AllReadyH.cons (o := { dst := none, op := Go.Op.store 3 (Go.Operand.tmp 103) (Go.Operand.tmp 97), type := 0, pos := "value.go:64", after := #[{ on := 10, ground := Go.Ground.data }, { on := 4, ground := Go.Ground.data }, { on := 0, ground := Go.Ground.phase }, { on := 1, ground := Go.Ground.phase }, { on := 2, ground := Go.Ground.phase }, { on := 3, ground := Go.Ground.phase }, { on := 4, ground := Go.Ground.phase }, { on := 5, ground := Go.Ground.textOnly Go.Departure.lateStores }, { on := 6, ground := Go.Ground.phase }, { on := 7, ground := Go.Ground.phase }, { on := 8, ground := Go.Ground.textOnly Go.Departure.lateStoresUnsure }, { on := 9, ground := Go.Ground.textOnly Go.Departure.lateStoresUnsure }], guard := none }) rfl (fun K hK => ?_) AllReadyH.nil
              have cc := Ht1.out
              have ff := Hft.out 1
              go_simp
              clear cc ff
              refine hK.out _ _ trivial (fun hH => ?_)
              clear hK
              try simp only [Act.put, List.setIfInBounds_toArray, List.set_cons_zero, List.set_cons_succ]
              refine wpAnyH_take (i := 12) (oi := { dst := some 104, op := Go.Op.fieldAddr 37 (Go.Operand.tmp 14) 2, type := 0, pos := "value.go:64", after := #[{ on := 0, ground := Go.Ground.phase }, { on := 1, ground := Go.Ground.phase }, { on := 2, ground := Go.Ground.phase }, { on := 3, ground := Go.Ground.phase }, { on := 4, ground := Go.Ground.phase }, { on := 5, ground := Go.Ground.phase }, { on := 6, ground := Go.Ground.phase }, { on := 7, ground := Go.Ground.phase }, { on := 8, ground := Go.Ground.phase }, { on := 9, ground := Go.Ground.phase }, { on := 10, ground := Go.Ground.phase }, { on := 11, ground := Go.Ground.phase }], guard := none }) rfl (by kernel_rfl) (by kernel_rfl) (by kernel_rfl) (fun _ _ _ h => h) (Or.inl ⟨by rfl, fun w hw => by (go_simp; try with_reducible rfl)⟩) (by assumption) ?_
              try simp only [Act.put, List.setIfInBounds_toArray, List.set_cons_zero, List.set_cons_succ]
              refine wpAnyH_ready (rs := [13]) (by kernel_rfl) (by simp) ?_
              refine AllReadyH.cons (o := { dst := none, op := Go.Op.store 3 (Go.Operand.tmp 104) (Go.Operand.tmp 102), type := 0, pos := "value.go:64", after := #[{ on := 12, ground := Go.Ground.data }, { on := 9, ground := Go.Ground.data }, { on := 11, ground := Go.Ground.chain }, { on := 0, ground := Go.Ground.phase }, { on := 1, ground := Go.Ground.phase }, { on := 2, ground := Go.Ground.phase }, { on := 3, ground := Go.Ground.phase }, { on := 4, ground := Go.Ground.phase }, { on := 5, ground := Go.Ground.phase }, { on := 6, ground := Go.Ground.phase }, { on := 7, ground := Go.Ground.phase }, { on := 8, ground := Go.Ground.phase }, { on := 9, ground := Go.Ground.phase }, { on := 10, ground := Go.Ground.phase }, { on := 11, ground := Go.Ground.phase }], guard := none }) rfl (fun K hK => ?_) AllReadyH.nil
              have cc := Ht2b.out
              have ff := Hft2.out 2
              go_simp
              clear cc ff
              refine hK.out _ _ trivial (fun hH => ?_)
              clear hK
              try simp only [Act.put, List.setIfInBounds_toArray, List.set_cons_zero, List.set_cons_succ]
              refine wpAnyH_done (by kernel_rfl) ?_ _
              have HZ := Lib.hid (HMd.out.set12 (nuN l a : Nat) (nuN l b' : Nat))
              have Htz := Lib.hid Htz0.out
              generalize (w0.setCell ⟨N, 1, none⟩ (.int .i64 (nuN l a : Nat))).setCell ⟨N, 2, none⟩ (.int .i64 (nuN l b' : Nat)) = wz at *
              generalize (Term.mk (kN l k).op (nuN l a : Nat) (nuN l b' : Nat) (kN l k).val) = tz at *
              clear Ht1 Ht2 Hna Hnb Hft Ht2b Hft2 HMd Htz0 qa qb
              obtain ⟨m0, m1, m2, m3⟩ := HZ.out.at4
              obtain ⟨v9, w9, hrun, hown9, hgrow9, hat9⟩ := run_app1 (P := Try.prog) (w := wz.alloc (.cells #[.int .i64 tz.op, .int .i64 tz.a, .int .i64 tz.b, .int .i64 tz.val] 37)) 22 22 Term.cells 4 32 37 (Term.mk 0 0 0 0).agg Try.underlying22 infoTerm rfl (by decide) termCells_len termCells_one (wb.heap.size + 1) _ ((ndL l k).map (renT l)) tz (HZ.out.out.alloc _) wz.heap.size 1 (fun j hj => by rw [cell_new wz #[Value.int .i64 tz.op, .int .i64 tz.a, .int .i64 tz.b, .int .i64 tz.val] 37 wz.heap.size rfl]; exact List.getElem?_toArray) (by rw [Hol.out]; unfold maxLen; omega) (by rw [Hol.out]; omega) (by have := HZ.out.lt; have := HZ.out.gt; simp; omega)
              have HO9 : Hid (OwnT w9 (wb.heap.size + 1) v9 ((ndL l (k + 1)).map (renT l))) := Lib.hid (by rw [HOe.out, Htz.out]; exact hown9)
              have HN9 := Lib.hid ((HZ.out.nb.alloc (.cells #[.int .i64 tz.op, .int .i64 tz.a, .int .i64 tz.b, .int .i64 tz.val] 37)).kept hgrow9 (Or.inr (fun e => by have h := (own_lt HZ.out.out _ e.symm).1; have h : wb.heap.size + 1 ≤ wb.heap.size := h; omega)))
              have HW9 := Lib.hid ((HZ.out.bel.alloc (by have := HZ.out.lt; have := HZ.out.gt; omega) (.cells #[.int .i64 tz.op, .int .i64 tz.a, .int .i64 tz.b, .int .i64 tz.val] 37)).grown hgrow9 (by have := HZ.out.lt; have := HZ.out.gt; simp; omega) (fun j hj => by have := (own_lt HZ.out.out j hj).1; omega))
              have Hrun := Lib.hid hrun
              clear hrun hown9 hgrow9 hat9
              go_wp2_with (at_builtin; refine wpList_app_run rfl 22 _ _ rfl rfl rfl Hrun.out ?_)
              go_roundw
              case rel => exact ⟨k + 1, _, by omega, by go_num, by rw [List.length_set]; exact Hnl.out, HN9.out, HPn, HO9.out, HW9.out⟩
              case measure => first | (simp [intOf]; done) | (simp [intOf]; omega)
            -- a leaf
            · have Htz := Lib.hid (show renT l k = kN l k from renT_leaf h2)
              have hd : decide (2 < (kN l k).op) = false := decide_eq_false h2
              rw [hd]
              obtain ⟨wz, rfl⟩ : ∃ wz : World, wz = wt := ⟨_, rfl⟩
              have HZ := HM0
              clear h2 hd Hnode HM0
              generalize kN l k = tz at *
              obtain ⟨m0, m1, m2, m3⟩ := HZ.out.at4
              obtain ⟨v9, w9, hrun, hown9, hgrow9, hat9⟩ := run_app1 (P := Try.prog) (w := wz.alloc (.cells #[.int .i64 tz.op, .int .i64 tz.a, .int .i64 tz.b, .int .i64 tz.val] 37)) 22 22 Term.cells 4 32 37 (Term.mk 0 0 0 0).agg Try.underlying22 infoTerm rfl (by decide) termCells_len termCells_one (wb.heap.size + 1) _ ((ndL l k).map (renT l)) tz (HZ.out.out.alloc _) wz.heap.size 1 (fun j hj => by rw [cell_new wz #[Value.int .i64 tz.op, .int .i64 tz.a, .int .i64 tz.b, .int .i64 tz.val] 37 wz.heap.size rfl]; exact List.getElem?_toArray) (by rw [Hol.out]; unfold maxLen; omega) (by rw [Hol.out]; omega) (by have := HZ.out.lt; have := HZ.out.gt; simp; omega)
              have HO9 : Hid (OwnT w9 (wb.heap.size + 1) v9 ((ndL l (k + 1)).map (renT l))) := Lib.hid (by rw [HOe.out, Htz.out]; exact hown9)
              have HN9 := Lib.hid ((HZ.out.nb.alloc (.cells #[.int .i64 tz.op, .int .i64 tz.a, .int .i64 tz.b, .int .i64 tz.val] 37)).kept hgrow9 (Or.inr (fun e => by have h := (own_lt HZ.out.out _ e.symm).1; have h : wb.heap.size + 1 ≤ wb.heap.size := h; omega)))
              have HW9 := Lib.hid ((HZ.out.bel.alloc (by have := HZ.out.lt; have := HZ.out.gt; omega) (.cells #[.int .i64 tz.op, .int .i64 tz.a, .int .i64 tz.b, .int .i64 tz.val] 37)).grown hgrow9 (by have := HZ.out.lt; have := HZ.out.gt; simp; omega) (fun j hj => by have := (own_lt HZ.out.out j hj).1; omega))
              have Hrun := Lib.hid hrun
              clear hrun hown9 hgrow9 hat9
              go_wp2_with (at_builtin; refine wpList_app_run rfl 22 _ _ rfl rfl rfl Hrun.out ?_)
              go_roundw
              case rel => exact ⟨k + 1, _, by omega, by go_num, by rw [List.length_set]; exact Hnl.out, HN9.out, HPn, HO9.out, HW9.out⟩
              case measure => first | (simp [intOf]; done) | (simp [intOf]; omega)
        · have : k = l.length := by omega
          subst this
          have HF := Lib.hid (show OwnT wr (wb.heap.size + 1) u12 (leastL l) from HOut.out)
          have hs2 := HW2.out.size
          have hsb := HW.out.size
          have HZ := Lib.hid (HW2.out.trans (((show Below w2.heap.size w2 wb by rw [hb]; exact HW.out).mono hs2).trans (HWr.out.mono (Nat.le_trans hs2 hsb))))
          clear hnb hout hW'
          go_wp2
          go_ret2
          exact ⟨_, rfl, HF.out.base_ (by omega), HZ.out⟩
    | succ t =>
      rw [show (((t + 1 : Nat) : Int) - 1) = (t : Int) by omega]
      have hlt : t < l.length := by omega
      have hrl := hN.out.len
      obtain ⟨g9, eg9, _, hg9, _, hfz, hcell⟩ := OwnBo.at2 hown (by rw [hrl]; omega)
      injection eg9 with eg9; injection eg9 with eg9
      subst eg9
      have c1 := hcell t (by rw [hrl]; exact hlt)
      have er : r[t]'(by rw [hrl]; exact hlt) = r.getD t false := by rw [List.getD_eq_getElem?_getD, List.getElem?_eq_getElem (by rw [hrl]; exact hlt)]; rfl
      rw [er] at c1
      have hkl : t < (ksTo l l.length).length := by rw [ksTo_len (Nat.le_refl _)]; exact hlt
      obtain ⟨bK, offK, eK, hKlt, -⟩ := RdT.at4 HRK.out hkl
      obtain ⟨bK', offK', eK', hbK, k0, k1, k2, k3⟩ := RdT.at4 (Rd.below HRK.out (by rw [hb]; exact hW)) hkl
      rw [eK] at eK'
      injection eK' with eK'; injection eK' with e1 e2
      subst e1 e2 eK
      have ek : (ksTo l l.length)[t] = kN l t := by
        have h := ksTo_at (l := l) (Nat.le_refl _) hlt
        rw [List.getElem?_eq_getElem hkl] at h
        injection h
      rw [ek] at k0 k1 k2
      have qt : ((t : Nat) : Int) < ((l.length : Nat) : Int) := by omega
      have Hfz := Lib.hid hfz
      have Hcell := Lib.hid hcell
      have Hrl := Lib.hid hrl
      have Hop := Lib.hid (fun (a b : Nat) => hN.out.step (a := a) (b := b) Hok.out hlt)
      have Hsk := Lib.hid hN.out.skip
      have Hnode := Lib.hid (ownK Hok.out hlt).node
      clear hfz hcell hrl hown hW k3 ek er hkl
      cases hr : r.getD t false
      · have Hs := Lib.hid (Hsk.out (fun h => by rw [hr] at h; cases h))
        rw [hr] at c1
        clear hr k1 k2 Hop Hsk Hnode
        generalize kN l t = kt at *
        go_wp2
        go_roundw
        case rel => exact ⟨t, r, by omega, by first | rfl | go_num, HO.out, Hs, HW.out⟩
        case measure => first | (simp [intOf]; done) | (simp [intOf]; omega)
      · rw [hr] at c1
        by_cases h2 : 2 < (kN l t).op
        · obtain ⟨a, b', ea, eb, la, lb, -⟩ := Hnode.out h2
          have Hs := Lib.hid (Hop.out a b' hr h2 ea eb)
          rw [ea] at k1
          rw [eb] at k2
          have ca := Hcell.out a (by rw [Hrl.out]; omega)
          have cb := Hcell.out b' (by rw [Hrl.out]; omega)
          generalize r[a]'(by rw [Hrl.out]; omega) = ra at *
          generalize r[b']'(by rw [Hrl.out]; omega) = rb at *
          have fa := Hfz.out a
          have fb := Hfz.out b'
          have qa : ((a : Nat) : Int) < ((l.length : Nat) : Int) := by omega
          have qb : ((b' : Nat) : Int) < ((l.length : Nat) : Int) := by omega
          have hd : decide (2 < (kN l t).op) = true := decide_eq_true h2
          have HO5 := Lib.hid (OwnBo.set_ (OwnBo.set_ (HO.out.drewN 1) (k := a) (by rw [Hrl.out]; omega) true) (k := b') (by rw [List.length_set, Hrl.out]; omega) true)
          have HW5 := Lib.hid (((below_dN HW.out 1).setCell (p := ⟨b, a, none⟩) (Nat.le_refl _) (.bool true)).setCell (p := ⟨b, b', none⟩) (Nat.le_refl _) (.bool true))
          clear hr h2 ea eb Hop Hsk Hnode
          generalize (kN l t).op = op at *
          have hKb : bK < b := by rw [← hb]; exact hKlt
          have Hkp : Hid (∀ (w' : World) (j : Nat) (v : Value), (w'.cell? ⟨bK, offK + t * 4 + 1, none⟩ = some (.int .i64 (a : Nat)) ∧ w'.cell? ⟨bK, offK + t * 4 + 2, none⟩ = some (.int .i64 (b' : Nat))) → ((w'.setCell ⟨b, j, none⟩ v).cell? ⟨bK, offK + t * 4 + 1, none⟩ = some (.int .i64 (a : Nat)) ∧ (w'.setCell ⟨b, j, none⟩ v).cell? ⟨bK, offK + t * 4 + 2, none⟩ = some (.int .i64 (b' : Nat)))) := Lib.hid fun w' j v h =>
            ⟨(World.cell?_setCell_far w' _ _ _ (by show b ≠ bK; omega)).trans h.1, (World.cell?_setCell_far w' _ _ _ (by show b ≠ bK; omega)).trans h.2⟩
          have Hca := Lib.hid (show wr.drew.cell? ⟨b, a, none⟩ = some (.bool ra) from ca)
          have Hfa := Lib.hid (show wr.drew.frozen? ⟨b, a, none⟩ = false from fa)
          obtain ⟨u, hu⟩ : ∃ u, (wr.drew.setCell ⟨b, a, none⟩ (.bool true)).cell? ⟨b, b', none⟩ = some (.bool u) := by
            by_cases eab : a = b'
            · subst eab; exact ⟨true, World.cell?_setCell_same' wr.drew _ _ (by rw [show wr.drew.cell? ⟨b, a, none⟩ = some (.bool ra) from ca]; rfl)⟩
            · exact ⟨rb, (World.cell?_setCell_other wr.drew _ _ _ (fun e => by injection e with _ e; exact eab e)).trans cb⟩
          have Hcb2 := Lib.hid hu
          have Hfb2 : Hid ((wr.drew.setCell ⟨b, a, none⟩ (.bool true)).frozen? ⟨b, b', none⟩ = false) := Lib.hid (by rw [World.frozen?_setCell]; exact fb)
          have HO5 : Hid (OwnBo ((wr.drew.setCell ⟨b, a, none⟩ (.bool true)).setCell ⟨b, b', none⟩ (.bool true)) b 4 (.slice (some ⟨b, 0, none⟩) l.length l.length) ((r.set a true).set b' true)) := HO5
          have HW5 : Hid (Below b w2 ((wr.drew.setCell ⟨b, a, none⟩ (.bool true)).setCell ⟨b, b', none⟩ (.bool true))) := HW5
          clear hu ca cb fa fb
          go_wp2
          -- the region
          refine wp_region_held_drew (S := fun w' => w'.cell? ⟨bK, offK + t * 4 + 1, none⟩ = some (.int .i64 (a : Nat)) ∧ w'.cell? ⟨bK, offK + t * 4 + 2, none⟩ = some (.int .i64 (b' : Nat))) (by kernel_rfl) ⟨k1, k2⟩ (fun hH0 => ?_)
          generalize wr.drew = w0 at *
          refine wpAnyH_take (i := 0) (oi := { dst := some 56, op := Go.Op.move (Go.Operand.tmp 9), type := 78, pos := "value.go:53", after := #[], guard := none }) rfl (by kernel_rfl) (by kernel_rfl) (by kernel_rfl) (fun _ _ _ h => h) (Or.inl ⟨by rfl, fun w hw => by (go_simp; try with_reducible rfl)⟩) (by assumption) ?_
          try simp only [Act.put, List.setIfInBounds_toArray, List.set_cons_zero, List.set_cons_succ]
          refine wpAnyH_take (i := 1) (oi := { dst := some 57, op := Go.Op.move (Go.Operand.tmp 8), type := 22, pos := "value.go:53", after := #[], guard := none }) rfl (by kernel_rfl) (by kernel_rfl) (by kernel_rfl) (fun _ _ _ h => h) (Or.inl ⟨by rfl, fun w hw => by (go_simp; try with_reducible rfl)⟩) (by assumption) ?_
          try simp only [Act.put, List.setIfInBounds_toArray, List.set_cons_zero, List.set_cons_succ]
          refine wpAnyH_take (i := 2) (oi := { dst := some 58, op := Go.Op.move (Go.Operand.tmp 10), type := 3, pos := "value.go:53", after := #[], guard := none }) rfl (by kernel_rfl) (by kernel_rfl) (by kernel_rfl) (fun _ _ _ h => h) (Or.inl ⟨by rfl, fun w hw => by (go_simp; try with_reducible rfl)⟩) (by assumption) ?_
          try simp only [Act.put, List.setIfInBounds_toArray, List.set_cons_zero, List.set_cons_succ]
          refine wpAnyH_take (i := 3) (oi := { dst := some 59, op := Go.Op.indexAddr 22 (Go.Operand.tmp 57) (Go.Operand.tmp 58), type := 0, pos := "value.go:53", after := #[{ on := 1, ground := Go.Ground.data }, { on := 2, ground := Go.Ground.data }], guard := none }) rfl (by kernel_rfl) (by kernel_rfl) (by kernel_rfl) (fun _ _ _ h => h) (Or.inl ⟨by rfl, fun w hw => by (go_simp; try with_reducible rfl)⟩) (by assumption) ?_
          try simp only [Act.put, List.setIfInBounds_toArray, List.set_cons_zero, List.set_cons_succ]
          refine wpAnyH_take (i := 4) (oi := { dst := some 60, op := Go.Op.fieldAddr 37 (Go.Operand.tmp 59) 1, type := 0, pos := "value.go:53", after := #[{ on := 3, ground := Go.Ground.data }], guard := none }) rfl (by kernel_rfl) (by kernel_rfl) (by kernel_rfl) (fun _ _ _ h => h) (Or.inl ⟨by rfl, fun w hw => by (go_simp; try with_reducible rfl)⟩) (by assumption) ?_
          try simp only [Act.put, List.setIfInBounds_toArray, List.set_cons_zero, List.set_cons_succ]
          refine wpAnyH_take (i := 5) (oi := { dst := some 61, op := Go.Op.load 3 (Go.Operand.tmp 60), type := 3, pos := "value.go:53", after := #[{ on := 4, ground := Go.Ground.data }], guard := none }) rfl (by kernel_rfl) (by kernel_rfl) (by kernel_rfl) (fun _ _ _ h => h) (Or.inl ⟨by rfl, fun w hw => by (obtain ⟨p0, p1⟩ := hw; go_simp; try with_reducible rfl)⟩) (by assumption) ?_
          try simp only [Act.put, List.setIfInBounds_toArray, List.set_cons_zero, List.set_cons_succ]
          refine wpAnyH_take (i := 6) (oi := { dst := some 62, op := Go.Op.move (Go.Operand.tmp 9), type := 78, pos := "value.go:53", after := #[{ on := 13, ground := Go.Ground.gcOnly Go.Departure.lateStores }], guard := none }) rfl (by kernel_rfl) (by kernel_rfl) (by kernel_rfl) (fun _ _ _ h => h) (Or.inl ⟨by rfl, fun w hw => by (go_simp; try with_reducible rfl)⟩) (by assumption) ?_
          try simp only [Act.put, List.setIfInBounds_toArray, List.set_cons_zero, List.set_cons_succ]
          refine wpAnyH_take (i := 7) (oi := { dst := some 63, op := Go.Op.move (Go.Operand.tmp 8), type := 22, pos := "value.go:53", after := #[], guard := none }) rfl (by kernel_rfl) (by kernel_rfl) (by kernel_rfl) (fun _ _ _ h => h) (Or.inl ⟨by rfl, fun w hw => by (go_simp; try with_reducible rfl)⟩) (by assumption) ?_
          try simp only [Act.put, List.setIfInBounds_toArray, List.set_cons_zero, List.set_cons_succ]
          refine wpAnyH_take (i := 8) (oi := { dst := some 64, op := Go.Op.move (Go.Operand.tmp 10), type := 3, pos := "value.go:53", after := #[], guard := none }) rfl (by kernel_rfl) (by kernel_rfl) (by kernel_rfl) (fun _ _ _ h => h) (Or.inl ⟨by rfl, fun w hw => by (go_simp; try with_reducible rfl)⟩) (by assumption) ?_
          try simp only [Act.put, List.setIfInBounds_toArray, List.set_cons_zero, List.set_cons_succ]
          refine wpAnyH_take (i := 9) (oi := { dst := some 65, op := Go.Op.indexAddr 22 (Go.Operand.tmp 63) (Go.Operand.tmp 64), type := 0, pos := "value.go:53", after := #[{ on := 7, ground := Go.Ground.data }, { on := 8, ground := Go.Ground.data }], guard := none }) rfl (by kernel_rfl) (by kernel_rfl) (by kernel_rfl) (fun _ _ _ h => h) (Or.inl ⟨by rfl, fun w hw => by (go_simp; try with_reducible rfl)⟩) (by assumption) ?_
          try simp only [Act.put, List.setIfInBounds_toArray, List.set_cons_zero, List.set_cons_succ]
          refine wpAnyH_take (i := 10) (oi := { dst := some 66, op := Go.Op.fieldAddr 37 (Go.Operand.tmp 65) 2, type := 0, pos := "value.go:53", after := #[{ on := 9, ground := Go.Ground.data }], guard := none }) rfl (by kernel_rfl) (by kernel_rfl) (by kernel_rfl) (fun _ _ _ h => h) (Or.inl ⟨by rfl, fun w hw => by (go_simp; try with_reducible rfl)⟩) (by assumption) ?_
          try simp only [Act.put, List.setIfInBounds_toArray, List.set_cons_zero, List.set_cons_succ]
          refine wpAnyH_take (i := 11) (oi := { dst := some 67, op := Go.Op.load 3 (Go.Operand.tmp 66), type := 3, pos := "value.go:53", after := #[{ on := 10, ground := Go.Ground.data }], guard := none }) rfl (by kernel_rfl) (by kernel_rfl) (by kernel_rfl) (fun _ _ _ h => h) (Or.inl ⟨by rfl, fun w hw => by (obtain ⟨p0, p1⟩ := hw; go_simp; try with_reducible rfl)⟩) (by assumption) ?_
          try simp only [Act.put, List.setIfInBounds_toArray, List.set_cons_zero, List.set_cons_succ]
          refine wpAnyH_take (i := 12) (oi := { dst := some 68, op := Go.Op.indexAddr 78 (Go.Operand.tmp 56) (Go.Operand.tmp 61), type := 0, pos := "value.go:53", after := #[{ on := 0, ground := Go.Ground.data }, { on := 5, ground := Go.Ground.data }, { on := 0, ground := Go.Ground.phase }, { on := 1, ground := Go.Ground.phase }, { on := 2, ground := Go.Ground.phase }, { on := 3, ground := Go.Ground.phase }, { on := 4, ground := Go.Ground.phase }, { on := 5, ground := Go.Ground.phase }, { on := 6, ground := Go.Ground.textOnly Go.Departure.lateStores }, { on := 7, ground := Go.Ground.textOnly Go.Departure.lateStores }, { on := 8, ground := Go.Ground.textOnly Go.Departure.lateStores }, { on := 9, ground := Go.Ground.textOnly Go.Departure.lateStoresUnsure }, { on := 10, ground := Go.Ground.textOnly Go.Departure.lateStoresUnsure }, { on := 11, ground := Go.Ground.phase }], guard := none }) rfl (by kernel_rfl) (by kernel_rfl) (by kernel_rfl) (fun _ _ _ h => h) (Or.inl ⟨by rfl, fun w hw => by (go_simp; try with_reducible rfl)⟩) (by assumption) ?_
          try simp only [Act.put, List.setIfInBounds_toArray, List.set_cons_zero, List.set_cons_succ]
          refine wpAnyH_ready (rs := [13]) (by kernel_rfl) (by simp) ?_
          refine AllReadyH.cons (o := { dst := none, op := Go.Op.store 4 (Go.Operand.tmp 68) (Go.Operand.const (Go.Value.bool true)), type := 0, pos := "value.go:53", after := #[{ on := 12, ground := Go.Ground.data }, { on := 0, ground := Go.Ground.phase }, { on := 1, ground := Go.Ground.phase }, { on := 2, ground := Go.Ground.phase }, { on := 3, ground := Go.Ground.phase }, { on := 4, ground := Go.Ground.phase }, { on := 5, ground := Go.Ground.phase }, { on := 6, ground := Go.Ground.textOnly Go.Departure.lateStores }, { on := 7, ground := Go.Ground.textOnly Go.Departure.lateStores }, { on := 8, ground := Go.Ground.textOnly Go.Departure.lateStores }, { on := 9, ground := Go.Ground.textOnly Go.Departure.lateStoresUnsure }, { on := 10, ground := Go.Ground.textOnly Go.Departure.lateStoresUnsure }, { on := 11, ground := Go.Ground.phase }], guard := none }) rfl (fun K hK => ?_) AllReadyH.nil
          have ca0 := Hca.out
          have fa0 := Hfa.out
          go_simp
          refine hK.out _ _ (Hkp.out _ _ _ hH0) (fun hH1 => ?_)
          clear hK ca0 fa0
          try simp only [Act.put, List.setIfInBounds_toArray, List.set_cons_zero, List.set_cons_succ]
          refine wpAnyH_take (i := 14) (oi := { dst := some 69, op := Go.Op.indexAddr 78 (Go.Operand.tmp 62) (Go.Operand.tmp 67), type := 0, pos := "value.go:53", after := #[{ on := 6, ground := Go.Ground.data }, { on := 11, ground := Go.Ground.data }, { on := 0, ground := Go.Ground.phase }, { on := 1, ground := Go.Ground.phase }, { on := 2, ground := Go.Ground.phase }, { on := 3, ground := Go.Ground.phase }, { on := 4, ground := Go.Ground.phase }, { on := 5, ground := Go.Ground.phase }, { on := 6, ground := Go.Ground.phase }, { on := 7, ground := Go.Ground.phase }, { on := 8, ground := Go.Ground.phase }, { on := 9, ground := Go.Ground.phase }, { on := 10, ground := Go.Ground.phase }, { on := 11, ground := Go.Ground.phase }, { on := 12, ground := Go.Ground.phase }, { on := 13, ground := Go.Ground.phase }], guard := none }) rfl (by kernel_rfl) (by kernel_rfl) (by kernel_rfl) (fun _ _ _ h => h) (Or.inl ⟨by rfl, fun w hw => by (go_simp; try with_reducible rfl)⟩) (by assumption) ?_
          try simp only [Act.put, List.setIfInBounds_toArray, List.set_cons_zero, List.set_cons_succ]
          refine wpAnyH_ready (rs := [15]) (by kernel_rfl) (by simp) ?_
          refine AllReadyH.cons (o := { dst := none, op := Go.Op.store 4 (Go.Operand.tmp 69) (Go.Operand.const (Go.Value.bool true)), type := 0, pos := "value.go:53", after := #[{ on := 14, ground := Go.Ground.data }, { on := 13, ground := Go.Ground.chain }, { on := 0, ground := Go.Ground.phase }, { on := 1, ground := Go.Ground.phase }, { on := 2, ground := Go.Ground.phase }, { on := 3, ground := Go.Ground.phase }, { on := 4, ground := Go.Ground.phase }, { on := 5, ground := Go.Ground.phase }, { on := 6, ground := Go.Ground.phase }, { on := 7, ground := Go.Ground.phase }, { on := 8, ground := Go.Ground.phase }, { on := 9, ground := Go.Ground.phase }, { on := 10, ground := Go.Ground.phase }, { on := 11, ground := Go.Ground.phase }, { on := 12, ground := Go.Ground.phase }, { on := 13, ground := Go.Ground.phase }], guard := none }) rfl (fun K hK => ?_) AllReadyH.nil
          have cb0 := Hcb2.out
          have fb0 := Hfb2.out
          go_simp
          refine hK.out _ _ (Hkp.out _ _ _ hH1) (fun hH2 => ?_)
          clear hK cb0 fb0
          try simp only [Act.put, List.setIfInBounds_toArray, List.set_cons_zero, List.set_cons_succ]
          refine wpAnyH_done (by kernel_rfl) ?_ _
          clear hH0 hH1 hH2
          go_wp2
          exact ⟨⟨t, _, by omega, rfl, HO5.out, Hs, HW5.out⟩, by simp [intOf]⟩
        · have Hs := Lib.hid (Hsk.out (fun _ => h2))
          have hd : decide (2 < (kN l t).op) = false := decide_eq_false h2
          clear hr k1 k2 h2 Hop Hsk Hnode
          generalize (kN l t).op = op at *
          go_wp2
          go_roundw
          case rel => exact ⟨t, r, by omega, by first | rfl | go_num, HO.out, Hs, HW.out⟩
          case measure => first | (simp [intOf]; done) | (simp [intOf]; omega)
set_option maxHeartbeats 1000000 in
theorem leastT_bad (vars : Int) (A : Option Addr) (l : List Term) (cap : Nat) (w : World) (hA : RdT w A l) (hm : l.length ≤ maxLen) (h0 : tErr vars l ≠ 0) :
    Calls Try.prog 32 #[.int .i64 vars, .slice A l.length cap] w fun e w' => e = .returned (.tuple #[.slice none 0 0, .int .i64 (tErr vars l)]) ∧ Below w.heap.size w w' := by
  have HA := Lib.hid hA; clear hA
  have hd : (tErr vars l != 0) = true := by rw [bne_iff_ne]; exact h0
  clear h0
  go_enter Try.func32, Try.ntmps32
  go_wp2_with (go_at_call 37; refine (check_calls vars A l cap w HA.out hm).mono ?_; rintro e w1 ⟨rfl, hW⟩; have HW1 := Lib.hid hW; clear hW)
  go_ret2
  exact ⟨rfl, HW1.out⟩
end Go.Proofs.Ytmglhppfdhphbaa
