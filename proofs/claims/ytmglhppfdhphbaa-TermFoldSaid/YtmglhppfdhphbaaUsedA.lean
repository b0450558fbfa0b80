/- term.used walked. -/
import Derived.Test.YtmglhppfdhphbaaUseP
import Derived.Test.YtmglhppfdhphbaaBackT
import Derived.Test.YtmglhppfdhphbaaOwnBo
import Derived.StillTailTactics
import Derived.BigGuardPart
namespace Go.Proofs.Ytmglhppfdhphbaa
open Go.RowKit Go.Shelf
attribute [local go_sem] Oper.semAt_some

theorem getB_upd {r : List Bool} {j : Nat} (hj : j < r.length) (s : Bool) (i : Nat) : (r.set j s).getD i false = if j = i then s else r.getD i false := by
  rw [List.getD_eq_getElem?_getD, List.getElem?_set, List.getD_eq_getElem?_getD]
  by_cases h : j = i
  · rw [if_pos h, if_pos h, if_pos hj]; rfl
  · rw [if_neg h, if_neg h]
/-- What is used, as far as it has been swept: from t on all is closed. -/
structure UL (l : List Term) (t : Nat) (r : List Bool) : Prop where
  len : r.length = l.length
  sound : ∀ i, r.getD i false = true → Us l i
  root : r.getD (l.length - 1) false = true
  closed : ∀ i, t ≤ i → i < l.length → r.getD i false = true → 2 < (l.getD i ⟨0, 0, 0, 0⟩).op → r.getD (l.getD i ⟨0, 0, 0, 0⟩).a.toNat false = true ∧ r.getD (l.getD i ⟨0, 0, 0, 0⟩).b.toNat false = true
section
variable {l : List Term} {vars : Int}
theorem UL.first (h1 : 1 ≤ l.length) : UL l l.length ((List.replicate l.length false).set (l.length - 1) true) := by
  have hlt : l.length - 1 < (List.replicate l.length false).length := by simp; omega
  refine ⟨by simp, fun i h => ?_, by rw [getB_upd hlt, if_pos rfl], fun i h1 h2 => by omega⟩
  rw [getB_upd hlt] at h
  split at h
  · rename_i e; subst e; exact .root
  · rw [List.getD_eq_getElem?_getD, List.getElem?_replicate] at h
    split at h <;> simp at h
theorem UL.skip {t : Nat} {r : List Bool} (h : UL l (t + 1) r) (hn : r.getD t false = true → ¬ 2 < (l.getD t ⟨0, 0, 0, 0⟩).op) : UL l t r :=
  ⟨h.len, h.sound, h.root, fun i hi hl hr h2 => by
    by_cases e : i = t
    · subst e; exact absurd h2 (hn hr)
    · exact h.closed i (by omega) hl hr h2⟩
theorem UL.step (hok : ∀ k (h : k < l.length), TOk vars k l[k]) {t a b : Nat} {r : List Bool} (h : UL l (t + 1) r) (ht : t < l.length) (hr : r.getD t false = true) (h2 : 2 < (l.getD t ⟨0, 0, 0, 0⟩).op) (ea : (l.getD t ⟨0, 0, 0, 0⟩).a = a) (eb : (l.getD t ⟨0, 0, 0, 0⟩).b = b) : UL l t ((r.set a true).set b true) := by
  obtain ⟨_, _, _, _, hob⟩ := hok t ht
  have e0 := getD_at ht
  rw [← e0] at hob
  obtain ⟨a0, la, b0, lb⟩ := hob (by omega)
  have hal : a < r.length := by rw [h.len]; omega
  have hbl : b < (r.set a true).length := by rw [List.length_set, h.len]; omega
  have key : ∀ i, ((r.set a true).set b true).getD i false = if b = i then true else if a = i then true else r.getD i false := fun i => by rw [getB_upd hbl, getB_upd hal]
  have up : ∀ i, r.getD i false = true → ((r.set a true).set b true).getD i false = true := fun i hi => by
    rw [key]
    by_cases e1 : b = i
    · rw [if_pos e1]
    · rw [if_neg e1]
      by_cases e2 : a = i
      · rw [if_pos e2]
      · rw [if_neg e2]; exact hi
  refine ⟨by rw [List.length_set, List.length_set]; exact h.len, fun i hi => ?_, up _ h.root, fun i hi hl hri h2i => ?_⟩
  · rw [key] at hi
    split at hi
    · rename_i e; subst e; exact (h.sound t hr).cb h2 eb
    · split at hi
      · rename_i e; subst e; exact (h.sound t hr).ca h2 ea
      · exact h.sound i hi
  · by_cases e : i = t
    · subst e
      rw [ea, eb, Int.toNat_natCast, Int.toNat_natCast]
      refine ⟨?_, ?_⟩
      · rw [key]
        by_cases e1 : b = a
        · rw [if_pos e1]
        · rw [if_neg e1, if_pos rfl]
      · rw [key, if_pos rfl]
    · rw [key, if_neg (by omega), if_neg (by omega)] at hri
      obtain ⟨c1, c2⟩ := h.closed i (by omega) hl hri h2i
      exact ⟨up _ c1, up _ c2⟩
theorem UL.all (hok : ∀ k (h : k < l.length), TOk vars k l[k]) (h1 : 1 ≤ l.length) {r : List Bool} (h : UL l 0 r) : ∀ i, r.getD i false = true ↔ Us l i := fun i => by
  refine ⟨h.sound i, fun hn => ?_⟩
  induction hn with
  | root => exact h.root
  | @ca i a hn h2 e ih =>
    have := (h.closed i (Nat.zero_le _) (hn.lt hok h1) ih h2).1
    rwa [e, Int.toNat_natCast] at this
  | @cb i b hn h2 e ih =>
    have := (h.closed i (Nat.zero_le _) (hn.lt hok h1) ih h2).2
    rwa [e, Int.toNat_natCast] at this
end
set_option maxRecDepth 100000 in
set_option maxHeartbeats 4000000 in
theorem used_calls (vars : Int) (A : Option Addr) (l : List Term) (cap : Nat) (w : World) (hA : RdT w A l) (h1 : 1 ≤ l.length) (h16 : l.length ≤ 16) (hok : ∀ k (h : k < l.length), TOk vars k l[k]) :
    Calls Try.prog 48 #[.slice A l.length cap] w fun e w' => ∃ v r, e = .returned v ∧ OwnBo w' w.heap.size 4 v r ∧ r.length = l.length ∧ (∀ i, r.getD i false = true ↔ Us l i) ∧ Below w.heap.size w w' := by
  have HA := Lib.hid hA; clear hA
  have Hok := Lib.hid hok; clear hok
  refine calls_of_marks Try.func48 rfl ?_
  simp only [Try.ntmps48, List.size_toArray, List.length_cons, List.length_nil, Nat.reduceAdd, Nat.reduceSub, Array.replicate_succ, Array.replicate_zero, List.push_toArray, List.append_toArray, List.nil_append, List.cons_append]
  go_wp2_with (first
    | (at_make; refine wpList_makeBo rfl _ _ rfl w.heap.size l.length rfl rfl (by omega) (Nat.le_refl _) ?_; intro w3 hown3 hgrow3
       have HW3 := Lib.hid ((Below.refl w.heap.size w).grown hgrow3 (Nat.le_refl _) (fun k hk => by cases hk))
       have HO3 := Lib.hid hown3
       have hw3 := hgrow3.size
       obtain ⟨g9, eg9, _, hg9, _, hfz, hcell⟩ := OwnBo.at2 hown3 (by simp; omega)
       injection eg9 with eg9; injection eg9 with eg9
       subst eg9
       have f2 := hfz (l.length - 1)
       have c2 := hcell (l.length - 1) (by simp; omega)
       have q1 : ((l.length : Nat) : Int) - 1 < ((l.length : Nat) : Int) := by omega
       have q2 : ((l.length : Nat) : Int) - 1 = ((l.length - 1 : Nat) : Int) := by omega
       clear hown3 hgrow3 hfz hcell)
    | (go_at_call 55; refine (backT_calls _ _ _ _).mono ?_; rintro e w' ⟨rfl, rfl⟩))
  have HO4 := Lib.hid (OwnBo.set_ HO3.out (k := l.length - 1) (by simp; omega) true)
  have HW4 := Lib.hid (HW3.out.setCell (p := ⟨w.heap.size, l.length - 1, none⟩) (Nat.le_refl _) (.bool true))
  have HN4 := Lib.hid (UL.first h1)
  generalize hX : w3.heap.size = X at hw3 hg9 ⊢
  have hsz : ((((w3.setCell ⟨w.heap.size, l.length - 1, none⟩ (.bool true)).alloc (.cells #[.slice (some ⟨w.heap.size, 0, none⟩) l.length l.length] 78)).alloc (.cells #[.slice A l.length cap] 22)).heap.size) = X + 2 := by simp [hX]
  have hh1 : ((((w3.setCell ⟨w.heap.size, l.length - 1, none⟩ (.bool true)).alloc (.cells #[.slice (some ⟨w.heap.size, 0, none⟩) l.length l.length] 78)).alloc (.cells #[.slice A l.length cap] 22)).heap[X]?) = some (.cells #[.slice (some ⟨w.heap.size, 0, none⟩) l.length l.length] 78 (0, 0)) := by
    have h := heap_alloc_new (w3.setCell ⟨w.heap.size, l.length - 1, none⟩ (.bool true)) (.cells #[.slice (some ⟨w.heap.size, 0, none⟩) l.length l.length] 78)
    rw [show (w3.setCell ⟨w.heap.size, l.length - 1, none⟩ (.bool true)).heap.size = X by simp [hX]] at h
    rw [← h]
    exact Below.heap_alloc _ _ _ (by simp [hX])
  have hh2 : ((((w3.setCell ⟨w.heap.size, l.length - 1, none⟩ (.bool true)).alloc (.cells #[.slice (some ⟨w.heap.size, 0, none⟩) l.length l.length] 78)).alloc (.cells #[.slice A l.length cap] 22)).cell? ⟨X + 1, 0, none⟩) = some (.slice A l.length cap) := by
    rw [cell_new _ _ _ (X + 1) (by simp [hX])]; rfl
  have HO5 := Lib.hid ((HO4.out.alloc (.cells #[.slice (some ⟨w.heap.size, 0, none⟩) l.length l.length] 78)).alloc (.cells #[.slice A l.length cap] 22))
  have HW5 := Lib.hid ((HW4.out.alloc (by simp [hX]; omega) (.cells #[.slice (some ⟨w.heap.size, 0, none⟩) l.length l.length] 78)).alloc (by simp [hX]; omega) (.cells #[.slice A l.length cap] 22))
  rename_i K hKK _ _
  generalize ((w3.setCell ⟨w.heap.size, l.length - 1, none⟩ (.bool true)).alloc (.cells #[.slice (some ⟨w.heap.size, 0, none⟩) l.length l.length] 78)).alloc (.cells #[.slice A l.length cap] 22) = W0 at *
  clear HO4 HW4 HO3 HW3 c2 f2 hX
  have hR0 : RdB w.heap.size Term.cells 4 W0 A l := (RdB.of HA.out).below HW5.out
  refine wp_rangeFunc (n₀ := w.heap.size) (Bs := X + 1) (gf := 58) (lb := #[.pointer (some ⟨X + 1, 0, none⟩)]) rfl (enters_of Try.func58 (by kernel_rfl) rfl)
    (backT_stops (X + 1) w.heap.size A cap l (by omega) W0 (by omega) (by omega) hh2 hR0) (by omega) (fun _ => rfl)
    (fun pre W => ∃ r, OwnBo W w.heap.size 4 (.slice (some ⟨w.heap.size, 0, none⟩) l.length l.length) r ∧ r.length = l.length ∧ Hid (pre.map (·.1) = backN l.length pre.length → UL l (l.length - pre.length) r) ∧ W.heap[X]? = some (.cells #[.slice (some ⟨w.heap.size, 0, none⟩) l.length l.length] 78 (0, 0)) ∧ Below w.heap.size w W)
    (fun _ _ _ => False) ?hI (fun _ _ _ _ _ hs _ _ => hs) ⟨_, HO5.out, by simp, Lib.hid (fun _ => HN4.out), hh1, HW5.out⟩
    (fun x a' W => ∃ Bx, X < Bx ∧ W.heap[Bx]? = some (.cells (l[x.1]'x.2).cells.toArray 37 (0, 0)) ∧ a' = { tmps := #[.slice A l.length cap, undef, .slice none 0 0, .pointer (some ⟨X, 0, none⟩), .int .i64 (x.1 : Int), .pointer (some ⟨Bx, 0, none⟩), .slice A l.length cap, .int .i64 (l.length : Int), .slice (some ⟨w.heap.size, 0, none⟩) l.length l.length, .slice (some ⟨w.heap.size, 0, none⟩) l.length l.length, .slice A l.length cap, .int .i64 (l.length : Int), .int .i64 ((l.length - 1 : Nat) : Int), .pointer (some ⟨w.heap.size, l.length - 1, none⟩), .slice A l.length cap, .func (.func 58) #[] #[.pointer (some ⟨X + 1, 0, none⟩)], .int .i64 (x.1 : Int), (l[x.1]'x.2).agg, undef, undef, undef, undef, undef, undef, undef, undef, undef, undef, undef, undef, undef, undef, undef, undef, undef, undef], defers := [] })
    ?hAx ?assign ?body ?done ?stop
  case hI =>
    rintro s W W' row ⟨r, hO, hrl, hU, hXX, hW⟩ hg hr
    exact ⟨r, own_from hO hg (fun k e => (hr k e).2), hrl, hU, (grownBy_keeps_cells hg (fun k e => (hr k e).2) hXX rfl).trans hXX, hW.grown hg (Nat.le_trans (by omega) hW.size) (fun k e => by have := (hr k e).1; omega)⟩
  case hAx =>
    rintro x a' _ W W' row ⟨Bx, h1, h2, h3⟩ hg hr
    exact ⟨Bx, h1, (grownBy_keeps_cells hg (fun k e => (hr k e).2) h2 rfl).trans h2, h3⟩
  case assign =>
    rintro l' pre x W K ⟨r, hO, hrl, hU, hXX, hW⟩ hK
    have hlX : X < W.heap.size := (Array.getElem?_eq_some_iff.1 hXX).1
    have hagg : (l[x.1]'x.2).agg = .agg #[.int .i64 (l[x.1]'x.2).op, .int .i64 (l[x.1]'x.2).a, .int .i64 (l[x.1]'x.2).b, .int .i64 (l[x.1]'x.2).val] := rfl
    rw [hagg] at hK ⊢
    gi_wp2
    exact hK _ _ ((KeepsOthers.alloc _ _).from _) ⟨(Below.refl w.heap.size W).alloc hW.size _, fun v hv => by rw [World.cell?_alloc_some _ _ _ (by rw [hv]; rfl)]; exact hv⟩ ⟨r, hO.alloc _, hrl, hU, (Below.heap_alloc W _ X hlX).trans hXX, hW.alloc hW.size _⟩ ⟨W.heap.size, hlX, heap_alloc_new W _, rfl⟩
  case body =>
    rintro l' pre x a' W hl ⟨r, hO, hrl, hU, hXX, hW⟩ ⟨Bx, hBx, hhx, rfl⟩ hlt
    obtain ⟨x, hx⟩ := x
    dsimp only at hhx ⊢
    have HO := Lib.hid hO
    have HW := Lib.hid hW
    have hws := hW.size
    obtain ⟨g9, eg9, _, hg9', _, hfz, hcell⟩ := OwnBo.at2 hO (by rw [hrl]; omega)
    injection eg9 with eg9; injection eg9 with eg9
    subst eg9
    have hxr : x < r.length := by rw [hrl]; exact hx
    have cX : W.cell? ⟨X, 0, none⟩ = some (.slice (some ⟨w.heap.size, 0, none⟩) l.length l.length) := by rw [cell_of_row W X 0 _ _ _ hXX]; rfl
    have c6 : W.cell? ⟨w.heap.size, x, none⟩ = some (.bool (r.getD x false)) := by rw [hcell x hxr, List.getD_eq_getElem?_getD, List.getElem?_eq_getElem hxr]; rfl
    have Hcell := Lib.hid hcell
    have Hfz := Lib.hid hfz
    have q6 : ((x : Nat) : Int) < ((l.length : Nat) : Int) := by omega
    have Hxx := Lib.hid hXX
    have hXl : X < W.heap.size := (Array.getElem?_eq_some_iff.1 hXX).1
    have b1 : W.cell? ⟨Bx, 0, none⟩ = some (.int .i64 l[x].op) := by rw [cell_of_row W Bx 0 _ _ _ hhx]; rfl
    have b2 : W.cell? ⟨Bx, 1, none⟩ = some (.int .i64 l[x].a) := by rw [cell_of_row W Bx 1 _ _ _ hhx]; rfl
    have b3 : W.cell? ⟨Bx, 2, none⟩ = some (.int .i64 l[x].b) := by rw [cell_of_row W Bx 2 _ _ _ hhx]; rfl
    have hgx : l.getD x ⟨0, 0, 0, 0⟩ = l[x] := getD_at hx
    obtain ⟨_, _, _, _, hob⟩ := Hok.out x hx
    have Hpre : Hid ((pre ++ [(⟨x, hx⟩ : Ix l.length)]).map (·.1) = backN l.length (pre ++ [(⟨x, hx⟩ : Ix l.length)]).length → UL l (x + 1) r ∧ x = l.length - (pre ++ [(⟨x, hx⟩ : Ix l.length)]).length) := Lib.hid fun h => by
      obtain ⟨h1, h2⟩ := back_snoc h
      have h2 : x = l.length - 1 - pre.length := h2
      refine ⟨?_, by rw [List.length_append, List.length_singleton]; omega⟩
      have := hU.out h1
      rwa [show l.length - pre.length = x + 1 by omega] at this
    generalize l[x] = t at *
    clear hO hW hfz hcell hhx hU hXX
    by_cases hr : r.getD x false = true
    · rw [hr] at c6
      by_cases h2 : 2 < t.op
      · obtain ⟨a0, la, b0, lb⟩ := hob (by omega)
        obtain ⟨a, ea⟩ := Int.eq_ofNat_of_zero_le a0
        obtain ⟨b, eb⟩ := Int.eq_ofNat_of_zero_le b0
        have hal : a < r.length := by omega
        have hbl : b < r.length := by omega
        rw [ea] at b2
        rw [eb] at b3
        have Hstep : Hid ((pre ++ [(⟨x, hx⟩ : Ix l.length)]).map (·.1) = backN l.length (pre ++ [(⟨x, hx⟩ : Ix l.length)]).length → UL l (l.length - (pre ++ [(⟨x, hx⟩ : Ix l.length)]).length) ((r.set a true).set b true)) := Lib.hid fun h => by
          obtain ⟨h1, h3⟩ := Hpre.out h
          rw [← h3]
          exact h1.step Hok.out hx hr (by rw [hgx]; exact h2) (by rw [hgx]; exact ea) (by rw [hgx]; exact eb)
        have Hca : Hid (W.drew.cell? ⟨w.heap.size, a, none⟩ = some (.bool r[a])) := Lib.hid (Hcell.out a hal)
        have Hfa : Hid (W.drew.frozen? ⟨w.heap.size, a, none⟩ = false) := Lib.hid (Hfz.out a)
        have HO1 := Lib.hid (OwnBo.set_ (w := W.drew) (HO.out.drew) hal true)
        obtain ⟨g8, eg8, _, _, _, hfz8, hcell8⟩ := OwnBo.at2 HO1.out (by rw [List.length_set, hrl]; omega)
        injection eg8 with eg8; injection eg8 with eg8
        subst eg8
        have Hcb := Lib.hid (hcell8 b (by rw [List.length_set]; exact hbl))
        have Hfb := Lib.hid (hfz8 b)
        have HOf := Lib.hid (OwnBo.set_ HO1.out (k := b) (by rw [List.length_set]; exact hbl) true)
        have HWf := Lib.hid ((HW.out.drew.setCell (p := ⟨w.heap.size, a, none⟩) (Nat.le_refl _) (.bool true)).setCell (p := ⟨w.heap.size, b, none⟩) (Nat.le_refl _) (.bool true))
        have Hkf : Hid (KeepsFrom W0.heap.size W ((W.drew.setCell ⟨w.heap.size, a, none⟩ (.bool true)).setCell ⟨w.heap.size, b, none⟩ (.bool true))) := Lib.hid (((KeepsOthers.drew W).from _).trans (((KeepsOthers.setCell _ _ _).from _).trans ((KeepsOthers.setCell _ _ _).from _)))
        have Hkb : Hid (KpB w.heap.size (X + 1) W ((W.drew.setCell ⟨w.heap.size, a, none⟩ (.bool true)).setCell ⟨w.heap.size, b, none⟩ (.bool true))) := Lib.hid ⟨((Below.refl w.heap.size W).drew.setCell (p := ⟨w.heap.size, a, none⟩) (Nat.le_refl _) (.bool true)).setCell (p := ⟨w.heap.size, b, none⟩) (Nat.le_refl _) (.bool true), fun v hv => by
          rw [World.cell?_setCell_far _ _ _ _ (by simp; omega), World.cell?_setCell_far _ _ _ _ (by simp; omega)]; exact hv⟩
        have Hxx2 : Hid (((W.drew.setCell ⟨w.heap.size, a, none⟩ (.bool true)).setCell ⟨w.heap.size, b, none⟩ (.bool true)).heap[X]? = some (.cells #[.slice (some ⟨w.heap.size, 0, none⟩) l.length l.length] 78 (0, 0))) := Lib.hid ((Below.heap_setCell _ _ _ X (by simp; omega)).trans ((Below.heap_setCell _ _ _ X (by simp; omega)).trans Hxx.out))
        have Hkp : Hid (∀ (w' : World) (k : Nat) (u : Value), (w'.cell? ⟨X, 0, none⟩ = some (.slice (some ⟨w.heap.size, 0, none⟩) l.length l.length) ∧ w'.cell? ⟨Bx, 1, none⟩ = some (.int .i64 (a : Nat)) ∧ w'.cell? ⟨Bx, 2, none⟩ = some (.int .i64 (b : Nat))) → ((w'.setCell ⟨w.heap.size, k, none⟩ u).cell? ⟨X, 0, none⟩ = some (.slice (some ⟨w.heap.size, 0, none⟩) l.length l.length) ∧ (w'.setCell ⟨w.heap.size, k, none⟩ u).cell? ⟨Bx, 1, none⟩ = some (.int .i64 (a : Nat)) ∧ (w'.setCell ⟨w.heap.size, k, none⟩ u).cell? ⟨Bx, 2, none⟩ = some (.int .i64 (b : Nat)))) := Lib.hid fun w' k u hs => by
          rw [World.cell?_setCell_far _ _ _ _ (by simp; omega), World.cell?_setCell_far _ _ _ _ (by simp; omega), World.cell?_setCell_far _ _ _ _ (by simp; omega)]; exact hs
        have qa : ((a : Nat) : Int) < ((l.length : Nat) : Int) := by omega
        have qb : ((b : Nat) : Int) < ((l.length : Nat) : Int) := by omega
        have hd : decide (2 < t.op) = true := decide_eq_true h2
        clear hfz8 hcell8 HO1 Hcell Hfz HO HW Hxx
        have Hxx := Hxx2
        clear Hxx2
        gi_wp2
        refine wpIn_region_held_drew (S := fun w' => w'.cell? ⟨X, 0, none⟩ = some (.slice (some ⟨w.heap.size, 0, none⟩) l.length l.length) ∧ w'.cell? ⟨Bx, 1, none⟩ = some (.int .i64 (a : Nat)) ∧ w'.cell? ⟨Bx, 2, none⟩ = some (.int .i64 (b : Nat))) (by kernel_rfl) (by kernel_rfl) (fun h => by obtain ⟨_, _, h⟩ := h; exact h) ⟨cX, b2, b3⟩ (fun hH0 => ?_)
        generalize W.drew = w0 at *
        refine wpAnyH_take (i := 0) (oi := { dst := some 27, op := Go.Op.load 78 (Go.Operand.tmp 3), type := 78, pos := "term.go:83", after := #[], guard := none }) rfl (by kernel_rfl) (by kernel_rfl) (by kernel_rfl) (fun _ _ _ h => h) (Or.inl ⟨by rfl, fun w hw => by (obtain ⟨p0, p1, p2⟩ := hw; go_simp; try with_reducible rfl)⟩) (by assumption) ?_
        try simp only [Act.put, List.setIfInBounds_toArray, List.set_cons_zero, List.set_cons_succ]
        refine wpAnyH_take (i := 1) (oi := { dst := some 28, op := Go.Op.fieldAddr 37 (Go.Operand.tmp 5) 1, type := 0, pos := "term.go:83", after := #[], guard := none }) rfl (by kernel_rfl) (by kernel_rfl) (by kernel_rfl) (fun _ _ _ h => h) (Or.inl ⟨by rfl, fun w hw => by (go_simp; try with_reducible rfl)⟩) (by assumption) ?_
        try simp only [Act.put, List.setIfInBounds_toArray, List.set_cons_zero, List.set_cons_succ]
        refine wpAnyH_take (i := 2) (oi := { dst := some 29, op := Go.Op.load 3 (Go.Operand.tmp 28), type := 3, pos := "term.go:83", after := #[{ on := 1, ground := Go.Ground.data }], guard := none }) rfl (by kernel_rfl) (by kernel_rfl) (by kernel_rfl) (fun _ _ _ h => h) (Or.inl ⟨by rfl, fun w hw => by (obtain ⟨p0, p1, p2⟩ := hw; go_simp; try with_reducible rfl)⟩) (by assumption) ?_
        try simp only [Act.put, List.setIfInBounds_toArray, List.set_cons_zero, List.set_cons_succ]
        refine wpAnyH_take (i := 3) (oi := { dst := some 30, op := Go.Op.load 78 (Go.Operand.tmp 3), type := 78, pos := "term.go:83", after := #[{ on := 7, ground := Go.Ground.gcOnly Go.Departure.lateStores }], guard := none }) rfl (by kernel_rfl) (by kernel_rfl) (by kernel_rfl) (fun _ _ _ h => h) (Or.inl ⟨by rfl, fun w hw => by (obtain ⟨p0, p1, p2⟩ := hw; go_simp; try with_reducible rfl)⟩) (by assumption) ?_
        try simp only [Act.put, List.setIfInBounds_toArray, List.set_cons_zero, List.set_cons_succ]
        refine wpAnyH_take (i := 4) (oi := { dst := some 31, op := Go.Op.fieldAddr 37 (Go.Operand.tmp 5) 2, type := 0, pos := "term.go:83", after := #[{ on := 7, ground := Go.Ground.gcOnly Go.Departure.lateStores }], guard := none }) rfl (by kernel_rfl) (by kernel_rfl) (by kernel_rfl) (fun _ _ _ h => h) (Or.inl ⟨by rfl, fun w hw => by (go_simp; try with_reducible rfl)⟩) (by assumption) ?_
        try simp only [Act.put, List.setIfInBounds_toArray, List.set_cons_zero, List.set_cons_succ]
        refine wpAnyH_take (i := 5) (oi := { dst := some 32, op := Go.Op.load 3 (Go.Operand.tmp 31), type := 3, pos := "term.go:83", after := #[{ on := 4, ground := Go.Ground.data }, { on := 7, ground := Go.Ground.gcOnly Go.Departure.lateStores }], guard := none }) rfl (by kernel_rfl) (by kernel_rfl) (by kernel_rfl) (fun _ _ _ h => h) (Or.inl ⟨by rfl, fun w hw => by (obtain ⟨p0, p1, p2⟩ := hw; go_simp; try with_reducible rfl)⟩) (by assumption) ?_
        try simp only [Act.put, List.setIfInBounds_toArray, List.set_cons_zero, List.set_cons_succ]
        refine wpAnyH_take (i := 6) (oi := { dst := some 33, op := Go.Op.indexAddr 78 (Go.Operand.tmp 27) (Go.Operand.tmp 29), type := 0, pos := "term.go:83", after := #[{ on := 0, ground := Go.Ground.data }, { on := 2, ground := Go.Ground.data }, { on := 0, ground := Go.Ground.phase }, { on := 1, ground := Go.Ground.phase }, { on := 2, ground := Go.Ground.phase }, { on := 3, ground := Go.Ground.textOnly Go.Departure.lateStores }, { on := 4, ground := Go.Ground.textOnly Go.Departure.lateStores }, { on := 5, ground := Go.Ground.textOnly Go.Departure.lateStores }], guard := none }) rfl (by kernel_rfl) (by kernel_rfl) (by kernel_rfl) (fun _ _ _ h => h) (Or.inl ⟨by rfl, fun w hw => by (go_simp; try with_reducible rfl)⟩) (by assumption) ?_
        try simp only [Act.put, List.setIfInBounds_toArray, List.set_cons_zero, List.set_cons_succ]
        refine wpAnyH_ready (rs := [7]) (by kernel_rfl) (by simp) ?_
        refine AllReadyH.cons (o := { dst := none, op := Go.Op.store 4 (Go.Operand.tmp 33) (Go.Operand.const (Go.Value.bool true)), type := 0, pos := "term.go:83", after := #[{ on := 6, ground := Go.Ground.data }, { on := 0, ground := Go.Ground.phase }, { on := 1, ground := Go.Ground.phase }, { on := 2, ground := Go.Ground.phase }, { on := 3, ground := Go.Ground.textOnly Go.Departure.lateStores }, { on := 4, ground := Go.Ground.textOnly Go.Departure.lateStores }, { on := 5, ground := Go.Ground.textOnly Go.Departure.lateStores }], guard := none }) rfl (fun K hK => ?_) AllReadyH.nil
        have cc := Hca.out
        have ff := Hfa.out
        go_simp
        clear cc ff
        refine hK.out _ _ (Hkp.out _ _ _ hH0) (fun hH1 => ?_)
        clear hK hH0
        have hH0 := hH1
        clear hH1
        try simp only [Act.put, List.setIfInBounds_toArray, List.set_cons_zero, List.set_cons_succ]
        refine wpAnyH_take (i := 8) (oi := { dst := some 34, op := Go.Op.indexAddr 78 (Go.Operand.tmp 30) (Go.Operand.tmp 32), type := 0, pos := "term.go:83", after := #[{ on := 3, ground := Go.Ground.data }, { on := 5, ground := Go.Ground.data }, { on := 0, ground := Go.Ground.phase }, { on := 1, ground := Go.Ground.phase }, { on := 2, ground := Go.Ground.phase }, { on := 3, ground := Go.Ground.phase }, { on := 4, ground := Go.Ground.phase }, { on := 5, ground := Go.Ground.phase }, { on := 6, ground := Go.Ground.phase }, { on := 7, ground := Go.Ground.phase }], guard := none }) rfl (by kernel_rfl) (by kernel_rfl) (by kernel_rfl) (fun _ _ _ h => h) (Or.inl ⟨by rfl, fun w hw => by (go_simp; try with_reducible rfl)⟩) (by assumption) ?_
        try simp only [Act.put, List.setIfInBounds_toArray, List.set_cons_zero, List.set_cons_succ]
        refine wpAnyH_ready (rs := [9]) (by kernel_rfl) (by simp) ?_
        refine AllReadyH.cons (o := { dst := none, op := Go.Op.store 4 (Go.Operand.tmp 34) (Go.Operand.const (Go.Value.bool true)), type := 0, pos := "term.go:83", after := #[{ on := 8, ground := Go.Ground.data }, { on := 7, ground := Go.Ground.chain }, { on := 0, ground := Go.Ground.phase }, { on := 1, ground := Go.Ground.phase }, { on := 2, ground := Go.Ground.phase }, { on := 3, ground := Go.Ground.phase }, { on := 4, ground := Go.Ground.phase }, { on := 5, ground := Go.Ground.phase }, { on := 6, ground := Go.Ground.phase }, { on := 7, ground := Go.Ground.phase }], guard := none }) rfl (fun K hK => ?_) AllReadyH.nil
        have cc := Hcb.out
        have ff := Hfb.out
        go_simp
        clear cc ff
        refine hK.out _ _ (Hkp.out _ _ _ hH0) (fun hH1 => ?_)
        clear hK hH0
        have hH0 := hH1
        clear hH1
        try simp only [Act.put, List.setIfInBounds_toArray, List.set_cons_zero, List.set_cons_succ]
        refine wpAnyH_done (by kernel_rfl) ?_ _
        clear hH0
        gi_wp2
        exact ⟨Hkf.out, Hkb.out, _, HOf.out, by rw [List.length_set, List.length_set]; exact hrl, Hstep, Hxx.out, HWf.out⟩
      · have Hst : Hid ((pre ++ [(⟨x, hx⟩ : Ix l.length)]).map (·.1) = backN l.length (pre ++ [(⟨x, hx⟩ : Ix l.length)]).length → UL l (l.length - (pre ++ [(⟨x, hx⟩ : Ix l.length)]).length) r) := Lib.hid fun h => by
          obtain ⟨h1, h3⟩ := Hpre.out h
          rw [← h3]
          exact h1.skip (fun _ => by rw [hgx]; exact h2)
        have hd : decide (2 < t.op) = false := decide_eq_false h2
        gi_wp2
        exact ⟨KeepsFrom.refl _ _, ⟨Below.refl _ _, fun _ h => h⟩, r, HO.out, hrl, Hst, Hxx.out, HW.out⟩
    · have hr' : r.getD x false = false := by simpa using hr
      rw [hr'] at c6
      have Hst : Hid ((pre ++ [(⟨x, hx⟩ : Ix l.length)]).map (·.1) = backN l.length (pre ++ [(⟨x, hx⟩ : Ix l.length)]).length → UL l (l.length - (pre ++ [(⟨x, hx⟩ : Ix l.length)]).length) r) := Lib.hid fun h => by
        obtain ⟨h1, h3⟩ := Hpre.out h
        rw [← h3]
        exact h1.skip (fun h => absurd h hr)
      gi_wp2
      exact ⟨KeepsFrom.refl _ _, ⟨Below.refl _ _, fun _ h => h⟩, r, HO.out, hrl, Hst, Hxx.out, HW.out⟩
  case done =>
    rintro D ys W hD hys ⟨r, hO, hrl, hU, hXX, hW⟩ hK
    have cX : W.cell? ⟨X, 0, none⟩ = some (.slice (some ⟨w.heap.size, 0, none⟩) l.length l.length) := by rw [cell_of_row W X 0 _ _ _ hXX]; rfl
    have hyl : ys.length = l.length := by rw [← List.length_map (f := fun x : Ix l.length => x.1), hys, backN_len]
    have HU := Lib.hid (hU.out (by rw [hyl]; exact hys))
    rw [hyl, Nat.sub_self] at HU
    have HO := Lib.hid hO
    have HW := Lib.hid hW
    clear hO hW hU hys
    refine hKK _ _ ?_
    go_wp2
    refine marks_one hK ⟨_, results_tmp rfl _ _ _, _, r, rfl, own_from HO.out (grownBy_putObj' W D _) (fun k e => by cases e; exact ⟨_, hK, rfl⟩), hrl, HU.out.all Hok.out h1, HW.out.grown (grownBy_putObj' W D _) (by have := HW.out.size; omega) (fun k e => by cases e; omega)⟩
  case stop =>
    rintro D c pre W _ _ h _
    exact h.elim
end Go.Proofs.Ytmglhppfdhphbaa
