/- way.Back walked. -/
import Derived.Test.YtljmignfbagomaaWalkB
import Derived.Test.YtljmignfbagomaaPairs
import Derived.Test.YtljmignfbagomaaRepeat
import Derived.BigQuiet
import Derived.Deep.QuietTactic
import Derived.BigGuardPart
namespace Go.Proofs.Ytljmignfbagomaa
open Go.RowKit Go.Shelf

theorem containsI_calls (A : Option Addr) (l : List Int) (cap : Nat) (x : Int) (w : World) (hA : RdI w A l) (hm : l.length ≤ 1000) :
    Calls Try.prog 54 #[.slice A l.length cap, .int .i64 x] w fun e w' => e = .returned (.bool (decide (x ∈ l))) ∧ w' = w := by
  by_cases h : 0 < l.length
  · obtain ⟨b, off, rfl, -, -⟩ := hA h
    have hc : ∀ j, j < l.length → w.cell? ⟨b, off + j, none⟩ = some (.int .i64 (l.getD j 0)) := fun j hj => by
      obtain ⟨b', off', e, _, hcell⟩ := RdI.at1 hA hj
      injection e with e; injection e with e1 e2
      subst e1 e2
      rw [List.getD_eq_getElem?_getD, List.getElem?_eq_getElem hj]
      exact hcell
    refine (Try.slices_Contains_int b off l.length cap l x w (Nat.le_refl _) (by omega) hc).mono ?_
    rintro e w' ⟨rfl, rfl⟩
    refine ⟨ret_bool ?_, rfl⟩
    rw [List.take_length]
    simp
  · have : l = [] := List.eq_nil_of_length_eq_zero (by omega)
    subst this
    refine (Try.slices_Contains_int_empty A cap x w).mono ?_
    rintro e w' ⟨rfl, rfl⟩
    exact ⟨ret_bool (by simp), rfl⟩
theorem mulW : ∀ (x y : Nat), x < 100 → y < 100 → ∀ w, Calls Try.prog 65 #[.int .u64 x, .int .u64 y] w fun e w' => e = .returned (.tuple #[.int .u64 0, .int .u64 ((x * y : Nat) : Int)]) ∧ w' = w := fun x y hx hy w => by
  have hxy : x * y < 10000 := Nat.lt_of_lt_of_le (Nat.mul_lt_mul'' hx hy) (by decide)
  refine (Try.bits_Mul x y (by omega) (by omega) w).mono ?_
  rintro e w' ⟨rfl, rfl⟩
  rw [Nat.div_eq_of_lt (by omega), Nat.mod_eq_of_lt (by omega)]
  exact ⟨rfl, rfl⟩
/-- At what place a node is left, or -1. -/
def posI (l : List Nat) (x : Nat) : Int := if x ∈ l then (posD l x : Int) else -1
def atR (n : Nat) (l : List Nat) (k : Nat) : List Int := (List.range n).map fun x => if x ∈ l.take k then (posD l x : Int) else -1
theorem atR_len (n : Nat) (l : List Nat) (k : Nat) : (atR n l k).length = n := by simp [atR]
theorem atR_zero (n : Nat) (l : List Nat) : atR n l 0 = List.replicate n (-1) := by
  unfold atR
  rw [show (fun x => if x ∈ l.take 0 then (posD l x : Int) else -1) = fun _ => -1 from by funext x; rw [if_neg (by simp)], List.map_const', List.length_range]
theorem map_range_setW {α : Type} (n k : Nat) (f : Nat → α) (x : α) : ((List.range n).map f).set k x = (List.range n).map fun i => if i = k then x else f i := by
  refine List.ext_getElem? fun i => ?_
  rw [List.getElem?_set, List.getElem?_map, List.getElem?_map]
  by_cases e : k = i
  · subst e
    rw [if_pos rfl]
    by_cases h : k < n
    · rw [if_pos (by simpa using h), List.getElem?_range h]; simp
    · rw [if_neg (by simpa using h), List.getElem?_eq_none (by simp; omega)]; rfl
  · rw [if_neg e]
    by_cases h : i < n
    · rw [List.getElem?_range h]; simp [Ne.symm e]
    · rw [List.getElem?_eq_none (by simp; omega)]; rfl
theorem posD_get {l : List Nat} (hn : l.Nodup) {k : Nat} (hk : k < l.length) : posD l l[k] = k := by
  have h1 := posD_split (x := l[k]) hn (u := l.take k) (v := l.drop (k + 1)) (by rw [← List.drop_eq_getElem_cons hk, List.take_append_drop])
  rw [h1, List.length_take]; omega
theorem atR_set {n : Nat} {l : List Nat} (hn : l.Nodup) {k : Nat} (hk : k < l.length) : (atR n l k).set l[k] (k : Int) = atR n l (k + 1) := by
  unfold atR
  rw [map_range_setW]
  refine List.map_congr_left fun i _ => ?_
  have hm : i ∈ l.take (k + 1) ↔ i ∈ l.take k ∨ i = l[k] := by rw [List.take_succ_eq_append_getElem hk, List.mem_append, List.mem_singleton]
  by_cases e : i = l[k]
  · rw [if_pos e, if_pos (hm.2 (.inr e)), e, posD_get hn hk]
  · rw [if_neg e]
    by_cases h : i ∈ l.take k
    · rw [if_pos h, if_pos (hm.2 (.inl h))]
    · rw [if_neg h, if_neg (fun h2 => (hm.1 h2).elim h e)]
theorem atR_all {n : Nat} {l : List Nat} {x : Nat} (h : x < (atR n l l.length).length) : (atR n l l.length)[x] = posI l x := by
  simp [atR, posI]
/-- Does a pair go back? -/
def BkP (ls : List (List Int)) (l : List Nat) (i j : Nat) : Prop := 0 ≤ posI l i ∧ posI l i ≤ posI l j ∧ (j : Int) ∈ ls.getD i []
structure BkI (ls : List (List Int)) (l : List Nat) (n ci cj : Nat) (bk : List (Int × Int)) : Prop where
  len : bk.length ≤ ci * 8 + cj
  mem : ∀ p, p ∈ bk ↔ ∃ i j : Nat, p = ((i : Int), (j : Int)) ∧ (i < ci ∨ (i = ci ∧ j < cj)) ∧ j < n ∧ BkP ls l i j
theorem BkI.start (ls : List (List Int)) (l : List Nat) (n : Nat) : BkI ls l n 0 0 [] := ⟨by simp, fun p => ⟨fun h => by simp at h, fun ⟨i, j, _, h, _⟩ => by omega⟩⟩
theorem BkI.no {ls : List (List Int)} {l : List Nat} {n ci cj : Nat} {bk : List (Int × Int)} (h : BkI ls l n ci cj bk) (hp : ¬ BkP ls l ci cj) : BkI ls l n ci (cj + 1) bk := by
  refine ⟨by have := h.len; omega, fun p => (h.mem p).trans ⟨fun ⟨i, j, e, h1, h2⟩ => ⟨i, j, e, by omega, h2⟩, fun ⟨i, j, e, h1, h2⟩ => ⟨i, j, e, ?_, h2⟩⟩⟩
  rcases h1 with h1 | ⟨h1, h3⟩
  · exact .inl h1
  · by_cases ej : j = cj
    · subst h1 ej; exact absurd h2.2 hp
    · exact .inr ⟨h1, by omega⟩
theorem BkI.yes {ls : List (List Int)} {l : List Nat} {n ci cj : Nat} {bk : List (Int × Int)} (h : BkI ls l n ci cj bk) (hp : BkP ls l ci cj) (hj : cj < n) : BkI ls l n ci (cj + 1) (bk ++ [((ci : Int), (cj : Int))]) := by
  refine ⟨by have := h.len; simp; omega, fun p => ?_⟩
  rw [List.mem_append, h.mem p]
  constructor
  · rintro (⟨i, j, e, h1, h2⟩ | hx)
    · exact ⟨i, j, e, by omega, h2⟩
    · simp at hx
      exact ⟨ci, cj, hx, by omega, hj, hp⟩
  · rintro ⟨i, j, e, h1, h2⟩
    by_cases ec : i = ci ∧ j = cj
    · obtain ⟨rfl, rfl⟩ := ec
      exact .inr (by simp [e])
    · exact .inl ⟨i, j, e, by omega, h2⟩
theorem BkI.row {ls : List (List Int)} {l : List Nat} {n ci : Nat} {bk : List (Int × Int)} (h : BkI ls l n ci n bk) (hn : n ≤ 8) : BkI ls l n (ci + 1) 0 bk :=
  ⟨by have := h.len; omega, fun p => (h.mem p).trans ⟨fun ⟨i, j, e, h1, h2⟩ => ⟨i, j, e, by omega, h2⟩, fun ⟨i, j, e, h1, h2⟩ => ⟨i, j, e, by omega, h2⟩⟩⟩
abbrev OwnP (w : World) (base : Nat) (v : Value) (l : List (Int × Int)) : Prop := Own pairCells 2 w base 51 v l
theorem pairCells_len (x : Int × Int) : (pairCells x).length = 2 := rfl
theorem pairCells_one (x : Int × Int) : ∀ u ∈ pairCells x, u.oneCell' = true := by intro u hu; simp [pairCells] at hu; rcases hu with rfl | rfl <;> rfl
theorem infoPair : (Try.prog.info? 51).map (fun i => (i.zero, i.size, i.bytes)) = some (some (.agg #[.int .i64 0, .int .i64 0]), 2, 16) := by kernel_rfl
theorem pair_new (w : World) (x y : Int) (s : Nat) (hs : w.heap.size = s) : RdP (w.alloc (.cells #[.int .i64 x, .int .i64 y] 51)) (some ⟨s, 0, none⟩) [(x, y)] :=
  rd_new (f := pairCells) w [(x, y)] _ _ s hs fun k p hk j hj => by
    obtain ⟨hk0, hx⟩ := List.getElem?_eq_some_iff.1 hk
    have hk1 : k = 0 := by simp at hk0; exact hk0
    subst hk1
    simp at hx
    subst hx
    match j, hj with
    | 0, _ => rfl
    | 1, _ => rfl
theorem OwnP.rd {w : World} {base : Nat} {v : Value} {l : List (Int × Int)} (h : OwnP w base v l) : ∃ A cap, v = .slice A l.length cap ∧ RdP w A l :=
  let ⟨A, cap, h1, h2, _⟩ := h.form pairCells_len
  ⟨A, cap, h1, h2⟩
def BackE (ls : List (List Int)) (w : World) (e : Ending) (w' : World) : Prop :=
  (wayErr ls ≠ 0 ∧ (∃ v, e = .returned (.tuple #[v, .int .i64 (wayErr ls)])) ∧ Below w.heap.size w w') ∨
  (wayErr ls = 0 ∧ ∃ v bk, e = .returned (.tuple #[v, .int .i64 0]) ∧ OwnP w' w.heap.size v bk ∧ bk.length ≤ 64 ∧ Left (EdW ls) ls.length (walkL ls) ∧ (∀ p, p ∈ bk ↔ ∃ i j : Nat, p = ((i : Int), (j : Int)) ∧ i < ls.length ∧ j < ls.length ∧ BkP ls (walkL ls) i j) ∧ Below w.heap.size w w')
set_option maxRecDepth 100000 in
set_option maxHeartbeats 8000000 in
theorem back_calls (A : Option Addr) (ls : List (List Int)) (cap : Nat) (w : World) (hA : RdN w A ls) (hm : ls.length ≤ maxLen) :
    Calls Try.prog 32 #[.slice A ls.length cap] w (BackE ls w) := by
  have Hc := Lib.hid (check_calls A ls cap w hA hm)
  have HA := Lib.hid hA
  clear hA hm
  by_cases h0 : wayErr ls = 0
  case neg =>
    have H0 := Lib.hid h0
    have q : (wayErr ls != 0) = true := by rw [bne_iff_ne]; exact h0
    obtain ⟨x, hx⟩ : ∃ x, x = wayErr ls := ⟨_, rfl⟩
    rw [← hx] at q Hc
    have Hx := Lib.hid hx
    clear h0 hx
    go_enter Try.func32, Try.ntmps32
    go_wp2_with fail
    refine Hc.out.mono ?_
    rintro e w1 ⟨rfl, hW⟩
    have HW := Lib.hid hW
    clear hW
    go_wp2
    go_ret2
    exact .inl ⟨H0.out, ⟨_, by rw [← Hx.out]; rfl⟩, HW.out⟩
  rw [h0] at Hc
  obtain ⟨h1, h8, hv⟩ := wayErr_ok h0
  have H0 := Lib.hid h0
  have HV := Lib.hid hv
  have Hw := Lib.hid (fun w' (h : Below w.heap.size w w') => walk_calls A ls cap w' (HA.out.below h) h1 h8 hv)
  clear h0 hv
  go_enter Try.func32, Try.ntmps32
  go_wp2_with fail
  refine Hc.out.mono ?_
  rintro e w1 ⟨rfl, hW⟩
  have HW := Lib.hid hW
  have Hw1 := Lib.hid (Hw.out _ hW)
  clear hW Hw
  go_wp2_with fail
  refine Hw1.out.mono ?_
  rintro e w2 ⟨v, rfl, hO, hL, hW2⟩
  obtain ⟨l, hl⟩ : ∃ l, l = walkL ls := ⟨_, rfl⟩
  rw [← hl] at hO hL
  have Hl := Lib.hid hl
  have HW2 := Lib.hid (HW.out.trans (hW2.mono HW.out.size))
  have HL := Lib.hid hL
  obtain ⟨A5, c5, rfl, hR5⟩ := OwnI.rd hO
  have hll : l.length ≤ ls.length := by
    have := nodup_sub_lenW (m := List.range ls.length) hL.nodup fun x hx => List.mem_range.2 (hL.lt x hx)
    simpa using this
  have HR5 := Lib.hid hR5
  have hnl : (natI l).length = l.length := by simp [natI]
  rw [hnl]
  have hz2 := HW2.out.size
  obtain ⟨w3, hw3⟩ : ∃ w3, w3 = w2.alloc (.cells #[.int .i64 (-1)] 3) := ⟨_, rfl⟩
  have hs3 : w3.heap.size = w2.heap.size + 1 := by rw [hw3]; simp
  have hB3 : Below w2.heap.size w2 w3 := by rw [hw3]; exact (Below.refl _ _).alloc (Nat.le_refl _) _
  have Hrep := Lib.hid (repeat_calls mulW w2.heap.size (-1) ls.length w3 (by rw [hw3]; exact cell_new _ _ _ _ rfl 0) (by omega) h1 (by omega))
  have HB3 := Lib.hid hB3
  clear hl hO hL hW2 hR5 Hw1 hnl hB3
  go_wp2_with fail
  rw [← hw3]
  clear hw3
  refine Hrep.out.mono ?_
  rintro e w4 ⟨v6, rfl, hO6, hW4⟩
  obtain ⟨g6, c6, rfl, hg6, hg6w, -⟩ := OwnI.at_ hO6 (by simp; omega)
  rw [List.length_replicate] at hO6 ⊢
  have hB4 := HB3.out.trans (hW4.mono (by omega))
  have HB4 := Lib.hid hB4
  have HO6 : Hid (OwnI w4 w3.heap.size 3 (.slice (some ⟨g6, 0, none⟩) ls.length c6) (atR ls.length l 0)) := Lib.hid (by rw [atR_zero]; exact hO6)
  have hz4 := hB4.size
  clear hO6 hW4 hB4 Hrep
  go_wp2
  go_loopw [26] (fun i wr => ∃ k : Nat, k ≤ l.length ∧ i = .int .i64 k ∧ OwnI wr w3.heap.size 3 (.slice (some ⟨g6, 0, none⟩) ls.length c6) (atR ls.length l k) ∧ Below w2.heap.size w2 wr) (fun i _ => l.length - (intOf i).toNat)
  case atStart => exact ⟨0, Nat.zero_le _, rfl, HO6.out, HB4.out⟩
  case round =>
    clear HO6 HB4
    obtain ⟨k, hk, rfl, hO, hW⟩ := hrel
    by_cases hlt : k < l.length
    · obtain ⟨b, off, rfl, hb, c0⟩ := RdI.at1 (Rd.below HR5.out hW) (k := k) (by simp [natI]; exact hlt)
      have e0 : (natI l)[k]'(by simp [natI]; exact hlt) = ((l[k] : Nat) : Int) := by simp [natI]
      rw [e0] at c0
      have hx := HL.out.lt _ (List.getElem_mem hlt)
      have HOs := Lib.hid (OwnI.set_ hO (k := l[k]) (by rw [atR_len]; exact hx) (k : Int))
      rw [atR_set HL.out.nodup hlt] at HOs
      obtain ⟨g, eg, hg1, hg2, _, hfz, hcell⟩ := OwnI.at2 hO (by rw [atR_len]; omega)
      injection eg with eg; injection eg with eg
      subst eg
      have f5 := hfz l[k]
      have c5' := hcell l[k] (by rw [atR_len]; exact hx)
      have HWs := Lib.hid (hW.setCell (p := ⟨g6, l[k], none⟩) (by show w2.heap.size ≤ g6; omega) (.int .i64 (k : Nat)))
      have q1 : ((k : Nat) : Int) < ((l.length : Nat) : Int) := by omega
      have q2 : ((l[k] : Nat) : Int) < ((ls.length : Nat) : Int) := by omega
      obtain ⟨z, hz⟩ : ∃ z, z = (atR ls.length l k)[l[k]]'(by rw [atR_len]; exact hx) := ⟨_, rfl⟩
      rw [← hz] at c5'
      clear hO hW hfz hcell e0 hz
      generalize l[k] = lk at *
      go_wp2
      go_roundw
      case rel => exact ⟨k + 1, by omega, by go_num, HOs.out, HWs.out⟩
      case measure => simp [intOf]; omega
    · have hke : k = l.length := by omega
      subst hke
      obtain ⟨A6, c6', e6, hR6⟩ := OwnI.rd hO
      injection e6 with e6a e6b e6c
      have HR6 : Hid (RdI wr (some ⟨g6, 0, none⟩) (atR ls.length l l.length)) := Lib.hid (by rw [e6a]; exact hR6)
      have HW9 := Lib.hid (HW2.out.trans (hW.mono hz2))
      have hzr := HW9.out.size
      have hA9 := HA.out.below HW9.out
      have HA9 := Lib.hid hA9
      clear hO hW e6a e6b e6c hR6 hA9
      go_wp2
      obtain ⟨w5, rfl⟩ : ∃ w5 : World, w5 = wr := ⟨_, rfl⟩
      go_loopw [9, 38] (fun s9 i wr => ∃ (ci : Nat) (bk : List (Int × Int)), ci ≤ ls.length ∧ i = .int .i64 ci ∧ OwnP wr w5.heap.size s9 bk ∧ Hid (BkI ls l ls.length ci 0 bk) ∧ Below w5.heap.size w5 wr) (fun _ i _ => ls.length - (intOf i).toNat)
      case atStart => exact ⟨0, [], Nat.zero_le _, rfl, Own.nil_ _ _ _, Lib.hid (BkI.start _ _ _), Below.refl _ _⟩
      case round =>
        obtain ⟨w6, rfl⟩ : ∃ w6 : World, w6 = wr := ⟨_, rfl⟩
        obtain ⟨ci, bk, hci, rfl, hO, HI, hW⟩ := hrel
        have HO := Lib.hid hO
        have HW6 := Lib.hid hW
        by_cases hlt : ci < ls.length
        · obtain ⟨b, off, A1, cap1, rfl, hb, c0', hR⟩ := RdN.at_ HA9.out hlt
          have c0 := (hW.cell (p := ⟨b, off + ci, none⟩) hb).trans c0'
          have q1 : ((ci : Nat) : Int) < ((ls.length : Nat) : Int) := by omega
          have HR1 := Lib.hid hR
          have hl3 := (HV.out _ (List.getElem_mem hlt)).1
          have Hgx : Hid (ls.getD ci [] = ls[ci]) := Lib.hid (by rw [List.getD_eq_getElem?_getD, List.getElem?_eq_getElem hlt]; rfl)
          clear hO hW hR c0'
          generalize ls[ci] = nx at *
          go_wp2
          go_loopw [9, 45] (fun s9 i wr => ∃ (cj : Nat) (bk : List (Int × Int)), cj ≤ ls.length ∧ i = .int .i64 cj ∧ OwnP wr w5.heap.size s9 bk ∧ Hid (BkI ls l ls.length ci cj bk) ∧ Below w5.heap.size w5 wr) (fun _ i _ => ls.length - (intOf i).toNat)
          case atStart => exact ⟨0, bk, Nat.zero_le _, rfl, HO.out, HI, HW6.out⟩
          case round =>
            clear HO HI HW6 c0
            obtain ⟨cj, bk, hcj, rfl, hO, HI, hW⟩ := hrel
            have HO := Lib.hid hO
            have HWr := Lib.hid hW
            have hwr := hW.size
            by_cases hlj : cj < ls.length
            · have q2 : ((cj : Nat) : Int) < ((ls.length : Nat) : Int) := by omega
              obtain ⟨b6, o6, e6, hb6, d0⟩ := RdI.at1 (Rd.below HR6.out hW) (k := ci) (by rw [atR_len]; exact hlt)
              injection e6 with e6; injection e6 with e6a e6b
              subst e6a e6b
              obtain ⟨b7, o7, e7, hb7, d1⟩ := RdI.at1 (Rd.below HR6.out hW) (k := cj) (by rw [atR_len]; exact hlj)
              injection e7 with e7; injection e7 with e7a e7b
              subst e7a e7b
              rw [atR_all, Nat.zero_add] at d0 d1
              have Hcon := Lib.hid (fun nq => containsI_calls A1 nx cap1 (cj : Int) (wr.drewN nq) (Rd.drewN (Rd.below HR1.out HWr.out) nq) (by omega))
              have Hbp : Hid (BkP ls l ci cj ↔ 0 ≤ posI l ci ∧ posI l ci ≤ posI l cj ∧ (cj : Int) ∈ nx) := Lib.hid (by unfold BkP; rw [Hgx.out])
              have Hno := Lib.hid HI.out.no
              have Hyes := Lib.hid HI.out.yes
              have hbl : bk.length ≤ 128 := by have := HI.out.len; omega
              have HWd := Lib.hid (fun nq => below_dN HWr.out nq)
              have HOd := Lib.hid (fun nq => HO.out.drewN nq)
              clear hO hW HI
              generalize posI l ci = x at *
              generalize posI l cj = y at *
              by_cases hx : 0 ≤ x
              · by_cases hxy : x ≤ y
                · have qx : decide (x ≥ 0) = true := decide_eq_true hx
                  have qxy : decide (x ≤ y) = true := decide_eq_true hxy
                  cases hd : decide ((cj : Int) ∈ nx)
                  · have HF := Lib.hid (Hno.out (fun h => by have := (Hbp.out.1 h).2.2; rw [decide_eq_false_iff_not] at hd; exact hd this))
                    rw [hd] at Hcon
                    clear hd Hbp Hno Hyes
                    go_wp2
                    go_quiet ((go_at_call 54; exact Calls.quiet_of_same (Hcon.out _)))
                    go_wp2
                    go_roundw
                    case rel => exact ⟨cj + 1, bk, by omega, by go_num, HOd.out _, HF, HWd.out _⟩
                    case measure => simp [intOf]; omega
                  · have HF := Lib.hid (Hyes.out (Hbp.out.2 ⟨hx, hxy, by rwa [decide_eq_true_eq] at hd⟩) hlj)
                    rw [hd] at Hcon
                    clear hd Hbp Hno Hyes
                    go_wp2
                    go_quiet ((go_at_call 54; exact Calls.quiet_of_same (Hcon.out _)))
                    obtain ⟨w8, hw8⟩ : ∃ w8, w8 = wr.drewN nq := ⟨_, rfl⟩
                    have HO8 : Hid (OwnP w8 w5.heap.size _ bk) := Lib.hid (by rw [hw8]; exact HOd.out nq)
                    have HW8 : Hid (Below w5.heap.size w5 w8) := Lib.hid (by rw [hw8]; exact HWd.out nq)
                    have hz8 := HW8.out.size
                    rw [← hw8]
                    clear hw8
                    have HOa := Lib.hid (HO8.out.alloc (.cells #[.int .i64 (ci : Nat), .int .i64 (cj : Nat)] 51))
                    have HWa := Lib.hid (HW8.out.alloc hz8 (.cells #[.int .i64 (ci : Nat), .int .i64 (cj : Nat)] 51))
                    have HRa := Lib.hid (pair_new w8 (ci : Int) (cj : Int) w8.heap.size rfl)
                    obtain ⟨v9, w9, hrun, hown, hgrow, -⟩ := run_appN (P := Try.prog) 45 45 pairCells 2 16 51 (.agg #[.int .i64 0, .int .i64 0]) Try.underlying45 infoPair rfl (by decide) pairCells_len pairCells_one w5.heap.size _ bk HOa.out (some ⟨w8.heap.size, 0, none⟩) [((ci : Int), (cj : Int))] 1 HRa.out (by simp [maxLen]; omega) (by simp; omega) (by simp; omega)
                    have Hrun := Lib.hid hrun
                    have HO9 := Lib.hid hown
                    have HW9' := Lib.hid (below_own HWa.out hgrow HOa.out (Nat.le_refl _) (by simp; omega))
                    clear hrun hown hgrow HRa HOa HWa
                    go_wp2_with (at_builtin; refine wpList_app_run rfl 45 _ _ rfl rfl rfl Hrun.out ?_)
                    go_roundw
                    case rel => exact ⟨cj + 1, _, by omega, by go_num, HO9.out, HF, HW9'.out⟩
                    case measure => simp [intOf]; omega
                · have qx : decide (x ≥ 0) = true := decide_eq_true hx
                  have qxy : decide (x ≤ y) = false := decide_eq_false hxy
                  have HF := Lib.hid (Hno.out (fun h => hxy (Hbp.out.1 h).2.1))
                  clear Hbp Hno Hyes
                  go_wp2
                  go_quiet (fail)
                  go_wp2
                  go_roundw
                  case rel => exact ⟨cj + 1, bk, by omega, by go_num, HOd.out _, HF, HWd.out _⟩
                  case measure => simp [intOf]; omega
              · have qx : decide (x ≥ 0) = false := decide_eq_false hx
                have HF := Lib.hid (Hno.out (fun h => hx (Hbp.out.1 h).1))
                clear Hbp Hno Hyes
                go_wp2
                go_quiet (fail)
                go_wp2
                go_roundw
                case rel => exact ⟨cj + 1, bk, by omega, by go_num, HOd.out _, HF, HWd.out _⟩
                case measure => simp [intOf]; omega
            · have hce : cj = ls.length := by omega
              subst hce
              have HF := Lib.hid (HI.out.row h8)
              clear hO hW HI
              go_wp2
              go_roundw
              case rel => exact ⟨ci + 1, bk, by omega, by go_num, HO.out, HF, HWr.out⟩
              case measure => simp [intOf]; omega
        · have hce : ci = ls.length := by omega
          have HF := Lib.hid HI.out
          clear hO hW HI
          go_wp2
          go_ret2
          refine .inr ⟨H0.out, _, bk, rfl, HO.out.base_ hzr, by have := HF.out.len; omega, by rw [← Hl.out]; exact HL.out, fun p => (HF.out.mem p).trans ?_, HW9.out.trans (HW6.out.mono hzr)⟩
          rw [← Hl.out]
          constructor
          · rintro ⟨i, j, e, hh, h3, h4⟩; exact ⟨i, j, e, by omega, h3, h4⟩
          · rintro ⟨i, j, e, hh, h3, h4⟩; exact ⟨i, j, e, by omega, h3, h4⟩
end Go.Proofs.Ytljmignfbagomaa
