/- codemasonref.ObjectsCheck walked. -/
import Derived.Test.YtiphhadhbokgmaaLnkE
import Derived.BigGuardPart
namespace Go.Proofs.Ytiphhadhbokgmaa
set_option maxRecDepth 100000
open Go.RowKit Go.Maps

def nm (l : List Ob) (i k : Nat) : Option Int := (l[i]?.bind fun o => o.has[k]?).map (·.1)
def Free (l : List Ob) (i k : Nat) : Prop := ∀ x, nm l i k = some x → ∀ j m, nm l j m = some x → j = i ∧ m = k
theorem nm_at {l : List Ob} {i k : Nat} (hi : i < l.length) (hk : k < l[i].has.length) : nm l i k = some l[i].has[k].1 := by
  unfold nm
  rw [List.getElem?_eq_getElem hi]
  simp [hk]
theorem nm_none {l : List Ob} {i k : Nat} (h : ∀ hi : i < l.length, l[i].has.length ≤ k) : nm l i k = none := by
  unfold nm
  by_cases hi : i < l.length
  · rw [List.getElem?_eq_getElem hi]
    simp [h hi]
  · rw [List.getElem?_eq_none (by omega)]; rfl
theorem nm_some {l : List Ob} {i k : Nat} {x : Int} (h : nm l i k = some x) : ∃ (hi : i < l.length) (hk : k < l[i].has.length), x = l[i].has[k].1 := by
  by_cases hi : i < l.length
  · by_cases hk : k < l[i].has.length
    · rw [nm_at hi hk] at h
      injection h with h
      exact ⟨hi, hk, h.symm⟩
    · rw [nm_none (fun _ => by omega)] at h; cases h
  · rw [nm_none (fun h => absurd h hi)] at h; cases h
theorem names_A : ∀ (l : List Ob) (i a : Nat), (entsA i a l).map (·.1) = (l.map fun o => o.has.map (·.1)).flatten
  | [], _, _ => rfl
  | o :: r, i, a => by
    rw [entsA, List.map_append, names_A r, List.map_cons, List.flatten_cons]
    unfold entsO
    rw [List.map_map]; rfl
theorem once_iff {l : List Ob} : OnceL l ↔ ∀ i k, Free l i k := by
  unfold OnceL entsL
  rw [names_A]
  unfold List.Nodup
  rw [List.pairwise_flatten]
  constructor
  · rintro ⟨h1, h2⟩ i k x hx j m hy
    obtain ⟨hi, hk, e1⟩ := nm_some hx
    obtain ⟨hj, hm, e2⟩ := nm_some hy
    have hne : ∀ (i j : Nat) (hi : i < l.length) (hj : j < l.length) (k m : Nat) (hk : k < l[i].has.length) (hm : m < l[j].has.length), i < j → l[i].has[k].1 ≠ l[j].has[m].1 := fun i j hi hj k m hk hm hij => by
      have := List.pairwise_iff_getElem.1 h2 i j (by simpa using hi) (by simpa using hj) hij
      refine this _ ?_ _ ?_
      · rw [List.getElem_map]; exact List.mem_map.2 ⟨_, List.getElem_mem hk, rfl⟩
      · rw [List.getElem_map]; exact List.mem_map.2 ⟨_, List.getElem_mem hm, rfl⟩
    rcases Nat.lt_trichotomy i j with h | h | h
    · exact absurd (e1.symm.trans e2) (hne i j hi hj k m hk hm h)
    · subst h
      refine ⟨rfl, ?_⟩
      have hp := h1 _ (List.mem_map.2 ⟨l[i], List.getElem_mem hi, rfl⟩)
      have hq : ∀ (k m : Nat) (hk : k < l[i].has.length) (hm : m < l[i].has.length), k < m → l[i].has[k].1 ≠ l[i].has[m].1 := fun k m hk hm hkm => by
        have := List.pairwise_iff_getElem.1 hp k m (by simpa using hk) (by simpa using hm) hkm
        simpa using this
      rcases Nat.lt_trichotomy k m with h | h | h
      · exact absurd (e1.symm.trans e2) (hq k m hk hm h)
      · exact h.symm
      · exact absurd (e2.symm.trans e1) (hq m k hm hk h)
    · exact absurd (e2.symm.trans e1) (hne j i hj hi m k hm hk h)
  · intro h
    refine ⟨fun L hL => ?_, List.pairwise_iff_getElem.2 fun i j hi hj hij x hx y hy e => ?_⟩
    · obtain ⟨o, ho, rfl⟩ := List.mem_map.1 hL
      obtain ⟨i, hi, rfl⟩ := List.getElem_of_mem ho
      refine List.pairwise_iff_getElem.2 fun k m hk hm hkm e => ?_
      have hk' : k < l[i].has.length := by simpa using hk
      have hm' : m < l[i].has.length := by simpa using hm
      rw [List.getElem_map, List.getElem_map] at e
      have := (h i m _ (nm_at hi hm') i k (by rw [nm_at hi hk', e])).2
      omega
    · have hi' : i < l.length := by simpa using hi
      have hj' : j < l.length := by simpa using hj
      rw [List.getElem_map] at hx hy
      obtain ⟨p, hp, rfl⟩ := List.mem_map.1 hx
      obtain ⟨q, hq, rfl⟩ := List.mem_map.1 hy
      obtain ⟨k, hk, rfl⟩ := List.getElem_of_mem hp
      obtain ⟨m, hm, rfl⟩ := List.getElem_of_mem hq
      have := (h j m _ (nm_at hj' hm) i k (by rw [nm_at hi' hk, e])).1
      omega
set_option maxHeartbeats 8000000 in
theorem objCheck_calls (A : Option Addr) (l : List Ob) (cap : Nat) (w : World) (hA : RdOb w A l) (hm : l.length ≤ maxLen) (hml : ∀ o ∈ l, o.bytes.length ≤ maxLen ∧ o.has.length ≤ maxLen ∧ o.wants.length ≤ maxLen) :
    Calls Try.prog 23 #[.slice A l.length cap] w fun e w' => e = .returned (.int .i64 (obErr l)) ∧ Below w.heap.size w w' := by
  have HA := Lib.hid hA
  have Hml := Lib.hid hml
  clear hA hml
  unfold maxLen at hm
  obtain ⟨E, hE⟩ : ∃ E, E = obErr l := ⟨_, rfl⟩
  rw [← hE]
  by_cases h5 : 5 < l.length
  · rw [obErr_1 (.inl h5)] at hE
    subst hE
    have q1 : (5 : Int) < ((l.length : Nat) : Int) := by omega
    have q2 : decide (((l.length : Nat) : Int) > 5) = true := decide_eq_true (by omega)
    go_enter Try.func23, Try.ntmps23
    go_wp2
    go_ret
    exact ⟨rfl, Below.refl _ _⟩
  have H5 := Lib.hid h5
  have HE := Lib.hid hE
  clear hE
  have q1 : ((l.length : Nat) : Int) ≤ 5 := by omega
  have q2 : decide (((l.length : Nat) : Int) > 5) = false := decide_eq_false (by omega)
  go_enter Try.func23, Try.ntmps23
  go_wp2
  go_loopw [22] (fun i wr => ∃ k : Nat, k ≤ l.length ∧ i = .int .i64 k ∧ Hid (∀ o ∈ l.take k, bigO o = false) ∧ Hid (Below w.heap.size w wr)) (fun i _ => l.length - (intOf i).toNat)
  case atStart => exact ⟨0, Nat.zero_le _, rfl, Lib.hid (fun o ho => by simp at ho), Lib.hid (Below.refl _ _)⟩
  case round =>
    obtain ⟨k, hk, rfl, HQ, HW⟩ := hrel
    have hws := HW.out.size
    by_cases hlt : k < l.length
    · obtain ⟨b, off, A1, c1, A2, c2, A3, c3, rfl, hb, d0, d1, d2, -⟩ := RdOb.at_ (HA.out.below HW.out) hlt
      have hlt1 : ((k : Nat) : Int) < ((l.length : Nat) : Int) := by omega
      have HQn := Lib.hid (any_take hlt HQ.out)
      have hmem := List.getElem_mem hlt
      have Hbig := Lib.hid (fun h : bigO l[k] = true => obErr_1 (.inr ⟨_, hmem, h⟩))
      have HWa := Lib.hid (fun ob : Obj => HW.out.alloc hws ob)
      have HBo : Hid (bigO l[k] = decide (200 < l[k].bytes.length ∨ 12 < l[k].has.length ∨ 12 < l[k].wants.length)) := Lib.hid rfl
      clear hmem HQ
      generalize l[k] = o at *
      generalize hbig : bigO o = B at *
      clear hbig
      generalize o.bytes.length = n1 at *
      generalize o.has.length = n2 at *
      generalize o.wants.length = n3 at *
      by_cases hB : 200 < n1 ∨ 12 < n2 ∨ 12 < n3
      · have He := Lib.hid (Hbig.out (by rw [HBo.out]; exact decide_eq_true hB))
        clear Hbig HBo HQn
        rcases (show 200 < n1 ∨ (n1 ≤ 200 ∧ 12 < n2) ∨ (n1 ≤ 200 ∧ n2 ≤ 12 ∧ 12 < n3) by omega) with hB | ⟨hB, hB2⟩ | ⟨hB, hB2, hB3⟩
        · have q3 : decide (200 < n1) = true := decide_eq_true (by omega)
          have q3' : (200 : Int) < (n1 : Int) := by omega
          clear hB
          go_wp2
          all_goals first
            | (exfalso; omega)
            | (go_ret; exact ⟨by rw [HE.out, He.out]; rfl, HWa.out _⟩)
        · have q3 : (n1 : Int) ≤ 200 := by omega
          have q3' : decide (200 < n1) = false := decide_eq_false (by omega)
          have q4 : decide (12 < n2) = true := decide_eq_true (by omega)
          have q4' : (12 : Int) < (n2 : Int) := by omega
          go_wp2
          all_goals first
            | (exfalso; omega)
            | (go_ret; exact ⟨by rw [HE.out, He.out]; rfl, HWa.out _⟩)
        · have q3 : (n1 : Int) ≤ 200 := by omega
          have q3' : decide (200 < n1) = false := decide_eq_false (by omega)
          have q4 : decide (12 < n2) = false := decide_eq_false (by omega)
          have q4' : (n2 : Int) ≤ 12 := by omega
          have q5 : decide (12 < n3) = true := decide_eq_true (by omega)
          have q5' : (12 : Int) < (n3 : Int) := by omega
          go_wp2
          all_goals first
            | (exfalso; omega)
            | (go_ret; exact ⟨by rw [HE.out, He.out]; rfl, HWa.out _⟩)
      · have HQ2 := Lib.hid (HQn.out (by rw [HBo.out]; exact decide_eq_false hB))
        have hB1 : n1 ≤ 200 := by omega
        have hB2 : n2 ≤ 12 := by omega
        have hB3 : n3 ≤ 12 := by omega
        clear hB Hbig HBo HQn
        have q3 : decide (200 < n1) = false := decide_eq_false (by omega)
        have q4 : decide (12 < n2) = false := decide_eq_false (by omega)
        have q5 : decide (12 < n3) = false := decide_eq_false (by omega)
        go_wp2
        all_goals first
          | (exfalso; omega)
          | (go_roundw
             case rel => exact ⟨k + 1, by omega, by go_num, HQ2, Lib.hid (HWa.out _)⟩
             case measure => simp [intOf]; omega)
    · have hke : k = l.length := by omega
      subst hke
      have HBg := Lib.hid (show ∀ o ∈ l, bigO o = false from by have := HQ.out; rwa [List.take_length] at this)
      have HW1 := HW
      clear HQ HW
      go_wp2
      go_loopw [45] (fun i wr => ∃ k : Nat, k ≤ l.length ∧ i = .int .i64 k ∧ Hid (∀ o ∈ l.take k, placeBad o = false) ∧ Hid (Below w.heap.size w wr)) (fun i _ => l.length - (intOf i).toNat)
      case atStart => exact ⟨0, Nat.zero_le _, rfl, Lib.hid (fun o ho => by simp at ho), HW1⟩
      case round =>
        clear HW1 hws
        obtain ⟨k0, hk0, rfl, HQo, HW⟩ := hrel
        have hws := HW.out.size
        by_cases hlt0 : k0 < l.length
        · obtain ⟨b, off, A1, c1, A2, c2, A3, c3, rfl, hb, d0, d1, d2, hR1, hR2, hR3⟩ := RdOb.at_ HA.out hlt0
          rw [← HW.out.cell hb] at d0 d1 d2
          have hlt0' : ((k0 : Nat) : Int) < ((l.length : Nat) : Int) := by omega
          have HQon := Lib.hid (any_take hlt0 HQo.out)
          have hmem := List.getElem_mem hlt0
          have Hbig := Lib.hid (fun h : placeBad l[k0] = true => obErr_4 H5.out HBg.out ⟨_, hmem, h⟩)
          obtain ⟨z1, z2, z3⟩ := bigO_off (HBg.out _ hmem)
          have H2 := Lib.hid hR2
          have H3 := Lib.hid hR3
          clear hmem HQo hR1 hR2 hR3
          generalize l[k0] = o at *
          obtain ⟨w0, hw0⟩ : ∃ w0, w0 = wr.alloc (.cells #[.slice A1 o.bytes.length c1, .slice A2 o.has.length c2, .slice A3 o.wants.length c3] 64) := ⟨_, rfl⟩
          obtain ⟨P, hP⟩ : ∃ P, P = wr.heap.size := ⟨_, rfl⟩
          have HT : Hid (w0.heap[P]? = some (.cells #[.slice A1 o.bytes.length c1, .slice A2 o.has.length c2, .slice A3 o.wants.length c3] 64 (0, 0))) := Lib.hid (by rw [hw0, hP]; exact heap_alloc_new wr _)
          have HW0 : Hid (Below w.heap.size w w0) := Lib.hid (by rw [hw0]; exact HW.out.alloc hws _)
          have HPh := Lib.hid hP
          have HWh := Lib.hid hw0
          have hPl : P < w0.heap.size := (Array.getElem?_eq_some_iff.1 HT.out).1
          have p0 := cell_of_row w0 P 0 _ _ _ HT.out
          have p1 := cell_of_row w0 P 1 _ _ _ HT.out
          have p2 := cell_of_row w0 P 2 _ _ _ HT.out
          clear hP hw0 HW hws
          go_wp2
          rw [← HPh.out, ← HWh.out]
          clear HPh HWh d0 d1 d2
          go_loopw [52] (fun i wr => ∃ k : Nat, k ≤ o.has.length ∧ i = .int .i64 k ∧ Hid (∀ h ∈ o.has.take k, badH o h = false) ∧ Hid (Below w0.heap.size w0 wr)) (fun i _ => o.has.length - (intOf i).toNat)
          case atStart => exact ⟨0, Nat.zero_le _, rfl, Lib.hid (fun h hh => by simp at hh), Lib.hid (Below.refl _ _)⟩
          case round =>
            obtain ⟨k, hk, rfl, HQ, HW⟩ := hrel
            have hws := HW.out.size
            have p0 := cell_of_row wr P 0 _ _ _ ((HW.out.block P hPl).trans HT.out)
            have p1 := cell_of_row wr P 1 _ _ _ ((HW.out.block P hPl).trans HT.out)
            have p2 := cell_of_row wr P 2 _ _ _ ((HW.out.block P hPl).trans HT.out)
            have hPw : P < wr.heap.size := by omega
            have HWw := Lib.hid (HW0.out.trans (HW.out.mono HW0.out.size))
            have hws2 := HWw.out.size
            by_cases hlt : k < o.has.length
            · obtain ⟨b, off, e2, hb, d0, d1⟩ := RdP.at2 (Rd.below H2.out HWw.out) hlt
              subst e2
              have hlt1 : ((k : Nat) : Int) < ((o.has.length : Nat) : Int) := by omega
              have HQn := Lib.hid (any_take hlt HQ.out)
              have hmem := List.getElem_mem hlt
              have Hmem : Hid (badH o o.has[k] = true → placeBad o = true) := Lib.hid (fun h => by
                unfold placeBad
                rw [Bool.or_eq_true]
                exact .inl (List.any_eq_true.2 ⟨_, hmem, h⟩))
              have HWa2 := Lib.hid (fun ob : Obj => HW.out.alloc hws ob)
              have HWe := Lib.hid (fun ob : Obj => HWw.out.alloc hws2 ob)
              clear hmem HQ
              generalize o.has[k] = h at *
              obtain ⟨x, y⟩ := h
              dsimp only at d0 d1
              by_cases hy : y < 0
              · have q1 : decide (y < 0) = true := decide_eq_true hy
                have He := Lib.hid (Hbig.out (Hmem.out (by unfold badH; exact decide_eq_true (.inl hy))))
                clear HQn Hmem
                go_wp2
                go_ret
                exact ⟨by rw [HE.out, He.out]; rfl, HWe.out _⟩
              have q1 : decide (y < 0) = false := decide_eq_false hy
              have q1' : 0 ≤ y := by omega
              by_cases hz : ((o.bytes.length : Nat) : Int) < y
              · have q2 : decide (y > ((o.bytes.length : Nat) : Int)) = true := decide_eq_true hz
                have q2' : decide (((o.bytes.length : Nat) : Int) < y) = true := decide_eq_true hz
                have He := Lib.hid (Hbig.out (Hmem.out (by unfold badH; exact decide_eq_true (.inr hz))))
                clear HQn Hmem
                go_wp2
                go_ret
                exact ⟨by rw [HE.out, He.out]; rfl, HWe.out _⟩
              · have q2 : decide (y > ((o.bytes.length : Nat) : Int)) = false := decide_eq_false hz
                have q2' : decide (((o.bytes.length : Nat) : Int) < y) = false := decide_eq_false hz
                have q3 : y ≤ ((o.bytes.length : Nat) : Int) := by omega
                have HQ2 := Lib.hid (HQn.out (by unfold badH; exact decide_eq_false (by dsimp only; omega)))
                clear HQn Hmem
                go_wp2
                go_roundw
                case rel => exact ⟨k + 1, by omega, by go_num, HQ2, Lib.hid (HWa2.out _)⟩
                case measure => simp [intOf]; omega
            · have hke : k = o.has.length := by omega
              subst hke
              have HQ1 := Lib.hid (show ∀ h ∈ o.has, badH o h = false from by have := HQ.out; rwa [List.take_length] at this)
              have HWx := HW
              clear HQ
              go_wp2
              go_loopw [71] (fun i wr => ∃ k : Nat, k ≤ o.wants.length ∧ i = .int .i64 k ∧ Hid (∀ h ∈ o.wants.take k, badW o h = false) ∧ Hid (Below w0.heap.size w0 wr)) (fun i _ => o.wants.length - (intOf i).toNat)
              case atStart => exact ⟨0, Nat.zero_le _, rfl, Lib.hid (fun h hh => by simp at hh), HWx⟩
              case round =>
                clear HWx HWw hws hws2 hPw p0 p1 p2 HW
                obtain ⟨k, hk, rfl, HQ, HW⟩ := hrel
                have hws := HW.out.size
                have p0 := cell_of_row wr P 0 _ _ _ ((HW.out.block P hPl).trans HT.out)
                have p1 := cell_of_row wr P 1 _ _ _ ((HW.out.block P hPl).trans HT.out)
                have p2 := cell_of_row wr P 2 _ _ _ ((HW.out.block P hPl).trans HT.out)
                have hPw : P < wr.heap.size := by omega
                have HWw := Lib.hid (HW0.out.trans (HW.out.mono HW0.out.size))
                have hws2 := HWw.out.size
                by_cases hlt : k < o.wants.length
                · obtain ⟨b, off, e2, hb, d0, d1⟩ := RdP.at2 (Rd.below H3.out HWw.out) hlt
                  subst e2
                  have hlt1 : ((k : Nat) : Int) < ((o.wants.length : Nat) : Int) := by omega
                  have HQn := Lib.hid (any_take hlt HQ.out)
                  have hmem := List.getElem_mem hlt
                  have Hmem : Hid (badW o o.wants[k] = true → placeBad o = true) := Lib.hid (fun h => by
                    unfold placeBad
                    rw [Bool.or_eq_true]
                    exact .inr (List.any_eq_true.2 ⟨_, hmem, h⟩))
                  have HWa2 := Lib.hid (fun ob : Obj => HW.out.alloc hws ob)
                  have HWe := Lib.hid (fun ob : Obj => HWw.out.alloc hws2 ob)
                  clear hmem HQ
                  generalize o.wants[k] = h at *
                  obtain ⟨x, y⟩ := h
                  dsimp only at d0 d1
                  by_cases hy : y < 0
                  · have q1 : decide (y < 0) = true := decide_eq_true hy
                    have He := Lib.hid (Hbig.out (Hmem.out (by unfold badW; exact decide_eq_true (.inl hy))))
                    clear HQn Hmem
                    go_wp2
                    go_ret
                    exact ⟨by rw [HE.out, He.out]; rfl, HWe.out _⟩
                  have q1 : decide (y < 0) = false := decide_eq_false hy
                  have q1' : 0 ≤ y := by omega
                  by_cases hz : (((o.bytes.length : Nat) : Int) - 2) < y
                  · have q2 : decide (y > (((o.bytes.length : Nat) : Int) - 2)) = true := decide_eq_true hz
                    have q2' : decide ((((o.bytes.length : Nat) : Int) - 2) < y) = true := decide_eq_true hz
                    have He := Lib.hid (Hbig.out (Hmem.out (by unfold badW; exact decide_eq_true (.inr hz))))
                    clear HQn Hmem
                    go_wp2
                    go_ret
                    exact ⟨by rw [HE.out, He.out]; rfl, HWe.out _⟩
                  · have q2 : decide (y > (((o.bytes.length : Nat) : Int) - 2)) = false := decide_eq_false hz
                    have q2' : decide ((((o.bytes.length : Nat) : Int) - 2) < y) = false := decide_eq_false hz
                    have q3 : y ≤ (((o.bytes.length : Nat) : Int) - 2) := by omega
                    have HQ2 := Lib.hid (HQn.out (by unfold badW; exact decide_eq_false (by dsimp only; omega)))
                    clear HQn Hmem
                    go_wp2
                    go_roundw
                    case rel => exact ⟨k + 1, by omega, by go_num, HQ2, Lib.hid (HWa2.out _)⟩
                    case measure => simp [intOf]; omega
                · have hke : k = o.wants.length := by omega
                  subst hke
                  have HQ2 := Lib.hid (show ∀ h ∈ o.wants, badW o h = false from by have := HQ.out; rwa [List.take_length] at this)
                  have Hno : Hid (placeBad o = false) := Lib.hid (by
                    unfold placeBad
                    rw [Bool.or_eq_false_iff, List.any_eq_false, List.any_eq_false]
                    exact ⟨fun h hh => by rw [HQ1.out h hh]; decide, fun h hh => by rw [HQ2.out h hh]; decide⟩)
                  have HQo2 := Lib.hid (HQon.out Hno.out)
                  clear HQ HQon
                  go_wp2
                  go_roundw
                  case rel => exact ⟨k0 + 1, by omega, by go_num, HQo2, HWw⟩
                  case measure => simp [intOf]; omega
        · have hke : k0 = l.length := by omega
          subst hke
          have HPb := Lib.hid (show ∀ o ∈ l, placeBad o = false from by have := HQo.out; rwa [List.take_length] at this)
          have HW2 := HW
          clear HQo HW
          go_wp2
          go_loopw [11] (fun i wr => ∃ k : Nat, k ≤ l.length ∧ i = .int .i64 k ∧ Hid (∀ i' < k, ∀ k', Free l i' k') ∧ Hid (Below w.heap.size w wr)) (fun i _ => l.length - (intOf i).toNat)
          case atStart => exact ⟨0, Nat.zero_le _, rfl, Lib.hid (fun i' h => absurd h (Nat.not_lt_zero _)), HW2⟩
          case round =>
            clear HW2 hws
            obtain ⟨i, hi, rfl, HQ, HW⟩ := hrel
            by_cases hlt : i < l.length
            · obtain ⟨b, off, A1, c1, A2, c2, A3, c3, rfl, hb, -, d1, -, -, hR2, -⟩ := RdOb.at_ HA.out hlt
              rw [← HW.out.cell hb] at d1
              have hlt1 : ((i : Nat) : Int) < ((l.length : Nat) : Int) := by omega
              obtain ⟨-, z2, -⟩ := bigO_off (HBg.out _ (List.getElem_mem hlt))
              have HNm := Lib.hid (fun k (hk : k < l[i].has.length) => nm_at hlt hk)
              have HNo := Lib.hid (fun k (hk : l[i].has.length ≤ k) => nm_none (l := l) (i := i) (k := k) (fun _ => hk))
              have H2 := Lib.hid hR2
              clear hR2
              generalize l[i] = oi at *
              have HWi := HW
              go_wp2
              clear d1 HW
              go_loopw [101] (fun v wr => ∃ k : Nat, k ≤ oi.has.length ∧ v = .int .i64 k ∧ Hid (∀ k' < k, Free l i k') ∧ Hid (Below w.heap.size w wr)) (fun v _ => oi.has.length - (intOf v).toNat)
              case atStart => exact ⟨0, Nat.zero_le _, rfl, Lib.hid (fun i' h => absurd h (Nat.not_lt_zero _)), HWi⟩
              case round =>
                clear HWi
                obtain ⟨k, hk, rfl, HQk, HW⟩ := hrel
                have hws := HW.out.size
                by_cases hltk : k < oi.has.length
                · obtain ⟨b2, off2, e2, hb2, d0, d1⟩ := RdP.at2 (Rd.below H2.out HW.out) hltk
                  subst e2
                  have hltk1 : ((k : Nat) : Int) < ((oi.has.length : Nat) : Int) := by omega
                  have HNk := Lib.hid (HNm.out k hltk)
                  generalize oi.has[k] = h at *
                  obtain ⟨x, y⟩ := h
                  dsimp only at d0 d1 HNk
                  obtain ⟨w0, hw0⟩ : ∃ w0, w0 = wr.alloc (.cells #[.int .i64 x, .int .i64 y] 65) := ⟨_, rfl⟩
                  obtain ⟨P, hP⟩ : ∃ P, P = wr.heap.size := ⟨_, rfl⟩
                  have HT : Hid (w0.heap[P]? = some (.cells #[.int .i64 x, .int .i64 y] 65 (0, 0))) := Lib.hid (by rw [hw0, hP]; exact heap_alloc_new wr _)
                  have HW0 : Hid (Below w.heap.size w w0) := Lib.hid (by rw [hw0]; exact HW.out.alloc hws _)
                  have HPh := Lib.hid hP
                  have HWh := Lib.hid hw0
                  have hPl : P < w0.heap.size := (Array.getElem?_eq_some_iff.1 HT.out).1
                  clear hP hw0 HW hws
                  go_wp2
                  rw [← HPh.out, ← HWh.out]
                  clear HPh HWh d0 d1
                  go_loopw [14] (fun v wr => ∃ j : Nat, j ≤ l.length ∧ v = .int .i64 j ∧ Hid (∀ j' < j, ∀ m, nm l j' m = some x → j' = i ∧ m = k) ∧ Hid (Below w0.heap.size w0 wr)) (fun v _ => l.length - (intOf v).toNat)
                  case atStart => exact ⟨0, Nat.zero_le _, rfl, Lib.hid (fun i' h => absurd h (Nat.not_lt_zero _)), Lib.hid (Below.refl _ _)⟩
                  case round =>
                    obtain ⟨j, hj, rfl, HQj, HW⟩ := hrel
                    by_cases hltj : j < l.length
                    · obtain ⟨b', off', A1', c1', A2', c2', A3', c3', eA, hb', -, d1, -, -, hR2, -⟩ := RdOb.at_ HA.out hltj
                      injection eA with eA; injection eA with eA1 eA2
                      subst eA1 eA2
                      have HWw := Lib.hid (HW0.out.trans (HW.out.mono HW0.out.size))
                      rw [← HWw.out.cell hb] at d1
                      have hltj1 : ((j : Nat) : Int) < ((l.length : Nat) : Int) := by omega
                      obtain ⟨-, z2', -⟩ := bigO_off (HBg.out _ (List.getElem_mem hltj))
                      have HNmj := Lib.hid (fun k (hk : k < l[j].has.length) => nm_at hltj hk)
                      have HNoj := Lib.hid (fun k (hk : l[j].has.length ≤ k) => nm_none (l := l) (i := j) (k := k) (fun _ => hk))
                      have H2j := Lib.hid hR2
                      clear hR2
                      generalize l[j] = oj at *
                      have HWj := HW
                      go_wp2
                      clear d1 HW HWw
                      go_loopw [118] (fun v wr => ∃ m : Nat, m ≤ oj.has.length ∧ v = .int .i64 m ∧ Hid (∀ m' < m, nm l j m' = some x → j = i ∧ m' = k) ∧ Hid (Below w0.heap.size w0 wr)) (fun v _ => oj.has.length - (intOf v).toNat)
                      case atStart => exact ⟨0, Nat.zero_le _, rfl, Lib.hid (fun i' h => absurd h (Nat.not_lt_zero _)), HWj⟩
                      case round =>
                        clear HWj
                        obtain ⟨m, hmm, rfl, HQm, HW⟩ := hrel
                        have hws := HW.out.size
                        have HWw := Lib.hid (HW0.out.trans (HW.out.mono HW0.out.size))
                        have hws2 := HWw.out.size
                        have hPw : P < wr.heap.size := by omega
                        by_cases hltm : m < oj.has.length
                        · obtain ⟨b3, off3, e3, hb3, d0, d1⟩ := RdP.at2 (Rd.below H2j.out HWw.out) hltm
                          subst e3
                          have hltm1 : ((m : Nat) : Int) < ((oj.has.length : Nat) : Int) := by omega
                          have HNm2 := Lib.hid (HNmj.out m hltm)
                          have HWa := Lib.hid (fun ob : Obj => HW.out.alloc hws ob)
                          have HWe := Lib.hid (fun ob : Obj => HWw.out.alloc hws2 ob)
                          have p0 := cell_of_row wr P 0 _ _ _ ((HW.out.block P hPl).trans HT.out)
                          generalize oj.has[m] = h at *
                          obtain ⟨x', y'⟩ := h
                          dsimp only at d0 d1 HNm2
                          clear hws hws2 HW HWw
                          by_cases hsame : i = j ∧ k = m
                          · obtain ⟨rfl, rfl⟩ := hsame
                            have HQm2 : Hid (∀ m' < k + 1, nm l i m' = some x → i = i ∧ m' = k) := Lib.hid (fun m' h1 h2 => by
                              rcases Nat.lt_or_ge m' k with h3 | h3
                              · exact HQm.out m' h3 h2
                              · exact ⟨rfl, by omega⟩)
                            go_wp2
                            go_roundw
                            case rel => exact ⟨k + 1, by omega, by go_num, Lib.hid (fun m' h1 h2 => ⟨trivial, (HQm2.out m' h1 h2).2⟩), Lib.hid (HWa.out _)⟩
                            case measure => simp [intOf]; omega
                          · have hsame' : i ≠ j ∨ (i = j ∧ k ≠ m) := by
                              by_cases h : i = j
                              · exact .inr ⟨h, fun h2 => hsame ⟨h, h2⟩⟩
                              · exact .inl h
                            clear hsame
                            by_cases hxx : x = x'
                            · have He := Lib.hid (obErr_3 H5.out HBg.out HPb.out (fun h => by
                                have h1 := once_iff.1 h i k x HNk.out j m (by rw [HNm2.out, hxx])
                                omega))
                              subst hxx
                              rcases hsame' with hij | ⟨rfl, hkm⟩
                              · have q5 : (((i : Nat) : Int) != ((j : Nat) : Int)) = true := by rw [bne_iff_ne]; omega
                                have q6 : ((i : Nat) : Int) ≠ ((j : Nat) : Int) := by omega
                                go_wp2
                                go_ret
                                exact ⟨by rw [HE.out, He.out]; rfl, HWe.out _⟩
                              · have q5 : (((k : Nat) : Int) != ((m : Nat) : Int)) = true := by rw [bne_iff_ne]; omega
                                have q6 : ((k : Nat) : Int) ≠ ((m : Nat) : Int) := by omega
                                go_wp2
                                go_ret
                                exact ⟨by rw [HE.out, He.out]; rfl, HWe.out _⟩
                            · have HQm2 : Hid (∀ m' < m + 1, nm l j m' = some x → j = i ∧ m' = k) := Lib.hid (fun m' h1 h2 => by
                                rcases Nat.lt_or_ge m' m with h3 | h3
                                · exact HQm.out m' h3 h2
                                · have : m' = m := by omega
                                  rw [this, HNm2.out] at h2
                                  injection h2 with h2
                                  exact absurd h2.symm hxx)
                              have q7 : (x == x') = false := beq_eq_false_iff_ne.2 hxx
                              rcases hsame' with hij | ⟨rfl, hkm⟩
                              · have q5 : (((i : Nat) : Int) != ((j : Nat) : Int)) = true := by rw [bne_iff_ne]; omega
                                have q6 : ((i : Nat) : Int) ≠ ((j : Nat) : Int) := by omega
                                go_wp2
                                go_roundw
                                case rel => exact ⟨m + 1, by omega, by go_num, HQm2, Lib.hid (HWa.out _)⟩
                                case measure => simp [intOf]; omega
                              · have q5 : (((k : Nat) : Int) != ((m : Nat) : Int)) = true := by rw [bne_iff_ne]; omega
                                have q6 : ((k : Nat) : Int) ≠ ((m : Nat) : Int) := by omega
                                go_wp2
                                go_roundw
                                case rel => exact ⟨m + 1, by omega, by go_num, Lib.hid (fun m' h1 h2 => ⟨trivial, (HQm2.out m' h1 h2).2⟩), Lib.hid (HWa.out _)⟩
                                case measure => simp [intOf]; omega
                        · have hme : m = oj.has.length := by omega
                          subst hme
                          have HQj2 : Hid (∀ j' < j + 1, ∀ m, nm l j' m = some x → j' = i ∧ m = k) := Lib.hid (fun j' h1 m' h2 => by
                            rcases Nat.lt_or_ge j' j with h3 | h3
                            · exact HQj.out j' h3 m' h2
                            · have : j' = j := by omega
                              subst this
                              rcases Nat.lt_or_ge m' oj.has.length with h4 | h4
                              · exact HQm.out m' h4 h2
                              · rw [HNoj.out m' h4] at h2; cases h2)
                          go_wp2
                          go_roundw
                          case rel => exact ⟨j + 1, by omega, by go_num, HQj2, HW⟩
                          case measure => simp [intOf]; omega
                    · have hje : j = l.length := by omega
                      subst hje
                      have HQk2 : Hid (∀ k' < k + 1, Free l i k') := Lib.hid (fun k' h1 => by
                        rcases Nat.lt_or_ge k' k with h3 | h3
                        · exact HQk.out k' h3
                        · have : k' = k := by omega
                          subst this
                          intro x1 hx1 j m h2
                          rw [HNk.out] at hx1
                          injection hx1 with hx1
                          subst hx1
                          rcases Nat.lt_or_ge j l.length with h4 | h4
                          · exact HQj.out j h4 m h2
                          · rw [nm_none (fun h => by omega)] at h2; cases h2)
                      have HWw := Lib.hid (HW0.out.trans (HW.out.mono HW0.out.size))
                      go_wp2
                      go_roundw
                      case rel => exact ⟨k + 1, by omega, by go_num, HQk2, HWw⟩
                      case measure => simp [intOf]; omega
                · have hke : k = oi.has.length := by omega
                  subst hke
                  have HQ2 : Hid (∀ i' < i + 1, ∀ k', Free l i' k') := Lib.hid (fun i' h1 k' => by
                    rcases Nat.lt_or_ge i' i with h3 | h3
                    · exact HQ.out i' h3 k'
                    · have : i' = i := by omega
                      subst this
                      rcases Nat.lt_or_ge k' oi.has.length with h4 | h4
                      · exact HQk.out k' h4
                      · intro x hx
                        rw [HNo.out k' h4] at hx; cases hx)
                  go_wp2
                  go_roundw
                  case rel => exact ⟨i + 1, by omega, by go_num, HQ2, HW⟩
                  case measure => simp [intOf]; omega
            · have hie : i = l.length := by omega
              subst hie
              have HOk := obErr_0 H5.out HBg.out HPb.out (once_iff.2 (fun i k => by
                rcases Nat.lt_or_ge i l.length with h4 | h4
                · exact HQ.out i h4 k
                · intro x hx
                  rw [nm_none (fun h => by omega)] at hx; cases hx))
              have He := Lib.hid (obErr_iff.2 HOk)
              clear HOk
              go_wp2
              go_ret
              exact ⟨by rw [HE.out, He.out]; rfl, HW.out⟩
end Go.Proofs.Ytiphhadhbokgmaa
