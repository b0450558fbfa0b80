/- codemasonref.Reach, without leaving one out: the nodes to which one comes, as a list. -/
import Derived.Test.YtdkkmmljaijomaaPlnP
import Derived.Test.YtdkkmmljaijomaaHasR
import Derived.Test.YtdkkmmljaijomaaTurnG
import Derived.BigGuardPart
import Derived.Deep.LoopGhost
namespace Go.Proofs.Ytdkkmmljaijomaa
open Go.RowKit

/-- One goes from a to b, by rows. -/
def rwE (ls : List (List Int)) (a b : Nat) : Prop := ∃ l, ls[a]? = some l ∧ (b : Int) ∈ l
inductive StarE (E : Nat → Nat → Prop) (a : Nat) : Nat → Prop
  | refl : StarE E a a
  | step {b c : Nat} (s : StarE E a b) (h : E b c) : StarE E a c
/-- A list under way: the first k of it are done. -/
structure Rea (ls : List (List Int)) (a : Nat) (l : List Int) (k : Nat) : Prop where
  nd : l.Nodup
  bd : ∀ x ∈ l, 0 ≤ x ∧ x < ls.length
  mem : (a : Int) ∈ l
  comes : ∀ x : Nat, (x : Int) ∈ l → StarE (rwE ls) a x
  done : ∀ i (h : i < l.length), i < k → ∀ b : Nat, rwE ls (l[i]).toNat b → (b : Int) ∈ l
theorem Rea.len {ls : List (List Int)} {a k : Nat} {l : List Int} (h : Rea ls a l k) : l.length ≤ ls.length := by
  have : ((List.range ls.length).map fun x : Nat => (x : Int)).length = ls.length := by simp
  rw [← this]
  refine nodup_len h.nd fun x hx => ?_
  have := h.bd x hx
  rw [List.mem_map]
  exact ⟨x.toNat, by rw [List.mem_range]; omega, by omega⟩
theorem Rea.first {ls : List (List Int)} {a : Nat} (ha : a < ls.length) : Rea ls a [(a : Int)] 0 := ⟨by simp, fun x hx => by simp at hx; subst hx; omega, by simp, fun x hx => by
  simp at hx
  obtain rfl : x = a := by omega
  exact .refl, fun i h hi => by omega⟩
/-- Of the row of the k-th the first t are in. -/
structure ReI (ls : List (List Int)) (a : Nat) (l row : List Int) (k t : Nat) : Prop where
  rea : Rea ls a l k
  inn : ∀ i (h : i < row.length), i < t → row[i] ∈ l
theorem ReI.start {ls : List (List Int)} {a k : Nat} {l row : List Int} (h : Rea ls a l k) : ReI ls a l row k 0 := ⟨h, fun i h hi => by omega⟩
theorem ReI.skip {ls : List (List Int)} {a k t : Nat} {l row : List Int} (h : ReI ls a l row k t) (ht : t < row.length) (hm : row[t] ∈ l) : ReI ls a l row k (t + 1) := ⟨h.rea, fun i hi hlt => by
  by_cases e : i = t
  · subst e; exact hm
  · exact h.inn i hi (by omega)⟩
theorem ReI.take {ls : List (List Int)} {a k t : Nat} {l row : List Int} (h : ReI ls a l row k t) (hk : k < l.length) (hrow : ls[(l[k]).toNat]? = some row) (ht : t < row.length) (hm : row[t] ∉ l) (hb : 0 ≤ row[t] ∧ row[t] < ls.length) : ReI ls a (l ++ [row[t]]) row k (t + 1) := by
  refine ⟨⟨?_, fun x hx => ?_, ?_, fun x hx => ?_, fun i hi hlt b hb' => ?_⟩, fun i hi hlt => ?_⟩
  · rw [List.nodup_append]
    exact ⟨h.rea.nd, by simp, fun x hx y hy e => by simp at hy; subst hy; subst e; exact hm hx⟩
  · rcases List.mem_append.1 hx with hx | hx
    · exact h.rea.bd x hx
    · simp at hx; subst hx; exact hb
  · exact List.mem_append_left _ h.rea.mem
  · rcases List.mem_append.1 hx with hx | hx
    · exact h.rea.comes x hx
    · simp at hx
      have h0 := h.rea.bd _ (List.getElem_mem hk)
      have h1 := h.rea.comes (l[k]).toNat (by rw [show (((l[k]).toNat : Nat) : Int) = l[k] by omega]; exact List.getElem_mem hk)
      exact .step h1 ⟨row, hrow, by rw [hx]; exact List.getElem_mem ht⟩
  · rw [List.getElem_append_left (by omega)] at hb'
    exact List.mem_append_left _ (h.rea.done i (by omega) hlt b hb')
  · by_cases e : i = t
    · subst e; simp
    · exact List.mem_append_left _ (h.inn i hi (by omega))
theorem ReI.next {ls : List (List Int)} {a k : Nat} {l row : List Int} (h : ReI ls a l row k row.length) (hk : k < l.length) (hrow : ls[(l[k]).toNat]? = some row) : Rea ls a l (k + 1) := ⟨h.rea.nd, h.rea.bd, h.rea.mem, h.rea.comes, fun i hi hlt b hb => by
  by_cases e : i = k
  · subst e
    obtain ⟨r, hr, hm⟩ := hb
    rw [hrow] at hr
    injection hr with hr
    subst hr
    obtain ⟨j, hj, ej⟩ := List.getElem_of_mem hm
    rw [← ej]; exact h.inn j hj hj
  · exact h.rea.done i hi (by omega) b hb⟩
theorem Rea.all {ls : List (List Int)} {a : Nat} {l : List Int} (h : Rea ls a l l.length) (x : Nat) : (x : Int) ∈ l ↔ StarE (rwE ls) a x := by
  refine ⟨h.comes x, fun hs => ?_⟩
  induction hs with
  | refl => exact h.mem
  | step _ he ih =>
    obtain ⟨i, hi, e⟩ := List.getElem_of_mem ih
    refine h.done i hi hi _ ?_
    rw [e, Int.toNat_natCast]; exact he
set_option maxHeartbeats 4000000 in
theorem reach_calls (A : Option Addr) (ls : List (List Int)) (cap a : Nat) (w : World) (hA : RdN w A ls) (h8 : ls.length ≤ 8) (ha : a < ls.length) (hv : ∀ l ∈ ls, l.length ≤ 28 ∧ ∀ x ∈ l, 0 ≤ x ∧ x < ls.length) :
    Calls Try.prog 53 #[.slice A ls.length cap, .int .i64 a, .int .i64 (-1)] w fun e w' => ∃ v l, e = .returned v ∧ OwnI w' w.heap.size 3 v l ∧ (∀ x : Nat, (x : Int) ∈ l ↔ StarE (rwE ls) a x) ∧ l.length ≤ 8 ∧ Below w.heap.size w w' := by
  have HA := Lib.hid hA
  have HV := Lib.hid hv
  have Hf := Lib.hid (Rea.first ha)
  have q0 : (((a : Nat) : Int) == -1) = false := by rw [beq_eq_false_iff_ne]; omega
  clear hA hv
  go_enter Try.func53, Try.ntmps53
  go_wp2
  clear q0
  go_loopg [7, 8] 9 (fun g s i wr => ∃ (l : List Int) (k : Nat), OwnI wr w.heap.size 3 s l ∧ i = .int .i64 k ∧ k ≤ l.length ∧ Hid (Rea ls a l k) ∧ Below w.heap.size w wr ∧ g + k = 9)
  case atStart => exact ⟨[(a : Int)], 0, OwnI.lit w [(a : Int)] w.heap.size (Nat.le_refl _) (by simp [maxLen]), rfl, by simp, Hf, (Below.refl _ _).alloc (Nat.le_refl _) _, rfl⟩
  case round =>
    obtain ⟨g, rfl⟩ : ∃ g : Nat, g = gk := ⟨_, rfl⟩
    obtain ⟨l, k, hO, rfl, hk, HR, hW, hg⟩ := hrel
    have hll : l.length ≤ 8 := Nat.le_trans HR.out.len h8
    have HO := Lib.hid hO
    have HW := Lib.hid hW
    have Hg := Lib.hid hg
    have hws := hW.size
    obtain ⟨L, lc, rfl, hRl⟩ := OwnI.rd hO
    have HRl := Lib.hid hRl
    clear hO hW hRl hg
    by_cases hlt : k < l.length
    · obtain ⟨b1, o1, rfl, hb1, c1⟩ := RdI.at1 HRl.out hlt
      have hx := HR.out.bd _ (List.getElem_mem hlt)
      obtain ⟨x, hxe⟩ := Int.eq_ofNat_of_zero_le hx.1
      have hxl : x < ls.length := by omega
      have Hlk := Lib.hid (show l[k]? = some (x : Int) by rw [List.getElem?_eq_getElem hlt, hxe])
      rw [hxe] at c1
      obtain ⟨b2, o2, B3, c3, rfl, hb2, d2, hR3⟩ := RdN.at_ HA.out hxl
      have c2 := (HW.out.cell (p := ⟨b2, o2 + x, none⟩) hb2).trans d2
      have Hrow := Lib.hid (show ls[x]? = some ls[x] by rw [List.getElem?_eq_getElem hxl])
      have Hvr := Lib.hid (HV.out _ (List.getElem_mem hxl))
      have hr28 := Hvr.out.1
      have Hlt := Lib.hid hlt
      have HR3 := Lib.hid hR3
      have q1 : ((k : Nat) : Int) < ((l.length : Nat) : Int) := by omega
      have q2 : ((x : Nat) : Int) < ((ls.length : Nat) : Int) := by omega
      have HI0 := Lib.hid (ReI.start (row := ls[x]) HR.out)
      clear hR3 hx hxe hlt d2
      generalize ls[x] = row at *
      go_wp2
      obtain ⟨wo, rfl⟩ : ∃ wo : World, wo = wr := ⟨_, rfl⟩
      go_loopw [7, 30] (fun s j wr => ∃ (l2 : List Int) (t : Nat), OwnI wr w.heap.size 3 s l2 ∧ j = .int .i64 t ∧ t ≤ row.length ∧ Hid (ReI ls a l2 row k t ∧ k < l2.length ∧ l2[k]? = some (x : Int)) ∧ Below w.heap.size w wr) (fun _ j _ => row.length - (intOf j).toNat)
      case atStart => exact ⟨l, 0, HO.out, rfl, Nat.zero_le _, Lib.hid ⟨HI0.out, Hlt.out, Hlk.out⟩, HW.out⟩
      case round =>
        clear c1 c2
        obtain ⟨l2, t, hO2, rfl, ht, HI, hW2⟩ := hrel
        have hl2 : l2.length ≤ 8 := Nat.le_trans HI.out.1.rea.len h8
        have HO2 := Lib.hid hO2
        have HW2 := Lib.hid hW2
        have hw2 := hW2.size
        obtain ⟨L2, lc2, rfl, hRl2⟩ := OwnI.rd hO2
        have HRl2 := Lib.hid hRl2
        have Hxk := Lib.hid (show ∀ h : k < l2.length, ls[(l2[k]).toNat]? = some row from fun h => by
          have := HI.out.2.2
          rw [List.getElem?_eq_getElem h] at this
          injection this with this
          rw [this, Int.toNat_natCast]; exact Hrow.out)
        clear hO2 hW2 hRl2
        by_cases htl : t < row.length
        · obtain ⟨b4, o4, rfl, hb4, c4⟩ := RdI.at1 (Rd.below HR3.out HW2.out) htl
          have Hyb := Lib.hid (Hvr.out.2 _ (List.getElem_mem htl))
          have Hsk := Lib.hid (fun h => HI.out.1.skip htl h)
          have Htk := Lib.hid (fun h => HI.out.1.take HI.out.2.1 (Hxk.out _) htl h Hyb.out)
          have Hhas := Lib.hid (fun w hA => has_calls L2 l2 lc2 row[t] w hA (by unfold maxLen; omega))
          have Htl := Lib.hid htl
          have q3 : ((t : Nat) : Int) < ((row.length : Nat) : Int) := by omega
          have q4 : (row[t] != -1) = true := by rw [bne_iff_ne]; have := Hyb.out; omega
          generalize row[t] = y at *
          by_cases hm : y ∈ l2
          · have Hs := Lib.hid (Hsk.out hm)
            rw [decide_eq_true hm] at Hhas
            clear hm Hsk Htk
            go_wp2_with (go_at_call 19; refine (Hhas.out _ HRl2.out).mono ?_; rintro e w' ⟨rfl, rfl⟩)
            go_roundw
            case rel => exact ⟨l2, t + 1, HO2.out, by go_num, by have := Htl.out; omega, Lib.hid ⟨Hs.out, HI.out.2⟩, HW2.out⟩
            case measure => have := Htl.out; simp [intOf]; omega
          · have Hs := Lib.hid (Htk.out hm)
            rw [decide_eq_false hm] at Hhas
            clear hm Hsk Htk
            go_wp2_with (first
              | (go_at_call 19; refine (Hhas.out _ HRl2.out).mono ?_; rintro e w' ⟨rfl, rfl⟩)
              | (at_builtin; refine wpList_appI rfl _ _ rfl w.heap.size _ l2 y rfl (HO2.out.alloc _) _ _ rfl (cell_new _ _ _ _ (by simp) _) (by omega) (by simp; omega) ?_; intro v' w5 hown' hgrow
                 have HO5 := Lib.hid hown'
                 have HW5 := Lib.hid (below_own (HW2.out.alloc hw2 _) hgrow (HO2.out.alloc _) (Nat.le_refl _) (by simp; omega))
                 clear hown' hgrow)
              | fail)
            go_roundw
            case rel => exact ⟨_, t + 1, HO5.out, by go_num, by have := Htl.out; omega, Lib.hid ⟨Hs.out, by rw [List.length_append]; have := HI.out.2.1; omega, by rw [List.getElem?_append_left HI.out.2.1]; exact HI.out.2.2⟩, HW5.out⟩
            case measure => have := Htl.out; simp [intOf]; omega
        · have hte : t = row.length := by omega
          subst hte
          have Hn := Lib.hid (HI.out.1.next HI.out.2.1 (Hxk.out _))
          have Hkl := Lib.hid HI.out.2.1
          go_wp2
          go_roundg (g - 1)
          case rel => exact ⟨l2, k + 1, HO2.out, by go_num, Hkl.out, Hn, HW2.out, by have := Hg.out; omega⟩
          case measure => have := Hg.out; have := Hkl.out; omega
    · have hke : k = l.length := by omega
      subst hke
      have Hall := Lib.hid HR.out.all
      go_wp2
      go_ret
      exact ⟨_, l, rfl, HO.out, Hall.out, hll, HW.out⟩
end Go.Proofs.Ytdkkmmljaijomaa
