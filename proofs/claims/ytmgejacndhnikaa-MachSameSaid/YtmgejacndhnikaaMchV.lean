/- mach.Run walked, where it stops. -/
import Derived.Test.YtmgejacndhnikaaMachB
import Derived.Test.YtmgejacndhnikaaMchS
import Derived.Test.YtmgejacndhnikaaCopyI
import Derived.Test.YtmgejacndhnikaaHave
import Derived.Test.YtmgejacndhnikaaBlkH
import Derived.Test.YtmgejacndhnikaaLLn
namespace Go.Proofs.Ytmgejacndhnikaa
set_option maxRecDepth 100000
open Go.RowKit

def RunME (c : List Int) (w : World) (e : Ending) (w' : World) : Prop := Below w.heap.size w w' ∧ ∃ v, e = .returned (.tuple #[v, .int .i64 0]) ∧ OwnI w' w.heap.size 3 v c
def padC (hv : List Int) : List Int := hv ++ (List.replicate 6 0).drop hv.length
theorem padC_len {hv : List Int} (h : hv.length ≤ 6) : (padC hv).length = 6 := by unfold padC; simp; omega
/-- What is in the cells and the box. -/
structure MOk (st : MS) : Prop where
  len : st.cell.length = 6
  bd : ∀ x ∈ st.cell, 0 ≤ x ∧ x ≤ 255
  box : 0 ≤ st.box ∧ st.box ≤ 255
theorem getM_bd {l : List Int} (h : ∀ x ∈ l, 0 ≤ x ∧ x ≤ 255) (i : Nat) : 0 ≤ l.getD i 0 ∧ l.getD i 0 ≤ 255 := getI_bd h i
theorem set_bd {l : List Int} (h : ∀ x ∈ l, 0 ≤ x ∧ x ≤ 255) {v : Int} (hv : 0 ≤ v ∧ v ≤ 255) (i : Nat) : ∀ x ∈ l.set i v, 0 ≤ x ∧ x ≤ 255 := fun x hx => by
  rcases List.mem_or_eq_of_mem_set hx with h' | h'
  · exact h x h'
  · subst h'; exact hv
/-- What an order is like. -/
structure OrdK (b x y : Int) (s : Step) : Prop where
  es : s = ordOf b x y
  o1 : 1 ≤ s.op
  o9 : s.op ≤ 9
  to : s.op = 2 ∨ s.op = 3 ∨ s.op = 9 ∨ (4 ≤ s.op ∧ s.op ≤ 7) → 0 ≤ s.to ∧ s.to < 6
  val : 0 ≤ s.val ∧ s.val ≤ 65535
  num : s.op = 1 → s.val ≤ 255
theorem ordK {b x y : Int} (hb : 0 ≤ b ∧ b ≤ 255) (hx : 0 ≤ x ∧ x ≤ 255) (hy : 0 ≤ y ∧ y ≤ 255) (h0 : mSize b ≠ 0) (h1 : b / 8 ≠ 0) : OrdK b x y (ordOf b x y) := by
  have hs : b / 8 ≤ 9 ∧ (b / 8 = 1 ∨ b / 8 = 8 ∨ b % 8 < 6) := by
    unfold mSize at h0
    by_cases h9 : 9 < b / 8
    · rw [if_pos h9] at h0; exact absurd rfl h0
    · refine ⟨by omega, ?_⟩
      rw [if_neg h9, if_neg h1] at h0
      by_cases e1 : b / 8 = 1
      · exact .inl e1
      · by_cases e8 : b / 8 = 8
        · exact .inr (.inl e8)
        · rw [if_neg e1, if_neg e8] at h0
          by_cases e6 : 6 ≤ b % 8
          · rw [if_pos e6] at h0; exact absurd rfl h0
          · exact .inr (.inr (by omega))
  refine ⟨rfl, by show 1 ≤ b / 8; omega, hs.1, ?_, ?_, ?_⟩
  · show (b / 8 = 2 ∨ b / 8 = 3 ∨ b / 8 = 9 ∨ (4 ≤ b / 8 ∧ b / 8 ≤ 7)) → 0 ≤ (if b / 8 = 0 ∨ b / 8 = 1 ∨ b / 8 = 8 then 0 else b % 8) ∧ (if b / 8 = 0 ∨ b / 8 = 1 ∨ b / 8 = 8 then 0 else b % 8) < 6
    intro h
    split <;> omega
  · show 0 ≤ (if b / 8 = 1 then x else if b / 8 = 8 ∨ b / 8 = 9 then x + y * 256 else 0) ∧ (if b / 8 = 1 then x else if b / 8 = 8 ∨ b / 8 = 9 then x + y * 256 else 0) ≤ 65535
    split
    · omega
    · split <;> omega
  · intro h
    have h : b / 8 = 1 := h
    show (if b / 8 = 1 then x else _) ≤ 255
    rw [if_pos h]; omega
theorem getB_bd {l : List Int} (h : bytesOk l) (i : Nat) : 0 ≤ l.getD i 0 ∧ l.getD i 0 ≤ 255 := getI_bd h i
/-- One order on. -/
theorem nxM_ok {c : List Int} {st : MS} (hc : bytesOk c) (h : MOk st) (hi : ordIs c st.at_) (h0 : (ordAt c st.at_).op ≠ 0) : OrdK (c.getD st.at_ 0) (c.getD (st.at_ + 1) 0) (c.getD (st.at_ + 2) 0) (ordAt c st.at_) ∧ MOk (nxM c st) := by
  have hk := ordK (getB_bd hc st.at_) (getB_bd hc (st.at_ + 1)) (getB_bd hc (st.at_ + 2)) hi.2.1 h0
  refine ⟨hk, ?_⟩
  obtain ⟨l6, bd, bx⟩ := h
  obtain ⟨at_, box, cell⟩ := st
  dsimp only at *
  unfold nxM exM
  change OrdK _ _ _ (ordAt c at_) at hk
  dsimp only
  generalize ordAt c at_ = s at *
  have hv := hk.val
  have hn := hk.num
  split
  · exact ⟨l6, bd, ⟨hv.1, hn (by assumption)⟩⟩
  · split
    · exact ⟨l6, bd, getM_bd bd _⟩
    · split
      · exact ⟨by rw [List.length_set]; exact l6, set_bd bd bx _, bx⟩
      · split
        · exact ⟨l6, bd, bx⟩
        · split
          · exact ⟨l6, bd, bx⟩
          · exact ⟨l6, bd, doF_bd _ _ _⟩
theorem order_at (A : Option Addr) (l : List Int) (cap : Nat) (k : Nat) (w : World) (hA : RdBy w A l) (hm : l.length ≤ 400) (hl : bytesOk l) (hi : ordIs l k) :
    Calls Try.prog 49 #[.slice A l.length cap, .int .i64 k] w fun e w' => e = .returned (.tuple #[(ordAt l k).agg, .int .i64 (mSize (l.getD k 0)), .bool true]) ∧ Below w.heap.size w w' := by
  obtain ⟨h1, h2, h3⟩ := hi
  have e : l.getD k 0 = l[k] := by rw [List.getD_eq_getElem?_getD, List.getElem?_eq_getElem h1]; rfl
  unfold ordAt
  rw [e] at h2 h3 ⊢
  exact order_yes A l cap k w hA hm hl h1 h2 h3
set_option maxHeartbeats 8000000 in
theorem mrun_calls (A : Option Addr) (l : List Int) (cap : Nat) (B : Option Addr) (hv : List Int) (capB : Nat) (w : World) (hA : RdBy w A l) (hl : bytesOk l) (hm : l.length ≤ 400) (hB : RdI w B hv) (h6 : hv.length ≤ 6) (h0 : haveErr hv.length hv = 0) (m : Nat) (hm2 : m < 20000) (st : MS)
    (hgo : GoM l m ⟨0, 0, padC hv⟩ st) (hst : StopM l st.at_) :
    Calls Try.prog 18 #[.slice A l.length cap, .slice B hv.length capB] w (RunME st.cell w) := by
  have HA := Lib.hid hA
  have HB := Lib.hid hB
  have Hl := Lib.hid hl
  have H0 := Lib.hid h0
  have Hgo := Lib.hid hgo
  have Hst := Lib.hid hst
  have HM0 : Hid (MOk ⟨0, 0, padC hv⟩) := Lib.hid (by
    refine ⟨padC_len h6, fun x hx => ?_, ⟨Int.le_refl 0, by show (0 : Int) ≤ 255; omega⟩⟩
    have hh := (haveErr_ok h0).2
    unfold padC at hx
    rcases List.mem_append.1 hx with hx | hx
    · exact hh x hx
    · have := List.mem_of_mem_drop hx
      rw [List.mem_replicate] at this
      omega)
  clear hA hB hl h0 hgo hst
  have hml : hv.length ≤ maxLen := by unfold maxLen; omega
  go_enter Try.func18, Try.ntmps18
  go_wp2_with (first
    | (go_at_call 46; refine (have_calls _ B hv capB _ HB.out hml).mono ?_; rintro e w2 ⟨rfl, e2⟩; rw [e2, H0.out]; clear e2 w2)
    | (at_make; refine wpList_makeI rfl _ _ rfl w.heap.size 6 rfl rfl (by omega) (Nat.le_refl _) ?_; intro w3 hO3 hg3; have HO3 := Lib.hid hO3; have HW3 := Lib.hid ((Below.refl w.heap.size w).grown hg3 (Nat.le_refl _) (fun k e => by cases e)); clear hO3 hg3)
    | (with_reducible refine wpList_copyI rfl (.tmp 27) (.tmp 28) rfl w.heap.size _ 6 _ rfl HO3.out B hv capB rfl (Rd.below HB.out HW3.out) h6 w.heap.size w HW3.out (Nat.le_refl _) ?_; intro w4 hO4 hW4; have HO4 := Lib.hid (show OwnI w4 w.heap.size 3 _ (padC hv) from hO4); have HW4 := Lib.hid hW4; clear hO4 hW4))
  go_loopw [8, 9, 30] (fun at_ bx i wr => ∃ (k : Nat) (s : MS), k ≤ m ∧ at_ = .int .i64 s.at_ ∧ bx = .int .i64 s.box ∧ i = .int .i64 k ∧ Hid (GoM l (m - k) s st) ∧ Hid (MOk s) ∧ Hid (OwnI wr w.heap.size 3 (.slice (some ⟨w.heap.size, 0, none⟩) 6 6) s.cell) ∧ Hid (Below w.heap.size w wr)) (fun _ _ i _ => 20000 - (intOf i).toNat)
  case atStart => exact ⟨0, ⟨0, 0, padC hv⟩, Nat.zero_le _, rfl, rfl, rfl, Hgo, HM0, HO4, HW4⟩
  case round =>
    clear HO4 HW4 HM0 Hgo HO3 HW3
    obtain ⟨k, s, hk, rfl, rfl, rfl, HG, HM, HO, HW⟩ := hrel
    have hk1 : ((k : Nat) : Int) < 20000 := by omega
    rcases hd : m - k with _ | n
    · rw [hd] at HG
      have e : s = st := HG.out
      subst e
      have HC := Lib.hid (order_at A l cap s.at_ wr (Rd.below HA.out HW.out) hm Hl.out Hst.out.1)
      have h00 := Hst.out.2
      obtain ⟨at_, box, cell⟩ := s
      dsimp only at *
      generalize ordAt l at_ = o at *
      obtain ⟨op, sto, sa, sb, sv⟩ := o
      dsimp only at h00
      subst h00
      unfold Step.agg at HC
      have hat := Hst.out.1.1
      have hsz := mSize_bd (l.getD at_ 0)
      generalize mSize (l.getD at_ 0) = z at *
      have u1 : IntKind.i64.wrap ((at_ : Int) + z) = (at_ : Int) + z := IntWalk.i64_in _ (by omega)
      have hws := HW.out.size
      clear hd HG
      go_wp2_with fail
      (with_reducible refine HC.out.mono ?_)
      rintro e w5 ⟨rfl, hb5⟩
      have HW5 := Lib.hid (HW.out.trans (hb5.mono hws))
      have HO5 := Lib.hid (Own.below HO.out hb5)
      clear hb5
      go_wp2_with fail
      go_ret2
      exact ⟨HW5.out.alloc HW5.out.size _, _, rfl, HO5.out.alloc _⟩
    · rw [hd] at HG
      obtain ⟨hi, ho, hg⟩ := HG.out
      have HG2 : Hid (GoM l (m - (k + 1)) (nxM l s) st) := Lib.hid (by rw [show m - (k + 1) = n by omega]; exact hg)
      obtain ⟨hok, hmo⟩ := nxM_ok Hl.out HM.out hi ho
      have HM2 := Lib.hid hmo
      have HC := Lib.hid (order_at A l cap s.at_ wr (Rd.below HA.out HW.out) hm Hl.out hi)
      have hat := hi.1
      have hkm : k + 1 ≤ m := by omega
      have hsz := mSize_bd (l.getD s.at_ 0)
      have Hnx : Hid (nxM l s = exM (ordAt l s.at_) (mSize (l.getD s.at_ 0)).toNat s) := Lib.hid rfl
      generalize nxM l s = s2 at *
      obtain ⟨-, o1, o9, hto, hva, -⟩ := hok
      clear HG hg hi hmo hd
      have hbx := HM.out.box
      have hcl := HM.out.len
      have HMb := Lib.hid HM.out.bd
      obtain ⟨at_, box, cell⟩ := s
      dsimp only at *
      generalize ordAt l at_ = o at *
      obtain ⟨op, sto, sa, sb, sv⟩ := o
      unfold Step.agg at HC
      dsimp only at *
      generalize mSize (l.getD at_ 0) = z at *
      obtain ⟨zn, rfl⟩ := Int.eq_ofNat_of_zero_le hsz.1
      rw [Int.toNat_natCast] at Hnx
      have u1 : IntKind.i64.wrap ((at_ : Int) + (zn : Int)) = (at_ : Int) + (zn : Int) := IntWalk.i64_in _ (by omega)
      have hws := HW.out.size
      have q0 : (op == 0) = false := by rw [beq_eq_false_iff_ne]; omega
      clear HM ho
      obtain ⟨_, eg, -, hgl, -, -, -⟩ := OwnI.at2 HO.out (by omega)
      injection eg with eg; injection eg with eg; subst eg
      by_cases h1 : op = 1
      · subst h1
        have e2 : s2 = ⟨at_ + zn, sv, cell⟩ := by rw [Hnx.out]; unfold exM; dsimp only; rw [if_pos rfl]
        subst e2
        go_wp2_with fail
        (with_reducible refine HC.out.mono ?_)
        rintro e w5 ⟨rfl, hb5⟩
        have HW5 := Lib.hid ((HW.out.trans (hb5.mono hws)).alloc (by have := hb5.size; omega) (.cells #[.int .i64 1, .int .i64 sto, .int .i64 sa, .int .i64 sb, .int .i64 sv] 87))
        have HO5 := Lib.hid (show OwnI (w5.alloc (.cells #[.int .i64 1, .int .i64 sto, .int .i64 sa, .int .i64 sb, .int .i64 sv] 87)) w.heap.size 3 (.slice (some ⟨w.heap.size, 0, none⟩) 6 6) cell from (Own.below HO.out hb5).alloc _)
        have hw5 : w.heap.size < w5.heap.size := by have := hb5.size; omega
        have HOb := Lib.hid (Own.below HO.out hb5)
        have HWb := Lib.hid (HW.out.trans (hb5.mono hws))
        clear hb5
        go_wp2_with fail
        go_roundw
        case rel => exact ⟨k + 1, _, hkm, by go_num, rfl, by go_num, HG2, HM2, HO5, HW5⟩
        case measure => simp [intOf]; omega
      have q1 : (op == 1) = false := by rw [beq_eq_false_iff_ne]; exact h1
      by_cases h2 : op = 2
      · subst h2
        obtain ⟨t0, t6⟩ := hto (by omega)
        obtain ⟨t, rfl⟩ := Int.eq_ofNat_of_zero_le t0
        have ht6 : t < cell.length := by omega
        have ht7 : ((t : Nat) : Int) < 6 := by omega
        have eg1 : cell.getD ((t : Nat) : Int).toNat 0 = cell[t] := by rw [Int.toNat_natCast]; exact getI_get ht6
        have e2 : s2 = ⟨at_ + zn, cell[t], cell⟩ := by rw [Hnx.out]; unfold exM; dsimp only; rw [if_neg h1, if_pos rfl, eg1]
        subst e2
        go_wp2_with fail
        (with_reducible refine HC.out.mono ?_)
        rintro e w5 ⟨rfl, hb5⟩
        have HW5 := Lib.hid ((HW.out.trans (hb5.mono hws)).alloc (by have := hb5.size; omega) (.cells #[.int .i64 2, .int .i64 (t : Nat), .int .i64 sa, .int .i64 sb, .int .i64 sv] 87))
        have HO5 := Lib.hid (show OwnI (w5.alloc (.cells #[.int .i64 2, .int .i64 (t : Nat), .int .i64 sa, .int .i64 sb, .int .i64 sv] 87)) w.heap.size 3 (.slice (some ⟨w.heap.size, 0, none⟩) 6 6) cell from (Own.below HO.out hb5).alloc _)
        have hw5 : w.heap.size < w5.heap.size := by have := hb5.size; omega
        have HOb := Lib.hid (Own.below HO.out hb5)
        have HWb := Lib.hid (HW.out.trans (hb5.mono hws))
        clear hb5
        obtain ⟨_, eg, -, -, -, hfz, hce⟩ := OwnI.at2 HO5.out (by omega)
        injection eg with eg; injection eg with eg; subst eg
        have ct := hce t ht6
        have cz := hfz t
        have eg2 : cell.getD t 0 = cell[t] := getI_get ht6
        clear hce hfz
        go_wp2_with fail
        go_roundw
        case rel => exact ⟨k + 1, _, hkm, by go_num, rfl, by go_num, HG2, HM2, HO5, HW5⟩
        case measure => simp [intOf]; omega
      have q2 : (op == 2) = false := by rw [beq_eq_false_iff_ne]; exact h2
      by_cases h3 : op = 3
      · subst h3
        obtain ⟨t0, t6⟩ := hto (by omega)
        obtain ⟨t, rfl⟩ := Int.eq_ofNat_of_zero_le t0
        have ht6 : t < cell.length := by omega
        have ht7 : ((t : Nat) : Int) < 6 := by omega
        have e2 : s2 = ⟨at_ + zn, box, cell.set t box⟩ := by rw [Hnx.out]; unfold exM; dsimp only; rw [if_neg h1, if_neg h2, if_pos rfl, Int.toNat_natCast]
        subst e2
        go_wp2_with fail
        (with_reducible refine HC.out.mono ?_)
        rintro e w5 ⟨rfl, hb5⟩
        have HW5 := Lib.hid ((HW.out.trans (hb5.mono hws)).alloc (by have := hb5.size; omega) (.cells #[.int .i64 3, .int .i64 (t : Nat), .int .i64 sa, .int .i64 sb, .int .i64 sv] 87))
        have HO5 := Lib.hid (show OwnI (w5.alloc (.cells #[.int .i64 3, .int .i64 (t : Nat), .int .i64 sa, .int .i64 sb, .int .i64 sv] 87)) w.heap.size 3 (.slice (some ⟨w.heap.size, 0, none⟩) 6 6) cell from (Own.below HO.out hb5).alloc _)
        have hw5 : w.heap.size < w5.heap.size := by have := hb5.size; omega
        have HOb := Lib.hid (Own.below HO.out hb5)
        have HWb := Lib.hid (HW.out.trans (hb5.mono hws))
        clear hb5
        obtain ⟨_, eg, -, -, -, hfz, hce⟩ := OwnI.at2 HO5.out (by omega)
        injection eg with eg; injection eg with eg; subst eg
        have ct := hce t ht6
        have cz := hfz t
        have eg2 : cell.getD t 0 = cell[t] := getI_get ht6
        clear hce hfz
        have HO6 := Lib.hid (show OwnI ((w5.setCell ⟨w.heap.size, t, none⟩ (.int .i64 box)).alloc (.cells #[.int .i64 3, .int .i64 (t : Nat), .int .i64 sa, .int .i64 sb, .int .i64 sv] 87)) w.heap.size 3 (.slice (some ⟨w.heap.size, 0, none⟩) 6 6) (cell.set t box) from (OwnI.set_ HOb.out ht6 box).alloc _)
        have HW6 := Lib.hid ((HWb.out.setCell (p := ⟨w.heap.size, t, none⟩) (Nat.le_refl _) (.int .i64 box)).alloc (by simp [World.setCell]; omega) (.cells #[.int .i64 3, .int .i64 (t : Nat), .int .i64 sa, .int .i64 sb, .int .i64 sv] 87))
        go_wp2_with fail
        go_roundw
        case rel => exact ⟨k + 1, _, hkm, by go_num, rfl, by go_num, HG2, HM2, HO6, HW6⟩
        case measure => simp [intOf]; omega
      have q3 : (op == 3) = false := by rw [beq_eq_false_iff_ne]; exact h3
      by_cases h8 : op = 8
      · subst h8
        obtain ⟨y, rfl⟩ := Int.eq_ofNat_of_zero_le hva.1
        have e2 : s2 = ⟨y, box, cell⟩ := by rw [Hnx.out]; unfold exM; dsimp only; rw [if_neg h1, if_neg h2, if_neg h3, if_pos rfl, Int.toNat_natCast]
        subst e2
        go_wp2_with fail
        (with_reducible refine HC.out.mono ?_)
        rintro e w5 ⟨rfl, hb5⟩
        have HW5 := Lib.hid ((HW.out.trans (hb5.mono hws)).alloc (by have := hb5.size; omega) (.cells #[.int .i64 8, .int .i64 sto, .int .i64 sa, .int .i64 sb, .int .i64 (y : Nat)] 87))
        have HO5 := Lib.hid (show OwnI (w5.alloc (.cells #[.int .i64 8, .int .i64 sto, .int .i64 sa, .int .i64 sb, .int .i64 (y : Nat)] 87)) w.heap.size 3 (.slice (some ⟨w.heap.size, 0, none⟩) 6 6) cell from (Own.below HO.out hb5).alloc _)
        have hw5 : w.heap.size < w5.heap.size := by have := hb5.size; omega
        have HOb := Lib.hid (Own.below HO.out hb5)
        have HWb := Lib.hid (HW.out.trans (hb5.mono hws))
        clear hb5
        go_wp2_with fail
        go_roundw
        case rel => exact ⟨k + 1, _, hkm, by go_num, rfl, by go_num, HG2, HM2, HO5, HW5⟩
        case measure => simp [intOf]; omega
      have q8 : (op == 8) = false := by rw [beq_eq_false_iff_ne]; exact h8
      by_cases h9 : op = 9
      · subst h9
        obtain ⟨t0, t6⟩ := hto (by omega)
        obtain ⟨t, rfl⟩ := Int.eq_ofNat_of_zero_le t0
        have ht6 : t < cell.length := by omega
        have ht7 : ((t : Nat) : Int) < 6 := by omega
        obtain ⟨y, rfl⟩ := Int.eq_ofNat_of_zero_le hva.1
        have eg1 : cell.getD ((t : Nat) : Int).toNat 0 = cell[t] := by rw [Int.toNat_natCast]; exact getI_get ht6
        by_cases hz : cell[t] = 0
        · have qz : (cell[t] == 0) = true := by rw [beq_iff_eq]; exact hz
          have e2 : s2 = ⟨y, box, cell⟩ := by rw [Hnx.out]; unfold exM; dsimp only; rw [if_neg h1, if_neg h2, if_neg h3, if_neg h8, if_pos rfl, eg1, if_pos hz, Int.toNat_natCast]
          subst e2
          go_wp2_with fail
          (with_reducible refine HC.out.mono ?_)
          rintro e w5 ⟨rfl, hb5⟩
          have HW5 := Lib.hid ((HW.out.trans (hb5.mono hws)).alloc (by have := hb5.size; omega) (.cells #[.int .i64 9, .int .i64 (t : Nat), .int .i64 sa, .int .i64 sb, .int .i64 (y : Nat)] 87))
          have HO5 := Lib.hid (show OwnI (w5.alloc (.cells #[.int .i64 9, .int .i64 (t : Nat), .int .i64 sa, .int .i64 sb, .int .i64 (y : Nat)] 87)) w.heap.size 3 (.slice (some ⟨w.heap.size, 0, none⟩) 6 6) cell from (Own.below HO.out hb5).alloc _)
          have hw5 : w.heap.size < w5.heap.size := by have := hb5.size; omega
          have HOb := Lib.hid (Own.below HO.out hb5)
          have HWb := Lib.hid (HW.out.trans (hb5.mono hws))
          clear hb5
          obtain ⟨_, eg, -, -, -, hfz, hce⟩ := OwnI.at2 HO5.out (by omega)
          injection eg with eg; injection eg with eg; subst eg
          have ct := hce t ht6
          have cz := hfz t
          have eg2 : cell.getD t 0 = cell[t] := getI_get ht6
          rw [hz] at ct
          clear hce hfz eg2 eg1 qz hz
          go_wp2_with fail
          go_roundw
          case rel => exact ⟨k + 1, _, hkm, by go_num, rfl, by go_num, HG2, HM2, HO5, HW5⟩
          case measure => simp [intOf]; omega
        · have qz : (cell[t] == 0) = false := by rw [beq_eq_false_iff_ne]; exact hz
          have e2 : s2 = ⟨at_ + zn, box, cell⟩ := by rw [Hnx.out]; unfold exM; dsimp only; rw [if_neg h1, if_neg h2, if_neg h3, if_neg h8, if_pos rfl, eg1, if_neg hz]
          subst e2
          go_wp2_with fail
          (with_reducible refine HC.out.mono ?_)
          rintro e w5 ⟨rfl, hb5⟩
          have HW5 := Lib.hid ((HW.out.trans (hb5.mono hws)).alloc (by have := hb5.size; omega) (.cells #[.int .i64 9, .int .i64 (t : Nat), .int .i64 sa, .int .i64 sb, .int .i64 (y : Nat)] 87))
          have HO5 := Lib.hid (show OwnI (w5.alloc (.cells #[.int .i64 9, .int .i64 (t : Nat), .int .i64 sa, .int .i64 sb, .int .i64 (y : Nat)] 87)) w.heap.size 3 (.slice (some ⟨w.heap.size, 0, none⟩) 6 6) cell from (Own.below HO.out hb5).alloc _)
          have hw5 : w.heap.size < w5.heap.size := by have := hb5.size; omega
          have HOb := Lib.hid (Own.below HO.out hb5)
          have HWb := Lib.hid (HW.out.trans (hb5.mono hws))
          clear hb5
          obtain ⟨_, eg, -, -, -, hfz, hce⟩ := OwnI.at2 HO5.out (by omega)
          injection eg with eg; injection eg with eg; subst eg
          have ct := hce t ht6
          have cz := hfz t
          have eg2 : cell.getD t 0 = cell[t] := getI_get ht6
          clear hce hfz eg2 eg1 hz
          generalize cell[t] = x at *
          go_wp2_with fail
          go_roundw
          case rel => exact ⟨k + 1, _, hkm, by go_num, rfl, by go_num, HG2, HM2, HO5, HW5⟩
          case measure => simp [intOf]; omega
      have q9 : (op == 9) = false := by rw [beq_eq_false_iff_ne]; exact h9
      obtain ⟨t0, t6⟩ := hto (by omega)
      obtain ⟨t, rfl⟩ := Int.eq_ofNat_of_zero_le t0
      have ht6 : t < cell.length := by omega
      have ht7 : ((t : Nat) : Int) < 6 := by omega
      have eg1 : cell.getD ((t : Nat) : Int).toNat 0 = cell[t] := by rw [Int.toNat_natCast]; exact getI_get ht6
      have e2 : s2 = ⟨at_ + zn, doF (op - 4 + 3) box cell[t], cell⟩ := by rw [Hnx.out]; unfold exM; dsimp only; rw [if_neg h1, if_neg h2, if_neg h3, if_neg h8, if_neg h9, eg1]
      subst e2
      have hbt := HMb.out _ (List.getElem_mem ht6)
      go_wp2_with fail
      (with_reducible refine HC.out.mono ?_)
      rintro e w5 ⟨rfl, hb5⟩
      have HW5 := Lib.hid ((HW.out.trans (hb5.mono hws)).alloc (by have := hb5.size; omega) (.cells #[.int .i64 op, .int .i64 (t : Nat), .int .i64 sa, .int .i64 sb, .int .i64 sv] 87))
      have HO5 := Lib.hid (show OwnI (w5.alloc (.cells #[.int .i64 op, .int .i64 (t : Nat), .int .i64 sa, .int .i64 sb, .int .i64 sv] 87)) w.heap.size 3 (.slice (some ⟨w.heap.size, 0, none⟩) 6 6) cell from (Own.below HO.out hb5).alloc _)
      have hw5 : w.heap.size < w5.heap.size := by have := hb5.size; omega
      have HOb := Lib.hid (Own.below HO.out hb5)
      have HWb := Lib.hid (HW.out.trans (hb5.mono hws))
      clear hb5
      have HN5 := Lib.hid (heap_alloc_new w5 (.cells #[.int .i64 op, .int .i64 (t : Nat), .int .i64 sa, .int .i64 sb, .int .i64 sv] 87))
      go_wp2_with fail
      obtain ⟨S, hS⟩ : ∃ S, S = w5.heap.size := ⟨_, rfl⟩
      obtain ⟨ws, hws2⟩ : ∃ ws, ws = w5.alloc (.cells #[.int .i64 op, .int .i64 (t : Nat), .int .i64 sa, .int .i64 sb, .int .i64 sv] 87) := ⟨_, rfl⟩
      rw [← hws2] at HW5 HO5 HN5
      rw [← hS] at HN5 hw5
      rw [← hS, ← hws2]
      clear hS hws2
      obtain ⟨_, eg, -, -, -, hfz, hce⟩ := OwnI.at2 HO5.out (by omega)
      injection eg with eg; injection eg with eg; subst eg
      have ct := hce t ht6
      have cz := hfz t
      have eg2 : cell.getD t 0 = cell[t] := getI_get ht6
      have f0 : ws.cell? ⟨S, 0, none⟩ = some (.int .i64 op) := cell_h HN5.out 0
      have f1 : ws.cell? ⟨S, 1, none⟩ = some (.int .i64 (t : Nat)) := cell_h HN5.out 1
      have Hcl := Lib.hid (fun w' => do_calls (op - 4 + 3) box cell[t] w' hbx hbt)
      have hbt1 := doF_bd (op - 4 + 3) box cell[t]
      have v1 : IntKind.i64.wrap (op - 4) = op - 4 := IntWalk.i64_in _ (by omega)
      have v2 : IntKind.i64.wrap (op - 4 + 3) = op - 4 + 3 := IntWalk.i64_in _ (by omega)
      clear hce hfz eg1 eg2 cz hbt
      generalize cell[t] = x at *
      generalize doF (op - 4 + 3) box x = y at *
      go_quiet ((go_at_call 50; exact Calls.quiet_of_same (Hcl.out _)))
      have HW6 : Hid (Below w.heap.size w (ws.drewN nq)) := Lib.hid (below_dN HW5.out nq)
      have HO6 : Hid (OwnI (ws.drewN nq) w.heap.size 3 (.slice (some ⟨w.heap.size, 0, none⟩) 6 6) cell) := HO5
      go_wp2_with fail
      go_roundw
      case rel => exact ⟨k + 1, _, hkm, by go_num, rfl, by go_num, HG2, HM2, HO6, HW6⟩
      case measure => simp [intOf]; omega
end Go.Proofs.Ytmgejacndhnikaa
