/- link.Needs walked. -/
import Derived.Test.YtiphhadhbokgmaaLnkQ
import Derived.Test.YtiphhadhbokgmaaQueue
import Derived.Test.YtiphhadhbokgmaaBits
import Derived.Deep.LoopGhost
namespace Go.Proofs.Ytiphhadhbokgmaa
set_option maxRecDepth 100000
open Go.RowKit Go.Maps

/-- Bits of s below n that are not set. -/
def unset (n s : Nat) : Nat := ((List.range n).filter fun i => !s.testBit i).length
theorem unset_le (n s : Nat) : unset n s ≤ n := by
  unfold unset
  have := List.length_filter_le (fun i => !s.testBit i) (List.range n)
  rwa [List.length_range] at this
theorem filt_drop {α : Type} (p q : α → Bool) : ∀ (l : List α) (x : α), x ∈ l → p x = true → q x = false → (∀ y, q y = true → p y = true) → (l.filter q).length + 1 ≤ (l.filter p).length
  | [], x, hx, _, _, _ => by cases hx
  | y :: r, x, hx, hp, hq, hqp => by
    have mono : ∀ r : List α, (r.filter q).length ≤ (r.filter p).length := fun r => by
      induction r with
      | nil => exact Nat.le_refl _
      | cons z t ih =>
        by_cases h1 : q z = true
        · rw [List.filter_cons_of_pos h1, List.filter_cons_of_pos (hqp z h1), List.length_cons, List.length_cons]; omega
        · rw [List.filter_cons_of_neg h1]
          by_cases h2 : p z = true
          · rw [List.filter_cons_of_pos h2, List.length_cons]; omega
          · rw [List.filter_cons_of_neg h2]; exact ih
    rcases List.mem_cons.1 hx with rfl | hx
    · rw [List.filter_cons_of_neg (by rw [hq]; decide), List.filter_cons_of_pos hp, List.length_cons]
      have := mono r
      omega
    · have ih := filt_drop p q r x hx hp hq hqp
      by_cases h1 : q y = true
      · rw [List.filter_cons_of_pos h1, List.filter_cons_of_pos (hqp y h1), List.length_cons, List.length_cons]; omega
      · rw [List.filter_cons_of_neg h1]
        by_cases h2 : p y = true
        · rw [List.filter_cons_of_pos h2, List.length_cons]; omega
        · rw [List.filter_cons_of_neg h2]; exact ih
theorem unset_set {n s j : Nat} (hj : j < n) (hs : s.testBit j = false) : unset n (s ||| 2 ^ j) + 1 ≤ unset n s := by
  refine filt_drop _ _ _ j (List.mem_range.2 hj) (by simp [hs]) (by rw [set_bit]; simp) (fun y hy => ?_)
  rw [set_bit] at hy
  simp at hy ⊢
  exact hy.1
structure NdF (l : List Ob) (s : Nat) (q : List Int) : Prop where
  start : s.testBit 0 = true
  least : ∀ T, ClL l T → ∀ i, s.testBit i = true → T i
  low : ∀ b, s.testBit b = true → b < l.length
  queue : ∀ x ∈ q, 0 ≤ x ∧ x < l.length ∧ s.testBit x.toNat = true
  closed : ∀ b, s.testBit b = true → (b : Int) ∉ q → ∀ w ∈ (obAt l b).wants, ∀ j a, lk (entsL l) w.1 = some (j, a) → s.testBit j = true
structure NdI (l : List Ob) (q0 : Nat) (ws : List (Int × Int)) (t : Nat) (s : Nat) (q : List Int) : Prop where
  fr : NdF l s q
  done : ∀ w ∈ ws.take t, ∀ j a, lk (entsL l) w.1 = some (j, a) → s.testBit j = true
theorem NdF.fits {l : List Ob} {s : Nat} {q : List Int} (h : NdF l s q) : s < 2 ^ l.length := lt_pow_of_bits h.low
theorem NdF.first {l : List Ob} (h0 : 0 < l.length) : NdF l 1 [0] := by
  have hb : ∀ b, (1 : Nat).testBit b = true → 0 = b := fun b h => by
    have : (1 : Nat) = 2 ^ 0 := rfl
    rw [this, testBit_pow] at h; exact of_decide_eq_true h
  refine ⟨rfl, fun T hT i hi => by rw [← hb i hi]; exact hT.1, fun b h => by rw [← hb b h]; exact h0, fun x hx => ?_, fun b h hn => ?_⟩
  · simp at hx; subst hx
    exact ⟨by omega, by omega, rfl⟩
  · rw [← hb b h] at hn; simp at hn
theorem NdF.done {l : List Ob} {s : Nat} (h : NdF l s []) : NeedS l s :=
  ⟨h.fits, fun _ => ⟨h.start, fun i _ hs w hw j a hl => h.closed i hs (by simp) w hw j a hl⟩, fun _ => h.least⟩
theorem NdI.skip {l : List Ob} {q0 t s : Nat} {ws : List (Int × Int)} {q : List Int} (h : NdI l q0 ws t s q) (ht : t < ws.length) (hb : ∀ j a, lk (entsL l) ws[t].1 = some (j, a) → s.testBit j = true) : NdI l q0 ws (t + 1) s q :=
  ⟨h.fr, fun w hw j a hl => by
    rw [List.take_succ_eq_append_getElem ht, List.mem_append] at hw
    rcases hw with hw | hw
    · exact h.done w hw j a hl
    · have : w = ws[t] := by simpa using hw
      subst this
      exact hb j a hl⟩
theorem NdI.push {l : List Ob} {q0 t s j : Nat} {a : Int} {ws : List (Int × Int)} {q : List Int} (h : NdI l q0 ws t s q) (ht : t < ws.length) (hl : lk (entsL l) ws[t].1 = some (j, a)) (hj : j < l.length) (hq : q0 < l.length) (hws : (obAt l q0).wants = ws) (hq0 : s.testBit q0 = true) :
    NdI l q0 ws (t + 1) (s ||| 2 ^ j) (q ++ [(j : Int)]) := by
  have mono : ∀ b, s.testBit b = true → (s ||| 2 ^ j).testBit b = true := fun b hb => by rw [set_bit, hb]; rfl
  have hjt : (s ||| 2 ^ j).testBit j = true := by rw [set_bit]; simp
  have cases_ : ∀ b, (s ||| 2 ^ j).testBit b = true → s.testBit b = true ∨ j = b := fun b hb => by
    rw [set_bit, Bool.or_eq_true] at hb
    exact hb.imp id of_decide_eq_true
  refine ⟨⟨mono _ h.fr.start, fun T hT b hb => ?_, fun b hb => ?_, fun x hx => ?_, fun b hb hn w hw j' a' hl' => ?_⟩, fun w hw j' a' hl' => ?_⟩
  · rcases cases_ b hb with h1 | rfl
    · exact h.fr.least T hT b h1
    · exact hT.2 q0 hq (h.fr.least T hT q0 hq0) ws[t] (by rw [hws]; exact List.getElem_mem ht) _ a hl
  · rcases cases_ b hb with h1 | rfl
    · exact h.fr.low b h1
    · exact hj
  · rcases List.mem_append.1 hx with h1 | h1
    · have := h.fr.queue x h1
      exact ⟨this.1, this.2.1, mono _ this.2.2⟩
    · simp at h1; subst h1
      exact ⟨by omega, by omega, by rw [Int.toNat_natCast]; exact hjt⟩
  · rcases cases_ b hb with h1 | rfl
    · exact mono _ (h.fr.closed b h1 (fun hm => hn (List.mem_append_left _ hm)) w hw j' a' hl')
    · exact absurd (List.mem_append_right _ (by simp)) hn
  · rw [List.take_succ_eq_append_getElem ht, List.mem_append] at hw
    rcases hw with hw | hw
    · exact mono _ (h.done w hw j' a' hl')
    · have : w = ws[t] := by simpa using hw
      subst this
      rw [hl] at hl'
      injection hl' with hl'
      injection hl' with hl' _
      subst hl'
      exact hjt
theorem NdI.finish {l : List Ob} {q0 s : Nat} {ws : List (Int × Int)} {r : List Int} (h : NdI l q0 ws ws.length s ((q0 : Int) :: r)) (hws : (obAt l q0).wants = ws) : NdF l s r := by
  refine ⟨h.fr.start, h.fr.least, h.fr.low, fun x hx => h.fr.queue x (by simp [hx]), fun b hb hn w hw j a hl => ?_⟩
  by_cases hbq : b = q0
  · subst hbq
    exact h.done w (by rw [List.take_length, ← hws]; exact hw) j a hl
  · exact h.fr.closed b hb (by simp; exact ⟨by omega, hn⟩) w hw j a hl
def NeedE (l : List Ob) (w : World) (e : Ending) (w' : World) : Prop :=
  Below w.heap.size w w' ∧ ((obErr l ≠ 0 ∧ e = .returned (.tuple #[.int .u32 0, .int .i64 (obErr l)])) ∨ (OkL l ∧ ∃ s : Nat, NeedS l s ∧ e = .returned (.tuple #[.int .u32 s, .int .i64 0])))
set_option maxHeartbeats 8000000 in
theorem needs_calls (A : Option Addr) (l : List Ob) (cap : Nat) (w : World) (hA : RdOb w A l) (hm : l.length ≤ maxLen) (hwf : WfL l) (hml : ∀ o ∈ l, o.bytes.length ≤ maxLen ∧ o.has.length ≤ maxLen ∧ o.wants.length ≤ maxLen) :
    Calls Try.prog 24 #[.slice A l.length cap] w (NeedE l w) := by
  have HC := Lib.hid (build_calls A l cap w hA hm hwf hml)
  have HA := Lib.hid hA
  have Hwf := Lib.hid hwf
  clear hA hwf hml
  by_cases h0 : obErr l = 0
  · have H0 := Lib.hid h0
    have h5 := (obErr_iff.1 h0).n5
    clear h0
    by_cases hn0 : l.length = 0
    · have hz0 : NeedS l 0 := ⟨Nat.two_pow_pos _, fun h => absurd hn0 (Nat.pos_iff_ne_zero.1 h), fun h => absurd hn0 (Nat.pos_iff_ne_zero.1 h)⟩
      have HNs := Lib.hid hz0
      clear hz0
      have q9 : (((l.length : Nat) : Int) == 0) = true := by rw [hn0]; rfl
      clear hn0
      go_enter Try.func24, Try.ntmps24
      go_wp2_with (go_at_call 35; (with_reducible refine HC.out.mono ?_); rintro e w5 ⟨hb, h⟩; obtain ⟨hok, M, V, rfl, hM, hT⟩ := h.resolve_left (fun h => h.1 H0.out); have HB := Lib.hid hb; have HOk := Lib.hid hok; clear h hT hb hok)
      go_ret2
      exact ⟨HB.out, .inr ⟨HOk.out, 0, HNs.out, rfl⟩⟩
    have q9 : (((l.length : Nat) : Int) == 0) = false := beq_eq_false_iff_ne.2 (by omega)
    have hn1 : 0 < l.length := by omega
    have HF := Lib.hid (NdF.first hn1)
    have hun := unset_le l.length 1
    go_enter Try.func24, Try.ntmps24
    go_wp2_with (go_at_call 35; (with_reducible refine HC.out.mono ?_); rintro e w5 ⟨hb, h⟩; obtain ⟨hok, M, V, rfl, hM, hT⟩ := h.resolve_left (fun h => h.1 H0.out); have HT := Lib.hid hT; have HB := Lib.hid hb; have HOk := Lib.hid hok; clear h hT hb hok)
    go_loopg [6, 7] 7 (fun g s6 s7 wr => ∃ (s : Nat) (q : List Int), s6 = .int .u32 s ∧ OwnQ wr w5.heap.size s7 q ∧ Hid (NdF l s q) ∧ Below w5.heap.size w5 wr ∧ unset l.length s + q.length ≤ g ∧ g ≤ 7)
    case atStart =>
      refine ⟨1, [0], rfl, OwnQ.of_own (OwnI.lit w5 [0] w5.heap.size (Nat.le_refl _) (by simp [maxLen])), HF, (Below.refl _ _).alloc (Nat.le_refl _) _, by simp; omega, by omega⟩
    case round =>
      clear hun HF
      obtain ⟨s, q, rfl, hown, hfr, hW, hwt, hg⟩ := hrel
      have hw1 := hW.size
      cases q with
      | nil =>
        obtain ⟨A', cap', rfl, h1, h2⟩ := hown.form
        clear hown
        have HW9 := Lib.hid (HB.out.trans (hW.mono HB.out.size))
        go_wp2
        go_ret2
        exact ⟨HW9.out, .inr ⟨HOk.out, s, hfr.out.done, rfl⟩⟩
      | cons x r =>
        obtain ⟨A', cap', rfl, h1, h2⟩ := hown.form
        obtain ⟨g0, off0, rfl, hg0, hg1, hcells⟩ := OwnQ.cells hown (by simp)
        obtain ⟨x0, x1, x2⟩ := hfr.out.queue x (by simp)
        obtain ⟨q0, rfl⟩ := Int.eq_ofNat_of_zero_le x0
        have hq0 : q0 < l.length := by omega
        rw [Int.toNat_natCast] at x2
        obtain ⟨b, off, A1, c1, A2, c2, A3, c3, rfl, hb, -, -, e2, -, -, hR3⟩ := RdOb.at_ (HA.out.below HB.out) hq0
        rw [← hW.cell hb] at e2
        have d0 := hcells 0 (by simp)
        simp only [Nat.add_zero, List.getElem_cons_zero] at d0
        have hmem := List.getElem_mem hq0
        have hw12 := (HOk.out.small _ hmem).2.2
        have Hwf1 := Lib.hid (Hwf.out _ hmem).2.1
        have HR := Lib.hid hR3
        have HOb := Lib.hid (congrArg Ob.wants (obAt_get hq0))
        have Hown := Lib.hid hown
        have Hx2 := Lib.hid x2
        have hq01 : ((q0 : Nat) : Int) < ((l.length : Nat) : Int) := by omega
        clear hR3 hcells hown x0 x1 x2 hmem
        generalize l[q0] = o at *
        have hlen := h1
        simp only [List.length_cons] at hlen
        have q1 : decide (0 < (r.length : Int) + 1) = true := decide_eq_true (by omega)
        go_wp2
        obtain ⟨wo1, rfl⟩ : ∃ wo1 : World, wo1 = wr := ⟨_, rfl⟩
        go_loopw [6, 7, 37] (fun s6 s7 i3 wr => ∃ (t s' : Nat) (q' : List Int), i3 = .int .i64 t ∧ t ≤ o.wants.length ∧ s6 = .int .u32 s' ∧ OwnQ wr w5.heap.size s7 ((q0 : Int) :: q') ∧ Hid (NdI l q0 o.wants t s' ((q0 : Int) :: q')) ∧ s'.testBit q0 = true ∧ Below w5.heap.size w5 wr ∧ unset l.length s' + (q'.length + 1) ≤ gk) (fun _ _ i3 _ => o.wants.length - (intOf i3).toNat)
        case atStart => exact ⟨0, s, r, rfl, Nat.zero_le _, rfl, Hown.out, ⟨hfr.out, fun w hw => by simp at hw⟩, Hx2.out, hW, by simpa using hwt⟩
        case round =>
          clear d0 Hown Hx2 hfr hW hwt hlen h1 q1 e2
          obtain ⟨t, s', q', rfl, ht, rfl, hown, hfi, hbit, hW, hwt⟩ := hrel
          have Hbit := Lib.hid hbit
          clear hbit
          have hw2 := hW.size
          by_cases hlt : t < o.wants.length
          · obtain ⟨b2, o2, e3, hb2, d0, d1⟩ := RdP.at2 (Rd.below HR.out hW) hlt
            subst e3
            have hlt1 : ((t : Nat) : Int) < ((o.wants.length : Nat) : Int) := by omega
            have hwx := Hwf1.out _ (List.getElem_mem hlt)
            have HSk := Lib.hid (fun h => hfi.out.skip hlt h)
            have HPu := Lib.hid (fun j a hl hj => hfi.out.push (j := j) (a := a) hlt hl hj hq0 HOb.out Hbit.out)
            generalize o.wants[t] = h at *
            obtain ⟨x, y⟩ := h
            dsimp only at d0 d1 hwx
            obtain ⟨P, hP⟩ : ∃ P, P = wr.heap.size := ⟨_, rfl⟩
            obtain ⟨w0, hw0⟩ : ∃ w0, w0 = wr.alloc (.cells #[.int .i64 x, .int .i64 y] 65) := ⟨_, rfl⟩
            have HW0 : Hid (Below w5.heap.size w5 w0) := Lib.hid (by rw [hw0]; exact hW.alloc hw2 _)
            have HO0 : Hid (OwnQ w0 w5.heap.size _ ((q0 : Int) :: q')) := Lib.hid (by rw [hw0]; exact hown.alloc _)
            have HP0 : Hid (w0.heap[P]? = some (.cells #[.int .i64 x, .int .i64 y] 65 (0, 0))) := Lib.hid (by rw [hw0, hP]; exact heap_alloc_new wr _)
            have Hw0 := Lib.hid hw0
            have HPe := Lib.hid hP
            have Hwt := Lib.hid hwt
            have Hwr : Hid (RdP wr (some ⟨b2, o2, none⟩) o.wants) := Lib.hid (Rd.below HR.out hW)
            clear hw0 hP hown hW hwt hw2
            go_wp2
            rw [← HPe.out, ← Hw0.out]
            clear Hw0 HPe d0 d1
            have f0 : w0.cell? ⟨P, 0, none⟩ = some (.int .i64 x) := by rw [cell_of_row w0 P 0 _ _ _ HP0.out]; rfl
            have HT0 := Lib.hid (HT.out.below HW0.out)
            have t1 : w0.cell? ⟨M + 2, 1, none⟩ = some (.map (some M)) := HT0.out.cells.2.1
            have hlk := fun nq => ((HT0.out.drewN nq).look hwx).1
            cases hv : lk (entsL l) x with
            | none =>
              have HSn := Lib.hid (HSk.out (fun j a hl => by rw [hv] at hl; cases hl))
              unfold fE at hlk
              rw [hv] at hlk
              change ∀ nq, (Instr.lookup 89 (.map (some M)) (.int .i64 x) true).run Try.prog (w0.drewN nq) = .ok (.tuple #[.int .i64 0, .bool false]) (w0.drewN nq) at hlk
              clear hv HSk HPu
              go_quiet (fail)
              have HWq : Hid (Below w5.heap.size w5 (w0.drewN nq)) := Lib.hid (below_dN HW0.out nq)
              have HOq : Hid (OwnQ (w0.drewN nq) w5.heap.size _ ((q0 : Int) :: q')) := Lib.hid (HO0.out.drewN nq)
              clear hlk f0 t1 HT0 HP0 HW0 HO0 Hwr
              generalize w0.drewN nq = wd at *
              go_wp2
              refine ⟨?_, ?measure⟩
              (repeat apply Exists.intro)
              refine ⟨?rel, rfl⟩
              case rel => exact ⟨t + 1, s', q', by go_num, by omega, rfl, HOq.out, HSn.out, Hbit.out, HWq.out, Hwt.out⟩
              case measure => simp [intOf]; omega
            | some v =>
              obtain ⟨j, a⟩ := v
              have hjl : j < l.length := (lk_at hv).1
              have hs32 : s' < 4294967296 := Nat.lt_of_lt_of_le hfi.out.fr.fits (Nat.le_trans (Nat.pow_le_pow_right (by decide) h5) (by decide))
              have p1 := pow_u32 j (by omega)
              have p2 := or_u32 s' (2 ^ j) hs32 (Nat.lt_of_lt_of_le (Nat.pow_lt_pow_right (by decide) (by omega : j < 32)) (by decide))
              rw [Int.natCast_pow, show ((2 : Nat) : Int) = 2 from rfl] at p1 p2
              have p3 := test_u32 s' j hs32
              unfold fE at hlk
              rw [hv] at hlk
              change ∀ nq, (Instr.lookup 89 (.map (some M)) (.int .i64 x) true).run Try.prog (w0.drewN nq) = .ok (.tuple #[.int .i64 (j : Nat), .bool true]) (w0.drewN nq) at hlk
              cases hb : s'.testBit j
              · have Hb := Lib.hid hb
                have HPn := Lib.hid (HPu.out j a hv hjl)
                rw [hb] at p3
                clear hb hv HSk HPu
                go_quiet (fail)
                have HWq : Hid (Below w5.heap.size w5 (w0.drewN nq)) := Lib.hid (below_dN HW0.out nq)
                have HOq : Hid (OwnQ (w0.drewN nq) w5.heap.size _ ((q0 : Int) :: q')) := Lib.hid (HO0.out.drewN nq)
                clear hlk f0 t1 HT0 HP0 HW0 HO0 Hwr
                generalize w0.drewN nq = wd at *
                have hq20 : q'.length < 20 := by have := Hwt.out; omega
                go_wp2_with (at_builtin; refine wpList_appQ rfl _ _ rfl w5.heap.size _ _ (j : Int) rfl (HOq.out.alloc _) _ _ rfl (cell_new _ _ _ _ (by simp) _) (by simp; omega) (by have := HWq.out.size; simp; omega) ?_; intro v' w3 hown' hB3 hge3)
                refine ⟨?_, ?measure⟩
                (repeat apply Exists.intro)
                refine ⟨?rel, rfl⟩
                case rel => exact ⟨t + 1, s' ||| 2 ^ j, q' ++ [(j : Int)], by go_num, by omega, rfl, hown', HPn.out, by rw [set_bit, Hbit.out]; rfl, (HWq.out.alloc HWq.out.size _).trans hB3, by have := Hwt.out; have := unset_set hjl Hb.out; simp; omega⟩
                case measure => simp [intOf]; omega
              · have HSn := Lib.hid (HSk.out (fun j2 a2 hl => by rw [hv] at hl; injection hl with hl; injection hl with hl _; rw [← hl]; exact hb))
                rw [hb] at p3
                clear hb hv HSk HPu p1 p2
                go_quiet (fail)
                have HWq : Hid (Below w5.heap.size w5 (w0.drewN nq)) := Lib.hid (below_dN HW0.out nq)
                have HOq : Hid (OwnQ (w0.drewN nq) w5.heap.size _ ((q0 : Int) :: q')) := Lib.hid (HO0.out.drewN nq)
                clear hlk f0 t1 HT0 HP0 HW0 HO0 Hwr
                generalize w0.drewN nq = wd at *
                go_wp2
                refine ⟨?_, ?measure⟩
                (repeat apply Exists.intro)
                refine ⟨?rel, rfl⟩
                case rel => exact ⟨t + 1, s', q', by go_num, by omega, rfl, HOq.out, HSn.out, Hbit.out, HWq.out, Hwt.out⟩
                case measure => simp [intOf]; omega
          · have : t = o.wants.length := by omega
            subst this
            clear hlt ht
            obtain ⟨A2', cap2, rfl, h1, h2⟩ := hown.form
            obtain ⟨g2, off2, rfl, _, _, _⟩ := OwnQ.cells hown (by simp)
            have Ht := Lib.hid (OwnQ.tail hown)
            have Hwt := Lib.hid hwt
            clear hown hwt
            simp only [List.length_cons] at h1
            by_cases hc : cap2 = 1
            · rw [if_pos hc] at Ht
              have q1 : cap2 - 1 = 0 := by omega
              go_wp2
              all_goals first | (exfalso; omega) | skip
              go_roundg (unset l.length s' + q'.length)
              case measure => have := Hwt.out; omega
              case rel => exact ⟨s', q', rfl, by simpa [q1] using Ht.out, hfi.out.finish HOb.out, hW, Nat.le_refl _, by have := Hwt.out; omega⟩
            · rw [if_neg hc] at Ht
              have q1 : ¬ cap2 - 1 = 0 := by omega
              go_wp2
              all_goals first | (exfalso; omega) | skip
              go_roundg (unset l.length s' + q'.length)
              case measure => have := Hwt.out; omega
              case rel => exact ⟨s', q', rfl, Ht.out, hfi.out.finish HOb.out, hW, Nat.le_refl _, by have := Hwt.out; omega⟩
  · have H0 := Lib.hid h0
    obtain ⟨E, hE⟩ : ∃ E, E = obErr l := ⟨_, rfl⟩
    have q2 : (E != 0) = true := by rw [bne_iff_ne, hE]; exact h0
    have HE := Lib.hid hE
    clear hE
    go_enter Try.func24, Try.ntmps24
    go_wp2_with (go_at_call 35; (with_reducible refine HC.out.mono ?_); rintro e w5 ⟨hb, h⟩; obtain ⟨-, rfl⟩ := h.resolve_right (fun h => H0.out (obErr_iff.2 h.1)); rw [← HE.out]; have HB := Lib.hid hb; clear h hb)
    go_ret2
    exact ⟨HB.out, .inl ⟨H0.out, by rw [← HE.out]; rfl⟩⟩
end Go.Proofs.Ytiphhadhbokgmaa
