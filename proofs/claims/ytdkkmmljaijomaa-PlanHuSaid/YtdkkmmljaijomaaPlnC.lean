/- plan.Best walked. -/
import Derived.Test.YtdkkmmljaijomaaPlnB
import Derived.Test.YtdkkmmljaijomaaMapU
import Derived.Test.YtdkkmmljaijomaaOnes
namespace Go.Proofs.Ytdkkmmljaijomaa
open Go.RowKit Go.Maps

/-- The next lesser set within a set. -/
theorem next_sub : ∀ (k : Nat) {may s t : Nat}, s ≤ k → subW s may → subW t may → t < s → t ≤ (s - 1) &&& may
  | 0, _, _, _, hk, _, _, h => by omega
  | k + 1, may, s, t, hk, hs, ht, h => by
    have half : ∀ {a b : Nat}, subW a b → subW (a / 2) (b / 2) ∧ a % 2 ≤ b % 2 := fun {a b} h => by
      refine ⟨fun i hi => ?_, ?_⟩
      · have := h (i + 1); unfold inW at this hi ⊢; rw [Nat.testBit_succ, Nat.testBit_succ] at this; exact this hi
      · have := h 0; unfold inW at this; rw [Nat.testBit_zero, Nat.testBit_zero, decide_eq_true_eq, decide_eq_true_eq] at this; omega
    obtain ⟨s1, s2⟩ := half hs
    obtain ⟨t1, t2⟩ := half ht
    have hd : ((s - 1) &&& may) / 2 = (s - 1) / 2 &&& may / 2 := Nat.and_div_two
    have hm : (s - 1) % 2 = 1 → may % 2 = 1 → ((s - 1) &&& may) % 2 = 1 := fun h1 h2 => by
      have : ((s - 1) &&& may).testBit 0 = true := by rw [Nat.testBit_and, Nat.testBit_zero, Nat.testBit_zero, decide_eq_true h1, decide_eq_true h2]; rfl
      rw [Nat.testBit_zero, decide_eq_true_eq] at this; exact this
    generalize hx : (s - 1) &&& may = x at *
    by_cases e : s % 2 = 1
    · have e1 : (s - 1) / 2 = s / 2 := by omega
      have e2 : s / 2 &&& may / 2 = s / 2 := set_ext fun i => by
        rw [Nat.testBit_and]
        cases hi : (s / 2).testBit i
        · rfl
        · rw [s1 i hi]; rfl
      rw [e1, e2] at hd
      omega
    · have e1 : (s - 1) / 2 = s / 2 - 1 := by omega
      rw [e1] at hd
      have ih := next_sub k (may := may / 2) (s := s / 2) (t := t / 2) (by omega) s1 t1 (by omega)
      rw [← hd] at ih
      have := hm (by omega)
      omega
theorem and_sub (a b : Nat) : subW (a &&& b) b := fun i hi => by unfold inW at hi ⊢; rw [Nat.testBit_and, Bool.and_eq_true] at hi; exact hi.2
/-- A set that may be done at once. -/
def OkC (h may u : Nat) : Prop := cnt8 u = h ∨ (cnt8 u < h ∧ u = may)
/-- What comes of x by the sets above s. -/
def OutS (h may x s d : Nat) : Prop := ∃ u, s < u ∧ subW u may ∧ OkC h may u ∧ d = x ||| u
theorem out_start {h may x d : Nat} : ¬ OutS h may x may d := by
  rintro ⟨u, h1, h2, -, -⟩
  have : u ≤ may := by
    have e : u &&& may = u := set_ext fun i => by
      rw [Nat.testBit_and]
      cases hi : u.testBit i
      · rfl
      · rw [h2 i hi]; rfl
    rw [← e]; exact Nat.and_le_right
  omega
theorem out_next {h may x s d : Nat} (hs : subW s may) (h0 : 0 < s) : OutS h may x ((s - 1) &&& may) d ↔ OutS h may x s d ∨ (OkC h may s ∧ d = x ||| s) := by
  have hlt : (s - 1) &&& may < s := by have := @Nat.and_le_left (s - 1) may; omega
  constructor
  · rintro ⟨u, h1, h2, h3, h4⟩
    rcases Nat.lt_trichotomy s u with h5 | rfl | h5
    · exact .inl ⟨u, h5, h2, h3, h4⟩
    · exact .inr ⟨h3, h4⟩
    · have := next_sub s (Nat.le_refl _) hs h2 h5
      omega
  · rintro (⟨u, h1, h2, h3, h4⟩ | ⟨h3, h4⟩)
    · exact ⟨u, by omega, h2, h3, h4⟩
    · exact ⟨s, hlt, hs, h3, h4⟩
theorem out_end {n : Nat} {R : Nat → Nat → Prop} {h x d : Nat} : OutS h (rdW n R x) x 0 d ↔ Stp n R h x d := by
  constructor
  · rintro ⟨u, h1, h2, h3, h4⟩; exact ⟨u, by omega, h2, h3, h4⟩
  · rintro ⟨u, h1, h2, h3, h4⟩; exact ⟨u, by omega, h2, h3, h4⟩
/-- What has come of those that are no longer left. -/
def DoneS (n : Nat) (R : Nat → Nat → Prop) (h : Nat) (S left : Nat → Prop) (d : Nat) : Prop := ∃ x, S x ∧ ¬ left x ∧ Stp n R h x d
theorem doneS_step {n : Nat} {R : Nat → Nat → Prop} {h : Nat} {S left : Nat → Prop} {x d : Nat} (hS : S x) (hl : left x) : (DoneS n R h S left d ∨ OutS h (rdW n R x) x 0 d) ↔ DoneS n R h S (fun z => left z ∧ z ≠ x) d := by
  rw [out_end]
  constructor
  · rintro (⟨y, h1, h2, h3⟩ | h3)
    · exact ⟨y, h1, fun h => h2 h.1, h3⟩
    · exact ⟨x, hS, fun h => h.2 rfl, h3⟩
  · rintro ⟨y, h1, h2, h3⟩
    by_cases e : y = x
    · subst e; exact .inr h3
    · exact .inl ⟨y, h1, fun h => h2 ⟨h, e⟩, h3⟩
theorem rch_lt {n : Nat} {R : Nat → Nat → Prop} {h : Nat} : ∀ {t d : Nat}, Rch n R h t d → d < 256
  | 0, d, hd => by rw [show d = 0 from hd]; omega
  | t + 1, d, ⟨d0, h0, s, _, hs, _, e⟩ => by
    rw [e]
    exact Nat.or_lt_two_pow (n := 8) (rch_lt h0) (sub_lt hs (rdW_lt d0))

def BestEnd (n : Nat) (ps : List (Int × Int)) (h : Nat) (w : World) (e : Ending) (w' : World) : Prop :=
  ∃ k : Nat, e = .returned (.tuple #[.int .i64 k, .int .i64 0]) ∧ IsBest n (Pr ps) h k ∧ Below w.heap.size w w'
set_option maxRecDepth 100000 in
set_option maxHeartbeats 8000000 in
theorem best_ok (n : Nat) (A : Option Addr) (ps : List (Int × Int)) (cap h : Nat) (w : World) (hA : RdP w A ps) (hm : ps.length ≤ maxLen) (h0 : plErr n ps = 0) (h1 : 1 ≤ h) (h8 : h ≤ 8) :
    Calls Try.prog 20 #[.int .i64 n, .slice A ps.length cap, .int .i64 h] w (BestEnd n ps h w) := by
  obtain ⟨m, em, hok⟩ := plOk_of h0
  obtain rfl : m = n := by omega
  clear em
  have Hc := Lib.hid (ahead_calls m A ps cap w hA hm)
  have Hok := Lib.hid hok
  obtain ⟨rk, hD⟩ := hok.dag
  have HD := Lib.hid hD
  have H0 := Lib.hid h0
  have hn1 := hok.n1
  have hn8 := hok.n8
  have p1 := pow_u32 m (by omega)
  have pk : 2 ^ m ≤ 2 ^ 8 := Nat.pow_le_pow_right (by decide) hn8
  have pk1 : 1 ≤ 2 ^ m := Nat.one_le_two_pow
  have hfu : fullW m = 2 ^ m - 1 := rfl
  obtain ⟨P, hP⟩ : ∃ P, P = 2 ^ m := ⟨_, rfl⟩
  rw [← hP] at p1 pk pk1 hfu
  have hP' : (2 : Int) ^ m = (P : Int) := by rw [hP, Int.natCast_pow]; rfl
  have p2 : (P : Int) - 1 = ((fullW m : Nat) : Int) := by rw [hfu]; omega
  have hfl : fullW m < 256 := by rw [hfu]; omega
  rw [hP'] at p1
  have Hp1 := Lib.hid p1
  have Hp2 := Lib.hid p2
  have HP' := Lib.hid hP'
  have m32 : m < 32 := by omega
  clear hA hm h0 hok hD hP hfu p1 p2 hP'
  have hmm := @run_makeMap Try.prog
  go_enter Try.func20, Try.ntmps20
  go_wp2_with fail
  refine Hc.out.mono ?_
  rintro e w1 ⟨v, rfl, hW1, hv⟩
  rw [H0.out] at hv ⊢
  obtain ⟨m', em, -, hO⟩ := hv.resolve_left (fun h => h.1 rfl)
  obtain rfl : m' = m := by omega
  obtain ⟨A1, c1, rfl, hR1⟩ := OwnU.rd hO
  rw [preL_len]
  have HR1 := Lib.hid hR1
  have HW1 := Lib.hid hW1
  have hz1 := hW1.size
  clear hv em hO hR1 hW1 Hc
  have HS0 := Lib.hid ((OwnS.made w1))
  go_wp2_with (first
    | (refine wpList_putS rfl _ _ _ (.inr rfl) rfl HS0.out 0 (by omega) rfl rfl ?_; intro w2 hS2 hg2)
    | fail)
  have HS2 := Lib.hid (hS2.congr (T := Rch m' (Pr ps) h 0) (fun x => by
    constructor
    · rintro (h | rfl)
      · exact h.elim
      · rfl
    · intro e; exact .inr e))
  have HW2 := Lib.hid (((Below.refl w1.heap.size w1).alloc (Nat.le_refl _) (.map #[] 0)).grown hg2 (by simp) (fun k e => by injection e with e; omega))
  clear hS2 hg2 HS0
  go_loopw [10, 11] (fun mv tv wr => ∃ t bn : Nat, mv = .map (some bn) ∧ tv = .int .i64 t ∧ OwnS wr bn (Rch m' (Pr ps) h t) ∧ Hid (t ≤ m' ∧ ∀ t', t' < t → ¬ Rch m' (Pr ps) h t' (fullW m')) ∧ Below w1.heap.size w1 wr) (fun _ tv _ => m' - (intOf tv).toNat)
  case atStart => exact ⟨0, w1.heap.size, rfl, rfl, HS2.out, Lib.hid ⟨Nat.zero_le _, fun t' h => by omega⟩, HW2.out⟩
  case round =>
    clear HS2 HW2
    obtain ⟨t, bn, rfl, rfl, hS, HL, hW⟩ := hrel
    have HS := Lib.hid hS
    have HW := Lib.hid hW
    have hws := hW.size
    have hbn := hS.lt
    have q1 := Hp1.out
    have q2 := Hp2.out
    have q3 := HP'.out
    have ht8 : t ≤ 8 := by have := HL.out.1; omega
    clear hS hW
    by_cases hR : Rch m' (Pr ps) h t (fullW m')
    · have Hb : Hid (IsBest m' (Pr ps) h t) := Lib.hid ⟨hR, HL.out.2⟩
      have HR := Lib.hid hR
      clear hR
      go_wp2_with (first
        | (at_lookup; refine wpList_lookS_yes rfl _ _ rfl rfl HS.out (fullW m') (by omega) rfl HR.out ?_)
        | fail)
      go_ret2
      exact ⟨t, rfl, Hb.out, HW1.out.trans (HW.out.mono hz1)⟩
    · have Hlt := Lib.hid (rch_bound HD.out h1 (t := t) (fun t' ht' => by
        rcases Nat.lt_or_ge t' t with h2 | h2
        · exact HL.out.2 t' h2
        · have : t' = t := by omega
          subst this; exact hR))
      have HR := Lib.hid hR
      clear hR
      obtain ⟨wo, rfl⟩ : ∃ wo : World, wo = wr := ⟨_, rfl⟩
      have HSa := Lib.hid (HS.out.alloc (.map #[] 0))
      have HSn := Lib.hid (OwnS.made wo)
      go_wp2_with (first
        | (at_lookup; refine wpList_lookS_no rfl _ _ rfl rfl HS.out (fullW m') (by omega) rfl HR.out ?_)
        | (at_range; refine wpList_rangeS rfl _ rfl rfl HSa.out ?_; intro w4 cnt hr hg hsz)
        | fail)
      try go_frame
      have Hsz := Lib.hid hsz
      have hsz1 : w4.heap.size = wo.heap.size + 1 + 1 := by rw [hsz]; simp
      have HSn4 := Lib.hid ((HSn.out.kept hg (by simp)).congr (T := DoneS m' (Pr ps) h (Rch m' (Pr ps) h t) (Rch m' (Pr ps) h t)) (fun d => ⟨fun h => h.elim, fun ⟨x, a, b, _⟩ => b a⟩))
      have Hr4 := Lib.hid hr
      have HW4 := Lib.hid (((Below.refl wo.heap.size wo).alloc (Nat.le_refl _) (.map #[] 0)).grown hg (by simp) (fun k e => by cases e))
      have hr : (wo.alloc (.map #[] 0)).heap.size = wo.heap.size + 1 := by simp
      rw [hr] at Hr4 ⊢
      have HR0 := Lib.hid HR.out
      clear hr hsz Hsz hg HSa HSn HR
      go_loopw [13] (fun _ wr => ∃ (left : Nat → Prop) (cnt : Nat), RngS wr bn (wo.heap.size + 1) (Rch m' (Pr ps) h t) left cnt ∧ OwnS wr wo.heap.size (DoneS m' (Pr ps) h (Rch m' (Pr ps) h t) left) ∧ Below wo.heap.size wo wr) (fun _ wr => wr.rangeLeft bn (wo.heap.size + 1))
      case atStart => exact ⟨_, cnt, Hr4.out, HSn4.out, HW4.out⟩
      case round =>
        clear Hr4 HSn4 HW4 hsz1
        obtain ⟨left, cnt2, hr, hSn, hW2⟩ := hrel
        have Hr := Lib.hid hr
        have HSn := Lib.hid hSn
        have HW2 := Lib.hid hW2
        have hw2 := hW2.size
        have hrl := hr.lt
        have hnl := hSn.lt
        clear hr hSn hW2
        obtain ⟨wp, rfl⟩ : ∃ wp : World, wp = wr := ⟨_, rfl⟩
        go_wp2_with (first
          | (at_next; refine wpList_nextS rfl _ rfl rfl Hr.out HS.out.1 ?_ ?_)
          | fail)
        · intro hl0
          have Hnx := Lib.hid (HSn.out.congr (T := Rch m' (Pr ps) h (t + 1)) (fun d => ⟨fun ⟨x, a, _, b⟩ => ⟨x, a, b⟩, fun ⟨x, a, b⟩ => ⟨x, a, hl0 x, b⟩⟩))
          clear hl0
          go_wp2
          go_roundw
          case rel => exact ⟨t + 1, wo.heap.size, rfl, by go_num, Hnx.out, Lib.hid ⟨by have := Hlt.out; omega, fun t' ht' => by
            rcases Nat.lt_or_ge t' t with h2 | h2
            · exact HL.out.2 t' h2
            · have : t' = t := by omega
              subst this; exact HR0.out⟩, HW.out.trans (HW2.out.mono hws)⟩
          case measure => have := Hlt.out; simp [intOf]; omega
        · intro x c w5 cnt5 hlx hr5 hlt5 hg5 hsz5 hen
          have hx256 := HS.out.1 x (Hr.out.sub x hlx)
          have Hx := Lib.hid (Hr.out.sub x hlx)
          have Hlx := Lib.hid hlx
          have Hr5 := Lib.hid hr5
          have HSn5 := Lib.hid (HSn.out.kept hg5 (by intro e; injection e with e; omega))
          have HW5 := Lib.hid (HW2.out.grown hg5 hw2 (fun k e => by injection e with e; omega))
          have Hlt5 := Lib.hid hlt5
          have hb5 : w5.heap.size = wp.heap.size := hsz5
          have Hrd := Lib.hid (ready_calls m' A1 ps c1 x w5 (Rd.below HR1.out (HW.out.trans (HW5.out.mono hws))) Hok.out.inn hn8 (by omega))
          clear hlx hr5 hlt5 hg5 hsz5
          go_wp2_with (first
            | (go_at_call 40; refine Hrd.out.mono ?_; rintro e w' ⟨rfl, rfl⟩; clear hen)
            | fail)
          have hmay := rdW_lt (n := m') (R := Pr ps) x
          obtain ⟨may, Hmay⟩ : ∃ may, Hid (rdW m' (Pr ps) x = may) := ⟨_, Lib.hid rfl⟩
          rw [Hmay.out] at hmay ⊢
          have hb5' := hb5
          go_loopw [15] (fun sv wr => ∃ s : Nat, sv = .int .u32 s ∧ subW s may ∧ OwnS wr wo.heap.size (fun d => DoneS m' (Pr ps) h (Rch m' (Pr ps) h t) left d ∨ OutS h may x s d) ∧ RngS wr bn (wo.heap.size + 1) (Rch m' (Pr ps) h t) (fun z => left z ∧ z ≠ x) cnt5 ∧ Below wo.heap.size wo wr) (fun sv _ => (intOf sv).toNat)
          case atStart => exact ⟨may, rfl, fun _ h => h, HSn5.out.congr (fun d => ⟨.inl, fun h => h.elim id (fun h => absurd h out_start)⟩), Hr5.out, HW5.out⟩
          case round =>
            clear HSn5 Hr5 HW5 hb5 hb5' Hrd
            obtain ⟨s, rfl, hsub, hSn, hr, hW⟩ := hrel
            have HSub := Lib.hid hsub
            have HSn6 := Lib.hid hSn
            have Hr6 := Lib.hid hr
            have HW6 := Lib.hid hW
            have hs256 := sub_lt hsub hmay
            have hw6 := hW.size
            clear hsub hSn hr hW
            by_cases hs0 : s = 0
            · subst hs0
              have Hfin := Lib.hid (HSn6.out.congr (T := DoneS m' (Pr ps) h (Rch m' (Pr ps) h t) (fun z => left z ∧ z ≠ x)) (fun d => by rw [← Hmay.out]; exact doneS_step Hx.out Hlx.out))
              have Hml := Lib.hid (show wr.rangeLeft bn (wo.heap.size + 1) = cnt5 from Hr6.out.left_eq)
              have Hml2 := Lib.hid (show wp.rangeLeft bn (wo.heap.size + 1) = cnt2 from Hr.out.left_eq)
              go_wp2
              go_roundw
              case rel => exact ⟨_, cnt5, Hr6.out, Hfin.out, HW6.out⟩
              case measure => rw [Hml.out, Hml2.out]; exact Hlt5.out
            · skip
              have s1 : (((s : Nat) : Int) != 0) = true := by rw [bne_iff_ne]; omega
              have hpos : 1 ≤ s := by omega
              have Hon := Lib.hid (fun w => ones_calls s w hs256)
              have o1 := or_u32 x s (by omega) (by omega)
              have hxs : x ||| s < 256 := Nat.or_lt_two_pow (n := 8) hx256 hs256
              have a1 := and_u32 (s - 1) may (by omega) (by omega)
              have e1 : ((s : Nat) : Int) - 1 = ((s - 1 : Nat) : Int) := by omega
              rw [← e1] at a1
              have Hsub2 := Lib.hid (and_sub (s - 1) may)
              have Hlt6 : Hid ((s - 1) &&& may < s) := Lib.hid (by have := @Nat.and_le_left (s - 1) may; omega)
              have Hnx := Lib.hid (fun d => @out_next h may x s d HSub.out (by omega))
              have Hc8 := Lib.hid (cnt8_le s)
              generalize (s - 1) &&& may = s' at *
              obtain ⟨c, Hc⟩ : ∃ c, Hid (cnt8 s = c) := ⟨_, Lib.hid rfl⟩
              rw [Hc.out] at Hon Hc8
              have hc8 := Hc8.out
              clear e1
              have hcase : (OkC h may s ∧ (c = h ∨ (c < h ∧ s = may))) ∨ (¬ OkC h may s ∧ (h < c ∨ (c < h ∧ s ≠ may))) := by
                unfold OkC
                rw [Hc.out]
                by_cases e : c = h
                · exact .inl ⟨.inl e, .inl e⟩
                · by_cases e2 : c < h
                  · by_cases e3 : s = may
                    · exact .inl ⟨.inr ⟨e2, e3⟩, .inr ⟨e2, e3⟩⟩
                    · exact .inr ⟨fun h => h.elim e (fun h => e3 h.2), .inr ⟨e2, e3⟩⟩
                  · exact .inr ⟨fun h => h.elim e (fun h => e2 h.1), .inl (by omega)⟩
              rcases hcase with ⟨hok, hcc⟩ | ⟨hok, hcc⟩
              · have Hok2 := Lib.hid hok
                have hb1 : (((c : Nat) : Int) == ((h : Nat) : Int)) = true ∨ ((((c : Nat) : Int) == ((h : Nat) : Int)) = false ∧ ((c : Nat) : Int) < ((h : Nat) : Int) ∧ (((s : Nat) : Int) == ((may : Nat) : Int)) = true) := by
                  rcases hcc with e | ⟨e, e2⟩
                  · exact .inl (by rw [beq_iff_eq]; omega)
                  · exact .inr ⟨by rw [beq_eq_false_iff_ne]; omega, by omega, by rw [beq_iff_eq]; omega⟩
                clear hcc hok
                rcases hb1 with b1 | ⟨b1, b2, b3⟩
                all_goals
                  go_wp2_with (first
                    | (go_at_call 41; refine (Hon.out _).mono ?_; rintro e w' ⟨rfl, nq, rfl⟩)
                    | (refine wpList_putS rfl _ _ _ (.inl rfl) rfl (HSn6.out.drewN nq) (x ||| s) hxs rfl rfl ?_; intro w7 hS7 hg7
                       have HS7 := Lib.hid (hS7.congr (T := fun d => DoneS m' (Pr ps) h (Rch m' (Pr ps) h t) left d ∨ OutS h may x s' d) (fun d => by rw [Hnx.out d, or_assoc]; exact or_congr Iff.rfl (or_congr Iff.rfl ⟨fun e => ⟨Hok2.out, e⟩, fun e => e.2⟩)))
                       have Hr7 := Lib.hid ((Hr6.out.drewN nq).kept hg7 (by intro e; injection e with e; omega) (by intro e; injection e with e; omega))
                       have HW7 := Lib.hid ((below_dN HW6.out nq).grown hg7 hw6 (fun k e => by injection e with e; omega))
                       clear hS7 hg7)
                    | fail)
                  go_roundw
                  case rel => exact ⟨s', rfl, Hsub2.out, HS7.out, Hr7.out, HW7.out⟩
                  case measure => have := Hlt6.out; simp [intOf]; omega
              · have Hno := Lib.hid hok
                have HS7 := Lib.hid (HSn6.out.congr (T := fun d => DoneS m' (Pr ps) h (Rch m' (Pr ps) h t) left d ∨ OutS h may x s' d) (fun d => by rw [Hnx.out d]; exact or_congr Iff.rfl ⟨.inl, fun e => e.elim id (fun e => absurd e.1 Hno.out)⟩))
                have hb1 : (((c : Nat) : Int) == ((h : Nat) : Int)) = false ∧ (((h : Nat) : Int) ≤ ((c : Nat) : Int) ∨ (((c : Nat) : Int) < ((h : Nat) : Int) ∧ (((s : Nat) : Int) == ((may : Nat) : Int)) = false)) := by
                  rcases hcc with e | ⟨e, e2⟩
                  · exact ⟨by rw [beq_eq_false_iff_ne]; omega, .inl (by omega)⟩
                  · exact ⟨by rw [beq_eq_false_iff_ne]; omega, .inr ⟨by omega, by rw [beq_eq_false_iff_ne]; omega⟩⟩
                clear hcc hok
                obtain ⟨b0, b1 | ⟨b1, b2⟩⟩ := hb1
                all_goals
                  go_wp2_with (first
                    | (go_at_call 41; refine (Hon.out _).mono ?_; rintro e w' ⟨rfl, nq, rfl⟩)
                    | fail)
                  go_roundw
                  case rel => exact ⟨s', rfl, Hsub2.out, HS7.out.drewN nq, Hr6.out.drewN nq, below_dN HW6.out nq⟩
                  case measure => have := Hlt6.out; simp [intOf]; omega
end Go.Proofs.Ytdkkmmljaijomaa
