/- plan.List walked. -/
import Derived.Test.YtdkkmmljaijomaaPlnI
namespace Go.Proofs.Ytdkkmmljaijomaa
open Go.RowKit

def LstEnd (n : Nat) (ps : List (Int × Int)) (h : Nat) (O : List Int) (w : World) (e : Ending) (w' : World) : Prop :=
  (¬ OrdOk n O ∧ e = .returned (.tuple #[.slice none 0 0, .int .i64 3]) ∧ Below w.heap.size w w') ∨
  (OrdOk n O ∧ ∃ v T X D, e = .returned (.tuple #[v, .int .i64 0]) ∧ Grd n (Pr ps) h T (Bef O) D ∧ Tur n T X D ∧ OwnI w' w.heap.size 3 v (lvL n X) ∧ Below w.heap.size w w')
theorem list_bad (n h : Int) (A B : Option Addr) (ps : List (Int × Int)) (O : List Int) (cap c2 : Nat) (w : World) (hA : RdP w A ps) (hm : ps.length ≤ maxLen) (hbad : plErr n ps ≠ 0 ∨ h < 1 ∨ 8 < h) :
    Calls Try.prog 24 #[.int .i64 n, .slice A ps.length cap, .int .i64 h, .slice B O.length c2] w fun e w' => (∃ x, x ≠ 0 ∧ e = .returned (.tuple #[.slice none 0 0, .int .i64 x])) ∧ Below w.heap.size w w' := by
  have Hc := Lib.hid (ahead_calls n A ps cap w hA hm)
  clear hA hm
  by_cases h0 : plErr n ps = 0
  · have hh := hbad.resolve_left (fun h => h h0)
    have H0 := Lib.hid h0
    clear h0 hbad
    rcases (show h < 1 ∨ (1 ≤ h ∧ 8 < h) by omega) with hh | hh
    all_goals
      go_enter Try.func24, Try.ntmps24
      go_wp2_with fail
      refine Hc.out.mono ?_
      rintro e w1 ⟨v, rfl, hW1, -⟩
      have HW1 := Lib.hid hW1
      clear hW1
      rw [H0.out]
      go_wp2
      all_goals first
        | (exfalso; omega; done)
        | (go_ret2; exact ⟨⟨4, by decide, rfl⟩, HW1.out⟩)
  · have q : (plErr n ps != 0) = true := by rw [bne_iff_ne]; exact h0
    have H0 := Lib.hid h0
    clear h0 hbad
    go_enter Try.func24, Try.ntmps24
    go_wp2_with fail
    refine Hc.out.mono ?_
    rintro e w1 ⟨v, rfl, hW1, -⟩
    have HW1 := Lib.hid hW1
    clear hW1
    generalize plErr n ps = x at *
    go_wp2
    go_ret2
    exact ⟨⟨x, H0.out, rfl⟩, HW1.out⟩
theorem lvL_set {n : Nat} {X : Nat → Nat} {j : Nat} (x : Nat) : (lvL n X).set j (x : Int) = lvL n (fun k => if k = j then x else X k) := by
  refine List.ext_getElem (by simp [lvL]) fun k h1 h2 => ?_
  rw [List.getElem_set]
  by_cases e : j = k
  · subst e; rw [if_pos rfl, lvL_get, if_pos rfl]
  · rw [if_neg e, lvL_get, lvL_get, if_neg (fun h => e h.symm)]
set_option maxRecDepth 100000 in
set_option maxHeartbeats 8000000 in
theorem list_ok (n : Nat) (A B : Option Addr) (ps : List (Int × Int)) (O : List Int) (cap c2 h : Nat) (w : World) (hA : RdP w A ps) (hB : RdI w B O) (hm : ps.length ≤ maxLen) (hm2 : O.length ≤ maxLen) (h0 : plErr n ps = 0) (h1 : 1 ≤ h) (h8 : h ≤ 8) :
    Calls Try.prog 24 #[.int .i64 n, .slice A ps.length cap, .int .i64 h, .slice B O.length c2] w (LstEnd n ps h O w) := by
  obtain ⟨m, em, hok⟩ := plOk_of h0
  obtain rfl : m = n := by omega
  clear em
  unfold maxLen at hm2
  have Hc := Lib.hid (ahead_calls m A ps cap w hA hm)
  have Hok := Lib.hid hok
  obtain ⟨rk, hD⟩ := hok.dag
  have HD := Lib.hid hD
  have H0 := Lib.hid h0
  have HB := Lib.hid hB
  have hn1 := hok.n1
  have hn8 := hok.n8
  have p1 := pow_u32 m (by omega)
  have pk : 2 ^ m ≤ 2 ^ 8 := Nat.pow_le_pow_right (by decide) hn8
  have pk1 : 1 ≤ 2 ^ m := Nat.one_le_two_pow
  have hfu : fullW m = 2 ^ m - 1 := rfl
  obtain ⟨P, hP⟩ : ∃ P, P = 2 ^ m := ⟨_, rfl⟩
  rw [← hP] at p1 pk pk1 hfu
  have hP' : (2 : Int) ^ m = (P : Int) := by rw [hP, Int.natCast_pow]; rfl
  have p2 : (P : Int) - 1 = ((fullW m : Nat) : Int) := by rw [hfu]; omega
  have hfl : fullW m < 256 := by rw [hfu]; omega
  rw [hP'] at p1
  have Hp1 := Lib.hid p1
  have Hp2 := Lib.hid p2
  have HP' := Lib.hid hP'
  have m32 : m < 32 := by omega
  clear hA hB hm h0 hok hD hP hfu p1 p2 hP'
  go_enter Try.func24, Try.ntmps24
  go_wp2_with fail
  refine Hc.out.mono ?_
  rintro e w1 ⟨v, rfl, hW1, hv⟩
  rw [H0.out] at hv ⊢
  obtain ⟨m', em, -, hO⟩ := hv.resolve_left (fun h => h.1 rfl)
  obtain rfl : m' = m := by omega
  obtain ⟨A1, c1, rfl, hR1⟩ := OwnU.rd hO
  rw [preL_len]
  have HR1 := Lib.hid hR1
  have HW1 := Lib.hid hW1
  have hz1 := hW1.size
  have HB1 := Lib.hid (Rd.below HB.out hW1)
  clear hv em hO hR1 hW1 Hc
  go_wp2
  all_goals (try (exfalso; omega; done))
  go_loop [12, 39] (fun s i => ∃ k : Nat, k ≤ O.length ∧ i = .int .i64 k ∧ s = .int .u32 (seenO O k : Nat) ∧ Hid (PreO m' O k)) (fun _ i => O.length - (intOf i).toNat)
  case atStart => exact ⟨0, Nat.zero_le _, rfl, by rw [seenO_zero]; rfl, Lib.hid ⟨by simp, fun x hx => by simp at hx⟩⟩
  case round =>
    obtain ⟨k, hk, rfl, rfl, hP⟩ := hrel
    by_cases hlt : k < O.length
    · obtain ⟨b, off, rfl, hb, c0⟩ := RdI.at1 HB1.out hlt
      have q1 : ((k : Nat) : Int) < ((O.length : Nat) : Int) := by omega
      have hs := seenO_lt O k
      have Hin : Hid (∀ hO : OrdOk m' O, 0 ≤ O[k] ∧ O[k] < m') := Lib.hid fun hO => hO.in_ _ (List.getElem_mem hlt)
      by_cases hx : 0 ≤ O[k] ∧ O[k] < m'
      · obtain ⟨a, ha⟩ := Int.eq_ofNat_of_zero_le hx.1
        have am : a < m' := by omega
        have a32 : a < 32 := by omega
        have t1 := test1_u32 (seenO O k) a (by omega)
        have pa : 2 ^ a < 2 ^ 8 := Nat.pow_lt_pow_right (by decide) (by omega)
        have r1 := pow_u32 a a32
        have r4 := or_u32 (seenO O k) (2 ^ a) (by omega) (by omega)
        rw [seenO_push hlt ha (by omega)] at r4
        rw [Int.natCast_pow, show ((2 : Nat) : Int) = 2 from rfl] at r1 r4
        have Hpush := Lib.hid (fun hb => hP.out.push hlt ha am (by omega) hb)
        have Hno := Lib.hid (fun hb => PreO.no (n := m') hlt ha hb)
        rw [ha] at c0
        generalize seenO O k = s at *
        obtain ⟨s', hs'⟩ : ∃ s', Hid (seenO O (k + 1) = s') := ⟨_, Lib.hid rfl⟩
        rw [hs'.out] at r4
        have q2 : ((a : Nat) : Int) < ((m' : Nat) : Int) := by omega
        clear hx ha hP pa Hin
        by_cases hb : s.testBit a = true
        · have Hn := Lib.hid (Hno.out hb)
          rw [hb] at t1
          clear Hno Hpush
          go_wp2
          all_goals (try (exfalso; omega; done))
          go_ret2
          exact .inl ⟨Hn.out, rfl, HW1.out⟩
        · have hb' : s.testBit a = false := by simpa using hb
          have Hp := Lib.hid (Hpush.out hb')
          rw [hb'] at t1
          clear Hno Hpush hb hb'
          go_wp2
          all_goals (try (exfalso; omega; done))
          go_round
          case rel => exact ⟨k + 1, by omega, by go_num, by rw [hs'.out], Hp⟩
          case measure => simp [intOf]; omega
      · have Hn : Hid (¬ OrdOk m' O) := Lib.hid fun h => hx (Hin.out h)
        have hx2 : O[k] < 0 ∨ (0 ≤ O[k] ∧ (m' : Int) ≤ O[k]) := by omega
        generalize O[k] = x at *
        clear hx hP Hin
        rcases hx2 with hx2 | hx2
        all_goals
          go_wp2
          all_goals (try (exfalso; omega; done))
          all_goals (go_ret2; exact .inl ⟨Hn.out, rfl, HW1.out⟩)
    · have : k = O.length := by omega
      subst this
      by_cases hl : O.length = m'
      case neg =>
        have Hn : Hid (¬ OrdOk m' O) := Lib.hid fun h => hl h.len
        have q : ¬ ((O.length : Nat) : Int) = ((m' : Nat) : Int) := by omega
        have q2 : (((O.length : Nat) : Int) != ((m' : Nat) : Int)) = true := by rw [bne_iff_ne]; exact q
        clear hP hl
        go_wp2
        all_goals (try (exfalso; omega; done))
        go_ret2
        exact .inl ⟨Hn.out, rfl, HW1.out⟩
      have HO := Lib.hid (hP.out.ok hl)
      have Hl := Lib.hid hl
      have q2 : (((O.length : Nat) : Int) != ((m' : Nat) : Int)) = false := by rw [hl]; simp
      generalize seenO O O.length = s0
      clear hP
      go_wp2_with (at_make; refine wpList_makeI rfl _ _ rfl w1.heap.size m' rfl rfl (by omega) (Nat.le_refl _) ?_; intro w2 hown2 hgrow2)
      rw [← lvL_zero] at hown2
      have HO2 := Lib.hid hown2
      have HW2 := Lib.hid ((Below.refl w1.heap.size w1).grown hgrow2 (Nat.le_refl _) (fun k hk => by cases hk))
      clear hown2 hgrow2
      go_loopw [16, 17] (fun dv tv wr => ∃ (T d : Nat) (X D : Nat → Nat), dv = .int .u32 d ∧ tv = .int .i64 T ∧ Hid (LsK m' (Pr ps) h O T d X D) ∧ OwnI wr w1.heap.size 3 (.slice (some ⟨w1.heap.size, 0, none⟩) m' m') (lvL m' X) ∧ Below w1.heap.size w1 wr) (fun _ tv _ => m' - (intOf tv).toNat)
      case atStart => exact ⟨0, 0, _, _, rfl, rfl, Lib.hid LsK.start, HO2.out, HW2.out⟩
      case round =>
        clear HO2 HW2
        obtain ⟨T, d, X, D, rfl, rfl, HL, hO, hW⟩ := hrel
        have HOw := Lib.hid hO
        have HW := Lib.hid hW
        have hws := hW.size
        have q1 := Hp1.out
        have q2 := Hp2.out
        have q3 := HP'.out
        have hd := sub_lt HL.out.sub hfl
        clear hO hW
        by_cases hf : d = fullW m'
        · have q4 : (((d : Nat) : Int) != ((fullW m' : Nat) : Int)) = false := by rw [hf]; simp
          have Hg := Lib.hid (by have := HL.out; rw [hf] at this; exact this.grd)
          rw [hf] at q4
          subst hf
          clear HL
          go_wp2
          all_goals (try (exfalso; omega; done))
          go_ret2
          exact .inr ⟨HO.out, _, T, X, D, rfl, Hg.out.1, Hg.out.2, HOw.out.base_ hz1, HW1.out.trans (HW.out.mono hz1)⟩
        · have q4 : (((d : Nat) : Int) != ((fullW m' : Nat) : Int)) = true := by rw [bne_iff_ne]; omega
          have Hf := Lib.hid hf
          have hT : T < m' := by
            have h1 := HL.out.cnt
            rcases Nat.lt_or_ge (cnt8 d) m' with h2 | h2
            · omega
            · exact absurd (sub_eq HL.out.sub hfl (by rw [full_cnt hn8]; exact h2)) hf
          clear hf
          go_wp2_with (go_at_call 40; refine (ready_calls m' A1 ps c1 d _ (Rd.below HR1.out HW.out) Hok.out.inn hn8 (by omega)).mono ?_; rintro e w3 ⟨rfl, rfl⟩)
          have Hmi := Lib.hid (fun i => rdW_in HD.out d i)
          obtain ⟨mw, Hmw⟩ : ∃ mw, Hid (rdW m' (Pr ps) d = mw) := ⟨_, Lib.hid rfl⟩
          have hmw : mw < 256 := by rw [← Hmw.out]; exact rdW_lt _
          rw [Hmw.out] at Hmi ⊢
          have Hnext := Lib.hid (fun x X' hI hX => HL.out.next HD.out h1 Hf.out HO.out (x := x) (X' := X') hI hX)
          rw [Hmw.out] at Hnext
          clear HL
          try go_frame
          go_loopw [16, 19, 81] (fun dv lv i wr => ∃ (q x l : Nat) (X2 : Nat → Nat), q ≤ O.length ∧ dv = .int .u32 (d ||| x : Nat) ∧ lv = .int .i64 l ∧ i = .int .i64 q ∧ Hid (InT mw h O q x ∧ l + cnt8 x = h ∧ ∀ i, X2 i = if inW x i then T else X i) ∧ OwnI wr w1.heap.size 3 (.slice (some ⟨w1.heap.size, 0, none⟩) m' m') (lvL m' X2) ∧ Below w1.heap.size w1 wr) (fun _ _ i _ => O.length - (intOf i).toNat)
          case atStart => exact ⟨0, 0, h, X, Nat.zero_le _, by rw [Nat.or_zero], rfl, rfl, Lib.hid ⟨InT.start, by rw [cnt8_zero]; rfl, fun i => by rw [if_neg (inW_zero i)]⟩, HOw.out, HW.out⟩
          case round =>
            clear HOw HW hws q1 q2 q3 q4
            obtain ⟨q, x, l, X2, hq, rfl, rfl, rfl, HI, hO2, hW⟩ := hrel
            have HOw := Lib.hid hO2
            have HW := Lib.hid hW
            have hws := hW.size
            clear hO2 hW
            have hxs := sub_lt HI.out.1.sub hmw
            by_cases hlt : q < O.length
            · obtain ⟨b, off, rfl, hb, c0⟩ := RdI.at1 (Rd.below HB1.out HW.out) hlt
              have q1 : ((q : Nat) : Int) < ((O.length : Nat) : Int) := by omega
              obtain ⟨hx1, hx2⟩ := HO.out.in_ _ (List.getElem_mem hlt)
              obtain ⟨a, ha⟩ := Int.eq_ofNat_of_zero_le hx1
              rw [ha] at hx1 hx2 c0
              have am : a < m' := by omega
              have a8 : a < 8 := by omega
              have a32 : a < 32 := by omega
              have t1 := test1_u32 mw a (by omega)
              have pa : 2 ^ a < 2 ^ 8 := Nat.pow_lt_pow_right (by decide) (by omega)
              have r1 := pow_u32 a a32
              have r4 := or_u32 (d ||| x) (2 ^ a) (Nat.lt_trans (Nat.or_lt_two_pow (n := 8) hd hxs) (by decide)) (by omega)
              rw [Nat.or_assoc] at r4
              rw [Int.natCast_pow, show ((2 : Nat) : Int) = 2 from rfl] at r1 r4
              have Hskip := Lib.hid (fun hn => HI.out.1.skip hlt ha hn)
              have Htake := Lib.hid (fun hm hc => HI.out.1.take HO.out.one hlt ha a8 hm hc)
              have Hcnt := Lib.hid (HI.out.1.cnt_take HO.out.one hlt ha a8)
              have Hlt := Lib.hid hlt
              clear hlt ha pa hx1 hx2
              by_cases hb : mw.testBit a = true
              · by_cases hl : 0 < l
                · have Ht := Lib.hid (Htake.out hb (by have := HI.out.2.1; omega))
                  obtain ⟨l', rfl⟩ : ∃ l', l = l' + 1 := ⟨l - 1, by omega⟩
                  have el : (((l' + 1 : Nat)) : Int) = (l' : Int) + 1 := by omega
                  rw [el]
                  have l8 : l' < 8 := by have := HI.out.2.1; omega
                  have HI2 : Hid (InT mw h O (q + 1) (x ||| 2 ^ a) ∧ l' + cnt8 (x ||| 2 ^ a) = h ∧ ∀ i, (if i = a then T else X2 i) = if inW (x ||| 2 ^ a) i then T else X i) := Lib.hid ⟨Ht.out, by have := Hcnt.out; have := HI.out.2.1; omega, fun i => by
                    by_cases e : i = a
                    · subst e; rw [if_pos rfl, if_pos ((or_in _ _ _).2 (.inr ((pow_in _ _).2 rfl)))]
                    · rw [if_neg e, HI.out.2.2]
                      by_cases e2 : inW x i
                      · rw [if_pos e2, if_pos ((or_in _ _ _).2 (.inl e2))]
                      · rw [if_neg e2, if_neg (fun h => ((or_in _ _ _).1 h).elim e2 fun h => e ((pow_in _ _).1 h).symm)]⟩
                  obtain ⟨g, eg, _, hg, _, hfz, hcell⟩ := OwnI.at2 HOw.out (by rw [lvL_len]; omega)
                  injection eg with eg; injection eg with eg
                  subst eg
                  have c4 := hcell a (by rw [lvL_len]; exact am)
                  have f4 := hfz a
                  have HOu := Lib.hid (OwnI.set_ HOw.out (k := a) (by rw [lvL_len]; exact am) (T : Int))
                  rw [lvL_set] at HOu
                  have HWu := Lib.hid (HW.out.setCell (p := ⟨w1.heap.size, a, none⟩) (Nat.le_refl _) (.int .i64 T))
                  rw [hb] at t1
                  generalize (lvL m' X2)[a]'_ = old at c4
                  obtain ⟨xx, Hxx⟩ : ∃ xx, Hid (d ||| (x ||| 2 ^ a) = xx) := ⟨_, Lib.hid rfl⟩
                  rw [Hxx.out] at r4
                  obtain ⟨y, hy⟩ : ∃ y, Hid (d ||| x = y) := ⟨_, Lib.hid rfl⟩
                  try rw [hy.out] at r4
                  try rw [hy.out]
                  clear hfz hcell Hskip Htake Hcnt hb HI HOw HW hl Ht
                  go_wp2
                  all_goals (try (exfalso; omega; done))
                  go_roundw
                  case rel => exact ⟨q + 1, x ||| 2 ^ a, l', _, by have := Hlt.out; omega, by rw [Hxx.out], by go_num, by go_num, HI2, HOu.out, HWu.out⟩
                  case measure => have := Hlt.out; simp [intOf]; omega
                · have Hs := Lib.hid (Hskip.out fun h => hl (by have := HI.out.2.1; omega))
                  obtain rfl : l = 0 := by omega
                  have HI2 := Lib.hid (And.intro Hs.out HI.out.2)
                  rw [hb] at t1
                  obtain ⟨y, hy⟩ : ∃ y, Hid (d ||| x = y) := ⟨_, Lib.hid rfl⟩
                  try rw [hy.out] at r4
                  try rw [hy.out]
                  clear Hskip Htake Hcnt hb HI hl Hs
                  go_wp2
                  all_goals (try (exfalso; omega; done))
                  go_roundw
                  case rel => exact ⟨q + 1, x, 0, X2, by have := Hlt.out; omega, by rw [hy.out], rfl, by go_num, HI2, HOw.out, HW.out⟩
                  case measure => have := Hlt.out; simp [intOf]; omega
              · have Hs := Lib.hid (Hskip.out fun h => hb h.1)
                have HI2 := Lib.hid (And.intro Hs.out HI.out.2)
                have hb' : mw.testBit a = false := by simpa using hb
                rw [hb'] at t1
                obtain ⟨y, hy⟩ : ∃ y, Hid (d ||| x = y) := ⟨_, Lib.hid rfl⟩
                try rw [hy.out] at r4
                try rw [hy.out]
                clear Hskip Htake Hcnt hb hb' HI Hs
                go_wp2
                all_goals (try (exfalso; omega; done))
                go_roundw
                case rel => exact ⟨q + 1, x, l, X2, by have := Hlt.out; omega, by rw [hy.out], rfl, by go_num, HI2, HOw.out, HW.out⟩
                case measure => have := Hlt.out; simp [intOf]; omega
            · have : q = O.length := by omega
              subst this
              have Hn := Lib.hid (Hnext.out x X2 HI.out.1 HI.out.2.2)
              have hTT : T < 8 := by omega
              clear HI Hnext
              obtain ⟨y, hy⟩ : ∃ y, Hid (d ||| x = y) := ⟨_, Lib.hid rfl⟩
              try rw [hy.out] at r4
              try rw [hy.out]
              go_wp2
              all_goals (try (exfalso; omega; done))
              go_roundw
              case rel => exact ⟨T + 1, d ||| x, X2, _, by rw [hy.out], by go_num, Hn, HOw.out, HW.out⟩
              case measure => simp [intOf]; omega
end Go.Proofs.Ytdkkmmljaijomaa
