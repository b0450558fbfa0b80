/- codemasonref.TasksCheck walked; plan.Best at what is wrong; tasks. -/
import Derived.Test.YtdkkmmljaijomaaPlnC
import Derived.Test.YtdkkmmljaijomaaPlnD
import Derived.Test.YtdkkmmljaijomaaReachR
namespace Go.Proofs.Ytdkkmmljaijomaa
open Go.RowKit

theorem rwE_bh {n : Nat} {ps : List (Int × Int)} (hI : Inn n ps) (i j : Nat) : rwE (bhR n ps) i j ↔ Pr ps i j := by
  constructor
  · rintro ⟨l, h1, h2⟩
    have hi : i < n := by have := (List.getElem?_eq_some_iff.1 h1).1; rwa [bhR_len] at this
    rw [bhR_get hi] at h1
    injection h1 with h1
    subst h1
    obtain ⟨p, hp, e1, e2⟩ := bhI_mem.1 h2
    exact ⟨p, hp, e1, e2⟩
  · rintro ⟨p, hp, e1, e2⟩
    have hi := (hI.lt ⟨p, hp, e1, e2⟩).1
    exact ⟨_, bhR_get hi, bhI_mem.2 ⟨p, hp, e1, e2⟩⟩
theorem star_bh {n : Nat} {ps : List (Int × Int)} (hI : Inn n ps) (a b : Nat) : StarE (rwE (bhR n ps)) a b ↔ Star (Pr ps) a b := by
  constructor
  · intro h
    induction h with
    | refl => exact .refl _
    | step _ he ih => exact ih.trans (.step ((rwE_bh hI _ _).1 he) (.refl _))
  · intro h
    have key : ∀ {x y : Nat}, Star (Pr ps) x y → ∀ {a : Nat}, StarE (rwE (bhR n ps)) a x → StarE (rwE (bhR n ps)) a y := fun {x y} h => by
      induction h with
      | refl _ => exact fun h => h
      | step h _ ih => exact fun h' => ih (.step h' ((rwE_bh hI _ _).2 h))
    exact key h .refl
theorem best_bad (n h : Int) (A : Option Addr) (ps : List (Int × Int)) (cap : Nat) (w : World) (hA : RdP w A ps) (hm : ps.length ≤ maxLen) (hbad : plErr n ps ≠ 0 ∨ h < 1 ∨ 8 < h) :
    Calls Try.prog 20 #[.int .i64 n, .slice A ps.length cap, .int .i64 h] w fun e w' => (∃ x, x ≠ 0 ∧ e = .returned (.tuple #[.int .i64 0, .int .i64 x])) ∧ Below w.heap.size w w' := by
  have Hc := Lib.hid (ahead_calls n A ps cap w hA hm)
  clear hA hm
  by_cases h0 : plErr n ps = 0
  · have hh := hbad.resolve_left (fun h => h h0)
    have H0 := Lib.hid h0
    clear h0 hbad
    rcases hh with hh | hh
    all_goals
      go_enter Try.func20, Try.ntmps20
      go_wp2_with fail
      refine Hc.out.mono ?_
      rintro e w1 ⟨v, rfl, hW1, -⟩
      rw [H0.out]
      have HW1 := Lib.hid hW1
      clear hW1
      go_wp2
      all_goals first | (exfalso; omega; done) | (go_ret2; exact ⟨⟨4, by decide, rfl⟩, HW1.out⟩)
  · have q : (plErr n ps != 0) = true := by rw [bne_iff_ne]; exact h0
    have H0 := Lib.hid h0
    clear h0 hbad
    go_enter Try.func20, Try.ntmps20
    go_wp2_with fail
    refine Hc.out.mono ?_
    rintro e w1 ⟨v, rfl, hW1, -⟩
    have HW1 := Lib.hid hW1
    clear hW1
    generalize plErr n ps = x at *
    go_wp2
    go_ret2
    exact ⟨⟨x, H0.out, rfl⟩, HW1.out⟩
theorem ins2_in {m x y : Int} (h : inP m (x, y)) : insideB m [x, y] = true := by unfold inP at h; dsimp only at h; simp [insideB]; omega
theorem ins2_out {m x y : Int} (h : ¬ inP m (x, y)) : insideB m [x, y] = false := by unfold inP at h; dsimp only at h; simp [insideB]; omega
set_option maxRecDepth 100000 in
set_option maxHeartbeats 8000000 in
theorem tasksCheck_calls (n : Int) (A : Option Addr) (ps : List (Int × Int)) (cap : Nat) (w : World) (hA : RdP w A ps) (hm : ps.length ≤ maxLen) :
    Calls Try.prog 42 #[.int .i64 n, .slice A ps.length cap] w fun e w' => e = .returned (.int .i64 (plErr n ps)) ∧ Below w.heap.size w w' := by
  unfold maxLen at hm
  have HA := Lib.hid hA; clear hA
  by_cases hn : n < 1 ∨ 8 < n ∨ 28 < ps.length
  · have He := Lib.hid (plErr_1 hn)
    have hd : n < 1 ∨ (1 ≤ n ∧ 8 < n) ∨ (1 ≤ n ∧ n ≤ 8 ∧ decide ((28 : Int) < (ps.length : Int)) = true) := by
      simp only [decide_eq_true_eq]; omega
    clear hn
    rcases hd with h1 | ⟨h1, h2⟩ | ⟨h1, h2, h3⟩
    all_goals
      go_enter Try.func42, Try.ntmps42
      go_wp2
      all_goals first | (exfalso; simp only [decide_eq_true_eq] at *; omega) | (go_ret; exact ⟨ret_int He.out.symm, Below.refl _ _⟩)
  obtain ⟨m, rfl⟩ := Int.eq_ofNat_of_zero_le (show 0 ≤ n by omega)
  have h1 : 1 ≤ m := by omega
  have h8 : m ≤ 8 := by omega
  have q1 : decide ((m : Int) < 1) = false := decide_eq_false (by omega)
  have q2 : decide (8 < m) = false := decide_eq_false (by omega)
  have q3 : decide (28 < ps.length) = false := decide_eq_false (by omega)
  have h28 : ps.length ≤ 28 := by omega
  have HN := Lib.hid hn
  clear hn hm
  go_enter Try.func42, Try.ntmps42
  go_wp2
  clear q1 q2 q3
  go_loopw [24] (fun i wr => ∃ k : Nat, k ≤ ps.length ∧ i = .int .i64 k ∧ Hid (∀ p ∈ ps.take k, inP m p) ∧ Below w.heap.size w wr) (fun i _ => ps.length - (intOf i).toNat)
  case atStart => exact ⟨0, Nat.zero_le _, rfl, fun p hp => by simp at hp, Below.refl _ _⟩
  case round =>
    obtain ⟨k, hk, rfl, hP, hW⟩ := hrel
    have hw2 := hW.size
    have HW := Lib.hid hW
    by_cases hlt : k < ps.length
    · obtain ⟨b, off, rfl, hb, c0, c1⟩ := RdP.at2 (Rd.below HA.out hW) hlt
      have Hst := Lib.hid (fun h => plTail (p := inP m) hlt hP.out h)
      have Hmem := Lib.hid (List.getElem_mem hlt)
      have hlt : ((k : Nat) : Int) < ((ps.length : Nat) : Int) := by omega
      clear hP hW
      generalize ps[k] = p at *
      obtain ⟨x, y⟩ := p
      dsimp only at c0 c1
      have HW2 := Lib.hid ((HW.out.alloc hw2 (.cells #[.int .i64 x, .int .i64 y] 39)).alloc (by simp; omega) (.cells #[.int .i64 x, .int .i64 y] 3))
      by_cases hin : inP m (x, y)
      · have q := ins2_in hin
        have Hin := Lib.hid hin
        clear hin
        go_wp2_with (go_at_call 46; refine (inside_calls _ _ [x, y] _ _ (rdI_new2 _ _ _ _ _ (by simp)) (by simp [maxLen])).mono ?_; rintro e w' ⟨rfl, rfl⟩)
        go_roundw
        case rel => exact ⟨k + 1, by omega, by go_num, Hst.out Hin.out, HW2.out⟩
        case measure => simp [intOf]; omega
      · have q := ins2_out hin
        have Hf := Lib.hid (plErr_2 HN.out Hmem.out hin)
        clear hin
        go_wp2_with (go_at_call 46; refine (inside_calls _ _ [x, y] _ _ (rdI_new2 _ _ _ _ _ (by simp)) (by simp [maxLen])).mono ?_; rintro e w' ⟨rfl, rfl⟩)
        go_ret
        exact ⟨ret_int Hf.out.symm, HW2.out⟩
    · have : k = ps.length := by omega
      subst this
      have Hall := Lib.hid (show Inn m ps by have := hP.out; rwa [List.take_length] at this)
      have Hbh := Lib.hid (behinds_calls m A ps cap wr (Rd.below HA.out hW) h28 Hall.out h1 h8)
      clear hP hlt hk hW
      go_wp2_with (go_at_call 52; refine Hbh.out.mono ?_; rintro e w3 ⟨b3, rfl, hR, hW3⟩)
      have HR := Lib.hid hR
      have HW3 := Lib.hid (HW.out.trans (hW3.mono hw2))
      have hw3 := HW3.out.size
      have Hlen := Lib.hid (bhR_len m ps)
      clear hR hW3 Hbh
      go_loopw [8] (fun i wr => ∃ k : Nat, k ≤ m ∧ i = .int .i64 k ∧ Hid (∀ i j, i < k → Pr ps i j → ¬ Star (Pr ps) j i) ∧ Below w3.heap.size w3 wr) (fun i _ => m - (intOf i).toNat)
      case atStart => exact ⟨0, Nat.zero_le _, rfl, Lib.hid (fun i j h => by omega), Below.refl _ _⟩
      case round =>
        obtain ⟨k, hk, rfl, HP, hW⟩ := hrel
        have HW4 := Lib.hid hW
        have hw4 := hW.size
        clear hW
        by_cases hlt : k < m
        · obtain ⟨b4, o4, B4, c4, e4, hb4, c4', hR4⟩ := RdN.at_ (RdN.below HR.out HW4.out) (k := k) (by rw [bhR_len]; exact hlt)
          injection e4 with e4; injection e4 with e41 e42
          subst e41 e42
          rw [Nat.zero_add] at c4'
          have er : (bhR m ps)[k]'(by rw [bhR_len]; exact hlt) = bhI ps k := by
            have := bhR_get (ps := ps) hlt
            rw [List.getElem?_eq_getElem (by rw [bhR_len]; exact hlt)] at this
            injection this
          rw [er] at c4' hR4
          have HR4 := Lib.hid hR4
          have Hl4 := Lib.hid (bhI_len ps k)
          have Hmem := Lib.hid (fun x => @bhI_mem ps k x)
          have Hlt := Lib.hid hlt
          have q5 : ((k : Nat) : Int) < (m : Int) := by omega
          have hl4 := Hl4.out
          clear hR4 er
          generalize bhI ps k = row at *
          go_wp2
          obtain ⟨wo, rfl⟩ : ∃ wo : World, wo = wr := ⟨_, rfl⟩
          go_loopw [50] (fun j wr => ∃ t : Nat, t ≤ row.length ∧ j = .int .i64 t ∧ Hid (∀ i (h : i < row.length), i < t → ∀ y : Nat, row[i] = y → ¬ Star (Pr ps) y k) ∧ Below wo.heap.size wo wr) (fun j _ => row.length - (intOf j).toNat)
          case atStart => exact ⟨0, Nat.zero_le _, rfl, Lib.hid (fun i h hi => by omega), Below.refl _ _⟩
          case round =>
            clear c4'
            obtain ⟨t, ht, rfl, HT, hW⟩ := hrel
            have HW5 := Lib.hid hW
            have hw5 := hW.size
            clear hW
            by_cases htl : t < row.length
            · obtain ⟨b6, o6, rfl, hb6, c6⟩ := RdI.at1 (Rd.below HR4.out HW5.out) htl
              obtain ⟨p, hp, e1, e2⟩ := (Hmem.out _).1 (List.getElem_mem htl)
              have hin := Hall.out p hp
              unfold inP at hin
              obtain ⟨y, hy⟩ := Int.eq_ofNat_of_zero_le (show 0 ≤ row[t] by omega)
              have hym : y < m := by omega
              have Hpr : Hid (Pr ps k y) := Lib.hid ⟨p, hp, e1, by rw [e2, hy]⟩
              have HT2 := Lib.hid (show (¬ Star (Pr ps) y k) → ∀ i (h : i < row.length), i < t + 1 → ∀ z : Nat, row[i] = z → ¬ Star (Pr ps) z k from fun h i hi hlt z hz => by
                by_cases e : i = t
                · subst e
                  rw [hy] at hz
                  obtain rfl : y = z := Int.ofNat.inj hz
                  exact h
                · exact HT.out i hi (by omega) z hz)
              rw [hy] at c6
              have Hr := Lib.hid (fun w hR => reach_calls (some ⟨b3, 0, none⟩) (bhR m ps) m y w hR (by rw [bhR_len]; exact h8) (by rw [bhR_len]; exact hym) (fun l hl => by
                obtain ⟨i, hi, rfl⟩ := List.mem_map.1 hl
                refine ⟨by have := bhI_len ps i; omega, fun x hx => ?_⟩
                obtain ⟨p, hp, e1, e2⟩ := bhI_mem.1 hx
                have := Hall.out p hp
                unfold inP at this
                rw [bhR_len]; omega))
              rw [Hlen.out] at Hr
              have Htl := Lib.hid htl
              have q6 : ((t : Nat) : Int) < ((row.length : Nat) : Int) := by omega
              have HR5 := Lib.hid (RdN.below (RdN.below HR.out HW4.out) HW5.out)
              clear hin e1 e2 hp hy hym
              go_wp2_with (first
                | (go_at_call 53; refine (Hr.out _ HR5.out).mono ?_; rintro e w7 ⟨v, l, rfl, hO, hs, hl, hW7⟩
                   obtain ⟨L, lc, rfl, hL⟩ := OwnI.rd hO
                   have HL := Lib.hid hL
                   have Hs := Lib.hid hs
                   have HW7 := Lib.hid (HW5.out.trans (hW7.mono hw5))
                   clear hO hL hs hW7)
                | fail)
              have Hhas := Lib.hid (has_calls L l lc (k : Int) w7 HL.out (by unfold maxLen; omega))
              by_cases hst : Star (Pr ps) y k
              · have hk7 : (k : Int) ∈ l := (Hs.out k).2 ((star_bh Hall.out _ _).2 hst)
                rw [decide_eq_true hk7] at Hhas
                have Hbad := Lib.hid (plErr_3 HN.out Hall.out (fun hno => hno k y Hpr.out hst))
                clear hk7 hst
                go_wp2_with (go_at_call 19; refine Hhas.out.mono ?_; rintro e w' ⟨rfl, rfl⟩)
                go_ret
                exact ⟨ret_int Hbad.out.symm, HW3.out.trans ((HW4.out.trans (HW7.out.mono hw4)).mono hw3)⟩
              · have hk7 : ¬ (k : Int) ∈ l := fun h => hst ((star_bh Hall.out _ _).1 ((Hs.out k).1 h))
                rw [decide_eq_false hk7] at Hhas
                have HT3 := Lib.hid (HT2.out hst)
                clear hk7 hst
                go_wp2_with (go_at_call 19; refine Hhas.out.mono ?_; rintro e w' ⟨rfl, rfl⟩)
                go_roundw
                case rel => exact ⟨t + 1, by have := Htl.out; omega, by go_num, HT3, HW7.out⟩
                case measure => have := Htl.out; simp [intOf]; omega
            · have hte : t = row.length := by omega
              subst hte
              have HP2 := Lib.hid (show ∀ i j, i < k + 1 → Pr ps i j → ¬ Star (Pr ps) j i from fun i j hi hp => by
                by_cases e : i = k
                · subst e
                  obtain ⟨q, hq, e1, e2⟩ := hp
                  obtain ⟨z, hz, ez⟩ := List.getElem_of_mem ((Hmem.out (j : Int)).2 ⟨q, hq, e1, e2⟩)
                  exact HT.out z hz hz j ez
                · exact HP.out i j (by omega) hp)
              go_wp2
              go_roundw
              case rel => exact ⟨k + 1, by have := Hlt.out; omega, by go_num, HP2, HW4.out.trans (HW5.out.mono hw4)⟩
              case measure => have := Hlt.out; simp [intOf]; omega
        · have hkm : k = m := by omega
          subst hkm
          have Hok := Lib.hid (plErr_0 HN.out Hall.out (fun i j hp => HP.out i j (Hall.out.lt hp).1 hp))
          go_wp2
          go_ret
          exact ⟨ret_int Hok.out.symm, HW3.out.trans (HW4.out.mono hw3)⟩
end Go.Proofs.Ytdkkmmljaijomaa
