/- codemasonref.LawCheck; lawful. -/
import Derived.Test.YtljmignfbagomaaFacC
namespace Go.Proofs.Ytljmignfbagomaa
open Go.RowKit

theorem facErr_4 {ls : List (List Int)} {L : LawD} (h0 : wayErr ls = 0) (hl : ¬ (L.makes.length ≠ ls.length ∨ L.ends.length ≠ ls.length)) {x : Nat} (hx : x ∈ L.makes ++ L.ends ++ [L.start]) (h : ¬ x < 256) : facErr ls L = 4 := by
  unfold facErr
  rw [if_neg (fun h => h h0), if_neg hl, if_pos]
  rw [List.any_eq_true]
  exact ⟨x, hx, decide_eq_true (by omega)⟩
theorem fits8 (s : Nat) (w : World) : Calls Try.prog 30 #[.int .i64 8, .int .u32 (s : Nat)] w fun e w' => e = .returned (.bool (decide (s < 256))) ∧ w' = w := fits_calls 8 s w (by decide)
set_option maxHeartbeats 4000000 in
theorem lawCheck_calls (A B C : Option Addr) (ls : List (List Int)) (L : LawD) (cap ca cb : Nat) (w : World) (hA : RdN w A ls) (hm : ls.length ≤ maxLen) (hL : RdL w B C L) :
    Calls Try.prog 59 #[.slice A ls.length cap, .agg #[.bool L.back, .bool L.all, .slice B L.makes.length ca, .slice C L.ends.length cb, .int .u32 (L.start : Nat)]] w fun e w' => e = .returned (.int .i64 (facErr ls L)) ∧ Below w.heap.size w w' := by
  have hB1 := (Below.refl w.heap.size w).alloc (Nat.le_refl _) (.cells #[.bool L.back, .bool L.all, .slice B L.makes.length ca, .slice C L.ends.length cb, .int .u32 (L.start : Nat)] 58)
  have HB1 := Lib.hid hB1
  have hlb := LB.new w B C L ca cb
  go_enter Try.func59, Try.ntmps59
  go_upto_region 1 with fail
  have HA := Lib.hid (RdN.below hA hB1)
  have HL := Lib.hid (hL.below hB1)
  clear hA hL hB1
  generalize w.alloc (Obj.cells #[Value.bool L.back, Value.bool L.all, Value.slice B L.makes.length ca, Value.slice C L.ends.length cb, Value.int IntKind.u32 (L.start : Nat)] 58) = wa at *
  obtain ⟨_, _, _, c2, c3, c4⟩ := hlb
  by_cases h0 : wayErr ls = 0
  case neg =>
    have hd : (wayErr ls != 0) = true := by rw [bne_iff_ne]; exact h0
    have He := Lib.hid (show facErr ls L = wayErr ls by unfold facErr; rw [if_pos h0])
    clear h0
    go_wp2_with (go_at_call 46; refine (wayCheck_calls _ _ _ _ HA.out hm).mono ?_; rintro e w1 ⟨rfl, rfl⟩)
    go_ret
    exact ⟨ret_int He.out.symm, HB1.out⟩
  have h8 := (valid_of h0).2.1
  have h1 := (valid_of h0).1
  have H0 := Lib.hid h0
  have hw0 := HB1.out.size
  by_cases hlen : L.makes.length ≠ ls.length ∨ L.ends.length ≠ ls.length
  · have He := Lib.hid (show facErr ls L = 3 by unfold facErr; rw [if_neg (fun h => h h0), if_pos hlen])
    have hd : ((L.makes.length : Int) != (ls.length : Int)) = true ∨ (((L.makes.length : Int) != (ls.length : Int)) = false ∧ ((L.ends.length : Int) != (ls.length : Int)) = true) := by
      simp only [bne_iff_ne, bne_eq_false_iff_eq]; omega
    clear h0 hlen
    rcases hd with hd | ⟨hd, hd2⟩
    all_goals
      go_wp2_with (go_at_call 46; refine (wayCheck_calls _ _ _ _ HA.out hm).mono ?_; rintro e w1 ⟨rfl, rfl⟩; rw [H0.out])
      go_ret
      exact ⟨ret_int He.out.symm, HB1.out⟩
  · obtain ⟨hml, hel⟩ : L.makes.length = ls.length ∧ L.ends.length = ls.length := by omega
    have hd1 : ((L.makes.length : Int) != (ls.length : Int)) = false := by rw [bne_eq_false_iff_eq]; omega
    have hd2 : ((L.ends.length : Int) != (ls.length : Int)) = false := by rw [bne_eq_false_iff_eq]; omega
    have Hbad := Lib.hid (fun (x : Nat) (hx : x ∈ L.makes ++ L.ends ++ [L.start]) (h : ¬ x < 256) => facErr_4 h0 hlen hx h)
    have Hok := Lib.hid (fun (h1 : ∀ x ∈ L.makes, x < 256) (h2 : ∀ x ∈ L.ends, x < 256) (h3 : L.start < 256) => facErr_of (ls := ls) (L := L) ⟨h0, hml, hel, h1, h2, h3⟩)
    have Hml := Lib.hid hml
    have Hel := Lib.hid hel
    clear h0 hlen hml hel
    go_wp2_with (go_at_call 46; refine (wayCheck_calls _ _ _ _ HA.out hm).mono ?_; rintro e w1 ⟨rfl, rfl⟩; rw [H0.out])
    clear hd1 hd2
    go_loop [6] (fun i => ∃ k : Nat, k ≤ ls.length ∧ i = .int .i64 k ∧ Hid (∀ x ∈ L.makes.take k, x < 256) ∧ Hid (∀ x ∈ L.ends.take k, x < 256)) (fun i => ls.length - (intOf i).toNat)
    case atStart => exact ⟨0, Nat.zero_le _, rfl, Lib.hid (fun x hx => by simp at hx), Lib.hid (fun x hx => by simp at hx)⟩
    case round =>
      obtain ⟨k, hk, rfl, hP, hQ⟩ := hrel
      by_cases hlt : k < ls.length
      · have hkm : k < L.makes.length := by rw [Hml.out]; exact hlt
        have hke : k < L.ends.length := by rw [Hel.out]; exact hlt
        obtain ⟨b1, off1, rfl, hb1, d1⟩ := RdU.at1 HL.out.mr hkm
        obtain ⟨b2, off2, rfl, hb2, d2⟩ := RdU.at1 HL.out.er hke
        have q1 : ((k : Nat) : Int) < ((L.makes.length : Nat) : Int) := by omega
        have q2 : ((k : Nat) : Int) < ((L.ends.length : Nat) : Int) := by omega
        have H1 := Lib.hid (fun w => fits8 L.makes[k] w)
        have H2 := Lib.hid (fun w => fits8 L.ends[k] w)
        have Hs1 := Lib.hid (take_all_succ (p := fun x => x < 256) hkm hP.out)
        have Hs2 := Lib.hid (take_all_succ (p := fun x => x < 256) hke hQ.out)
        have Hb1 := Lib.hid (Hbad.out L.makes[k] (by simp))
        have Hb2 := Lib.hid (Hbad.out L.ends[k] (by simp))
        have hx1 := Lib.hid (HL.out.mb _ (List.getElem_mem hkm))
        generalize L.makes[k] = x1 at *
        generalize L.ends[k] = x2 at *
        clear hkm hke
        by_cases h1x : x1 < 256
        · rw [decide_eq_true (show x1 < 256 from h1x)] at H1
          by_cases h2x : x2 < 256
          · rw [decide_eq_true (show x2 < 256 from h2x)] at H2
            have Hr1 := Lib.hid (Hs1.out h1x)
            have Hr2 := Lib.hid (Hs2.out h2x)
            clear h1x h2x hP hQ
            go_wp2_with (go_at_call 30; (first | (with_reducible refine (H1.out _).mono ?_) | (with_reducible refine (H2.out _).mono ?_)); rintro e w2 ⟨rfl, rfl⟩)
            go_round
            case rel => exact ⟨k + 1, by omega, by go_num, Hr1, Hr2⟩
            case measure => simp [intOf]; omega
          · rw [decide_eq_false (show ¬ x2 < 256 from h2x)] at H2
            have He := Lib.hid (Hb2.out h2x)
            clear h1x h2x hP hQ
            go_wp2_with (go_at_call 30; (first | (with_reducible refine (H1.out _).mono ?_) | (with_reducible refine (H2.out _).mono ?_)); rintro e w2 ⟨rfl, rfl⟩)
            go_ret
            exact ⟨ret_int He.out.symm, HB1.out⟩
        · rw [decide_eq_false (show ¬ x1 < 256 from h1x)] at H1
          have He := Lib.hid (Hb1.out h1x)
          clear h1x hP hQ
          go_wp2_with (go_at_call 30; with_reducible refine (H1.out _).mono ?_; rintro e w2 ⟨rfl, rfl⟩)
          go_ret
          exact ⟨ret_int He.out.symm, HB1.out⟩
      · have : k = ls.length := by omega
        subst this
        have H1 := Lib.hid (fun w => fits8 L.start w)
        have Hr1 : Hid (∀ x ∈ L.makes, x < 256) := Lib.hid (by have := hP.out; rwa [← Hml.out, List.take_length] at this)
        have Hr2 : Hid (∀ x ∈ L.ends, x < 256) := Lib.hid (by have := hQ.out; rwa [← Hel.out, List.take_length] at this)
        by_cases hsx : L.start < 256
        · rw [decide_eq_true (show L.start < 256 from hsx)] at H1
          have He := Lib.hid (Hok.out Hr1.out Hr2.out hsx)
          clear hsx hP hQ
          go_wp2_with (go_at_call 30; with_reducible refine (H1.out _).mono ?_; rintro e w2 ⟨rfl, rfl⟩)
          go_ret
          exact ⟨ret_int He.out.symm, HB1.out⟩
        · rw [decide_eq_false (show ¬ L.start < 256 from hsx)] at H1
          have He := Lib.hid (Hbad.out L.start (by simp) hsx)
          clear hsx hP hQ
          go_wp2_with (go_at_call 30; with_reducible refine (H1.out _).mono ?_; rintro e w2 ⟨rfl, rfl⟩)
          go_ret
          exact ⟨ret_int He.out.symm, HB1.out⟩
set_option maxHeartbeats 1000000 in
theorem lawful_calls (A B C : Option Addr) (ls : List (List Int)) (L : LawD) (cap ca cb : Nat) (w : World) (hA : RdN w A ls) (hm : ls.length ≤ maxLen) (hL : RdL w B C L) :
    Calls Try.prog 42 #[.slice A ls.length cap, .agg #[.bool L.back, .bool L.all, .slice B L.makes.length ca, .slice C L.ends.length cb, .int .u32 (L.start : Nat)]] w fun e w' => e = .returned (.bool (facErr ls L == 0)) ∧ Below w.heap.size w w' := by
  have hB1 := (Below.refl w.heap.size w).alloc (Nat.le_refl _) (.cells #[.bool L.back, .bool L.all, .slice B L.makes.length ca, .slice C L.ends.length cb, .int .u32 (L.start : Nat)] 58)
  have HB1 := Lib.hid hB1
  have hlb := LB.new w B C L ca cb
  go_enter Try.func42, Try.ntmps42
  go_upto_region 1 with fail
  have HA := Lib.hid (RdN.below hA hB1)
  have HL := Lib.hid (hL.below hB1)
  clear hA hL hB1
  generalize hwa : w.alloc (Obj.cells #[Value.bool L.back, Value.bool L.all, Value.slice B L.makes.length ca, Value.slice C L.ends.length cb, Value.int IntKind.u32 (L.start : Nat)] 58) = wa at *
  have hw0 := HB1.out.size
  clear hwa
  obtain ⟨_, c0, c1, c2, c3, c4⟩ := hlb
  go_wp2_with (go_at_call 59; refine (lawCheck_calls A B C ls L cap ca cb _ HA.out hm HL.out).mono ?_; rintro e w1 ⟨rfl, hW⟩; have HW := Lib.hid (HB1.out.trans (hW.mono hw0)); clear hW)
  go_ret
  exact ⟨rfl, HW.out⟩
end Go.Proofs.Ytljmignfbagomaa
