/- fact.wrong; codemasonref.LawCheck. -/
import Derived.Test.YtljmignfbagomaaFacB
import Derived.BigGuardPart
namespace Go.Proofs.Ytljmignfbagomaa
open Go.RowKit

set_option maxHeartbeats 400000 in
theorem big_calls (x : Nat) (w : World) : Calls Try.prog 69 #[.int .u32 (x : Nat)] w fun e w' => e = .returned (.bool (decide (255 < x))) ∧ w' = w := by
  have h : decide ((255 : Int) < (x : Int)) = decide (255 < x) := by rw [decide_eq_decide]; omega
  generalize decide (255 < x) = d at *
  go_enter Try.func69, Try.ntmps69
  go_wp2
  go_ret
  exact ⟨ret_bool (by first | rfl | exact h | (simp at *; assumption)), rfl⟩
def BigEnd (l : List Nat) (w : World) (e : Ending) (w' : World) : Prop :=
  w' = w ∧ ∃ m : Int, e = .returned (.int .i64 m) ∧ ((m = -1 ∧ ∀ x ∈ l, decide (255 < x) = false) ∨ (0 ≤ m ∧ ∃ x ∈ l, decide (255 < x) = true))
set_option maxHeartbeats 400000 in
theorem bigIndex_calls (A : Option Addr) (l : List Nat) (cap : Nat) (w : World) (hA : RdU w A l) (hm : l.length ≤ 1000) :
    Calls Try.prog 74 #[.slice A l.length cap, .func (.func 69) #[] #[]] w (BigEnd l w) := by
  have HA := Lib.hid hA; clear hA
  go_enter Try.func74, Try.ntmps74
  go_wp2
  go_loop [8] (fun i => ∃ k : Nat, k ≤ l.length ∧ i = .int .i64 k ∧ Hid (∀ x ∈ l.take k, decide (255 < x) = false)) (fun i => l.length - (intOf i).toNat)
  case atStart => exact ⟨0, Nat.zero_le _, rfl, fun x hx => by simp at hx⟩
  case round =>
    obtain ⟨k, hk, rfl, hP⟩ := hrel
    by_cases hlt : k < l.length
    · obtain ⟨b, off, rfl, hb, c0⟩ := RdU.at1 HA.out hlt
      have hmem := List.getElem_mem hlt
      have Hmem := Lib.hid hmem
      have Hst := Lib.hid (take_all_succ (p := fun x => decide (255 < x) = false) hlt hP.out)
      have Hcl := Lib.hid (fun w => big_calls l[k] w)
      clear hmem hP
      generalize l[k] = x at *
      cases hx : decide (255 < x)
      · have Hx := Lib.hid hx
        rw [hx] at Hcl
        clear hx
        go_wp2_with (go_at_call 69; refine (Hcl.out _).mono ?_; rintro e w' ⟨rfl, rfl⟩)
        go_round
        case rel => exact ⟨k + 1, by omega, by go_num, Hst.out Hx.out⟩
        case measure => simp [intOf]; omega
      · have Hx := Lib.hid hx
        rw [hx] at Hcl
        clear hx
        go_wp2_with (go_at_call 69; refine (Hcl.out _).mono ?_; rintro e w' ⟨rfl, rfl⟩)
        go_ret
        exact ⟨rfl, k, rfl, .inr ⟨by omega, x, Hmem.out, Hx.out⟩⟩
    · go_wp2
      go_ret
      have : k = l.length := by omega
      subst this
      have := hP.out
      rw [List.take_length] at this
      exact ⟨rfl, -1, rfl, .inl ⟨rfl, this⟩⟩
set_option maxHeartbeats 400000 in
theorem bigContains_calls (A : Option Addr) (l : List Nat) (cap : Nat) (w : World) (hA : RdU w A l) (hm : l.length ≤ 1000) :
    Calls Try.prog 67 #[.slice A l.length cap, .func (.func 69) #[] #[]] w fun e w' => e = .returned (.bool (l.any fun x => decide (255 < x))) ∧ w' = w := by
  have HA := Lib.hid hA; clear hA
  go_enter Try.func67, Try.ntmps67
  go_wp2_with fail
  refine (bigIndex_calls A l cap w HA.out hm).mono ?_
  rintro e w' ⟨rfl, m, rfl, h⟩
  rcases h with ⟨rfl, h⟩ | ⟨h0, h⟩
  · have Ha := Lib.hid (show (l.any fun x => decide (255 < x)) = false by rw [List.any_eq_false]; intro x hx; simp [h x hx])
    clear h hm
    go_wp2
    go_ret
    exact ⟨ret_bool (by rw [Ha.out]), rfl⟩
  · have Ha := Lib.hid (show (l.any fun x => decide (255 < x)) = true by rw [List.any_eq_true]; exact h)
    clear h hm
    go_wp2
    go_ret
    exact ⟨ret_bool (by rw [Ha.out]; try (simp; try omega)), rfl⟩
theorem rdU_new1 (w : World) (x : Nat) (E s : Nat) (hs : w.heap.size = s) : RdU (w.alloc (.cells #[.int .u32 (x : Nat)] E)) (some ⟨s, 0, none⟩) [x] :=
  rd_new w [x] _ E s hs fun k y hk j hj => by
    have : j = 0 := by omega
    subst this
    match k, hk with
    | 0, hk => simp at hk; subst hk; rfl
theorem rdW_new3 (w : World) {A B C : Option Addr} {a b c : List Nat} (ca cb cc E s : Nat) (hs : w.heap.size = s) (hA : RdU w A a) (hB : RdU w B b) (hC : RdU w C c) :
    RdW (w.alloc (.cells #[.slice A a.length ca, .slice B b.length cb, .slice C c.length cc] E)) (some ⟨s, 0, none⟩) [a, b, c] := fun _ => by
  have hb : Below w.heap.size w (w.alloc (.cells #[.slice A a.length ca, .slice B b.length cb, .slice C c.length cc] E)) := (Below.refl _ _).alloc (Nat.le_refl _) _
  refine ⟨s, 0, rfl, by simp [← hs], fun k l hk => ?_⟩
  match k, hk with
  | 0, hk => simp at hk; subst hk; exact ⟨A, ca, cell_new w _ E s hs 0, Rd.below hA hb⟩
  | 1, hk => simp at hk; subst hk; exact ⟨B, cb, cell_new w _ E s hs 1, Rd.below hB hb⟩
  | 2, hk => simp at hk; subst hk; exact ⟨C, cc, cell_new w _ E s hs 2, Rd.below hC hb⟩
/-- The law's box: its last three cells. -/
def LB (w : World) (p : Nat) (A B : Option Addr) (L : LawD) (ca cb : Nat) : Prop :=
  p < w.heap.size ∧ w.cell? ⟨p, 0, none⟩ = some (.bool L.back) ∧ w.cell? ⟨p, 1, none⟩ = some (.bool L.all) ∧ w.cell? ⟨p, 2, none⟩ = some (.slice A L.makes.length ca) ∧ w.cell? ⟨p, 3, none⟩ = some (.slice B L.ends.length cb) ∧ w.cell? ⟨p, 4, none⟩ = some (.int .u32 (L.start : Nat))
theorem LB.new (w : World) (A B : Option Addr) (L : LawD) (ca cb : Nat) : LB (w.alloc (.cells #[.bool L.back, .bool L.all, .slice A L.makes.length ca, .slice B L.ends.length cb, .int .u32 (L.start : Nat)] 58)) w.heap.size A B L ca cb :=
  ⟨by simp, cell_new _ _ _ _ rfl 0, cell_new _ _ _ _ rfl 1, cell_new _ _ _ _ rfl 2, cell_new _ _ _ _ rfl 3, cell_new _ _ _ _ rfl 4⟩
theorem LB.below {w w' : World} {p : Nat} {A B : Option Addr} {L : LawD} {ca cb : Nat} (h : LB w p A B L ca cb) (hb : Below w.heap.size w w') : LB w' p A B L ca cb :=
  ⟨Nat.lt_of_lt_of_le h.1 hb.size, (hb.cell h.1).trans h.2.1, (hb.cell h.1).trans h.2.2.1, (hb.cell h.1).trans h.2.2.2.1, (hb.cell h.1).trans h.2.2.2.2.1, (hb.cell h.1).trans h.2.2.2.2.2⟩
set_option maxHeartbeats 4000000 in
theorem factWrong_calls (A B C : Option Addr) (ls : List (List Int)) (L : LawD) (cap ca cb : Nat) (w : World) (hA : RdN w A ls) (hm : ls.length ≤ maxLen) (hL : RdL w B C L) (_hl1 : L.makes.length ≤ maxLen) (_hl2 : L.ends.length ≤ maxLen) :
    Calls Try.prog 56 #[.slice A ls.length cap, .agg #[.bool L.back, .bool L.all, .slice B L.makes.length ca, .slice C L.ends.length cb, .int .u32 (L.start : Nat)]] w fun e w' => e = .returned (.int .i64 (facErr ls L)) ∧ Below w.heap.size w w' := by
  have hB1 := (Below.refl w.heap.size w).alloc (Nat.le_refl _) (.cells #[.bool L.back, .bool L.all, .slice B L.makes.length ca, .slice C L.ends.length cb, .int .u32 (L.start : Nat)] 58)
  have HB1 := Lib.hid hB1
  have HLB := Lib.hid (LB.new w B C L ca cb)
  have hs1 : (w.alloc (Obj.cells #[Value.bool L.back, Value.bool L.all, Value.slice B L.makes.length ca, Value.slice C L.ends.length cb, Value.int IntKind.u32 (L.start : Nat)] 58)).heap.size = w.heap.size + 1 := by simp
  go_enter Try.func56, Try.ntmps56
  go_upto_region 1 with fail
  have HA := Lib.hid (RdN.below hA hB1)
  have HL := Lib.hid (hL.below hB1)
  clear hA hL hB1
  generalize w.alloc (Obj.cells #[Value.bool L.back, Value.bool L.all, Value.slice B L.makes.length ca, Value.slice C L.ends.length cb, Value.int IntKind.u32 (L.start : Nat)] 58) = wa at *
  by_cases h0 : wayErr ls = 0
  case neg =>
    have hd : (wayErr ls != 0) = true := by rw [bne_iff_ne]; exact h0
    have He := Lib.hid (show facErr ls L = wayErr ls by unfold facErr; rw [if_pos h0])
    clear h0
    go_wp2_with (go_at_call 44; refine (check_calls _ _ _ _ HA.out hm).mono ?_; rintro e w1 ⟨rfl, hW⟩; have HW := Lib.hid (HB1.out.trans (hW.mono (by omega))); clear hW)
    go_ret
    exact ⟨ret_int He.out.symm, HW.out⟩
  have h8 := (valid_of h0).2.1
  have h1 := (valid_of h0).1
  have H0 := Lib.hid h0
  have hw0 := HB1.out.size
  by_cases hlen : L.makes.length ≠ ls.length ∨ L.ends.length ≠ ls.length
  · have He := Lib.hid (show facErr ls L = 3 by unfold facErr; rw [if_neg (fun h => h h0), if_pos hlen])
    have hd : ((L.makes.length : Int) != (ls.length : Int)) = true ∨ (((L.makes.length : Int) != (ls.length : Int)) = false ∧ ((L.ends.length : Int) != (ls.length : Int)) = true) := by
      simp only [bne_iff_ne, bne_eq_false_iff_eq]; omega
    clear h0 hlen
    rcases hd with hd | ⟨hd, hd2⟩
    all_goals
      go_wp2_with (go_at_call 44; refine (check_calls _ _ _ _ HA.out hm).mono ?_; rintro e w1 ⟨rfl, hW⟩; rw [H0.out]; have HW := Lib.hid (HB1.out.trans (hW.mono hw0)); obtain ⟨_, _, _, c2, c3, c4⟩ := HLB.out.below hW; clear hW)
      go_ret
      exact ⟨ret_int He.out.symm, HW.out⟩
  · obtain ⟨hml, hel⟩ : L.makes.length = ls.length ∧ L.ends.length = ls.length := by omega
    have hd1 : ((L.makes.length : Int) != (ls.length : Int)) = false := by rw [bne_eq_false_iff_eq]; omega
    have hd2 : ((L.ends.length : Int) != (ls.length : Int)) = false := by rw [bne_eq_false_iff_eq]; omega
    have hfl : flen [L.makes, L.ends, [L.start]] = L.makes.length + (L.ends.length + 1) := by simp [flen]
    have Hfl := Lib.hid hfl
    have hff : [L.makes, L.ends, [L.start]].flatten = L.makes ++ L.ends ++ [L.start] := by simp
    have Hff := Lib.hid hff
    have hfe : facErr ls L = if (L.makes ++ L.ends ++ [L.start]).any (fun x => decide (255 < x)) then 4 else 0 := by unfold facErr; rw [if_neg (fun h => h h0), if_neg hlen]
    have Hfe := Lib.hid hfe
    have Hsz : Hid ((L.makes ++ L.ends ++ [L.start]).length ≤ 1000) := Lib.hid (by simp; omega)
    have Hml := Lib.hid hml
    have Hel := Lib.hid hel
    generalize hfb : (L.makes ++ L.ends ++ [L.start]).any (fun x => decide (255 < x)) = fb at *
    have Hfb := Lib.hid hfb
    clear h0 hlen hfl hff hfe hfb hml hel
    generalize L.makes ++ L.ends ++ [L.start] = fl at *
    cases fb
    all_goals
      have He := Lib.hid Hfe.out
      go_wp2_with (first
        | (go_at_call 44; refine (check_calls _ _ _ _ HA.out hm).mono ?_; rintro e w1 ⟨rfl, hW⟩; rw [H0.out]; have HW := Lib.hid (HB1.out.trans (hW.mono hw0)); obtain ⟨_, _, _, c2, c3, c4⟩ := HLB.out.below hW; have HL1 := Lib.hid (HL.out.below hW); have hw1 := HW.out.size; clear hW)
        | (go_at_call 68
           have hW3 := (HW.out.alloc hw1 (.cells #[.int .u32 (L.start : Nat)] 29)).alloc (by simp; omega) (.cells #[.slice B L.makes.length ca, .slice C L.ends.length cb, .slice (some ⟨w1.heap.size, 0, none⟩) 1 1] 23)
           have hb2 : Below w1.heap.size w1 (w1.alloc (.cells #[.int .u32 (L.start : Nat)] 29)) := (Below.refl _ _).alloc (Nat.le_refl _) _
           have hc : Calls Try.prog 68 #[.slice (some ⟨w1.heap.size + 1, 0, none⟩) 3 3] ((w1.alloc (.cells #[.int .u32 (L.start : Nat)] 29)).alloc (.cells #[.slice B L.makes.length ca, .slice C L.ends.length cb, .slice (some ⟨w1.heap.size, 0, none⟩) 1 1] 23)) _ := concat_calls _ [L.makes, L.ends, [L.start]] 3 _ (rdW_new3 _ ca cb 1 23 _ (by simp) (Rd.below HL1.out.mr hb2) (Rd.below HL1.out.er hb2) (rdU_new1 w1 L.start 29 _ rfl)) (by rw [Hfl.out]; omega) (by rw [Hfl.out, Hml.out, Hel.out]; omega) (by simp)
           go_loud (refine hc.mono ?_)
           clear hc
           rintro e w4 ⟨v4, rfl, hown, hB4⟩
           rw [Hff.out] at hown
           obtain ⟨A4, c5, rfl, hR4⟩ := OwnU.rd hown
           have HW4 := Lib.hid (hW3.trans (hB4.mono (by simp; omega)))
           have HR4 := Lib.hid hR4
           clear hown hB4 hR4 hW3 hb2)
        | (go_at_call 67
           refine (bigContains_calls A4 _ c5 w4 HR4.out Hsz.out).mono ?_
           rintro e w5 ⟨rfl, rfl⟩
           rw [Hfb.out]))
      go_ret
      exact ⟨ret_int He.out.symm, HW4.out⟩
end Go.Proofs.Ytljmignfbagomaa
