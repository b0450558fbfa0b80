/- LinkAlone walked. -/
import Derived.Test.YtiphhadhbokgmaaLnkR
import Derived.Test.YtiphhadhbokgmaaBitR
import Derived.Test.YtiphhadhbokgmaaFitsR
namespace Go.Proofs.Ytiphhadhbokgmaa
set_option maxRecDepth 100000
open Go.RowKit Go.Maps

/-- An object and where its rows lie. -/
structure OA where
  o : Ob
  A1 : Option Addr
  c1 : Nat
  A2 : Option Addr
  c2 : Nat
  A3 : Option Addr
  c3 : Nat
def OA.cells (x : OA) : List Value := [.slice x.A1 x.o.bytes.length x.c1, .slice x.A2 x.o.has.length x.c2, .slice x.A3 x.o.wants.length x.c3]
theorem oa_len (x : OA) : x.cells.length = 3 := rfl
theorem oa_one (x : OA) : ∀ u ∈ x.cells, u.oneCell' = true := by
  intro u hu
  simp [OA.cells] at hu
  rcases hu with rfl | rfl | rfl <;> rfl
theorem infoOb : (Try.prog.info? 64).map (fun i => (i.zero, i.size, i.bytes)) = some (some (.agg #[.slice none 0 0, .slice none 0 0, .slice none 0 0]), 3, 72) := by kernel_rfl
abbrev OwnOA (w : World) (base : Nat) (v : Value) (l : List OA) : Prop := Own OA.cells 3 w base 64 v l
def RdRows (w : World) (x : OA) : Prop := RdB w x.A1 x.o.bytes ∧ RdP w x.A2 x.o.has ∧ RdP w x.A3 x.o.wants
theorem rdOb_of {w : World} {A : Option Addr} {l : List OA} (h : Rd OA.cells 3 w A l) (hr : ∀ x ∈ l, RdRows w x) : RdOb w A (l.map (·.o)) := by
  intro hn
  rw [List.length_map] at hn
  obtain ⟨b, off, e, hb, hc⟩ := h hn
  refine ⟨b, off, e, hb, fun k o hk => ?_⟩
  rw [List.getElem?_map] at hk
  obtain ⟨x, hx, rfl⟩ := Option.map_eq_some_iff.1 hk
  obtain ⟨r1, r2, r3⟩ := hr x (List.mem_of_getElem? hx)
  exact ⟨x.A1, x.c1, x.A2, x.c2, x.A3, x.c3, hc k x hx 0 (by decide), hc k x hx 1 (by decide), hc k x hx 2 (by decide), r1, r2, r3⟩
def ownK (l : List Ob) (s k : Nat) : List Ob := ((List.range k).filter s.testBit).map (obAt l)
theorem ownK_all (l : List Ob) (s : Nat) : ownK l s l.length = ownS l s := rfl
theorem ownK_yes {l : List Ob} {s k : Nat} (h : s.testBit k = true) : ownK l s (k + 1) = ownK l s k ++ [obAt l k] := by
  unfold ownK
  rw [List.range_succ, List.filter_append, List.map_append]
  simp [h]
theorem ownK_no {l : List Ob} {s k : Nat} (h : s.testBit k = false) : ownK l s (k + 1) = ownK l s k := by
  unfold ownK
  rw [List.range_succ, List.filter_append, List.map_append]
  simp [h]
theorem ownK_len (l : List Ob) (s k : Nat) : (ownK l s k).length ≤ k := by
  unfold ownK
  rw [List.length_map]
  have := List.length_filter_le s.testBit (List.range k)
  rwa [List.length_range] at this
theorem link_gen {l : List Ob} {w w' : World} {e : Ending} (h : LinkE l w e w') (h0 : obErr l = 0) : ∃ (v : Value) (f : Int), e = .returned (.tuple #[v, .int .i64 f]) ∧ Below w.heap.size w w' ∧ (f = 0 ↔ AllL l) := by
  obtain ⟨hb, h⟩ := h
  rcases h with h | ⟨-, h⟩
  · exact absurd h0 h.1
  · rcases h with ⟨h1, rfl⟩ | ⟨h1, v, b, rfl, -, -⟩
    · exact ⟨_, 5, rfl, hb, ⟨fun h => absurd h (by decide), fun h => absurd h h1⟩⟩
    · exact ⟨_, 0, rfl, hb, ⟨fun _ => h1, fun _ => rfl⟩⟩
set_option maxHeartbeats 8000000 in
theorem linkAlone_u (A : Option Addr) (l : List Ob) (cap : Nat) (w : World) (hA : RdOb w A l) (hm : l.length ≤ maxLen) (hwf : WfL l) (hml : ∀ o ∈ l, o.bytes.length ≤ maxLen ∧ o.has.length ≤ maxLen ∧ o.wants.length ≤ maxLen) :
    Calls Try.prog 8 #[.slice A l.length cap] w fun e w' => e = .returned (.bool true) ∧ Below w.heap.size w w' := by
  have HN := Lib.hid (needs_calls A l cap w hA hm hwf hml)
  have HLc := Lib.hid (fun w2 (hb : Below w.heap.size w w2) => link_calls A l cap w2 (hA.below hb) hm hwf hml)
  have HCc := Lib.hid (fun w2 (hb : Below w.heap.size w w2) => objCheck_calls A l cap w2 (hA.below hb) hm hml)
  have HA := Lib.hid hA
  have Hwf := Lib.hid hwf
  have Hml := Lib.hid hml
  clear hA hm hwf hml
  by_cases h0 : obErr l = 0
  · have H0 := Lib.hid h0
    have HOk := Lib.hid (obErr_iff.1 h0)
    have h5 := HOk.out.n5
    clear h0
    by_cases hn0 : 0 < l.length
    · have q9 : decide (((l.length : Nat) : Int) > 0) = true := decide_eq_true (by omega)
      go_enter Try.func8, Try.ntmps8
      go_wp2_with (first
        | (go_at_call 24; (with_reducible refine HN.out.mono ?_); rintro e w1 ⟨hb1, h⟩; obtain ⟨-, s, hs, rfl⟩ := h.resolve_left (fun h => h.1 H0.out); have HB1 := Lib.hid hb1; have HS := Lib.hid hs; clear h hb1 hs)
        | (go_at_call 21; (with_reducible refine (HLc.out _ HB1.out).mono ?_); rintro e w2 h; obtain ⟨lv, f, rfl, hb2, hf⟩ := link_gen h H0.out; have HB2 := Lib.hid (HB1.out.trans (hb2.mono HB1.out.size)); have HF := Lib.hid hf; clear h hb2 hf)
        | (go_at_call 23; (with_reducible refine (HCc.out _ HB2.out).mono ?_); rintro e w3 ⟨rfl, hb3⟩; rw [H0.out]; have HB3 := Lib.hid (HB2.out.trans (hb3.mono HB2.out.size)); have Hfit := Lib.hid (fits_calls l.length s w3 (by omega)); rw [decide_eq_true HS.out.lt] at Hfit; have hc0 := (HS.out.cl hn0).1; have Hbit := Lib.hid (bit_calls s 0 w3 (Nat.lt_of_lt_of_le HS.out.lt (Nat.le_trans (Nat.pow_le_pow_right (by decide) h5) (by decide))) (by decide)); rw [hc0, show ((0 : Nat) : Int) = 0 from rfl] at Hbit; clear hc0; clear hb3)
        | (go_at_call 25; (with_reducible refine Hfit.out.mono ?_); rintro e w4 ⟨rfl, rfl⟩)
        | (go_at_call 26; (with_reducible refine Hbit.out.mono ?_); rintro e w4 ⟨rfl, rfl⟩))
      all_goals try (exfalso; omega)
      have hs32 : s < 4294967296 := Nat.lt_of_lt_of_le HS.out.lt (Nat.le_trans (Nat.pow_le_pow_right (by decide) h5) (by decide))
      go_loopw [7, 54] (fun v i wr => ∃ (k : Nat) (ls : List OA), k ≤ l.length ∧ i = .int .i64 k ∧ Hid (OwnOA wr w4.heap.size v ls) ∧ Hid (ls.map (·.o) = ownK l s k) ∧ Hid (∀ x ∈ ls, RdRows w4 x) ∧ Hid (Below w4.heap.size w4 wr)) (fun _ i _ => l.length - (intOf i).toNat)
      case atStart => exact ⟨0, [], Nat.zero_le _, rfl, Lib.hid (Own.nil_ _ _ _), Lib.hid rfl, Lib.hid (fun x hx => by cases hx), Lib.hid (Below.refl _ _)⟩
      case round =>
        obtain ⟨k, ls, hk, rfl, HO, HE, HR, HW⟩ := hrel
        have hws := HW.out.size
        by_cases hlt : k < l.length
        · obtain ⟨b, off, A1, c1, A2, c2, A3, c3, rfl, hb, d0, d1, d2, r1, r2, r3⟩ := RdOb.at_ (HA.out.below HB3.out) hlt
          rw [← HW.out.cell hb] at d0 d1 d2
          have hlt1 : ((k : Nat) : Int) < ((l.length : Nat) : Int) := by omega
          have HOb := Lib.hid (obAt_get hlt)
          have HRr : Hid (RdRows w4 ⟨l[k], A1, c1, A2, c2, A3, c3⟩) := Lib.hid ⟨r1, r2, r3⟩
          have hll : ls.length ≤ k := by have := ownK_len l s k; rw [← HE.out, List.length_map] at this; exact this
          have HBk := Lib.hid (fun w' => bit_calls s k w' hs32 (by omega))
          clear r1 r2 r3
          generalize l[k] = o at *
          have HWa := Lib.hid (HW.out.alloc hws (.cells #[.slice A1 o.bytes.length c1, .slice A2 o.has.length c2, .slice A3 o.wants.length c3] 64))
          have HOa := Lib.hid (HO.out.alloc (.cells #[.slice A1 o.bytes.length c1, .slice A2 o.has.length c2, .slice A3 o.wants.length c3] 64))
          cases hbk : s.testBit k with
          | false =>
            rw [hbk] at HBk
            have HE2 := Lib.hid (HE.out.trans (ownK_no (l := l) hbk).symm)
            clear hbk HO HW hws
            go_wp2_with (go_at_call 26; (with_reducible refine (HBk.out _).mono ?_); rintro e w5 ⟨rfl, rfl⟩)
            go_roundw
            case rel => exact ⟨k + 1, ls, by omega, by go_num, HOa, HE2, HR, HWa⟩
            case measure => simp [intOf]; omega
          | true =>
            rw [hbk] at HBk
            have HE2 : Hid ((ls ++ [(⟨o, A1, c1, A2, c2, A3, c3⟩ : OA)]).map (·.o) = ownK l s (k + 1)) := Lib.hid (by rw [ownK_yes hbk, List.map_append, HE.out, HOb.out]; rfl)
            have HR2 : Hid (∀ x ∈ ls ++ [(⟨o, A1, c1, A2, c2, A3, c3⟩ : OA)], RdRows w4 x) := Lib.hid (fun x hx => by
              rcases List.mem_append.1 hx with hx | hx
              · exact HR.out x hx
              · have : x = ⟨o, A1, c1, A2, c2, A3, c3⟩ := by simpa using hx
                rw [this]; exact HRr.out)
            have HWb := Lib.hid (HWa.out.alloc HWa.out.size (.cells #[.slice A1 o.bytes.length c1, .slice A2 o.has.length c2, .slice A3 o.wants.length c3] 64))
            have HOc := Lib.hid (HOa.out.alloc (.cells #[.slice A1 o.bytes.length c1, .slice A2 o.has.length c2, .slice A3 o.wants.length c3] 64))
            have hrd : Rd OA.cells 3 ((wr.alloc (.cells #[.slice A1 o.bytes.length c1, .slice A2 o.has.length c2, .slice A3 o.wants.length c3] 64)).alloc (.cells #[.slice A1 o.bytes.length c1, .slice A2 o.has.length c2, .slice A3 o.wants.length c3] 64)) (some ⟨wr.heap.size + 1, 0, none⟩) [(⟨o, A1, c1, A2, c2, A3, c3⟩ : OA)] := rd_new _ _ _ _ _ (by rw [World.size_alloc]) (fun i x hx j hj => by
              match i, hx with
              | 0, hx =>
                simp at hx; subst hx
                rw [Nat.zero_mul, Nat.zero_add, ← Array.getElem?_toList]; rfl
              | i + 1, hx => simp at hx)
            obtain ⟨v', w', hrun, hown, hgrow, -⟩ := run_appN (P := Try.prog) 56 56 OA.cells 3 72 64 (.agg #[.slice none 0 0, .slice none 0 0, .slice none 0 0]) Try.underlying56 infoOb rfl (by decide) oa_len oa_one w4.heap.size _ _ HOc.out _ _ 1 hrd (by unfold maxLen; simp; omega) (by simp; omega) HWb.out.size
            have HW2 := Lib.hid (HWb.out.grown hgrow HWb.out.size (fun j hj => (own_ltE HOc.out j hj).1))
            have HO2 := Lib.hid hown
            have Hrun := Lib.hid hrun
            clear hbk HO HW hws hrd hrun hown hgrow HOa HWa HOc HWb HE HR
            go_wp2_with (first
              | (go_at_call 26; (with_reducible refine (HBk.out _).mono ?_); rintro e w5 ⟨rfl, rfl⟩)
              | (at_builtin; refine wpList_app_run rfl 56 _ _ rfl rfl rfl Hrun.out ?_))
            go_roundw
            case rel => exact ⟨k + 1, _, by omega, by go_num, HO2, HE2, HR2, HW2⟩
            case measure => simp [intOf]; omega
        · have hke : k = l.length := by omega
          subst hke
          obtain ⟨Av, cv, rfl, hrd, -⟩ := Own.form oa_len HO.out
          have hE := HE.out
          rw [ownK_all] at hE
          have hrb := rdOb_of hrd (fun x hx => by obtain ⟨r1, r2, r3⟩ := HR.out x hx; exact ⟨Rd.below r1 HW.out, Rd.below r2 HW.out, Rd.below r3 HW.out⟩)
          rw [hE] at hrb
          have hll : ls.length = (ownS l s).length := by rw [← hE, List.length_map]
          rw [hll]
          have hok := ownS_ok s HOk.out
          have hw2 : WfL (ownS l s) := fun o ho => Hwf.out o (ownS_mem ho)
          have hm2 : ∀ o ∈ ownS l s, o.bytes.length ≤ maxLen ∧ o.has.length ≤ maxLen ∧ o.wants.length ≤ maxLen := fun o ho => Hml.out o (ownS_mem ho)
          have hL5 := hok.n5
          have hol : (ownS l s).length ≤ maxLen := by unfold maxLen; omega
          have Hn2 := Lib.hid (needs_calls Av (ownS l s) cv wr hrb hol hw2 hm2)
          have Hl2 := Lib.hid (fun w5 (hb : Below wr.heap.size wr w5) => link_calls Av (ownS l s) cv w5 (hrb.below hb) hol hw2 hm2)
          have He0 := Lib.hid (obErr_iff.2 hok)
          have Hful := Lib.hid (fun t ht => alone_full (t := t) HOk.out HS.out ht)
          have Hall := Lib.hid (alone_all HOk.out HS.out)
          have HBw := Lib.hid (HB3.out.trans (HW.out.mono HB3.out.size))
          clear hok hw2 hm2 hol hrb hrd hE hll HO HE HR HW
          generalize ownS l s = own at *
          obtain ⟨L, hL⟩ : ∃ L, L = own.length := ⟨_, rfl⟩
          rw [← hL] at hL5 Hn2 Hl2 Hful ⊢
          clear hL
          have p1 := pow_u32 L (by omega)
          rw [Int.natCast_pow, show ((2 : Nat) : Int) = 2 from rfl] at p1
          have p4 : (L : Int) % 18446744073709551616 = L := by omega
          have hpl : (2 : Int) ^ L ≤ 32 ∧ 1 ≤ (2 : Int) ^ L := by
            have : L = 0 ∨ L = 1 ∨ L = 2 ∨ L = 3 ∨ L = 4 ∨ L = 5 := by omega
            rcases this with rfl | rfl | rfl | rfl | rfl | rfl <;> decide
          have p5 : IntKind.u32.wrap ((2 : Int) ^ L - 1) = (2 : Int) ^ L - 1 := by rw [IntKind.wrap_u32]; omega
          have Hpw : Hid (((2 ^ L - 1 : Nat) : Int) = (2 : Int) ^ L - 1) := Lib.hid (by rw [Int.natCast_sub Nat.one_le_two_pow, Int.natCast_pow]; rfl)
          by_cases hf0 : f = 0
          · have Hal2 := Lib.hid (Hall.out (HF.out.1 hf0))
            have f5 : (f != 0) = false := by rw [hf0]; rfl
            clear hf0
            go_wp2_with (first
              | (go_at_call 24; (with_reducible refine Hn2.out.mono ?_); rintro e w5 ⟨hb5, h⟩; obtain ⟨-, t, ht, rfl⟩ := h.resolve_left (fun h => h.1 He0.out); rw [Hful.out t ht, Hpw.out]; have HB5 := Lib.hid hb5; clear h hb5 ht)
              | (go_at_call 21; (with_reducible refine (Hl2.out _ HB5.out).mono ?_); rintro e w6 h; obtain ⟨lv2, f2, rfl, hb6, hf2⟩ := link_gen h He0.out; have HB6 := Lib.hid (HBw.out.trans ((HB5.out.trans (hb6.mono HB5.out.size)).mono HBw.out.size)); have HF2 := Lib.hid hf2; clear h hb6 hf2))
            rw [HF2.out.2 Hal2.out]
            go_ret
            exact ⟨rfl, HB6.out⟩
          · have f5 : (f != 0) = true := by rw [bne_iff_ne]; exact hf0
            go_wp2_with (first
              | (go_at_call 24; (with_reducible refine Hn2.out.mono ?_); rintro e w5 ⟨hb5, h⟩; obtain ⟨-, t, ht, rfl⟩ := h.resolve_left (fun h => h.1 He0.out); rw [Hful.out t ht, Hpw.out]; have HB5 := Lib.hid hb5; clear h hb5 ht)
              | (go_at_call 21; (with_reducible refine (Hl2.out _ HB5.out).mono ?_); rintro e w6 h; obtain ⟨lv2, f2, rfl, hb6, hf2⟩ := link_gen h He0.out; have HB6 := Lib.hid (HBw.out.trans ((HB5.out.trans (hb6.mono HB5.out.size)).mono HBw.out.size)); have HF2 := Lib.hid hf2; clear h hb6 hf2))
            go_ret
            exact ⟨rfl, HB6.out⟩
    · have q9 : decide (((l.length : Nat) : Int) > 0) = false := decide_eq_false (by omega)
      go_enter Try.func8, Try.ntmps8
      go_wp2_with (first
        | (go_at_call 24; (with_reducible refine HN.out.mono ?_); rintro e w1 ⟨hb1, h⟩; obtain ⟨-, s, hs, rfl⟩ := h.resolve_left (fun h => h.1 H0.out); have HB1 := Lib.hid hb1; have HS := Lib.hid hs; clear h hb1 hs)
        | (go_at_call 21; (with_reducible refine (HLc.out _ HB1.out).mono ?_); rintro e w2 h; obtain ⟨lv, f, rfl, hb2, hf⟩ := link_gen h H0.out; have HB2 := Lib.hid (HB1.out.trans (hb2.mono HB1.out.size)); have HF := Lib.hid hf; clear h hb2 hf)
        | (go_at_call 23; (with_reducible refine (HCc.out _ HB2.out).mono ?_); rintro e w3 ⟨rfl, hb3⟩; rw [H0.out]; have HB3 := Lib.hid (HB2.out.trans (hb3.mono HB2.out.size)); have Hfit := Lib.hid (fits_calls l.length s w3 (by omega)); rw [decide_eq_true HS.out.lt] at Hfit; clear hb3)
        | (go_at_call 25; (with_reducible refine Hfit.out.mono ?_); rintro e w4 ⟨rfl, rfl⟩))
      all_goals try (exfalso; omega)
      have hs32 : s < 4294967296 := Nat.lt_of_lt_of_le HS.out.lt (Nat.le_trans (Nat.pow_le_pow_right (by decide) h5) (by decide))
      go_loopw [7, 54] (fun v i wr => ∃ (k : Nat) (ls : List OA), k ≤ l.length ∧ i = .int .i64 k ∧ Hid (OwnOA wr w4.heap.size v ls) ∧ Hid (ls.map (·.o) = ownK l s k) ∧ Hid (∀ x ∈ ls, RdRows w4 x) ∧ Hid (Below w4.heap.size w4 wr)) (fun _ i _ => l.length - (intOf i).toNat)
      case atStart => exact ⟨0, [], Nat.zero_le _, rfl, Lib.hid (Own.nil_ _ _ _), Lib.hid rfl, Lib.hid (fun x hx => by cases hx), Lib.hid (Below.refl _ _)⟩
      case round =>
        obtain ⟨k, ls, hk, rfl, HO, HE, HR, HW⟩ := hrel
        have hws := HW.out.size
        by_cases hlt : k < l.length
        · exact absurd hlt (by omega)
        · have hke : k = l.length := by omega
          subst hke
          obtain ⟨Av, cv, rfl, hrd, -⟩ := Own.form oa_len HO.out
          have hE := HE.out
          rw [ownK_all] at hE
          have hrb := rdOb_of hrd (fun x hx => by obtain ⟨r1, r2, r3⟩ := HR.out x hx; exact ⟨Rd.below r1 HW.out, Rd.below r2 HW.out, Rd.below r3 HW.out⟩)
          rw [hE] at hrb
          have hll : ls.length = (ownS l s).length := by rw [← hE, List.length_map]
          rw [hll]
          have hok := ownS_ok s HOk.out
          have hw2 : WfL (ownS l s) := fun o ho => Hwf.out o (ownS_mem ho)
          have hm2 : ∀ o ∈ ownS l s, o.bytes.length ≤ maxLen ∧ o.has.length ≤ maxLen ∧ o.wants.length ≤ maxLen := fun o ho => Hml.out o (ownS_mem ho)
          have hL5 := hok.n5
          have hol : (ownS l s).length ≤ maxLen := by unfold maxLen; omega
          have Hn2 := Lib.hid (needs_calls Av (ownS l s) cv wr hrb hol hw2 hm2)
          have Hl2 := Lib.hid (fun w5 (hb : Below wr.heap.size wr w5) => link_calls Av (ownS l s) cv w5 (hrb.below hb) hol hw2 hm2)
          have He0 := Lib.hid (obErr_iff.2 hok)
          have Hful := Lib.hid (fun t ht => alone_full (t := t) HOk.out HS.out ht)
          have Hall := Lib.hid (alone_all HOk.out HS.out)
          have HBw := Lib.hid (HB3.out.trans (HW.out.mono HB3.out.size))
          clear hok hw2 hm2 hol hrb hrd hE hll HO HE HR HW
          generalize ownS l s = own at *
          obtain ⟨L, hL⟩ : ∃ L, L = own.length := ⟨_, rfl⟩
          rw [← hL] at hL5 Hn2 Hl2 Hful ⊢
          clear hL
          have p1 := pow_u32 L (by omega)
          rw [Int.natCast_pow, show ((2 : Nat) : Int) = 2 from rfl] at p1
          have p4 : (L : Int) % 18446744073709551616 = L := by omega
          have hpl : (2 : Int) ^ L ≤ 32 ∧ 1 ≤ (2 : Int) ^ L := by
            have : L = 0 ∨ L = 1 ∨ L = 2 ∨ L = 3 ∨ L = 4 ∨ L = 5 := by omega
            rcases this with rfl | rfl | rfl | rfl | rfl | rfl <;> decide
          have p5 : IntKind.u32.wrap ((2 : Int) ^ L - 1) = (2 : Int) ^ L - 1 := by rw [IntKind.wrap_u32]; omega
          have Hpw : Hid (((2 ^ L - 1 : Nat) : Int) = (2 : Int) ^ L - 1) := Lib.hid (by rw [Int.natCast_sub Nat.one_le_two_pow, Int.natCast_pow]; rfl)
          by_cases hf0 : f = 0
          · have Hal2 := Lib.hid (Hall.out (HF.out.1 hf0))
            have f5 : (f != 0) = false := by rw [hf0]; rfl
            clear hf0
            go_wp2_with (first
              | (go_at_call 24; (with_reducible refine Hn2.out.mono ?_); rintro e w5 ⟨hb5, h⟩; obtain ⟨-, t, ht, rfl⟩ := h.resolve_left (fun h => h.1 He0.out); rw [Hful.out t ht, Hpw.out]; have HB5 := Lib.hid hb5; clear h hb5 ht)
              | (go_at_call 21; (with_reducible refine (Hl2.out _ HB5.out).mono ?_); rintro e w6 h; obtain ⟨lv2, f2, rfl, hb6, hf2⟩ := link_gen h He0.out; have HB6 := Lib.hid (HBw.out.trans ((HB5.out.trans (hb6.mono HB5.out.size)).mono HBw.out.size)); have HF2 := Lib.hid hf2; clear h hb6 hf2))
            rw [HF2.out.2 Hal2.out]
            go_ret
            exact ⟨rfl, HB6.out⟩
          · have f5 : (f != 0) = true := by rw [bne_iff_ne]; exact hf0
            go_wp2_with (first
              | (go_at_call 24; (with_reducible refine Hn2.out.mono ?_); rintro e w5 ⟨hb5, h⟩; obtain ⟨-, t, ht, rfl⟩ := h.resolve_left (fun h => h.1 He0.out); rw [Hful.out t ht, Hpw.out]; have HB5 := Lib.hid hb5; clear h hb5 ht)
              | (go_at_call 21; (with_reducible refine (Hl2.out _ HB5.out).mono ?_); rintro e w6 h; obtain ⟨lv2, f2, rfl, hb6, hf2⟩ := link_gen h He0.out; have HB6 := Lib.hid (HBw.out.trans ((HB5.out.trans (hb6.mono HB5.out.size)).mono HBw.out.size)); have HF2 := Lib.hid hf2; clear h hb6 hf2))
            go_ret
            exact ⟨rfl, HB6.out⟩
  · have H0 := Lib.hid h0
    obtain ⟨E, hE⟩ : ∃ E, E = obErr l := ⟨_, rfl⟩
    have q2 : (E != 0) = true := by rw [bne_iff_ne, hE]; exact h0
    have HE := Lib.hid hE
    clear hE h0
    go_enter Try.func8, Try.ntmps8
    go_wp2_with (first
      | (go_at_call 24; (with_reducible refine HN.out.mono ?_); rintro e w1 ⟨hb1, h⟩; obtain ⟨-, rfl⟩ := h.resolve_right (fun h => H0.out (obErr_iff.2 h.1)); rw [← HE.out]; have HB1 := Lib.hid hb1; clear h hb1)
      | (go_at_call 21; (with_reducible refine (HLc.out _ HB1.out).mono ?_); rintro e w2 ⟨hb2, h⟩; obtain ⟨-, rfl⟩ := h.resolve_right (fun h => H0.out (obErr_iff.2 h.1)); rw [← HE.out]; have HB2 := Lib.hid (HB1.out.trans (hb2.mono HB1.out.size)); clear h hb2)
      | (go_at_call 23; (with_reducible refine (HCc.out _ HB2.out).mono ?_); rintro e w3 ⟨rfl, hb3⟩; rw [← HE.out]; have HB3 := Lib.hid (HB2.out.trans (hb3.mono HB2.out.size)); clear hb3))
    go_ret
    exact ⟨rfl, HB3.out⟩
end Go.Proofs.Ytiphhadhbokgmaa
