/- color.fill: the search goes through all. -/
import Derived.Test.YtckmedmebabkjaaDoorColA
import Derived.Test.YtckmedmebabkjaaDoorNatRow
namespace Go.Proofs.YtckmedmebabkjaaDoor
open Go.RowKit

/-- Colors of the first things, below k, no two that clash with one. -/
def Good (k : Nat) (ws l : List Nat) : Prop := (∀ c ∈ l, c < k) ∧ ∀ i j, j < i → i < l.length → (ws.getD i 0).testBit j = true → l.getD j 0 ≠ l.getD i 0
def Full (k : Nat) (ws o : List Nat) : Prop := ∃ l, o <+: l ∧ l.length = ws.length ∧ Good k ws l
theorem getD_append_l {l r : List Nat} {i : Nat} (h : i < l.length) : (l ++ r).getD i 0 = l.getD i 0 := by
  rw [List.getD_eq_getElem?_getD, List.getD_eq_getElem?_getD, List.getElem?_append_left h]
theorem getD_snoc {l : List Nat} {c : Nat} : (l ++ [c]).getD l.length 0 = c := by
  rw [List.getD_eq_getElem?_getD, List.getElem?_append_right (by omega)]; simp
theorem getD_of {l : List Nat} {i : Nat} (h : i < l.length) : l.getD i 0 = l[i] := by rw [List.getD_eq_getElem?_getD, List.getElem?_eq_getElem h]; rfl
theorem Good.snoc {k : Nat} {ws o : List Nat} {c : Nat} (h : Good k ws o) (hc : c < k) (ho : ∀ j, j < o.length → o.getD j 0 = c → (ws.getD o.length 0).testBit j = false) : Good k ws (o ++ [c]) := by
  refine ⟨fun x hx => ?_, fun i j hj hi hb => ?_⟩
  · rcases List.mem_append.1 hx with e | e
    · exact h.1 x e
    · simp at e; subst e; exact hc
  · simp at hi
    rw [getD_append_l (i := j) (by omega)]
    rcases Nat.lt_or_ge i o.length with h1 | h1
    · rw [getD_append_l h1]; exact h.2 i j hj h1 hb
    · have : i = o.length := by omega
      subst this
      rw [getD_snoc]
      intro e
      rw [ho j hj e] at hb; cases hb
theorem Good.prefix {k : Nat} {ws o l : List Nat} (h : Good k ws l) (hp : o <+: l) : Good k ws o := by
  obtain ⟨r, rfl⟩ := hp
  refine ⟨fun c hc => h.1 c (by simp [hc]), fun i j hj hi hb => ?_⟩
  have := h.2 i j hj (by simp; omega) hb
  rwa [getD_append_l (by omega), getD_append_l hi] at this
theorem Good.at_ {k : Nat} {ws o : List Nat} {c : Nat} (h : Good k ws (o ++ [c])) : ∀ j, j < o.length → o.getD j 0 = c → (ws.getD o.length 0).testBit j = false := fun j hj he => by
  cases hb : (ws.getD o.length 0).testBit j
  · rfl
  · have := h.2 o.length j hj (by simp) hb
    rw [getD_append_l hj, getD_snoc] at this
    exact absurd he this
theorem Full.next {k : Nat} {ws o : List Nat} (h : Full k ws o) (hl : o.length < ws.length) : ∃ c, c < k ∧ Full k ws (o ++ [c]) ∧ Good k ws (o ++ [c]) := by
  obtain ⟨l, ⟨r, rfl⟩, h2, h3⟩ := h
  cases r with
  | nil => simp at h2; omega
  | cons c r =>
    have hp : o ++ [c] <+: o ++ c :: r := ⟨r, by simp⟩
    exact ⟨c, h3.1 c (by simp), ⟨_, hp, h2, h3⟩, h3.prefix hp⟩
def FillEnd (k : Nat) (ws o : List Nat) (w : World) (e : Ending) (w' : World) : Prop :=
  Below w.heap.size w w' ∧ ((∃ A cap l, e = .returned (.tuple #[.slice A l.length cap, .bool true]) ∧ RdC w' A l ∧ o <+: l ∧ l.length = ws.length ∧ Good k ws l) ∨
    (e = .returned (.tuple #[.slice none 0 0, .bool false]) ∧ ¬ Full k ws o))
/-- Nothing so far clashes: with the first t of o. -/
def OkTo (ws o : List Nat) (c t : Nat) : Prop := ∀ j, j < t → o.getD j 0 = c → (ws.getD o.length 0).testBit j = false
theorem OkTo.step {ws o : List Nat} {c t : Nat} (h : OkTo ws o c t) (h' : o.getD t 0 = c → (ws.getD o.length 0).testBit t = false) : OkTo ws o c (t + 1) := fun j hj he => by
  rcases Nat.lt_or_ge j t with h1 | h1
  · exact h j h1 he
  · have : j = t := by omega
    subst this; exact h' he
theorem OkTo.down {ws o : List Nat} {c t : Nat} (h : OkTo ws o c (t + 1)) : OkTo ws o c t ∧ (o.getD t 0 = c → (ws.getD o.length 0).testBit t = false) := ⟨fun j hj => h j (by omega), h t (by omega)⟩

set_option maxHeartbeats 8000000 in
theorem fill_calls (k : Nat) (hk : k ≤ 100) (ws : List Nat) (hws : ∀ s ∈ ws, s < 256) (h8 : ws.length ≤ 8) (B : Option Addr) (capB : Nat) : ∀ (d : Nat) (o : List Nat) (A : Option Addr) (cap : Nat) (w : World),
    ws.length = o.length + d → RdU w B ws → RdC w A o → (o.length = 0 → A = none ∧ cap = 0) → o.length ≤ cap → Good k ws o →
    Calls Tryd.prog 20 #[.slice B ws.length capB, .slice A o.length cap, .int .i64 k] w (FillEnd k ws o w) := by
  intro d
  induction d with
  | zero =>
    intro o A cap w hd hB hA hnil hcap hG
    have HA := Lib.hid hA; clear hA hB hnil
    have HG := Lib.hid hG; clear hG
    have q : ((o.length : Int) == (ws.length : Int)) = true := by rw [beq_iff_eq]; omega
    have Hd := Lib.hid hd
    clear hd
    go_enter Tryd.func20, Tryd.ntmps20
    go_wp2
    go_ret2
    exact ⟨Below.refl _ _, .inl ⟨A, cap, o, rfl, HA.out, ⟨[], by simp⟩, Hd.out.symm, HG.out⟩⟩
  | succ d ih =>
    intro o A cap w hd hB hA hnil hcap hG
    have HA := Lib.hid hA; clear hA
    have HB := Lib.hid hB; clear hB
    have HG := Lib.hid hG; clear hG
    have HWS := Lib.hid hws
    have IH := Lib.hid ih
    clear ih hws
    have q : ((o.length : Int) == (ws.length : Int)) = false := by rw [beq_eq_false_iff_ne]; omega
    have ho8 : o.length < ws.length := by omega
    have Hd := Lib.hid hd
    have Hnil := Lib.hid hnil
    clear hd hnil
    have Hcap := Lib.hid hcap
    clear hcap
    go_enter Tryd.func20, Tryd.ntmps20
    go_wp2
    go_loopw [23] (fun i wr => ∃ c : Nat, c ≤ k ∧ i = .int .i64 c ∧ Hid (∀ c', c' < c → ¬ Full k ws (o ++ [c'])) ∧ Below w.heap.size w wr) (fun i _ => k - (intOf i).toNat)
    case atStart => exact ⟨0, Nat.zero_le _, rfl, fun c' h => by omega, Below.refl _ _⟩
    case round =>
      obtain ⟨c, hc, rfl, hP, hW⟩ := hrel
      have HW := Lib.hid hW
      have hw2 := hW.size
      by_cases hlt : c < k
      · clear hW
        go_wp2
        obtain ⟨wo, rfl⟩ : ∃ wo : World, wo = wr := ⟨_, rfl⟩
        go_loop [28, 10] (fun i b => ∃ (t : Nat) (b' : Bool), t ≤ o.length ∧ i = .int .i64 t ∧ b = .bool b' ∧ Hid (b' = true ↔ OkTo ws o c t)) (fun i _ => o.length - (intOf i).toNat)
        case atStart => exact ⟨0, true, Nat.zero_le _, rfl, rfl, Lib.hid ⟨fun _ j h => by omega, fun _ => rfl⟩⟩
        case round =>
          obtain ⟨t, b', ht, rfl, rfl, hb⟩ := hrel
          by_cases hltt : t < o.length
          · obtain ⟨b1, off1, rfl, hb1, c1⟩ := RdC.at1 (Rd.below HA.out HW.out) hltt
            obtain ⟨b2, off2, rfl, hb2, c2⟩ := RdU.at1 (Rd.below HB.out HW.out) ho8
            have hs := HWS.out _ (List.getElem_mem ho8)
            have HE := Lib.hid (getD_of hltt)
            have HE2 := Lib.hid (getD_of ho8)
            have p1 := test_u32 ws[o.length] t (by omega)
            have t32 : t < 32 := by omega
            cases b'
            · have Hn := Lib.hid (show (false = true ↔ OkTo ws o c (t + 1)) from ⟨(fun h => by cases h), fun h => hb.out.2 h.down.1⟩)
              clear p1
              generalize o[t] = x at *
              generalize ws[o.length] = s at *
              go_wp2
              go_round
              case rel => exact ⟨t + 1, false, by omega, by go_num, rfl, Hn⟩
              case measure => simp [intOf]; omega
            · by_cases hx : o[t] = c
              · have q1 : (((o[t] : Nat) : Int) != (c : Int)) = false := by rw [hx]; simp
                cases hbit : (ws[o.length]).testBit t
                · have Hn := Lib.hid (show (true = true ↔ OkTo ws o c (t + 1)) from ⟨fun _ => (hb.out.1 rfl).step fun _ => by rw [HE2.out]; exact hbit, fun _ => rfl⟩)
                  rw [hbit] at p1
                  clear hbit hx hb
                  generalize o[t] = x at *
                  generalize ws[o.length] = s at *
                  go_wp2
                  go_round
                  case rel => exact ⟨t + 1, true, by omega, by go_num, rfl, Hn⟩
                  case measure => simp [intOf]; omega
                · have Hn := Lib.hid (show (false = true ↔ OkTo ws o c (t + 1)) from ⟨(fun h => by cases h), fun h => by
                    have := h.down.2 (by rw [HE.out]; exact hx)
                    rw [HE2.out, hbit] at this; cases this⟩)
                  rw [hbit] at p1
                  clear hbit hx hb
                  generalize o[t] = x at *
                  generalize ws[o.length] = s at *
                  go_wp2
                  go_round
                  case rel => exact ⟨t + 1, false, by omega, by go_num, rfl, Hn⟩
                  case measure => simp [intOf]; omega
              · have q1 : (((o[t] : Nat) : Int) != (c : Int)) = true := by rw [bne_iff_ne]; omega
                have Hn := Lib.hid (show (true = true ↔ OkTo ws o c (t + 1)) from ⟨fun _ => (hb.out.1 rfl).step fun e => absurd (HE.out.symm.trans e) hx, fun _ => rfl⟩)
                clear hx hb p1
                generalize o[t] = x at *
                generalize ws[o.length] = s at *
                go_wp2
                go_round
                case rel => exact ⟨t + 1, true, by omega, by go_num, rfl, Hn⟩
                case measure => simp [intOf]; omega
          · have : t = o.length := by omega
            subst this
            clear ht hltt
            cases b'
            · have Hno : Hid (¬ Full k ws (o ++ [c])) := fun hf => by
                obtain ⟨l, h1, _, h3⟩ := hf
                have := hb.out.2 (h3.prefix h1).at_
                cases this
              clear hb
              go_wp2
              go_roundw
              case rel => exact ⟨c + 1, by omega, by go_num, fun c' hc' => by
                rcases Nat.lt_or_ge c' c with h1 | h1
                · exact hP.out c' h1
                · have : c' = c := by omega
                  subst this; exact Hno.out, HW.out⟩
              case measure => simp [intOf]; omega
            · have HG2 := Lib.hid (HG.out.snoc hlt (hb.out.1 rfl))
              clear hb
              obtain ⟨o2, ho2⟩ : ∃ o2, o2 = o ++ [c] := ⟨_, rfl⟩
              have HO2 := Lib.hid ho2
              have Ho2l := Lib.hid (show o2.length = o.length + 1 by rw [ho2]; simp)
              rw [← ho2] at HG2
              clear ho2 HWS
              have Hfin : Hid (∀ w', Below w.heap.size w w' → ¬ Full k ws o2 → (∃ c_1 : Nat, c_1 ≤ k ∧ Value.int .i64 ((c : Int) + 1) = .int .i64 c_1 ∧ Hid (∀ c', c' < c_1 → ¬ Full k ws (o ++ [c'])) ∧ Below w.heap.size w w')) := fun w' hB hn => ⟨c + 1, by omega, by go_num, fun c' hc' => by
                rcases Nat.lt_or_ge c' c with h1 | h1
                · exact hP.out c' h1
                · have : c' = c := by omega
                  subst this; rw [← HO2.out]; exact hn, hB⟩
              clear hP
              by_cases h0 : o.length = 0
              · obtain ⟨rfl, rfl⟩ := Hnil.out h0
                have h0' : o = [] := List.length_eq_zero_iff.1 h0
                have H0 := Lib.hid h0'
                clear h0'
                go_wp2_with (at_builtin; refine wpList_appC rfl _ _ rfl (wo.heap.size + 1) (.slice none 0 0) [] c rfl (Own.nil_ _ _ _) _ _ rfl (cell_new _ _ _ _ (by simp) _) (by simp) (by simp) ?_; intro v' w3 hown' hgrow)
                rw [show ([] : List Nat) ++ [c] = o2 by rw [HO2.out, H0.out]] at hown'
                obtain ⟨A3, cap3, rfl, hR3, _, hc3⟩ := hown'.form natCells_len
                have hB3 : Below wo.heap.size wo w3 := (((Below.refl wo.heap.size wo).alloc (Nat.le_refl _) _)).grown hgrow (by simp) (fun k hk => by cases hk)
                have HB3 := Lib.hid hB3
                have HR3 := Lib.hid hR3
                clear hown' hgrow hB3 hR3
                refine (IH.out o2 A3 cap3 w3 (by rw [Hd.out, Ho2l.out]; omega) (Rd.below HB.out (HW.out.trans (HB3.out.mono hw2))) HR3.out (by rw [Ho2l.out]; omega) hc3 HG2.out).mono ?_
                rintro e w4 ⟨hB4, hr4⟩
                have HB4 := Lib.hid (HW.out.trans ((HB3.out.trans (hB4.mono HB3.out.size)).mono hw2))
                clear hB4
                rcases hr4 with ⟨A5, cap5, l5, rfl, hR5, hp5, hl5, hg5⟩ | ⟨rfl, hn5⟩
                · have HR5 := Lib.hid hR5
                  have Hp5 := Lib.hid hp5
                  have Hl5 := Lib.hid hl5
                  have Hg5 := Lib.hid hg5
                  clear hR5 hp5 hl5 hg5
                  go_wp2
                  go_ret2
                  exact ⟨HB4.out, .inl ⟨A5, cap5, l5, rfl, HR5.out, List.IsPrefix.trans ⟨[c], HO2.out.symm⟩ Hp5.out, Hl5.out, Hg5.out⟩⟩
                · have Hn5 := Lib.hid hn5
                  clear hn5
                  go_wp2
                  first
                    | exact ⟨Hfin.out _ HB4.out Hn5.out, by simp [intOf]; omega⟩
                    | (simp only [h0]
                       refine ⟨?_, by simp [intOf]; omega⟩
                       (repeat apply Exists.intro)
                       exact ⟨Hfin.out _ HB4.out Hn5.out, rfl⟩)
              · obtain ⟨b, off, rfl, hb, _⟩ := (Rd.below HA.out HW.out) (by omega)
                have hcp := Hcap.out
                go_wp2_with (at_builtin; refine wpList_appFullC rfl _ _ rfl (some ⟨b, off, none⟩) o c (by omega) rfl (Rd.below HA.out (HW.out.alloc hw2 _)) _ _ rfl (cell_new _ _ _ _ rfl _) (by omega) ?_; intro v' w3 hown' hgrow)
                rw [← HO2.out] at hown'
                obtain ⟨A3, cap3, rfl, hR3, _, hc3⟩ := hown'.form natCells_len
                have hB3 : Below wo.heap.size wo w3 := (((Below.refl wo.heap.size wo).alloc (Nat.le_refl _) _)).grown hgrow (by simp) (fun k hk => by cases hk)
                have HB3 := Lib.hid hB3
                have HR3 := Lib.hid hR3
                clear hown' hgrow hB3 hR3
                refine (IH.out o2 A3 cap3 w3 (by rw [Hd.out, Ho2l.out]; omega) (Rd.below HB.out (HW.out.trans (HB3.out.mono hw2))) HR3.out (by rw [Ho2l.out]; omega) hc3 HG2.out).mono ?_
                rintro e w4 ⟨hB4, hr4⟩
                have HB4 := Lib.hid (HW.out.trans ((HB3.out.trans (hB4.mono HB3.out.size)).mono hw2))
                clear hB4
                rcases hr4 with ⟨A5, cap5, l5, rfl, hR5, hp5, hl5, hg5⟩ | ⟨rfl, hn5⟩
                · have HR5 := Lib.hid hR5
                  have Hp5 := Lib.hid hp5
                  have Hl5 := Lib.hid hl5
                  have Hg5 := Lib.hid hg5
                  clear hR5 hp5 hl5 hg5
                  go_wp2
                  go_ret2
                  exact ⟨HB4.out, .inl ⟨A5, cap5, l5, rfl, HR5.out, List.IsPrefix.trans ⟨[c], HO2.out.symm⟩ Hp5.out, Hl5.out, Hg5.out⟩⟩
                · have Hn5 := Lib.hid hn5
                  clear hn5
                  go_wp2
                  first
                    | exact ⟨Hfin.out _ HB4.out Hn5.out, by simp [intOf]; omega⟩
                    | (simp only [h0]
                       refine ⟨?_, by simp [intOf]; omega⟩
                       (repeat apply Exists.intro)
                       exact ⟨Hfin.out _ HB4.out Hn5.out, rfl⟩)
      · have : c = k := by omega
        subst this
        go_wp2
        go_ret2
        exact ⟨HW.out, .inr ⟨rfl, fun hf => by
          obtain ⟨c', h1, h2, _⟩ := hf.next ho8
          exact hP.out c' h1 h2⟩⟩
end Go.Proofs.YtckmedmebabkjaaDoor
