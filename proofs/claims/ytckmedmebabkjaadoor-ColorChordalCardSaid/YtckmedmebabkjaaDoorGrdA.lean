/- math/bits.TrailingZeros32 over its table; color.Greedy. -/
import Derived.Test.YtckmedmebabkjaaDoorGrdP
import Derived.Test.YtckmedmebabkjaaDoorMulD
import Derived.Test.YtckmedmebabkjaaDoorRepeat
import Derived.Test.YtckmedmebabkjaaDoorBits1
namespace Go.Proofs.YtckmedmebabkjaaDoor
set_option maxRecDepth 100000
open Go.RowKit

def tab32 : List Int := [0, 1, 28, 2, 29, 14, 24, 3, 30, 22, 20, 15, 25, 17, 4, 8, 31, 27, 13, 23, 21, 19, 16, 7, 26, 12, 18, 6, 11, 5, 10, 9]
/-- The table lies in block 0. -/
def TabM (w : World) : Prop := ∀ i v, tab32[i]? = some v → w.cell? ⟨0, i, none⟩ = some (.int .u8 v)
theorem TabM.below {w w' : World} (h : TabM w) (h0 : 0 < w.heap.size) (hb : Below w.heap.size w w') : TabM w' := fun i v hv => (hb.cell (p := ⟨0, i, none⟩) h0).trans (h i v hv)
theorem TabM.drewN {w : World} (h : TabM w) (n : Nat) : TabM (w.drewN n) := h
theorem tz_and : ∀ u : Fin 256, bits .and .u32 (4294967295 - (u.val : Int)) ((u.val : Int) + 1) = ((2 ^ lowZ u.val : Nat) : Int) := by decide +kernel
theorem tz_tab : ∀ t : Fin 9, (((2 ^ t.val : Nat) : Int) * 125613361) % 4294967296 / 134217728 < 32 ∧ tab32[((((2 ^ t.val : Nat) : Int) * 125613361) % 4294967296 / 134217728).toNat]? = some (t.val : Int) := by decide +kernel
theorem tz_xor : ∀ u : Fin 256, bits .xor .u32 IntKind.u32.max (u.val : Int) = 4294967295 - (u.val : Int) := by decide +kernel
set_option maxHeartbeats 2000000 in
theorem tz32_calls (u : Nat) (hu : u < 256) (w : World) (hT : TabM w) (x : Int) (hx : x = 4294967295 - (u : Int)) :
    Calls Tryd.prog 17 #[.int .u32 x] w fun e w' => e = .returned (.int .i64 (lowZ u : Nat)) ∧ w' = w := by
  have h1 := tz_and ⟨u, hu⟩
  have h2 := tz_tab ⟨lowZ u, by have := lowZ_le u; omega⟩
  dsimp only at h1 h2
  have q0 : (x == 0) = false := by rw [beq_eq_false_iff_ne]; omega
  have p1 : (-x) % 4294967296 = (u : Int) + 1 := by omega
  rw [← hx] at h1
  have hc := lowZ_le u
  have Hz := Lib.hid (rfl : lowZ u = lowZ u)
  generalize hz : lowZ u = z at *
  have hp := Nat.two_pow_pos z
  generalize hy : (u : Int) + 1 = y at *
  generalize ((2 ^ z : Nat) : Int) = c at *
  generalize hd : c * 125613361 % 4294967296 = d at *
  have hd0 : 0 ≤ d := by omega
  obtain ⟨i, hi⟩ := Int.eq_ofNat_of_zero_le (show 0 ≤ d / 134217728 by omega)
  rw [hi] at h2
  rw [Int.toNat_natCast] at h2
  have c0 := hT i z h2.2
  have h3 := h2.1
  have p4 : d / 2 ^ 27 = (i : Int) := hi
  have qz : 0 ≤ (z : Int) := by omega
  have qz2 : (z : Int) ≤ 8 := by omega
  clear h2 hT hy hz hx Hz hp
  go_enter Tryd.func17, Tryd.ntmps17
  go_wp2
  go_ret
  exact ⟨rfl, rfl⟩
theorem mulD (x y : Nat) (hx : x < 100) (hy : y < 100) (w : World) : Calls Tryd.prog 24 #[.int .u64 x, .int .u64 y] w fun e w' => e = .returned (.tuple #[.int .u64 0, .int .u64 ((x * y : Nat) : Int)]) ∧ w' = w := by
  have h := Tryd.bits_Mul x y (by omega) (by omega) w
  have hb : x * y < 100 * 100 := Nat.mul_lt_mul'' hx hy
  rw [show x * y / 18446744073709551616 = 0 from Nat.div_eq_of_lt (by omega), show x * y % 18446744073709551616 = x * y from Nat.mod_eq_of_lt (by omega)] at h
  exact h
def GreedyE (n : Int) (ps : List (Int × Int)) (O : List Int) (w : World) (e : Ending) (w' : World) : Prop :=
  Below w.heap.size w w' ∧ (((∃ E : Int, E ≠ 0 ∧ e = .returned (.tuple #[.slice none 0 0, .int .i64 E])) ∧ (clErr n ps = 0 → ∀ m : Nat, n = m → ¬ OrdOk m O)) ∨
    (∃ (m : Nat) (A : Option Addr) (c : Nat) (l : List Nat), n = m ∧ ClOk m ps ∧ e = .returned (.tuple #[.slice A l.length c, .int .i64 0]) ∧ RdC w' A l ∧ GrR m ps O l))
theorem gI_getG {l : List Int} {k : Nat} (h : k < l.length) : l.getD k 0 = l[k] := by rw [List.getD_eq_getElem?_getD, List.getElem?_eq_getElem h]; rfl
theorem rdC_of {w : World} {A : Option Addr} {o : List Int} (h : RdI w A o) (hp : ∀ x ∈ o, 0 ≤ x) : RdC w A (o.map Int.toNat) := fun hn => by
  rw [List.length_map] at hn
  obtain ⟨b, off, h1, h2, h3⟩ := h hn
  refine ⟨b, off, h1, h2, fun k x hx j hj => ?_⟩
  rw [List.getElem?_map, Option.map_eq_some_iff] at hx
  obtain ⟨c, hc, rfl⟩ := hx
  have hp := hp c (List.mem_of_getElem? hc)
  rw [h3 k c hc j hj]
  unfold intCells natCells
  rw [Int.toNat_of_nonneg hp]
set_option maxHeartbeats 8000000 in
theorem greedy_calls (n : Int) (A B : Option Addr) (ps : List (Int × Int)) (O : List Int) (cap c2 : Nat) (w : World) (hA : RdP w A ps) (hB : RdI w B O) (hm : ps.length ≤ maxLen) (hT : TabM w) (hw0 : 0 < w.heap.size) :
    Calls Tryd.prog 5 #[.int .i64 n, .slice A ps.length cap, .slice B O.length c2] w (GreedyE n ps O w) := by
  have HA := Lib.hid hA
  have HB := Lib.hid hB
  have HT := Lib.hid hT
  clear hA hB hT
  go_enter Tryd.func5, Tryd.ntmps5
  go_wp2_with fail
  refine (clashes_any _ _ _ _ _ HA.out hm).mono ?_
  rintro e w1 ⟨v, rfl, hW, hr⟩
  have HW := Lib.hid hW
  have hw1 := hW.size
  clear hW
  rcases hr with ⟨h0, rfl⟩ | ⟨m, rfl, hok, hown⟩
  · have q : (clErr n ps != 0) = true := by rw [bne_iff_ne]; exact h0
    have H0 := Lib.hid h0
    clear h0
    go_wp2
    go_ret2
    exact ⟨HW.out, .inl ⟨⟨_, H0.out, rfl⟩, fun h => absurd h H0.out⟩⟩
  · rw [hok.err]
    have Hok := Lib.hid hok
    have h1 := hok.n1
    have h8 := hok.n8
    obtain ⟨C, capC, rfl, hR⟩ := hown.rd
    have HR := Lib.hid hR
    rw [clL_len]
    clear hok hown hR
    by_cases hl : O.length = m
    case neg =>
      have q2 : (((O.length : Nat) : Int) != ((m : Nat) : Int)) = true := by rw [bne_iff_ne]; omega
      have Hn := Lib.hid (fun (m' : Nat) (e : ((m : Nat) : Int) = (m' : Int)) (h : OrdOk m' O) => hl (by have := h.len; omega))
      clear hl
      go_wp2
      go_ret2
      exact ⟨HW.out, .inl ⟨⟨3, by decide, rfl⟩, fun _ => Hn.out⟩⟩
    have q2 : (((O.length : Nat) : Int) != ((m : Nat) : Int)) = false := by rw [hl]; simp
    have Hl := Lib.hid hl
    have hl1 : O.length ≤ m := by omega
    have hl2 : m ≤ O.length := by omega
    clear hl
    go_wp2_with fail
    refine (repeat_calls mulD w1.heap.size (-1) m _ (cell_new _ _ _ _ rfl 0) (by simp) h1 (by omega)).mono ?_
    rintro e w2 ⟨v, rfl, hown2, hB2⟩
    obtain ⟨g, cg, e, hg1, hg2, -⟩ := OwnI.at_ hown2 (by simp; omega)
    rw [List.length_replicate] at e
    subst e
    have hgb : w1.heap.size ≤ g := by simp at hg1; omega
    have HO2 : Hid (OwnI w2 w1.heap.size 3 (.slice (some ⟨g, 0, none⟩) m cg) (List.replicate m (-1))) := Lib.hid (Own.base_ hown2 (by simp))
    have HW2 : Hid (Below w1.heap.size w1 w2) := Lib.hid (((Below.refl w1.heap.size w1).alloc (Nat.le_refl _) _).trans (hB2.mono (by simp)))
    clear hown2 hB2 hg1 hg2
    go_wp2
    go_loopw [34] (fun i wr => ∃ (k : Nat) (o : List Int), k ≤ O.length ∧ i = .int .i64 k ∧ OwnI wr w1.heap.size 3 (.slice (some ⟨g, 0, none⟩) m cg) o ∧ Hid (GrK m ps O o k) ∧ Hid (Below w1.heap.size w1 wr)) (fun i _ => O.length - (intOf i).toNat)
    case atStart => exact ⟨0, _, Nat.zero_le _, rfl, HO2.out, Lib.hid (GrK.start O), HW2⟩
    case round =>
      clear HO2 HW2
      obtain ⟨k, o, hk, rfl, hO, HK, HWr⟩ := hrel
      have HO := Lib.hid hO
      have hwr := HWr.out.size
      have HWw := Lib.hid (HW.out.trans (HWr.out.mono hw1))
      have hol := HK.out.len
      by_cases hlt : k < O.length
      · obtain ⟨b, off, rfl, hb, c0⟩ := RdI.at1 (Rd.below HB.out HWw.out) hlt
        have hlt1 : ((k : Nat) : Int) < ((O.length : Nat) : Int) := by omega
        have hmem := List.getElem_mem hlt
        have hget := List.getElem?_eq_getElem hlt
        have Hbad : Hid (¬ (0 ≤ O[k] ∧ O[k] < m) → ∀ m' : Nat, ((m : Nat) : Int) = (m' : Int) → ¬ OrdOk m' O) := Lib.hid (fun h m' e hO => h (by have := hO.in_ _ hmem; omega))
        have Hdup : Hid (O[k] ∈ O.take k → ∀ m' : Nat, ((m : Nat) : Int) = (m' : Int) → ¬ OrdOk m' O) := Lib.hid (fun h m' e hO => by
          have h1 : (O.take k ++ O[k] :: O.drop (k + 1)).Nodup := by rw [← List.drop_eq_getElem_cons hlt, List.take_append_drop]; exact hO.one
          rw [List.nodup_append] at h1
          exact h1.2.2 _ h _ List.mem_cons_self rfl)
        have Hget := Lib.hid hget
        clear hO hmem hget
        generalize O[k] = x at *
        by_cases hx0 : x < 0
        · have q3 : decide (x < 0) = true := decide_eq_true hx0
          have Hend := Lib.hid (Hbad.out (by omega))
          clear Hbad Hdup
          go_wp2
          go_ret2
          exact ⟨HWw.out, .inl ⟨⟨3, by decide, rfl⟩, fun _ => Hend.out⟩⟩
        by_cases hxm : (m : Int) ≤ x
        · have q3 : decide (x < 0) = false := decide_eq_false hx0
          have q3' : 0 ≤ x := by omega
          have q4 : decide (x ≥ (m : Int)) = true := decide_eq_true hxm
          have Hend := Lib.hid (Hbad.out (by omega))
          clear Hbad Hdup
          go_wp2
          go_ret2
          exact ⟨HWw.out, .inl ⟨⟨3, by decide, rfl⟩, fun _ => Hend.out⟩⟩
        obtain ⟨i, rfl⟩ := Int.eq_ofNat_of_zero_le (show 0 ≤ x by omega)
        have him : i < m := by omega
        have q3 : ((i : Nat) : Int) < ((m : Nat) : Int) := by omega
        have hio : i < o.length := by omega
        obtain ⟨g', eg, -, hgw, -, hfz, hcell⟩ := OwnI.at2 HO.out (by omega)
        injection eg with eg; injection eg with eg
        subst eg
        have ci := hcell i hio
        rw [← gI_getG hio] at ci
        have fi := hfz i
        by_cases hci : 0 ≤ o.getD i 0
        · have q5 : decide (o.getD i 0 ≥ 0) = true := decide_eq_true hci
          have Hend := Lib.hid (Hdup.out (by
            apply Classical.byContradiction
            intro hn
            have := HK.out.no i him hn
            omega))
          clear Hbad Hdup hcell hfz
          generalize o.getD i 0 = ov at *
          go_wp2
          go_ret2
          exact ⟨HWw.out, .inl ⟨⟨3, by decide, rfl⟩, fun _ => Hend.out⟩⟩
        have hci' : o.getD i 0 < 0 := by omega
        have q5 : decide (o.getD i 0 ≥ 0) = false := decide_eq_false hci
        have Hnext := Lib.hid (fun u (hu : UsedG ps o i m u) (hu8 : u < 256) => HK.out.next Hok.out Hget.out him hci' hu hu8)
        have Hcl := Lib.hid (fun (j : Nat) (hj : j < m) (h : 0 ≤ o.getD j 0) => show o.getD j 0 < 8 from by
          apply Classical.byContradiction
          intro hx
          by_cases hjm : (j : Int) ∈ O.take k
          · have := (HK.out.yes j hjm).2; omega
          · have := HK.out.no j hj hjm; omega)
        have HS := Lib.hid (fun z : Int => OwnI.set_ HO.out (k := i) hio z)
        have Hcell := Lib.hid (fun j (hj : j < m) => show wr.cell? ⟨g, j, none⟩ = some (.int .i64 (o.getD j 0)) from by rw [gI_getG (by omega)]; exact hcell j (by omega))
        have HTr := Lib.hid (HT.out.below hw0 HWw.out)
        obtain ⟨b2, o2, rfl, hb2, cw⟩ := RdU.at1 (Rd.below HR.out HWr.out) (show i < (clL m ps).length by rw [clL_len]; exact him)
        rw [clL_get] at cw
        have hS := clS_lt ps i
        have HSb := Lib.hid (fun j => show (clS ps i).testBit j = true ↔ Cl ps i j from by rw [← clL_bit Hok.out him, getD_of (by rw [clL_len]; exact him), clL_get])
        clear Hbad Hdup hcell hfz hci
        generalize clS ps i = s at *
        generalize hov : o.getD i 0 = ov at *
        have Hov := Lib.hid hov
        clear hov
        obtain ⟨wo, hwo⟩ : ∃ wo : World, wo = wr := ⟨_, rfl⟩
        go_wp2
        go_loopw [13, 54] (fun uv j wz => ∃ (u t : Nat), t ≤ m ∧ uv = .int .u32 u ∧ j = .int .i64 t ∧ Hid (UsedG ps o i t u) ∧ u < 256 ∧ wz = wr) (fun _ j _ => m - (intOf j).toNat)
        case atStart => exact ⟨0, 0, Nat.zero_le _, rfl, rfl, Lib.hid (fun c => ⟨fun h => (by rw [Nat.zero_testBit] at h; cases h), fun ⟨j, hj, _⟩ => by omega⟩), by decide, rfl⟩
        case round =>
          obtain ⟨u, t, ht, rfl, rfl, HU, hu8, rfl⟩ := hrel
          by_cases htm : t < m
          · have q6 : ((t : Nat) : Int) < ((m : Nat) : Int) := by omega
            have ct := Hcell.out t htm
            have Hc8 := Hcl.out t htm
            have HU0 : Hid (¬ (0 ≤ o.getD t 0 ∧ s.testBit t = true) → UsedG ps o i (t + 1) u) := Lib.hid (fun h c => by
              rw [HU.out c]
              refine ⟨fun ⟨j, hj, hh⟩ => ⟨j, by omega, hh⟩, fun ⟨j, hj, h1, h2⟩ => ?_⟩
              rcases Nat.lt_or_ge j t with hjt | hjt
              · exact ⟨j, hjt, h1, h2⟩
              · obtain rfl : j = t := by omega
                exact absurd ⟨by omega, (HSb.out j).2 h2⟩ h)
            have HU1 : Hid (∀ cn : Nat, o.getD t 0 = (cn : Int) → s.testBit t = true → UsedG ps o i (t + 1) (u ||| 2 ^ cn)) := Lib.hid (fun cn hcn hb c => by
              rw [set_bit, Bool.or_eq_true, HU.out c, decide_eq_true_eq]
              constructor
              · rintro (⟨j, hj, hh⟩ | rfl)
                · exact ⟨j, by omega, hh⟩
                · exact ⟨t, by omega, hcn, (HSb.out t).1 hb⟩
              · rintro ⟨j, hj, h1, h2⟩
                rcases Nat.lt_or_ge j t with hjt | hjt
                · exact .inl ⟨j, hjt, h1, h2⟩
                · obtain rfl : j = t := by omega
                  exact .inr (by omega))
            have t32 : t < 32 := by omega
            have p1 := test1_u32 s t (by omega)
            generalize hoc : o.getD t 0 = c at *
            have Hoc := Lib.hid hoc
            clear hoc
            by_cases hc0 : c < 0
            · have q7 : decide (c ≥ 0) = false := decide_eq_false (by omega)
              have HUn := Lib.hid (HU0.out (by omega))
              clear HU0 HU1 Hc8 p1
              go_wp2
              go_roundw
              case rel => exact ⟨u, t + 1, by omega, by first | rfl | trivial, by go_num, HUn, hu8, by first | rfl | trivial⟩
              case measure => simp [intOf]; omega
            have q7 : decide (c ≥ 0) = true := decide_eq_true (by omega)
            have q7' : 0 ≤ c := by omega
            cases hb1 : s.testBit t
            · rw [hb1] at p1
              have HUn := Lib.hid (HU0.out (fun h => by rw [hb1] at h; cases h.2))
              clear HU0 HU1 Hc8 hb1
              go_wp2
              go_roundw
              case rel => exact ⟨u, t + 1, by omega, by first | rfl | trivial, by go_num, HUn, hu8, by first | rfl | trivial⟩
              case measure => simp [intOf]; omega
            · rw [hb1] at p1
              obtain ⟨cn, rfl⟩ := Int.eq_ofNat_of_zero_le q7'
              have hcn8 : cn < 8 := by have := Hc8 q7'; omega
              have HUn := Lib.hid (HU1.out cn rfl hb1)
              have p3 := pow_u32 cn (by omega)
              have pt : 2 ^ cn < 2 ^ 8 := Nat.pow_lt_pow_right (by decide) hcn8
              have p4 := or_u32 u (2 ^ cn) (by omega) (by omega)
              have hu8' : u ||| 2 ^ cn < 256 := Nat.or_lt_two_pow (n := 8) hu8 pt
              rw [Int.natCast_pow, show ((2 : Nat) : Int) = 2 from rfl] at p3 p4
              clear HU0 HU1 Hc8 hb1 pt
              generalize u ||| 2 ^ cn = u' at *
              go_wp2
              go_roundw
              case rel => exact ⟨u', t + 1, by omega, by first | rfl | trivial, by go_num, HUn, hu8', by first | rfl | trivial⟩
              case measure => simp [intOf]; omega
          · have htm' : t = m := by omega
            subst htm'
            obtain ⟨hk1, -, hz8⟩ := Hnext.out u HU.out hu8
            have HK1 := Lib.hid hk1
            have Htz := Lib.hid (tz32_calls u hu8 wr HTr.out _ (tz_xor ⟨u, hu8⟩))
            have HS1 := Lib.hid (HS.out (lowZ u : Nat))
            have HW1 := Lib.hid (HWr.out.setCell (p := ⟨g, i, none⟩) hgb (.int .i64 (lowZ u : Nat)))
            clear Hnext HU HS hk1
            generalize lowZ u = z at *
            dsimp only at Htz
            go_wp2_with fail
            refine Htz.out.mono ?_
            rintro e w9 ⟨rfl, rfl⟩
            go_wp2
            go_roundw
            case rel => exact ⟨k + 1, _, by omega, by go_num, HS1.out, HK1, HW1⟩
            case measure => simp [intOf]; omega
      · have hke : k = O.length := by omega
        subst hke
        obtain ⟨hR5, hpos⟩ := HK.out.all Hl.out
        have HR5 := Lib.hid hR5
        obtain ⟨A9, c9, e9, hrd, -⟩ := Own.form intCells_len HO.out
        injection e9 with e9 e10 e11
        have hlen : (o.map Int.toNat).length = m := hR5.len
        have Hend : Hid (∃ (m' : Nat) (A : Option Addr) (c : Nat) (l : List Nat), ((m : Nat) : Int) = m' ∧ ClOk m' ps ∧ Ending.returned (.tuple #[.slice (some ⟨g, 0, none⟩) m cg, .int .i64 0]) = .returned (.tuple #[.slice A l.length c, .int .i64 0]) ∧ RdC wr A l ∧ GrR m' ps O l) := Lib.hid ⟨m, some ⟨g, 0, none⟩, cg, o.map Int.toNat, rfl, Hok.out, by rw [hlen], rdC_of (by rw [e9]; exact hrd) hpos, hR5⟩
        clear hR5 hpos hrd hlen HR5 e9 e10 e11
        go_wp2
        go_ret2
        exact ⟨HWw.out, .inr Hend.out⟩
end Go.Proofs.YtckmedmebabkjaaDoor
