/- SwapTwice walked. -/
import Derived.Test.YtiphhadhbokgmaaSwapD
import Derived.BigGuardPart
namespace Go.Proofs.Ytiphhadhbokgmaa
open Go.RowKit

def swp (m : Mv) : Mv := ⟨m.from_, m.to⟩
theorem inv_of {n : Nat} {l b : List Mv} (hl : MvOk n l) (hb : MvOk n b) (h : ∀ r, r < n → mfK b (mfK l (r : Int)) = (r : Int)) : Inv2 n (fL n l) (fL n b) := by
  have hg := fL_ran hl
  have hh := fL_ran hb
  have hgh : ∀ r, r < n → gN (fL n b) (gN (fL n l) r) = r := fun r hr => by
    have h1 := h r hr
    have h2 := fL_at hl hr
    have h3 := fL_at hb (hg.2 r hr)
    rw [h2, h1] at h3
    omega
  refine ⟨hg, hh, hgh, fun r hr => ?_⟩
  -- each is met
  have hs : ∃ s, s < n ∧ gN (fL n l) s = r := Classical.byContradiction fun hno => by
    have hnd : ((List.range n).map (gN (fL n l))).Nodup := by
      rw [List.nodup_iff_pairwise_ne, List.pairwise_map]
      refine List.Pairwise.imp_of_mem ?_ (List.nodup_iff_pairwise_ne.1 (List.nodup_range (n := n)))
      intro a c ha hc hne e
      rw [List.mem_range] at ha hc
      exact hne (by rw [← hgh a ha, ← hgh c hc, e])
    have := nodup_sub_lenS (m := (List.range n).erase r) hnd fun x hx => by
      obtain ⟨s, hs, rfl⟩ := List.mem_map.1 hx
      rw [List.mem_range] at hs
      exact (List.mem_erase_of_ne (fun e => hno ⟨s, hs, e⟩)).2 (List.mem_range.2 (hg.2 s hs))
    rw [List.length_map, List.length_range, List.length_erase_of_mem (List.mem_range.2 hr), List.length_range] at this
    omega
  obtain ⟨s, hs, rfl⟩ := hs
  rw [hgh s hs]
theorem Inv2.perm {n : Nat} {G H : List Nat} (h : Inv2 n G H) : PermF G := fun i hi => by
  have hl := hi.lt
  rw [h.g.1] at hl
  exact ⟨gN H i, h.symm.good.stay i (h.nf i hi) |> fun h2 => h.symm.nf _ h2, h.gh i hl⟩
theorem ofN_nat (mv : List (Nat × Nat)) : (mv.map ofN).map Mv.nat = mv := by
  rw [List.map_map]
  have : (Mv.nat ∘ ofN) = id := by funext m; simp [ofN, Mv.nat]
  rw [this, List.map_id]
theorem twice_val {n : Nat} {G H : List Nat} {m1 m2 : List (Nat × Nat)} (h : Inv2 n G H) (h1 : Or n 0 G m1) (h2 : Or n 0 H m2) {r : Nat} (hr : r < n) : (mvR (iota (n + 1)) (m1 ++ m2)).getD r 0 = (r : Int) := by
  have hi : ∀ x, x < n + 1 → (iota (n + 1)).getD x 0 = (x : Int) := fun x hx => by
    rw [List.getD_eq_getElem?_getD, List.getElem?_eq_getElem (by rw [iota_len]; exact hx)]; simp [iota]
  rw [mvR_append]
  have e1 : ∀ x, x < n → (mvR (iota (n + 1)) m1).getD x 0 = ((gN G x : Nat) : Int) := h1.val (fun x => ((gN G x : Nat) : Int)) h.good _ (iota_len _) (fun x hx => by omega) (fun x hx => hi _ (by have := h.g.2 x hx; omega))
  have e2 := h2.val (fun x => (mvR (iota (n + 1)) m1).getD (gN H x) 0) h.symm.good _ (by rw [mvR_len, iota_len]) (fun x hx => by omega) (fun x hx => rfl) r hr
  rw [e2, e1 _ (h.h.2 r hr), h.gh r hr]
theorem swp_in {n : Nat} {l : List Mv} (h : MvOk n l) : ∀ m ∈ l.map swp, (0 ≤ m.to ∧ m.to < n) ∧ 0 ≤ m.from_ ∧ m.from_ < n := fun m hm => by
  obtain ⟨x, hx, rfl⟩ := List.mem_map.1 hm
  have := h.ins x hx
  unfold swp; dsimp only; omega
theorem run_appMv {w : World} (ty : TypeId) (base : Nat) (v : Value) (l : List Mv) (hown : OwnMv w base v l) (A : Option Addr) (m : List Mv) (c : Nat) (hA : RdMv w A m) (hl : l.length + m.length ≤ 1000) (hbase : base ≤ w.heap.size) :
    ∃ v' w', (Builtin.append_ #[46, 46] ty #[v, .slice A m.length c]).run Try.prog w = .ok v' w' ∧ OwnMv w' base v' (l ++ m) ∧ w.grownBy w' v.ownBlock ∧ (v'.ownBlock = v.ownBlock ∨ v'.ownBlock = some w.heap.size) :=
  run_appN 46 ty Mv.cells 2 16 51 (Mv.mk 0 0).agg Try.underlying46 infoMv rfl (by decide) mvCells_len mvCells_one base v l hown A m c hA (by unfold maxLen; omega) (by omega) hbase
/-- append(append([]api.Move{}, o...), b...) -/
theorem both_rows {w : World} {A B : Option Addr} {o b : List Mv} {ca cb : Nat} (hA : RdMv w A o) (hB : RdMv w B b) (ho : o.length ≤ 100) (hb : b.length ≤ 100) :
    ∃ v3 w3 v4 w4, (Builtin.append_ #[46, 46] 46 #[.slice (some ⟨w.heap.size, 0, none⟩) 0 0, .slice A o.length ca]).run Try.prog (w.alloc (.cells #[] 51)) = .ok v3 w3 ∧
      (Builtin.append_ #[46, 46] 46 #[v3, .slice B b.length cb]).run Try.prog w3 = .ok v4 w4 ∧ (∃ A4 c4, v4 = .slice A4 (o ++ b).length c4 ∧ RdMv w4 A4 (o ++ b)) ∧ Below w.heap.size w w4 := by
  have HE := own_new Mv.cells 2 51 mvCells_len w w.heap.size (Nat.le_refl _) [] (by simp [maxLen])
  have hB1 := (Below.refl w.heap.size w).alloc (Nat.le_refl _) (.cells #[] 51)
  obtain ⟨v3, w3, hrun3, hO3, hg3, -⟩ := run_appMv 46 w.heap.size _ [] HE A o ca (Rd.below hA hB1) (by simp; omega) (by simp)
  rw [List.nil_append] at hO3
  have hW3 := hB1.grown hg3 (by simp) (fun k e => by have e : some w.heap.size = some k := e; injection e with e; omega)
  obtain ⟨v4, w4, hrun4, hO4, hg4, -⟩ := run_appMv 46 w.heap.size v3 o hO3 B b cb (Rd.below hB hW3) (by omega) hW3.size
  have HW4 := below_own hW3 hg4 hO3 (Nat.le_refl _) hW3.size
  exact ⟨v3, w3, v4, w4, hrun3, hrun4, OwnMv.rd hO4, HW4⟩
set_option maxRecDepth 100000 in
set_option maxHeartbeats 16000000 in
theorem swapTwice_calls (n : Int) (A : Option Addr) (l : List Mv) (cap : Nat) (w : World) (hA : RdMv w A l) (hm : l.length ≤ maxLen) :
    Calls Try.prog 6 #[.int .i64 n, .slice A l.length cap] w fun e w' => e = .returned (.bool true) ∧ Below w.heap.size w w' := by
  have Ho := Lib.hid (order_calls n A l cap w hA hm)
  have Hc := Lib.hid (fun w' (h : Below w.heap.size w w') => movesCheck_calls n A l cap w' (Rd.below hA h) hm)
  have HA := Lib.hid hA
  clear hA
  go_enter Try.func6, Try.ntmps6
  go_wp2_with fail
  refine Ho.out.mono ?_
  rintro e w1 (⟨h0, rfl, hW⟩ | ⟨h0, v1, o, rfl, hO, hol, hop, hW⟩)
  · have HW := Lib.hid hW
    have q : (mvErr n l != 0) = true := by rw [bne_iff_ne]; exact h0
    have Hc1 := Lib.hid (Hc.out _ hW)
    clear hW h0
    generalize mvErr n l = x at *
    go_wp2_with fail
    refine Hc1.out.mono ?_
    rintro e w2 ⟨rfl, hW2⟩
    have HW2 := Lib.hid (HW.out.trans (hW2.mono HW.out.size))
    clear hW2
    go_wp2
    go_ret
    exact ⟨by first | rfl | exact ret_bool (by simp), HW2.out⟩
  obtain ⟨m, rfl, hok⟩ := mvErr_ok h0
  rw [Int.toNat_natCast] at hop
  have HW := Lib.hid hW
  have Hc1 := Lib.hid (Hc.out _ hW)
  rw [h0] at Hc1
  have Hok := Lib.hid hok
  have m1 := hok.n1
  have m8 := hok.n8
  have hl8 := hok.len
  have Hop := Lib.hid hop
  have HO := Lib.hid hO
  clear hW h0 hok hop hO Hc Ho
  go_wp2_with fail
  refine Hc1.out.mono ?_
  rintro e w2 ⟨rfl, hW2⟩
  have HW2 := Lib.hid (HW.out.trans (hW2.mono HW.out.size))
  obtain ⟨Ao, co, rfl, hRo⟩ := OwnMv.rd (Own.below HO.out hW2)
  have HRo := Lib.hid hRo
  have hz2 := HW2.out.size
  clear hW2 hRo HO Hc1
  go_wp2
  go_loopw [7, 33] (fun s7 i wr => ∃ k : Nat, k ≤ l.length ∧ i = .int .i64 k ∧ OwnMv wr w2.heap.size s7 ((l.take k).map swp) ∧ Below w2.heap.size w2 wr) (fun _ i _ => l.length - (intOf i).toNat)
  case atStart => exact ⟨0, Nat.zero_le _, rfl, Own.nil_ _ _ _, Below.refl _ _⟩
  case round =>
    obtain ⟨k, hk, rfl, hO, hW⟩ := hrel
    have HO := Lib.hid hO
    have HWr := Lib.hid hW
    have hws := hW.size
    by_cases hlt : k < l.length
    · obtain ⟨b, off, rfl, hb, c0, c1⟩ := RdMv.at2 (Rd.below HA.out (HW2.out.trans (hW.mono hz2))) hlt
      have q1 : ((k : Nat) : Int) < ((l.length : Nat) : Int) := by omega
      have Hs : Hid ((l.take (k + 1)).map swp = (l.take k).map swp ++ [⟨l[k].from_, l[k].to⟩]) := Lib.hid (by rw [List.take_succ_eq_append_getElem hlt, List.map_append]; rfl)
      have hln : ((l.take k).map swp).length < 1000000 := by simp; omega
      clear hO hW
      generalize l[k] = mm at *
      obtain ⟨mt, mf⟩ := mm
      dsimp only at c0 c1 Hs
      have HOa := Lib.hid ((HO.out.alloc (.cells #[.int .i64 mt, .int .i64 mf] 51)).alloc (.cells #[.int .i64 mf, .int .i64 mt] 51))
      have HWa := Lib.hid ((HWr.out.alloc hws (.cells #[.int .i64 mt, .int .i64 mf] 51)).alloc (by simp; omega) (.cells #[.int .i64 mf, .int .i64 mt] 51))
      generalize (l.take k).map swp = bk at *
      go_wp2_with (at_builtin
                   refine wpList_appMv rfl _ _ rfl w2.heap.size _ bk ⟨mf, mt⟩ rfl HOa.out _ _ rfl (mv_new _ _ _ _ (by simp)) hln (by simp; omega) ?_
                   intro v3 w3 hO3 hg3 _
                   have HO3 := Lib.hid hO3
                   have HW3 := Lib.hid (below_own HWa.out hg3 HOa.out (Nat.le_refl _) (by simp; omega))
                   clear hO3 hg3)
      go_roundw
      case rel => exact ⟨k + 1, by omega, by go_num, by rw [Hs.out]; exact HO3.out, HW3.out⟩
      case measure => simp [intOf]; omega
    · have hke : k = l.length := by omega
      subst hke
      rw [List.take_length] at hO
      obtain ⟨Ab, cb, rfl, hRb⟩ := OwnMv.rd hO
      have HRb := Lib.hid hRb
      rw [List.length_map]
      have hbl : (l.map swp).length = l.length := List.length_map ..
      have Hbl := Lib.hid hbl
      have Hbk := Lib.hid (swp_in Hok.out)
      have Hob := Lib.hid (fun w' (h : Below wr.heap.size wr w') => order_calls (m : Int) Ab (l.map swp) cb w' (Rd.below HRb.out h) (by rw [hbl]; unfold maxLen; omega))
      have Hcb := Lib.hid (fun w' (h : Below wr.heap.size wr w') => movesCheck_calls (m : Int) Ab (l.map swp) cb w' (Rd.below HRb.out h) (by rw [hbl]; unfold maxLen; omega))
      have Hmb := Lib.hid (fun r w' (h : Below wr.heap.size wr w') => moveFrom_calls Ab (l.map swp) cb r w' (Rd.below HRb.out h) (by rw [hbl]; omega))
      have Hml := Lib.hid (fun r w' (h : Below wr.heap.size wr w') => moveFrom_calls A l cap r w' (Rd.below (Rd.below HA.out (HW2.out.trans (HWr.out.mono hz2))) h) (by omega))
      rw [hbl] at Hob Hcb Hmb
      have HW3 := Lib.hid (HW2.out.trans (HWr.out.mono hz2))
      have HRo3 := Lib.hid (Rd.below HRo.out HWr.out)
      clear hO hW hRb hbl HO
      generalize hbke : l.map swp = bk at *
      clear hbke
      go_wp2_with fail
      refine (Hob.out wr (Below.refl _ _)).mono ?_
      rintro e w4 (⟨h0, rfl, hW4⟩ | ⟨h0, v4, b, rfl, hO4, hol4, hop4, hW4⟩)
      · have HW4 := Lib.hid hW4
        have Hcb4 := Lib.hid (Hcb.out _ hW4)
        have q : (mvErr (m : Int) bk != 0) = true := by rw [bne_iff_ne]; exact h0
        clear h0 hW4
        generalize mvErr (m : Int) bk = x at *
        go_wp2_with fail
        refine Hcb4.out.mono ?_
        rintro e w5 ⟨rfl, hW5⟩
        have HW5 := Lib.hid (HW3.out.trans ((HW4.out.trans (hW5.mono HW4.out.size)).mono HW3.out.size))
        clear hW5
        go_wp2
        go_ret
        exact ⟨by first | rfl | exact ret_bool (by simp), HW5.out⟩
      obtain ⟨m', em, hokb⟩ := mvErr_ok h0
      have em : m' = m := by omega
      subst em
      rw [Int.toNat_natCast] at hop4
      have HW4 := Lib.hid hW4
      have Hcb4 := Lib.hid (Hcb.out _ hW4)
      rw [h0] at Hcb4
      have Hokb := Lib.hid hokb
      have Hopb := Lib.hid hop4
      have HO4 := Lib.hid hO4
      have HRo4 := Lib.hid (Rd.below HRo3.out hW4)
      clear hW4 h0 hokb hop4 hO4
      go_wp2_with fail
      refine Hcb4.out.mono ?_
      rintro e w5 ⟨rfl, hW5⟩
      have HW5 := Lib.hid (HW4.out.trans (hW5.mono HW4.out.size))
      have HRo5 := Lib.hid (Rd.below HRo4.out hW5)
      obtain ⟨A4, c4, rfl, hRb4⟩ := OwnMv.rd (Own.below HO4.out hW5)
      have HRb5 := Lib.hid hRb4
      clear hW5 hRb4 HO4 Hcb4
      go_wp2
      go_loopw [12] (fun i wy => ∃ r : Nat, r ≤ m' ∧ i = .int .i64 r ∧ Hid (∀ q, q < r → mfK bk (mfK l (q : Int)) = (q : Int)) ∧ Below w5.heap.size w5 wy) (fun i _ => m' - (intOf i).toNat)
      case atStart => exact ⟨0, Nat.zero_le _, rfl, Lib.hid (fun q hq => by omega), Below.refl _ _⟩
      case round =>
        obtain ⟨w6, rfl⟩ : ∃ w6 : World, w6 = wr := ⟨_, rfl⟩
        obtain ⟨r, hr, rfl, hQ, hW6⟩ := hrel
        have HW6 := Lib.hid (HW5.out.trans (hW6.mono HW5.out.size))
        have HWf := Lib.hid (HW3.out.trans (HW6.out.mono HW3.out.size))
        have HWy := Lib.hid hW6
        by_cases hlr : r < m'
        · have q1 : ((r : Nat) : Int) < ((m' : Nat) : Int) := by omega
          have Hml6 := Lib.hid (Hml.out (r : Int) w6 HW6.out)
          clear hW6
          go_wp2_with fail
          refine Hml6.out.mono ?_
          rintro e w7 ⟨rfl, hW7⟩
          have HW7 := Lib.hid (HW6.out.trans (hW7.mono HW6.out.size))
          have HWy7 := Lib.hid (HWy.out.trans (hW7.mono HWy.out.size))
          have Hmb7 := Lib.hid (Hmb.out (mfK l (r : Int)) w7 HW7.out)
          clear hW7
          go_wp2_with fail
          refine Hmb7.out.mono ?_
          rintro e w8 ⟨rfl, hW8⟩
          have HWy8 := Lib.hid (HWy7.out.trans (hW8.mono HWy7.out.size))
          have HW8 := Lib.hid (HW3.out.trans ((HW7.out.trans (hW8.mono HW7.out.size)).mono HW3.out.size))
          clear hW8
          by_cases he : mfK bk (mfK l (r : Int)) = (r : Int)
          · have HQ : Hid (∀ q, q < r + 1 → mfK bk (mfK l (q : Int)) = (q : Int)) := Lib.hid (fun q hq => by
              by_cases e : q = r
              · subst e; exact he
              · exact hQ.out q (by omega))
            have q2 : (mfK bk (mfK l (r : Int)) != (r : Int)) = false := by rw [bne_eq_false_iff_eq]; exact he
            clear he Hmb7
            generalize mfK bk (mfK l (r : Int)) = z at *
            go_wp2
            go_roundw
            case rel => exact ⟨r + 1, by omega, by go_num, HQ, HWy8.out⟩
            case measure => simp [intOf]; omega
          · have q2 : (mfK bk (mfK l (r : Int)) != (r : Int)) = true := by rw [bne_iff_ne]; exact he
            clear he Hmb7
            generalize mfK bk (mfK l (r : Int)) = z at *
            go_wp2
            go_ret
            exact ⟨rfl, HW8.out⟩
        · have hre : r = m' := by omega
          subst hre
          have hI := inv_of Hok.out Hokb.out hQ.out
          obtain ⟨mv1, ho1, e1⟩ := Hop.out hI.perm
          obtain ⟨mv2, ho2, e2⟩ := Hopb.out hI.symm.perm
          have Hlen := Lib.hid (ho1.back hI ho2)
          have Hin1 := Lib.hid (ho1.ins hI.good)
          have Hin2 := Lib.hid (ho2.ins hI.symm.good)
          have Hval : Hid (∀ x, x < r → (mvR (iota (r + 1)) ((o ++ b).map Mv.nat)).getD x 0 = (x : Int)) := Lib.hid (fun x hx => by
            rw [List.map_append, e1, e2, ofN_nat, ofN_nat]; exact twice_val hI ho1 ho2 hx)
          have Hins : Hid (∀ mm ∈ o ++ b, (0 ≤ mm.to ∧ mm.to < (r : Int) + 1) ∧ 0 ≤ mm.from_ ∧ mm.from_ < (r : Int) + 1) := Lib.hid (fun mm hmm => by
            rcases List.mem_append.1 hmm with h | h
            · rw [e1] at h
              obtain ⟨y, hy, rfl⟩ := List.mem_map.1 h
              have := Hin1.out y hy
              unfold ofN; dsimp only; omega
            · rw [e2] at h
              obtain ⟨y, hy, rfl⟩ := List.mem_map.1 h
              have := Hin2.out y hy
              unfold ofN; dsimp only; omega)
          have Hll : Hid (o.length = b.length) := Lib.hid (by rw [e1, e2, List.length_map, List.length_map]; exact Hlen.out)
          have HRo6 := Lib.hid (Rd.below HRo5.out hW6)
          have HRb6 := Lib.hid (Rd.below HRb5.out hW6)
          obtain ⟨v7, w7, v8, w8, hrun7, hrun8, ⟨A8, c8, rfl, hR8⟩, hB8⟩ := both_rows (ca := co) (cb := c4) HRo6.out HRb6.out hol hol4
          have Hrun7 := Lib.hid hrun7
          have Hrun8 := Lib.hid hrun8
          have HR8 := Lib.hid hR8
          have HB8 := Lib.hid hB8
          have hab : (o ++ b).length ≤ 200 := by rw [List.length_append]; omega
          obtain ⟨ob, hob⟩ : ∃ ob, o ++ b = ob := ⟨_, rfl⟩
          have Hob2 := Lib.hid hob
          rw [hob] at HR8 hab Hval Hins Hrun8
          clear hob
          clear hI ho1 e1 ho2 e2 hQ hW6 hrun7 hrun8 hR8 hB8 Hlen Hin1 Hin2
          go_wp2_with (first
            | (at_builtin; refine wpList_app_run rfl 46 _ _ rfl rfl rfl Hrun7.out ?_)
            | (at_builtin; refine wpList_app_run rfl 46 _ _ rfl rfl rfl Hrun8.out ?_))
          go_loopw [78] (fun i wy => ∃ k : Nat, k ≤ ob.length ∧ i = .int .i64 k ∧ Below w8.heap.size w8 wy) (fun i _ => ob.length - (intOf i).toNat)
          case atStart => exact ⟨0, Nat.zero_le _, rfl, Below.refl _ _⟩
          case round =>
            obtain ⟨k, hk, rfl, hWk⟩ := hrel
            have HWk := Lib.hid hWk
            have hwk := hWk.size
            by_cases hlk : k < ob.length
            · obtain ⟨b9, off9, rfl, hb9, c0, c1⟩ := RdMv.at2 (Rd.below HR8.out hWk) hlk
              have q1 : ((k : Nat) : Int) < ((ob.length : Nat) : Int) := by omega
              have hin := Hins.out _ (List.getElem_mem hlk)
              clear hWk
              generalize ob[k] = mm at *
              obtain ⟨mt, mf⟩ := mm
              dsimp only at c0 c1 hin
              have HWa := Lib.hid ((HWk.out.alloc hwk (.cells #[.int .i64 mt, .int .i64 mf] 51)).alloc (by simp; omega) (.cells #[.int .i64 mt, .int .i64 mf] 3))
              have Hi := Lib.hid (fun (S : Nat) (hs : (wr.alloc (.cells #[.int .i64 mt, .int .i64 mf] 51)).heap.size = S) => inside_calls ((r : Int) + 1) (some ⟨S, 0, none⟩) [mt, mf] 2 _ (rdI_new2 (wr.alloc (.cells #[.int .i64 mt, .int .i64 mf] 51)) mt mf 3 S hs) (by simp [maxLen]))
              have hib : insideB ((r : Int) + 1) [mt, mf] = true := by simp [insideB]; omega
              rw [hib] at Hi
              clear hib hin
              go_wp2_with fail
              refine (Hi.out _ (by simp)).mono ?_
              rintro e w' ⟨rfl, rfl⟩
              go_wp2
              go_roundw
              case rel => exact ⟨k + 1, by omega, by go_num, HWa.out⟩
              case measure => simp [intOf]; omega
            · obtain ⟨w9, rfl⟩ : ∃ w9 : World, w9 = wr := ⟨_, rfl⟩
              have HR69 : Hid (Below w6.heap.size w6 w9) := Lib.hid (HB8.out.trans (HWk.out.mono HB8.out.size))
              obtain ⟨v10, w10, v11, w11, hrun10, hrun11, ⟨A11, c11, rfl, hR11⟩, hB11⟩ := both_rows (ca := co) (cb := c4) (Rd.below HRo6.out HR69.out) (Rd.below HRb6.out HR69.out) hol hol4
              rw [Hob2.out] at hR11 hrun11
              have Hrun10 := Lib.hid hrun10
              have Hrun11 := Lib.hid hrun11
              have HB11 := Lib.hid (HWf.out.trans ((HR69.out.trans (hB11.mono HR69.out.size)).mono HWf.out.size))
              have Hmv := Lib.hid (moved_calls r A11 ob c11 w11 hR11 m8 (by omega) Hins.out)
              clear hrun10 hrun11 hR11 hB11 hWk Hrun7 Hrun8
              go_wp2_with (first
                | (at_builtin; refine wpList_app_run rfl 46 _ _ rfl rfl rfl Hrun10.out ?_)
                | (at_builtin; refine wpList_app_run rfl 46 _ _ rfl rfl rfl Hrun11.out ?_)
                | fail)
              refine Hmv.out.mono ?_
              rintro e w12 ⟨v12, rfl, hO12, hW12⟩
              have HW12 := Lib.hid (HB11.out.trans (hW12.mono HB11.out.size))
              obtain ⟨g, cg, rfl, hg1, hg2, _, _, hcell⟩ := OwnI.at_ hO12 (by rw [mvR_len, iota_len]; omega)
              have Hcell : Hid (∀ x, x < r → w12.cell? ⟨g, x, none⟩ = some (.int .i64 (x : Nat))) := Lib.hid (fun x hx => by
                have := hcell x (by rw [mvR_len, iota_len]; omega)
                rw [this]
                have e := Hval.out x hx
                rw [List.getD_eq_getElem?_getD, List.getElem?_eq_getElem (by rw [mvR_len, iota_len]; omega)] at e
                simp at e
                simp [e])
              rw [mvR_len, iota_len]
              have qll : (((o.length : Nat) : Int) == ((b.length : Nat) : Int)) = true := by rw [beq_iff_eq]; have := Hll.out; omega
              clear hO12 hW12 hcell
              go_wp2
              go_loopw [16] (fun i wy => ∃ k : Nat, k ≤ r ∧ i = .int .i64 k ∧ wy = w12) (fun i _ => r - (intOf i).toNat)
              case atStart => exact ⟨0, Nat.zero_le _, rfl, rfl⟩
              case round =>
                obtain ⟨k, hk, rfl, rfl⟩ := hrel
                by_cases hlk : k < r
                · have q1 : ((k : Nat) : Int) < ((r : Nat) : Int) := by omega
                  have q2 : ((k : Nat) : Int) < ((r : Nat) : Int) + 1 := by omega
                  have ck := Hcell.out k hlk
                  go_wp2
                  go_roundw
                  case rel => exact ⟨k + 1, by omega, by go_num, by first | rfl | trivial⟩
                  case measure => simp [intOf]; omega
                · go_wp2
                  go_ret
                  exact ⟨by first | rfl | exact ret_bool (by simp), HW12.out⟩
end Go.Proofs.Ytiphhadhbokgmaa
