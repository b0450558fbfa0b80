/- LinkPlace walked. -/
import Derived.Test.YtiphhadhbokgmaaLnkF
namespace Go.Proofs.Ytiphhadhbokgmaa
set_option maxRecDepth 100000
open Go.RowKit Go.Maps

def freeB (ws : List (Int × Int)) (j : Int) : Bool := ws.all fun w => j != w.2 && j != w.2 + 1
theorem freeB_succ {ws : List (Int × Int)} {j : Int} {m : Nat} (hm : m < ws.length) : freeB (ws.take (m + 1)) j = (freeB (ws.take m) j && (j != ws[m].2 && j != ws[m].2 + 1)) := by
  unfold freeB
  rw [List.take_succ_eq_append_getElem hm, List.all_append]
  simp
theorem freeB_iff {ws : List (Int × Int)} {j : Int} (h : freeB ws j = true) : freeW ws j := by
  intro w hw
  have := List.all_eq_true.1 h w hw
  rw [Bool.and_eq_true, bne_iff_ne, bne_iff_ne] at this
  exact this
theorem find_gen {l : List Ob} {x : Int} {w w' : World} {e : Ending} (h : FindE l x w e w') (h0 : obErr l = 0) : ∃ fv fe : Int, e = .returned (.tuple #[.int .i64 fv, .int .i64 fe]) ∧ Below w.heap.size w w' ∧ (fe ≠ 0 ∨ (fe = 0 ∧ ∃ i, lk (entsL l) x = some (i, fv))) := by
  obtain ⟨hb, h⟩ := h
  rcases h with h | ⟨-, h⟩
  · exact absurd h0 h.1
  · rcases h with ⟨-, rfl⟩ | ⟨i, a, h1, rfl⟩
    · exact ⟨0, 5, rfl, hb, .inl (by decide)⟩
    · exact ⟨a, 0, rfl, hb, .inr ⟨rfl, i, h1⟩⟩
theorem gB_some {b : List Int} {i : Nat} {v : Int} (h : gB b i = v) (hi : i < b.length) : b[i] = v := by rw [← h, gB_get hi]
set_option maxHeartbeats 8000000 in
theorem linkPlace_u (A : Option Addr) (l : List Ob) (cap : Nat) (x : Int) (w : World) (hA : RdOb w A l) (hm : l.length ≤ maxLen) (hwf : WfL l) (hml : ∀ o ∈ l, o.bytes.length ≤ maxLen ∧ o.has.length ≤ maxLen ∧ o.wants.length ≤ maxLen) (hx : i64In x) :
    Calls Try.prog 7 #[.slice A l.length cap, .int .i64 x] w fun e w' => e = .returned (.bool true) ∧ Below w.heap.size w w' := by
  have HL := Lib.hid (link_calls A l cap w hA hm hwf hml)
  have HFc := Lib.hid (fun w2 (hb : Below w.heap.size w w2) => find_calls A l cap x w2 (hA.below hb) hm hwf hml hx)
  have HCc := Lib.hid (fun w2 (hb : Below w.heap.size w w2) => objCheck_calls A l cap w2 (hA.below hb) hm hml)
  have HA := Lib.hid hA
  have Hwf := Lib.hid hwf
  clear hA hm hwf hml
  by_cases h0 : obErr l = 0
  · have H0 := Lib.hid h0
    have HOk := Lib.hid (obErr_iff.1 h0)
    have h5 := HOk.out.n5
    clear h0
    by_cases hall : AllL l
    · have HAll := Lib.hid hall
      clear hall
      go_enter Try.func7, Try.ntmps7
      go_wp2_with (first
        | (go_at_call 21; (with_reducible refine HL.out.mono ?_); rintro e w1 ⟨hb1, h⟩; obtain ⟨-, v, b, rfl, hO, hP⟩ := (h.resolve_left (fun h => h.1 H0.out)).2.resolve_left (fun h => h.1 HAll.out); obtain ⟨Ab, cb, rfl, hrb, -⟩ := Own.form byteCells_len hO; have HB1 := Lib.hid hb1; have HRb := Lib.hid hrb; have HPl := Lib.hid hP; clear h hb1 hrb hP hO)
        | (go_at_call 22; (with_reducible refine (HFc.out _ HB1.out).mono ?_); rintro e w2 h; obtain ⟨fv, fe, rfl, hb2, hf⟩ := find_gen h H0.out; have HB2 := Lib.hid (HB1.out.trans (hb2.mono HB1.out.size)); have HRb2 := Lib.hid (Rd.below HRb.out hb2); have HF := Lib.hid hf; clear h hb2 hf)
        | (go_at_call 23; (with_reducible refine (HCc.out _ HB2.out).mono ?_); rintro e w3 ⟨rfl, hb3⟩; rw [H0.out]; have HB3 := Lib.hid (HB2.out.trans (hb3.mono HB2.out.size)); have HRb3 := Lib.hid (Rd.below HRb2.out hb3); clear hb3))
      clear HRb HRb2 HB1 HB2
      have hbl := HPl.out.len
      have hbl' : ((b.length : Nat) : Int) = ((lenO l : Nat) : Int) := by rw [hbl]
      obtain ⟨n, hn⟩ : ∃ n, n = b.length := ⟨_, rfl⟩
      rw [← hn]
      have HN := Lib.hid hn
      have HNl : Hid (n = lenO l) := Lib.hid (hn.trans hbl)
      clear hn hbl hbl'
      go_loopw [9, 45] (fun at_ i wr => ∃ k : Nat, k ≤ l.length ∧ at_ = .int .i64 ((offs l k : Nat) : Int) ∧ i = .int .i64 k ∧ Hid (Below w3.heap.size w3 wr)) (fun _ i _ => l.length - (intOf i).toNat)
      case atStart => exact ⟨0, Nat.zero_le _, rfl, rfl, Lib.hid (Below.refl _ _)⟩
      case round =>
        obtain ⟨k, hk, rfl, rfl, HW⟩ := hrel
        have hws := HW.out.size
        have hlO : lenO l ≤ 1000 := by have := lenO_le l (fun o ho => (HOk.out.small o ho).1); omega
        by_cases hlt : k < l.length
        · obtain ⟨bb, off, A1, c1, A2, c2, A3, c3, rfl, hb, d0, d1, d2, hR1, -, hR3⟩ := RdOb.at_ (HA.out.below HB3.out) hlt
          rw [← HW.out.cell hb] at d0 d1 d2
          have hlt1 : ((k : Nat) : Int) < ((l.length : Nat) : Int) := by omega
          have hmem := List.getElem_mem hlt
          have Hww := Lib.hid (HOk.out.wants _ hmem)
          obtain ⟨z1, z2, z3⟩ := HOk.out.small _ hmem
          have hof : offs l k + l[k].bytes.length ≤ n := by have := offs_end hlt; rw [obAt_get hlt] at this; rw [HNl.out]; exact this
          have HOf := Lib.hid (offs_succ hlt)
          have HSg := Lib.hid (HPl.out.old k hlt)
          rw [show SegL l b k (obAt l k).wants.length = SegL l b k l[k].wants.length by rw [obAt_get hlt]] at HSg
          have HOb := Lib.hid (obAt_get hlt)
          have H1 := Lib.hid hR1
          have H3 := Lib.hid hR3
          have hn1 : n ≤ 1000 := by rw [HNl.out]; exact hlO
          clear hmem hR1 hR3 hlO
          generalize l[k] = o at *
          generalize hla : offs l k = a at *
          have HLa := Lib.hid hla
          clear hla
          obtain ⟨w0, hw0⟩ : ∃ w0, w0 = wr.alloc (.cells #[.slice A1 o.bytes.length c1, .slice A2 o.has.length c2, .slice A3 o.wants.length c3] 64) := ⟨_, rfl⟩
          obtain ⟨P, hP⟩ : ∃ P, P = wr.heap.size := ⟨_, rfl⟩
          have HT : Hid (w0.heap[P]? = some (.cells #[.slice A1 o.bytes.length c1, .slice A2 o.has.length c2, .slice A3 o.wants.length c3] 64 (0, 0))) := Lib.hid (by rw [hw0, hP]; exact heap_alloc_new wr _)
          have HW0 : Hid (Below w3.heap.size w3 w0) := Lib.hid (by rw [hw0]; exact HW.out.alloc hws _)
          have HPh := Lib.hid hP
          have HWh := Lib.hid hw0
          have hPl : P < w0.heap.size := (Array.getElem?_eq_some_iff.1 HT.out).1
          have p0 := cell_of_row w0 P 0 _ _ _ HT.out
          have p1 := cell_of_row w0 P 1 _ _ _ HT.out
          have p2 := cell_of_row w0 P 2 _ _ _ HT.out
          have q0 : decide (((a : Nat) : Int) + ((o.bytes.length : Nat) : Int) > ((n : Nat) : Int)) = false := decide_eq_false (by omega)
          have q0' : ((a : Nat) : Int) + ((o.bytes.length : Nat) : Int) ≤ ((n : Nat) : Int) := by omega
          have q0'' : IntKind.i64.wrap (((a : Nat) : Int) + ((o.bytes.length : Nat) : Int)) = ((a : Nat) : Int) + ((o.bytes.length : Nat) : Int) := IntWalk.i64_in _ (by omega)
          clear hP hw0 HW hws
          go_wp2
          rw [← HPh.out, ← HWh.out]
          clear HPh HWh d0 d1 d2
          trace_state
          go_loopw [60] (fun i wr => ∃ j : Nat, j ≤ o.bytes.length ∧ i = .int .i64 j ∧ Hid (Below w0.heap.size w0 wr)) (fun i _ => o.bytes.length - (intOf i).toNat)
          case atStart => exact ⟨0, Nat.zero_le _, rfl, Lib.hid (Below.refl _ _)⟩
          case round =>
            clear p0 p1 p2
            obtain ⟨j, hj, rfl, HW⟩ := hrel
            have HWw := Lib.hid (HW0.out.trans (HW.out.mono HW0.out.size))
            have p0 := cell_of_row wr P 0 _ _ _ ((HW.out.block P hPl).trans HT.out)
            have p1 := cell_of_row wr P 1 _ _ _ ((HW.out.block P hPl).trans HT.out)
            have p2 := cell_of_row wr P 2 _ _ _ ((HW.out.block P hPl).trans HT.out)
            by_cases hltj : j < o.bytes.length
            · obtain ⟨b1, o1, e1, hb1, d0⟩ := RdB.at1 (Rd.below H1.out HWw.out) hltj
              subst e1
              have hltj1 : ((j : Nat) : Int) < ((o.bytes.length : Nat) : Int) := by omega
              have HG := Lib.hid (gB_get hltj)
              have HFr := Lib.hid (fun h : freeB o.wants (j : Int) = true => HSg.out.free j (by rw [HOb.out]; exact hltj) (by rw [HOb.out, List.take_length]; exact freeB_iff h))
              rw [HOb.out, HG.out] at HFr
              generalize o.bytes[j] = by_ at *
              clear HG
              go_wp2
              clear d0
              go_loopw [14, 68] (fun f i wr => ∃ m : Nat, m ≤ o.wants.length ∧ f = .bool (freeB (o.wants.take m) (j : Int)) ∧ i = .int .i64 m ∧ Hid (Below w0.heap.size w0 wr)) (fun _ i _ => o.wants.length - (intOf i).toNat)
              case atStart => exact ⟨0, Nat.zero_le _, rfl, rfl, HW⟩
              case round =>
                clear HW HWw p0 p1 p2
                obtain ⟨m, hmm, rfl, rfl, HW⟩ := hrel
                have hws := HW.out.size
                have HWw := Lib.hid (HW0.out.trans (HW.out.mono HW0.out.size))
                by_cases hltm : m < o.wants.length
                · obtain ⟨b2, o2, e2, hb2, d0, d1⟩ := RdP.at2 (Rd.below H3.out HWw.out) hltm
                  subst e2
                  have hltm1 : ((m : Nat) : Int) < ((o.wants.length : Nat) : Int) := by omega
                  have HFs := Lib.hid (freeB_succ (j := (j : Int)) hltm)
                  obtain ⟨p0, p1⟩ := Hww.out _ (List.getElem_mem hltm)
                  have HWa := Lib.hid (HW.out.alloc hws (.cells #[.int .i64 o.wants[m].1, .int .i64 o.wants[m].2] 65))
                  generalize o.wants[m] = h at *
                  obtain ⟨y1, y2⟩ := h
                  dsimp only at d0 d1 p0 p1 HFs HWa
                  generalize freeB (o.wants.take m) (j : Int) = F at *
                  have u1 : IntKind.i64.wrap (y2 + 1) = y2 + 1 := IntWalk.i64_in _ (by omega)
                  cases F with
                  | false =>
                    go_wp2
                    go_roundw
                    case rel => exact ⟨m + 1, by omega, by rw [HFs.out]; rfl, by go_num, HWa⟩
                    case measure => simp [intOf]; omega
                  | true =>
                    by_cases hy : (j : Int) = y2
                    · have r1 : (((j : Nat) : Int) != y2) = false := by rw [hy]; simp
                      have HFn := Lib.hid (show freeB (o.wants.take (m + 1)) (j : Int) = false by rw [HFs.out, r1]; rfl)
                      clear hy
                      go_wp2
                      go_roundw
                      case rel => exact ⟨m + 1, by omega, by rw [HFn.out], by go_num, HWa⟩
                      case measure => simp [intOf]; omega
                    · have r1 : (((j : Nat) : Int) != y2) = true := by rw [bne_iff_ne]; exact hy
                      by_cases hy2 : (j : Int) = y2 + 1
                      · have r2 : (((j : Nat) : Int) != y2 + 1) = false := by rw [hy2]; simp
                        have HFn := Lib.hid (show freeB (o.wants.take (m + 1)) (j : Int) = false by rw [HFs.out, r1, r2]; rfl)
                        clear hy2
                        go_wp2
                        go_roundw
                        case rel => exact ⟨m + 1, by omega, by rw [HFn.out], by go_num, HWa⟩
                        case measure => simp [intOf]; omega
                      · have r2 : (((j : Nat) : Int) != y2 + 1) = true := by rw [bne_iff_ne]; exact hy2
                        have HFn := Lib.hid (show freeB (o.wants.take (m + 1)) (j : Int) = true by rw [HFs.out, r1, r2]; rfl)
                        go_wp2
                        go_roundw
                        case rel => exact ⟨m + 1, by omega, by rw [HFn.out], by go_num, HWa⟩
                        case measure => simp [intOf]; omega
                · have hme : m = o.wants.length := by omega
                  subst hme
                  rw [List.take_length]
                  generalize freeB o.wants (j : Int) = F at *
                  cases F with
                  | false =>
                    go_wp2
                    go_roundw
                    case rel => exact ⟨j + 1, by omega, by go_num, HW⟩
                    case measure => simp [intOf]; omega
                  | true =>
                    have hgb := HFr.out rfl
                    rw [HLa.out] at hgb
                    have hjb : a + j < b.length := by rw [← HN.out]; omega
                    obtain ⟨b9, o9, e9, hb9, v0⟩ := RdB.at1 (Rd.below HRb3.out HWw.out) hjb
                    subst e9
                    rw [gB_some hgb hjb] at v0
                    have u1 : IntKind.i64.wrap (((a : Nat) : Int) + ((j : Nat) : Int)) = ((a + j : Nat) : Int) := by rw [IntWalk.i64_in _ (by omega)]; omega
                    have u2 : ((a + j : Nat) : Int) < ((n : Nat) : Int) := by omega
                    go_wp2
                    go_roundw
                    case rel => exact ⟨j + 1, by omega, by go_num, HW⟩
                    case measure => simp [intOf]; omega
            · have hje : j = o.bytes.length := by omega
              subst hje
              have ho1 : offs l (k + 1) = a + o.bytes.length := HOf.out
              have u9 : IntKind.i64.wrap (((a : Nat) : Int) + ((o.bytes.length : Nat) : Int)) = ((a + o.bytes.length : Nat) : Int) := by rw [IntWalk.i64_in _ (by omega)]; omega
              by_cases hw0 : o.wants.length = 0
              · have r1 : decide (((o.wants.length : Nat) : Int) > 0) = false := decide_eq_false (by omega)
                have r2 : decide ((0 : Int) < ((o.wants.length : Nat) : Int)) = false := decide_eq_false (by omega)
                have r3 : ((o.wants.length : Nat) : Int) ≤ 0 := by omega
                clear hw0
                go_wp2
                go_roundw
                case rel => exact ⟨k + 1, by omega, by rw [ho1]; go_num, by go_num, HWw⟩
                case measure => simp [intOf]; omega
              have r1 : decide (((o.wants.length : Nat) : Int) > 0) = true := decide_eq_true (by omega)
              have r2 : decide ((0 : Int) < ((o.wants.length : Nat) : Int)) = true := decide_eq_true (by omega)
              have r3 : (0 : Int) < ((o.wants.length : Nat) : Int) := by omega
              have hpos : 0 < o.wants.length := by omega
              by_cases hfe : fe = 0
              · have HFl := Lib.hid (HF.out.resolve_left (fun h => h hfe)).2
                have hfe' : (fe == 0) = true := by rw [hfe]; rfl
                clear hfe
                obtain ⟨W, hW⟩ : ∃ W, W + 1 = o.wants.length := ⟨o.wants.length - 1, by omega⟩
                have hltW : W < o.wants.length := by omega
                have hltW1 : ((W : Nat) : Int) < ((o.wants.length : Nat) : Int) := by omega
                have u1 : IntKind.i64.wrap (((o.wants.length : Nat) : Int) - 1) = ((W : Nat) : Int) := by rw [IntWalk.i64_in _ (by omega)]; omega
                obtain ⟨b2, o2, e2, hb2, d0, d1⟩ := RdP.at2 (Rd.below H3.out HWw.out) hltW
                subst e2
                obtain ⟨g0, g1⟩ := Hww.out _ (List.getElem_mem hltW)
                have HLs := Lib.hid (HSg.out.last W hW.symm o.wants[W] (by rw [HOb.out]; exact List.getElem?_eq_getElem hltW))
                generalize o.wants[W] = h at *
                obtain ⟨y1, y2⟩ := h
                dsimp only at d0 d1 g0 g1
                obtain ⟨yn, rfl⟩ : ∃ yn : Nat, y2 = yn := ⟨y2.toNat, by omega⟩
                obtain ⟨xx, aa, l1, l2, l3⟩ := HLs.out
                rw [HLa.out, Int.toNat_natCast] at l2 l3
                have HWz := HWw
                have hwz := HWw.out.size
                have hws := HW.out.size
                obtain ⟨Q, hQ⟩ : ∃ Q, Q = wr.heap.size := ⟨_, rfl⟩
                obtain ⟨w6, hw6⟩ : ∃ w6, w6 = wr.alloc (.cells #[.int .i64 y1, .int .i64 (yn : Nat)] 65) := ⟨_, rfl⟩
                have HW6 : Hid (Below w3.heap.size w3 w6) := Lib.hid (by rw [hw6]; exact HWw.out.alloc hwz _)
                have HT6 : Hid (w6.heap[Q]? = some (.cells #[.int .i64 y1, .int .i64 (yn : Nat)] 65 (0, 0))) := Lib.hid (by rw [hw6, hQ]; exact heap_alloc_new wr _)
                have HP6 : Hid (w6.heap[P]? = some (.cells #[.slice A1 o.bytes.length c1, .slice A2 o.has.length c2, .slice (some ⟨b2, o2, none⟩) o.wants.length c3] 64 (0, 0))) := Lib.hid (by
                  rw [hw6]
                  have h1 := (HW.out.block P hPl).trans HT.out
                  exact (Below.heap_alloc wr _ _ (Array.getElem?_eq_some_iff.1 h1).1).trans h1)
                have Hw6 := Lib.hid hw6
                have HQe := Lib.hid hQ
                clear hQ hw6 HW HWw hws hwz HLs hW
                go_wp2
                rw [← HQe.out, ← Hw6.out]
                clear Hw6 HQe d0 d1 p0 p1 p2
                have f0 : w6.cell? ⟨Q, 0, none⟩ = some (.int .i64 y1) := by rw [cell_of_row w6 Q 0 _ _ _ HT6.out]; rfl
                have f1 : w6.cell? ⟨Q, 1, none⟩ = some (.int .i64 (yn : Nat)) := by rw [cell_of_row w6 Q 1 _ _ _ HT6.out]; rfl
                by_cases hy : y1 = x
                · have hyx := hy.symm
                  clear hy
                  subst hyx
                  obtain ⟨i, hl⟩ := HFl.out
                  rw [l1] at hl
                  injection hl with hl
                  injection hl with hl hl2
                  have hlf := hl2.symm
                  clear hl2
                  subst hlf
                  obtain ⟨hi, p, hp, -, ha⟩ := lk_at l1
                  have h1 := HOk.out.has _ (List.getElem_mem hi) p hp
                  have h3 := offs_end hi
                  rw [obAt_get hi, ← HNl.out] at h3
                  have hr : 0 ≤ fv ∧ fv ≤ 1000 := by omega
                  clear h1 h3 hp ha l1
                  obtain ⟨K, hK⟩ : ∃ K, K = a + yn := ⟨_, rfl⟩
                  rw [← hK] at l2 l3
                  have hKb : K + 1 < b.length := by rw [← HN.out]; omega
                  have hKn : K + 1 < n := by omega
                  obtain ⟨b9, o9, e9, hb9, v0⟩ := RdB.at1 (Rd.below HRb3.out HW6.out) (by omega : K < b.length)
                  obtain ⟨b9', o9', e9', hb9', v1⟩ := RdB.at1 (Rd.below HRb3.out HW6.out) hKb
                  subst e9
                  injection e9' with e9'; injection e9' with e9a e9b
                  subst e9a e9b
                  rw [gB_some l2 (by omega)] at v0
                  rw [gB_some l3 hKb] at v1
                  obtain ⟨c, hc⟩ : ∃ c, c = fv % 256 := ⟨_, rfl⟩
                  obtain ⟨d, hd⟩ : ∃ d, d = fv / 256 % 256 := ⟨_, rfl⟩
                  rw [← hc] at v0
                  rw [← hd] at v1
                  have u2 : IntKind.i64.wrap (((a : Nat) : Int) + ((yn : Nat) : Int)) = ((K : Nat) : Int) := by rw [IntWalk.i64_in _ (by omega)]; omega
                  have u3 : IntKind.i64.wrap (((K : Nat) : Int) + 1) = ((K + 1 : Nat) : Int) := by rw [IntWalk.i64_in _ (by omega)]; omega
                  have u4 : IntKind.i64.wrap c = c := IntWalk.i64_in _ (by omega)
                  have u5 : IntKind.i64.wrap d = d := IntWalk.i64_in _ (by omega)
                  have u6 : IntKind.i64.wrap (256 * d) = 256 * d := IntWalk.i64_in _ (by omega)
                  have u7 : IntKind.i64.wrap (c + 256 * d) = fv := by rw [IntWalk.i64_in _ (by omega)]; omega
                  have u8 : ((K : Nat) : Int) < ((n : Nat) : Int) := by omega
                  have u10 : ((K + 1 : Nat) : Int) < ((n : Nat) : Int) := by omega
                  clear l2 l3 hK hc hd hr
                  go_quiet (fail)
                  have HW9 : Hid (Below w3.heap.size w3 (w6.drewN nq)) := Lib.hid (below_dN HW6.out nq)
                  have p0 : (w6.drewN nq).cell? ⟨P, 0, none⟩ = some (.slice A1 o.bytes.length c1) := by
                    have : (w6.drewN nq).heap[P]? = _ := HP6.out
                    rw [cell_of_row _ P 0 _ _ _ this]; rfl
                  clear HW6 HT6 HP6 f0 f1 v0 v1
                  generalize w6.drewN nq = w9 at *
                  go_wp2
                  go_roundw
                  case rel => exact ⟨k + 1, by omega, by rw [ho1]; go_num, by go_num, HW9⟩
                  case measure => simp [intOf]; omega
                · have hy' : (y1 == x) = false := beq_eq_false_iff_ne.2 hy
                  go_quiet (fail)
                  have HW9 : Hid (Below w3.heap.size w3 (w6.drewN nq)) := Lib.hid (below_dN HW6.out nq)
                  have p0 : (w6.drewN nq).cell? ⟨P, 0, none⟩ = some (.slice A1 o.bytes.length c1) := by
                    have : (w6.drewN nq).heap[P]? = _ := HP6.out
                    rw [cell_of_row _ P 0 _ _ _ this]; rfl
                  clear HW6 HT6 HP6 f0 f1
                  generalize w6.drewN nq = w9 at *
                  go_wp2
                  go_roundw
                  case rel => exact ⟨k + 1, by omega, by rw [ho1]; go_num, by go_num, HW9⟩
                  case measure => simp [intOf]; omega
              · have hfe' : (fe == 0) = false := beq_eq_false_iff_ne.2 hfe
                go_wp2
                go_roundw
                case rel => exact ⟨k + 1, by omega, by rw [ho1]; go_num, by go_num, HWw⟩
                case measure => simp [intOf]; omega
        · have hke : k = l.length := by omega
          subst hke
          have hln : offs l l.length = n := by rw [offs_all, HNl.out]
          rw [hln]
          by_cases hfe : fe = 0
          · obtain ⟨i, hl⟩ := (HF.out.resolve_left (fun h => h hfe)).2
            obtain ⟨hi, p, hp, -, ha⟩ := lk_at hl
            have h1 := HOk.out.has _ (List.getElem_mem hi) p hp
            have h3 := offs_end hi
            rw [obAt_get hi, ← HNl.out] at h3
            have f1 : 0 ≤ fv := by omega
            have f2 : fv ≤ ((n : Nat) : Int) := by omega
            have f3 : decide (fv ≥ 0) = true := decide_eq_true f1
            have f4 : decide (fv ≤ ((n : Nat) : Int)) = true := decide_eq_true f2
            have f5 : (fe != 0) = false := by rw [hfe]; rfl
            clear h1 h3 hp hl ha
            go_wp2
            go_ret
            exact ⟨rfl, HB3.out.trans (HW.out.mono HB3.out.size)⟩
          · have f5 : (fe != 0) = true := by rw [bne_iff_ne]; exact hfe
            go_wp2
            go_ret
            exact ⟨rfl, HB3.out.trans (HW.out.mono HB3.out.size)⟩
    · have HAll := Lib.hid hall
      clear hall
      go_enter Try.func7, Try.ntmps7
      go_wp2_with (first
        | (go_at_call 21; (with_reducible refine HL.out.mono ?_); rintro e w1 ⟨hb1, h⟩; obtain ⟨-, rfl⟩ := (h.resolve_left (fun h => h.1 H0.out)).2.resolve_right (fun h => HAll.out h.1); have HB1 := Lib.hid hb1; clear h hb1)
        | (go_at_call 22; (with_reducible refine (HFc.out _ HB1.out).mono ?_); rintro e w2 h; obtain ⟨fv, fe, rfl, hb2, hf⟩ := find_gen h H0.out; have HB2 := Lib.hid (HB1.out.trans (hb2.mono HB1.out.size)); clear h hb2 hf)
        | (go_at_call 23; (with_reducible refine (HCc.out _ HB2.out).mono ?_); rintro e w3 ⟨rfl, hb3⟩; rw [H0.out]; have HB3 := Lib.hid (HB2.out.trans (hb3.mono HB2.out.size)); clear hb3))
      go_ret
      exact ⟨rfl, HB3.out⟩
  · have H0 := Lib.hid h0
    obtain ⟨E, hE⟩ : ∃ E, E = obErr l := ⟨_, rfl⟩
    have q2 : (E != 0) = true := by rw [bne_iff_ne, hE]; exact h0
    have HE := Lib.hid hE
    clear hE h0
    go_enter Try.func7, Try.ntmps7
    go_wp2_with (first
      | (go_at_call 21; (with_reducible refine HL.out.mono ?_); rintro e w1 ⟨hb1, h⟩; obtain ⟨-, rfl⟩ := h.resolve_right (fun h => H0.out (obErr_iff.2 h.1)); rw [← HE.out]; have HB1 := Lib.hid hb1; clear h hb1)
      | (go_at_call 22; (with_reducible refine (HFc.out _ HB1.out).mono ?_); rintro e w2 ⟨hb2, h⟩; obtain ⟨-, rfl⟩ := h.resolve_right (fun h => H0.out (obErr_iff.2 h.1)); rw [← HE.out]; have HB2 := Lib.hid (HB1.out.trans (hb2.mono HB1.out.size)); clear h hb2)
      | (go_at_call 23; (with_reducible refine (HCc.out _ HB2.out).mono ?_); rintro e w3 ⟨rfl, hb3⟩; rw [← HE.out]; have HB3 := Lib.hid (HB2.out.trans (hb3.mono HB2.out.size)); clear hb3))
    go_ret
    exact ⟨rfl, HB3.out⟩
end Go.Proofs.Ytiphhadhbokgmaa
