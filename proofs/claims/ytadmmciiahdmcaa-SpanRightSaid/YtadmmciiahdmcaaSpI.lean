/- SpanRight walked. -/
import Derived.Test.YtadmmciiahdmcaaSpH
import Derived.Test.YtadmmciiahdmcaaBlkI
import Derived.Test.YtadmmciiahdmcaaBlkP
import Derived.Test.YtadmmciiahdmcaaBlkR
import Derived.Test.YtadmmciiahdmcaaDoR
import Derived.BigQuiet
import Derived.Deep.QuietTactic
import Derived.BigGuardPart
namespace Go.Proofs.Ytadmmciiahdmcaa
set_option maxRecDepth 100000
open Go.RowKit

/-- A run of K turns, with the spans that are told ahead of each. -/
structure SPath (n : Nat) (p : List Blk) (hv : List Int) (F : FnS) (K : Nat) (at_ : Nat → Nat) (st : Nat → List Int) : Prop where
  lt : ∀ j, j < K → at_ j < p.length
  row : ∀ j, j < K → F (at_ j) ≠ [] ∧ inS (st j) (F (at_ j)) ∧ (F (at_ j)).length = n
  next : ∀ j, j < K → dgR (st j) (p.getD (at_ j) bnul).code = st (j + 1)
  zero : st 0 = hv
  bd : ∀ j, j < K → (st j).length = n ∧ ∀ x ∈ st j, 0 ≤ x ∧ x ≤ 255
theorem spath_of {vars : Int} {n : Nat} {p : List Blk} {hv : List Int} {h0 : List Sp} {F : FnS} {K : Nat} (hp : POk vars p) (hF : SolS n p h0 F) (hn : (n : Int) = vars) (hl : (hv.length : Int) = vars) (hb : ∀ x ∈ hv, 0 ≤ x ∧ x ≤ 255) (hs : inS hv h0) (hr : runsB p hv K) :
    SPath n p hv F K (fun j => (stB p hv j).1.toNat) (fun j => (stB p hv j).2) := by
  have key : ∀ j, j < K → runsB p hv (j + 1) := fun j hj i hi => hr i (by omega)
  have hlt : ∀ j, j < K → (stB p hv j).1.toNat < p.length := fun j hj => by
    have := st_ok hp hl hb j (fun i hi => hr i (by omega))
    have := hr j hj
    omega
  refine ⟨fun j hj => hlt j hj, fun j hj => ?_, fun j hj => rfl, rfl, fun j hj => ?_⟩
  · obtain ⟨h1, h2⟩ := span_run hp hF hl hb hs j (key j hj)
    exact ⟨h1, h2, ((hF.inv.rows _ (hlt j hj)).resolve_left h1).1⟩
  · have := st_ok hp hl hb j (fun i hi => hr i (by omega))
    exact ⟨by omega, this.2.1⟩
set_option maxHeartbeats 8000000 in
theorem spanRight_u (vars : Int) (A B C : Option Addr) (p : List Blk) (h0 : List Sp) (hv : List Int) (cap capB capC : Nat) (w : World) (hA : RdBk w A p) (hB : RdS w B h0) (hC : RdI w C hv) (hm : p.length ≤ maxLen) (hmc : smallB p) (hm' : h0.length ≤ maxLen) (hm2 : hv.length ≤ maxLen) :
    Calls Try.prog 11 #[.int .i64 vars, .slice A p.length cap, .slice B h0.length capB, .slice C hv.length capC] w fun e w' => e = .returned (.bool true) ∧ Below w.heap.size w w' := by
  have HA := Lib.hid hA
  have HB := Lib.hid hB
  have HC := Lib.hid hC
  clear hA hB hC
  by_cases hr : pkErr vars p = 0 ∧ (h0.length : Int) = vars ∧ h0.any badS = false
  · obtain ⟨r1, r2, r3⟩ := hr
    have HP := Lib.hid (pok_of r1)
    have R1 := Lib.hid r1
    obtain ⟨n, hn⟩ : ∃ n, h0.length = n := ⟨_, rfl⟩
    rw [hn] at r2 ⊢
    have n1 := HP.out.n1
    have n8 := HP.out.n8
    have v1 := HP.out.v1
    have v6 := HP.out.v6
    obtain ⟨G, off, rfl, -, -⟩ := HB.out (by omega)
    have Hpc := Lib.hid (fun w hA => progCheck_calls vars A p cap w hA hm hmc)
    rw [r1] at Hpc
    have Hg := Lib.hid (fun w hC => given_calls vars C hv capC w hC hm2)
    have Hin := Lib.hid (spIn_ok vars A G off p h0 n cap capB w HA.out HB.out hm hmc r1 hn r2 r3)
    have qn : ((n : Int) != vars) = false := by rw [bne_eq_false_iff_eq]; exact r2
    clear r1 r3
    go_enter Try.func11, Try.ntmps11
    go_wp2_with fail
    refine Hin.out.mono ?_
    rintro e w1 ⟨T, SB, R, C1, F, b, rfl, hS, hT, hW⟩
    have HW1 := Lib.hid hW
    have HT1 := Lib.hid hT
    have HS := Lib.hid hS
    clear hS hT hW Hin
    by_cases hg : haveErr vars hv = 0
    · rw [hg] at Hg
      obtain ⟨hl, hh⟩ := haveErr_ok hg
      have Hg0 := Lib.hid hg
      have Hl := Lib.hid hl
      have Hh := Lib.hid hh
      have hvn1 : hv.length ≤ n := by omega
      have hvn2 : n ≤ hv.length := by omega
      clear hg hl hh
      go_wp2_with (first
        | (go_at_call 23; refine (Hpc.out _ (HA.out.below HW1.out)).mono ?_; rintro e w2 ⟨rfl, hW⟩; have HW2 := Lib.hid (HW1.out.trans (hW.mono HW1.out.size)); have HT2 := Lib.hid (HT1.out.below hW); clear hW)
        | (go_at_call 19; refine (Hg.out _ (Rd.below HC.out HW2.out)).mono ?_; rintro e w4 ⟨rfl, rfl⟩))
      clear Hpc Hg HW1 HT1
      go_loopw [55] (fun i wr => ∃ k : Nat, k ≤ n ∧ i = .int .i64 k ∧ Hid (∀ i, i < k → (gS h0 i).1 ≤ hv.getD i 0 ∧ hv.getD i 0 ≤ (gS h0 i).2) ∧ Hid (Below w.heap.size w wr ∧ ST wr T SB p.length R C1 F b)) (fun i _ => n - (intOf i).toNat)
      case atStart => exact ⟨0, Nat.zero_le _, rfl, Lib.hid (fun i hi => by omega), Lib.hid ⟨HW2.out, HT2.out⟩⟩
      case round =>
        clear HW2 HT2
        obtain ⟨k, hk, rfl, HQ, HWT⟩ := hrel
        by_cases hlt : k < n
        · obtain ⟨b1, o1, e1, hb1, d1, d2⟩ := RdS.at2 (Rd.below HB.out HWT.out.1) (k := k) (by omega)
          injection e1 with e1; injection e1 with e1 e2
          subst e1 e2
          obtain ⟨b2, o2, rfl, hb2, c2⟩ := RdI.at1 (Rd.below HC.out HWT.out.1) (show k < hv.length by omega)
          rw [← getI_get (by omega)] at c2
          have hlt1 : ((k : Nat) : Int) < ((n : Nat) : Int) := by omega
          have hlt2 : ((k : Nat) : Int) < ((hv.length : Nat) : Int) := by omega
          have HQn : Hid ((gS h0 k).1 ≤ hv.getD k 0 ∧ hv.getD k 0 ≤ (gS h0 k).2 → ∀ i, i < k + 1 → (gS h0 i).1 ≤ hv.getD i 0 ∧ hv.getD i 0 ≤ (gS h0 i).2) := Lib.hid (fun h i hi => by
            rcases Nat.lt_or_ge i k with h1 | h1
            · exact HQ.out i h1
            · obtain rfl : i = k := by omega
              exact h)
          have HWa := Lib.hid (fun o : Obj => show Below w.heap.size w (wr.alloc o) ∧ ST (wr.alloc o) T SB p.length R C1 F b from ⟨HWT.out.1.alloc HWT.out.1.size o, HWT.out.2.alloc o⟩)
          clear HQ
          generalize gS h0 k = s at *
          generalize hv.getD k 0 = x at *
          obtain ⟨lo, hi⟩ := s
          dsimp only at d1 d2 HQn
          by_cases ha : x < lo
          · have q1 : decide (x < lo) = true := decide_eq_true ha
            go_wp2
            go_quiet (fail)
            go_wp2
            go_ret
            exact ⟨rfl, below_dN (HWa.out _).1 _⟩
          · have q1 : decide (x < lo) = false := decide_eq_false ha
            have q1' : lo ≤ x := by omega
            by_cases hb : hi < x
            · have q2 : decide (x > hi) = true := decide_eq_true hb
              have q3 : decide (hi < x) = true := decide_eq_true hb
              go_wp2
              go_quiet (fail)
              go_wp2
              go_ret
              exact ⟨rfl, below_dN (HWa.out _).1 _⟩
            · have q2 : decide (x > hi) = false := decide_eq_false hb
              have q3 : decide (hi < x) = false := decide_eq_false hb
              have q4 : x ≤ hi := by omega
              go_wp2
              go_quiet (fail)
              go_wp2
              go_roundw
              case rel => exact ⟨k + 1, by omega, by go_num, Lib.hid (HQn.out ⟨q1', q4⟩), Lib.hid ⟨below_dN (HWa.out _).1 _, (HWa.out _).2.drewN _⟩⟩
              case measure => simp [intOf]; omega
        · have hke : k = n := by omega
          subst hke
          have Hin : Hid (inS hv h0) := Lib.hid ⟨by omega, fun i hi => HQ.out i (by omega)⟩
          have HW4 := Lib.hid HWT.out.1
          have HT4 := Lib.hid HWT.out.2
          have Hrun := Lib.hid (blkRun_ok vars A C p hv cap capC wr (HA.out.below HW4.out) (Rd.below HC.out HW4.out) hm hmc hm2 R1.out Hg0.out)
          have Hpath := Lib.hid (fun K (hr : runsB p hv K) => spath_of HP.out HS.out r2 Hl.out Hh.out Hin.out hr)
          clear HQ HWT Hin
          go_wp2_with fail
          refine Hrun.out.mono ?_
          rintro e w5 ⟨hW5, ⟨K, x, y, k1, k2, hrun, -, rfl, -, hy⟩ | ⟨-, rfl⟩⟩
          · have HW5 := Lib.hid (HW4.out.trans (hW5.mono HW4.out.size))
            have HT5 := Lib.hid (HT4.out.below hW5)
            have hwl := wasB_len p hv K
            have Hwat := Lib.hid (fun j (h : j < (wasB p hv K).length) => show (wasB p hv K)[j] = (((fun j => (stB p hv j).1.toNat) j : Nat) : Int) from by rw [wasB_get (by omega)]; have := hrun j (by omega); show (stB p hv j).1 = (((stB p hv j).1.toNat : Nat) : Int); omega)
            have HPth := Lib.hid (Hpath.out K hrun)
            obtain ⟨Y, cy, e, hY⟩ := OwnI.rd hy
            rw [hwl] at e
            subst e
            have HY := Lib.hid hY
            have hwl1 : (wasB p hv K).length ≤ K := by omega
            have hwl2 : K ≤ (wasB p hv K).length := by omega
            have hcx : hv.length = k := by omega
            have Hst0 : Hid (Value.slice C hv.length capC = .slice C k capC) := Lib.hid (by rw [hcx])
            clear hcx hW5 hy hY hrun Hpath hwl Hrun HW4 HT4
            generalize wasB p hv K = ws at *
            generalize (fun j => (stB p hv j).1.toNat) = at_ at *
            generalize (fun j => (stB p hv j).2) = sv at *
            have hw5 := HW5.out.size
            go_wp2
            go_loopw [3, 89] (fun x i wq => ∃ (j : Nat) (X : Option Addr) (cx : Nat), j ≤ K ∧ x = .slice X k cx ∧ i = .int .i64 j ∧ Hid (j < K → RdI wq X (sv j)) ∧ Hid (Below w5.heap.size w5 wq)) (fun _ i _ => K - (intOf i).toNat)
            case atStart => exact ⟨0, C, capC, Nat.zero_le _, Hst0.out, rfl, Lib.hid (fun _ => by rw [HPth.out.zero]; exact Rd.below HC.out HW5.out), Lib.hid (Below.refl _ _)⟩
            case round =>
              clear Hst0
              obtain ⟨j, X, cx, hj, rfl, rfl, HX, HWq⟩ := hrel
              have hwq := HWq.out.size
              by_cases hlj : j < K
              · obtain ⟨yb, yo, rfl, hyb, y1⟩ := RdI.at1 (Rd.below HY.out HWq.out) (show j < ws.length by omega)
                rw [Hwat.out j (by omega)] at y1
                have hal := HPth.out.lt j hlj
                obtain ⟨hne, hin, hrl⟩ := HPth.out.row j hlj
                obtain ⟨hsl, hsb⟩ := HPth.out.bd j hlj
                have Hnx := Lib.hid (HPth.out.next j hlj)
                have HTq := Lib.hid (HT5.out.below HWq.out)
                have cS := HTq.out.cS hal
                rw [rvS_row hne, hrl] at cS
                have HRow := Lib.hid (HT5.out.hR (at_ j) hal hne)
                have HXr := Lib.hid (HX.out hlj)
                obtain ⟨pb, po, A2, cap2, rfl, hpb, p0, p1, p2, p3, hS2⟩ := RdBk.at_ (HA.out.below (HW5.out.trans (HWq.out.mono hw5))) hal
                have hbo := HP.out.bs _ (List.getElem_mem hal)
                have hmb := manyB_mem (List.getElem_mem hal)
                have hm20 := HP.out.many
                rw [bget hal] at Hnx
                have Hcode := Lib.hid hbo.code
                have HS2 := Lib.hid hS2
                have Hin := Lib.hid hin
                have Hsb := Lib.hid hsb
                have hal1 : ((at_ j : Nat) : Int) < ((p.length : Nat) : Int) := by omega
                have hSq := HTq.out.ltS
                have Hsl := Lib.hid hsl
                have Hrl := Lib.hid hrl
                have hRlt := HT5.out.ltR hal hne
                clear hbo hS2 hin hsb hrl hsl hne HX
                generalize p[at_ j] = bk at *
                clear hal
                generalize F (at_ j) = row at *
                generalize R (at_ j) = Rj at *
                generalize C1 (at_ j) = Cj at *
                generalize at_ j = ak at *
                generalize hsk : sv j = sk at *
                generalize hsk2 : sv (j + 1) = sk2 at *
                have Hsk2 := Lib.hid hsk2
                clear hsk hsk2
                obtain ⟨code, test, thn, els⟩ := bk
                dsimp only at *
                obtain ⟨wo, rfl⟩ : ∃ wo : World, wo = wr := ⟨_, rfl⟩
                go_wp2
                go_loopw [105] (fun i wz => ∃ t : Nat, t ≤ k ∧ i = .int .i64 t ∧ Hid (Below wo.heap.size wo wz)) (fun i _ => k - (intOf i).toNat)
                case atStart => exact ⟨0, Nat.zero_le _, rfl, Lib.hid (Below.refl _ _)⟩
                case round =>
                  obtain ⟨t, ht, rfl, HWz⟩ := hrel
                  have hwz := HWz.out.size
                  have HWz5 := Lib.hid (HWq.out.trans (HWz.out.mono hwq))
                  by_cases hlt2 : t < k
                  · obtain ⟨d1, d2, -⟩ := (HRow.out.blk (HWz5.out.block _ hRlt)).at2 (k := t) (by rw [Hrl.out]; exact hlt2)
                    obtain ⟨b2, o2, rfl, hb2, c2⟩ := RdI.at1 (Rd.below HXr.out HWz.out) (show t < sk.length by rw [Hsl.out]; exact hlt2)
                    rw [← getI_get (by rw [Hsl.out]; exact hlt2)] at c2
                    have hlt3 : ((t : Nat) : Int) < ((k : Nat) : Int) := by omega
                    have hx := Hin.out.2 t (by rw [Hrl.out]; exact hlt2)
                    have hRz : Rj < wr.heap.size := by have := HWz5.out.size; omega
                    have HWa := Lib.hid (fun o : Obj => HWz.out.alloc HWz.out.size o)
                    generalize gS row t = s at *
                    generalize sk.getD t 0 = x at *
                    obtain ⟨lo, hi⟩ := s
                    dsimp only at d1 d2 hx
                    have q1 : decide (x < lo) = false := decide_eq_false (by omega)
                    have q1' : lo ≤ x := by omega
                    have q2 : decide (x > hi) = false := decide_eq_false (by omega)
                    have q3 : decide (hi < x) = false := decide_eq_false (by omega)
                    have q4 : x ≤ hi := by omega
                    clear hx
                    go_wp2
                    go_quiet (fail)
                    go_wp2
                    go_roundw
                    case rel => exact ⟨t + 1, by omega, by go_num, Lib.hid (below_dN (HWa.out _) _)⟩
                    case measure => simp [intOf]; omega
                  · have hke : t = k := by omega
                    subst hke
                    have Hd := Lib.hid (doing_calls vars A2 X code sk cap2 cx wr (Rd.below HS2.out HWz.out) (Rd.below HXr.out HWz.out) (by rw [Hsl.out]; exact r2) (by rw [Hsl.out]; omega) (by rw [Hsl.out]; omega) (by omega) Hcode.out Hsb.out)
                    rw [Hsl.out] at Hd
                    obtain ⟨p0', p1'⟩ : wr.cell? ⟨pb, po + ak * 4, none⟩ = some (.slice A2 code.length cap2) ∧ pb < wr.heap.size := ⟨(HWz.out.cell (p := ⟨pb, po + ak * 4, none⟩) hpb).trans p0, by omega⟩
                    go_wp2_with (go_at_call 32; with_reducible refine Hd.out.mono ?_; rintro e w7 ⟨x7, rfl, hO7, hW7⟩
                                 rw [Hnx.out] at hO7
                                 have hl7 : sk2.length = t := by rw [← Hnx.out]; exact (dgR_len code sk).trans Hsl.out
                                 obtain ⟨X7, c7, rfl, hR7⟩ := OwnI.rd hO7
                                 rw [hl7]
                                 have HR7 := Lib.hid hR7
                                 have HW7 := Lib.hid (HWz5.out.trans (hW7.mono HWz5.out.size))
                                 clear hO7 hW7 hR7 hl7)
                    go_roundw
                    case rel => exact ⟨j + 1, X7, c7, by omega, rfl, by go_num, Lib.hid (fun _ => by rw [Hsk2.out]; exact HR7.out), HW7⟩
                    case measure => simp [intOf]; omega
              · have hke : j = K := by omega
                subst hke
                go_wp2
                go_ret
                exact ⟨rfl, HW5.out.trans (HWq.out.mono hw5)⟩
          · have HW5 := Lib.hid (HW4.out.trans (hW5.mono HW4.out.size))
            clear hW5
            go_wp2
            go_ret
            exact ⟨rfl, HW5.out⟩
    · have q : (haveErr vars hv == 0) = false := by rw [beq_eq_false_iff_ne]; exact hg
      rw [q] at Hg
      clear q hg
      go_wp2_with (first
        | (go_at_call 23; refine (Hpc.out _ (HA.out.below HW1.out)).mono ?_; rintro e w2 ⟨rfl, hW⟩; have HW2 := Lib.hid (HW1.out.trans (hW.mono HW1.out.size)); clear hW)
        | (go_at_call 19; refine (Hg.out _ (Rd.below HC.out HW2.out)).mono ?_; rintro e w4 ⟨rfl, rfl⟩))
      go_ret
      exact ⟨rfl, HW2.out⟩
  · have Hin := Lib.hid (spIn_bad vars A B p h0 cap capB w HA.out HB.out hm hmc hm' hr)
    clear hr
    go_enter Try.func11, Try.ntmps11
    go_wp2_with (go_at_call 34; refine Hin.out.mono ?_; rintro e w1 ⟨⟨x, hx, rfl⟩, hW⟩; have HW1 := Lib.hid hW; have qx : (x != 0) = true := by rw [bne_iff_ne]; exact hx
                 clear hW hx)
    go_ret
    exact ⟨rfl, HW1.out⟩
end Go.Proofs.Ytadmmciiahdmcaa
