/- KnownRight walked. -/
import Derived.Test.YtadmmciiahdmcaaKnW
import Derived.Test.YtadmmciiahdmcaaBlkP
import Derived.Test.YtadmmciiahdmcaaBlkR
import Derived.Test.YtadmmciiahdmcaaDoR
namespace Go.Proofs.Ytadmmciiahdmcaa
open Go.RowKit

/-- A run of K turns, with what is known ahead of each. -/
structure KPath (vars : Int) (p : List Blk) (hv : List Int) (F : List (List Int)) (K : Nat) (at_ : Nat → Nat) (st : Nat → List Int) : Prop where
  lt : ∀ j, j < K → at_ j < p.length
  row : ∀ j, j < K → ((rowF F (at_ j)).length : Int) = vars ∧ leK (st j) (rowF F (at_ j))
  next : ∀ j, j < K → dgR (st j) (p.getD (at_ j) bnul).code = st (j + 1)
  zero : st 0 = hv
  bd : ∀ j, j < K → ((st j).length : Int) = vars ∧ ∀ x ∈ st j, 0 ≤ x ∧ x ≤ 255
theorem kpath_of {vars : Int} {p : List Blk} {hv h0 : List Int} {F : List (List Int)} {K : Nat} (hp : POk vars p) (hF : PostL vars p h0 F) (hl : (hv.length : Int) = vars) (hb : ∀ x ∈ hv, 0 ≤ x ∧ x ≤ 255) (hs : leK hv h0) (hr : runsB p hv K) :
    KPath vars p hv F K (fun j => (stB p hv j).1.toNat) (fun j => (stB p hv j).2) := by
  have key : ∀ j, j < K → runsB p hv (j + 1) := fun j hj i hi => hr i (by omega)
  refine ⟨fun j hj => ?_, fun j hj => ?_, fun j hj => rfl, rfl, fun j hj => ?_⟩
  · have := st_ok hp hl hb j (fun i hi => hr i (by omega))
    have := hr j hj
    show (stB p hv j).1.toNat < _
    omega
  · obtain ⟨a, h1, h2⟩ := known_run hp hF.postK hl hb hs j (key j hj)
    obtain ⟨rfl, hne⟩ := optF_get.1 h1
    exact ⟨hF.wid _ hne, h2⟩
  · have := st_ok hp hl hb j (fun i hi => hr i (by omega))
    exact ⟨this.1, this.2.1⟩
set_option maxRecDepth 100000 in
set_option maxHeartbeats 4000000 in
theorem knownRight_u (vars : Int) (A B C : Option Addr) (p : List Blk) (st hv : List Int) (cap capB capC : Nat) (w : World) (hA : RdBk w A p) (hB : RdI w B st) (hC : RdI w C hv) (hm : p.length ≤ maxLen) (hmc : smallB p) (hm' : st.length ≤ maxLen) (hm2 : hv.length ≤ maxLen) :
    Calls Try.prog 9 #[.int .i64 vars, .slice A p.length cap, .slice B st.length capB, .slice C hv.length capC] w fun e w' => e = .returned (.bool true) ∧ Below w.heap.size w w' := by
  have HA := Lib.hid hA
  have HB := Lib.hid hB
  have HC := Lib.hid hC
  clear hA hB hC
  have Hpc := Lib.hid (fun w hA => progCheck_calls vars A p cap w hA hm hmc)
  have Hsc := Lib.hid (fun w hB => startCheck_calls vars B st capB w hB hm')
  by_cases hr : pkErr vars p = 0 ∧ startErr vars st = 0
  · obtain ⟨r1, r2⟩ := hr
    have HP := Lib.hid (pok_of r1)
    have R1 := Lib.hid r1
    have R2 := Lib.hid r2
    have Hst := Lib.hid (startErr_ok r2)
    rw [r1] at Hpc
    rw [r2] at Hsc
    have Hin := Lib.hid (knIn_ok vars A B p st cap capB w HA.out HB.out hm hmc hm' r1 r2)
    have n1 := HP.out.n1
    have n8 := HP.out.n8
    have v1 := HP.out.v1
    have v6 := HP.out.v6
    clear r1 r2
    go_enter Try.func9, Try.ntmps9
    go_wp2_with fail
    refine Hin.out.mono ?_
    rintro e w1 ⟨F, vals, b, B', rfl, hS, hL, hbb, hW⟩
    have HW1 := Lib.hid hW
    have HR1 := Lib.hid hL.ll.rd
    have hFl := hS.1.len
    have HS := Lib.hid hS.2
    have HFl := Lib.hid hFl
    clear hS hL hW Hin vals hFl hbb
    go_wp2_with (first
      | (go_at_call 23; refine (Hpc.out _ (HA.out.below HW1.out)).mono ?_; rintro e w2 ⟨rfl, hW⟩; have HW2 := Lib.hid (HW1.out.trans (hW.mono HW1.out.size)); have HR2 := Lib.hid (RdN.below HR1.out hW); clear hW)
      | (go_at_call 30; refine (Hsc.out _ (Rd.below HB.out HW2.out)).mono ?_; rintro e w3 ⟨rfl, rfl⟩)
      | fail)
    refine (started_calls vars B C st hv capB capC _ (Rd.below HB.out HW2.out) (Rd.below HC.out HW2.out) hm' hm2).mono ?_
    rintro e w4 ⟨rfl, sb, rfl, hsb⟩
    have Hsb := Lib.hid hsb
    clear hsb
    cases sb
    · go_wp2
      go_ret
      exact ⟨rfl, HW2.out⟩
    obtain ⟨-, r3, hle⟩ := Hsb.out rfl
    have Hrun := Lib.hid (blkRun_ok vars A C p hv cap capC _ (HA.out.below HW2.out) (Rd.below HC.out HW2.out) hm hmc hm2 R1.out r3)
    obtain ⟨hl, hh⟩ := haveErr_ok r3
    have Hpath := Lib.hid (fun K (hr : runsB p hv K) => kpath_of HP.out HS.out hl hh hle hr)
    have hl1 : ((hv.length : Nat) : Int) ≤ vars := by omega
    have hl2 : vars ≤ ((hv.length : Nat) : Int) := by omega
    clear Hsb r3 hle hl hh
    go_wp2_with fail
    refine Hrun.out.mono ?_
    rintro e w5 ⟨hW5, ⟨K, x, y, k1, k2, hrun, -, rfl, -, hy⟩ | ⟨-, rfl⟩⟩
    · have HW5 := Lib.hid (HW2.out.trans (hW5.mono HW2.out.size))
      have HR5 := Lib.hid (RdN.below HR2.out hW5)
      have hwl := wasB_len p hv K
      have Hwat := Lib.hid (fun j (h : j < (wasB p hv K).length) => show (wasB p hv K)[j] = (((fun j => (stB p hv j).1.toNat) j : Nat) : Int) from by rw [wasB_get (by omega)]; have := hrun j (by omega); show (stB p hv j).1 = (((stB p hv j).1.toNat : Nat) : Int); omega)
      have HPth := Lib.hid (Hpath.out K hrun)
      obtain ⟨Y, cy, e, hY⟩ := OwnI.rd hy
      rw [hwl] at e
      subst e
      have HY := Lib.hid hY
      have hwl1 : (wasB p hv K).length ≤ K := by omega
      have hwl2 : K ≤ (wasB p hv K).length := by omega
      clear hW5 hy hY hrun Hpath hwl Hrun
      generalize wasB p hv K = ws at *
      generalize (fun j => (stB p hv j).1.toNat) = at_ at *
      generalize (fun j => (stB p hv j).2) = sv at *
      have hw5 := HW5.out.size
      have HE := Lib.hid (own_new intCells 1 3 intCells_len w5 w5.heap.size (Nat.le_refl _) [] (by simp [maxLen]))
      have HR := Lib.hid (Rd.below (Rd.below HC.out HW5.out) ((Below.refl w5.heap.size w5).alloc (Nat.le_refl _) (.cells #[] 3)))
      obtain ⟨v3, w6, hrun, hO3, hg3, -⟩ := run_appN (P := Try.prog) 23 23 intCells 1 8 3 (.int .i64 0) Try.underlying23 infoInt rfl (by decide) intCells_len intCells_one w5.heap.size _ [] HE.out C hv capC HR.out (by simp [maxLen]; omega) (by simp; omega) (by simp)
      rw [List.nil_append] at hO3
      have HO3 := Lib.hid hO3
      have HB6 := Lib.hid (((Below.refl w5.heap.size w5).alloc (Nat.le_refl _) (.cells #[] 3)).grown hg3 (by simp) (fun k e => by have e : some w5.heap.size = some k := e; injection e with e; omega))
      have HW6 := Lib.hid (HW5.out.trans (HB6.out.mono hw5))
      have HR6 := Lib.hid (RdN.below HR5.out HB6.out)
      have HY6 := Lib.hid (Rd.below HY.out HB6.out)
      have Hrun := Lib.hid hrun
      clear hO3 hg3 hrun HE HR HR5 HY HB6
      go_wp2_with (at_builtin; refine wpList_app_run rfl 23 _ _ rfl rfl rfl Hrun.out ?_)
      clear Hrun
      go_loopw [67, 14] (fun i x wr => ∃ k : Nat, k ≤ K ∧ i = .int .i64 k ∧ (k < K → OwnI wr w.heap.size 3 x (sv k)) ∧ Below w6.heap.size w6 wr) (fun i _ _ => K - (intOf i).toNat)
      case atStart => exact ⟨0, Nat.zero_le _, rfl, fun _ => by rw [HPth.out.zero]; exact Own.base_ HO3.out hw5, Below.refl _ _⟩
      case round =>
        clear HO3
        obtain ⟨k, hk, rfl, hX, hW⟩ := hrel
        have HX := Lib.hid hX
        have HW := Lib.hid hW
        have hws := hW.size
        clear hX hW
        by_cases hlt : k < K
        · obtain ⟨yb, yo, rfl, hyb, y1⟩ := RdI.at1 (Rd.below HY6.out HW.out) (show k < ws.length by omega)
          rw [Hwat.out k (by omega)] at y1
          have hal := HPth.out.lt k hlt
          obtain ⟨hrl, hle⟩ := HPth.out.row k hlt
          obtain ⟨hsl, hsb⟩ := HPth.out.bd k hlt
          have Hnx := Lib.hid (HPth.out.next k hlt)
          obtain ⟨rb, ro, A', cap', er, hrb, r0, hR⟩ := RdN.at_ (RdN.below HR6.out HW.out) (k := at_ k) (by rw [HFl.out]; exact hal)
          injection er with er; injection er with er1 er2
          subst er1 er2
          rw [Nat.zero_add] at r0
          rw [← rowF_get (by rw [HFl.out]; exact hal)] at r0 hR
          obtain ⟨X, cx, rfl, hXr⟩ := OwnI.rd (HX.out hlt)
          obtain ⟨pb, po, A2, cap2, rfl, hpb, p0, p1, p2, p3, hS2⟩ := RdBk.at_ (HA.out.below (HW6.out.trans (HW.out.mono HW6.out.size))) hal
          have hbo := HP.out.bs _ (List.getElem_mem hal)
          have hmb := manyB_mem (List.getElem_mem hal)
          have hm20 := HP.out.many
          rw [bget hal] at Hnx
          have Hcode := Lib.hid hbo.code
          have HS2 := Lib.hid hS2
          have HRr := Lib.hid hR
          have HXr := Lib.hid hXr
          have Hle := Lib.hid hle
          have Hsb := Lib.hid hsb
          have hal1 : ((at_ k : Nat) : Int) < ((p.length : Nat) : Int) := by omega
          have hal2 : ((at_ k : Nat) : Int) < ((F.length : Nat) : Int) := by rw [HFl.out]; omega
          have hrl1 : (((rowF F (at_ k)).length : Nat) : Int) ≤ vars := by omega
          have hrl2 : vars ≤ (((rowF F (at_ k)).length : Nat) : Int) := by omega
          have qrl : ((((rowF F (at_ k)).length : Nat) : Int) != vars) = false := by rw [bne_eq_false_iff_eq]; exact hrl
          have hsl1 : (((sv k).length : Nat) : Int) ≤ vars := by omega
          have hsl2 : vars ≤ (((sv k).length : Nat) : Int) := by omega
          have Hsl := Lib.hid hsl
          clear hbo hS2 hR hXr hle hsb hrl hsl
          generalize p[at_ k] = bk at *
          clear hal
          generalize rowF F (at_ k) = row at *
          generalize at_ k = ak at *
          generalize hsk : sv k = sk at *
          clear hsk
          obtain ⟨code, test, thn, els⟩ := bk
          dsimp only at *
          go_wp2
          go_loop [83] (fun i => ∃ j : Nat, j ≤ row.length ∧ i = .int .i64 j) (fun i => row.length - (intOf i).toNat)
          case atStart => exact ⟨0, Nat.zero_le _, rfl⟩
          case round =>
            obtain ⟨j, hj, rfl⟩ := hrel
            by_cases hlj : j < row.length
            · obtain ⟨b1, o1, rfl, hb1, c1⟩ := RdI.at1 HRr.out hlj
              obtain ⟨b2, o2, rfl, hb2, c2⟩ := RdI.at1 HXr.out (show j < sk.length by omega)
              rw [← getI_get hlj] at c1
              rw [← getI_get (by omega)] at c2
              have hxx := Hle.out.2 j hlj
              have hlj1 : ((j : Nat) : Int) < ((row.length : Nat) : Int) := by omega
              have hlj2 : ((j : Nat) : Int) < ((sk.length : Nat) : Int) := by omega
              generalize row.getD j 0 = x1 at *
              generalize sk.getD j 0 = x2 at *
              rcases hxx with rfl | rfl
              · go_wp2
                go_round
                case rel => exact ⟨j + 1, by omega, by go_num⟩
                case measure => simp [intOf]; omega
              · go_wp2
                all_goals
                  go_round
                  case rel => exact ⟨j + 1, by omega, by go_num⟩
                  case measure => simp [intOf]; omega
            · have hje : j = row.length := by omega
              subst hje
              have Hd := Lib.hid (fun hl => doing_calls vars A2 X code sk cap2 cx wr HS2.out HXr.out hl (by omega) (by omega) (by omega) Hcode.out Hsb.out)
              go_wp2_with (go_at_call 32; refine (Hd.out Hsl.out).mono ?_; rintro e w7 ⟨x7, rfl, hO7, hW7⟩; rw [Hnx.out] at hO7; have HO7 := Lib.hid hO7; have HW7 := Lib.hid hW7; clear hO7 hW7)
              go_roundw
              case rel => exact ⟨k + 1, by omega, by go_num, fun _ => Own.base_ HO7.out (by have := HW6.out.size; omega), HW.out.trans (HW7.out.mono hws)⟩
              case measure => simp [intOf]; omega
        · have hke : k = K := by omega
          subst hke
          go_wp2
          go_ret
          exact ⟨rfl, HW6.out.trans (HW.out.mono HW6.out.size)⟩
    · have HW5 := Lib.hid (HW2.out.trans (hW5.mono HW2.out.size))
      clear hW5
      go_wp2
      go_ret
      exact ⟨rfl, HW5.out⟩
  · have hne : pkErr vars p ≠ 0 ∨ startErr vars st ≠ 0 := by omega
    have Hin := Lib.hid (knIn_bad vars A B p st cap capB w HA.out HB.out hm hmc hm' hne)
    by_cases h1 : pkErr vars p = 0
    · have h2 : startErr vars st ≠ 0 := by rcases hne with h | h; exact absurd h1 h; exact h
      rw [h1] at Hpc
      clear hr hne
      generalize startErr vars st = er at *
      have q : (er != 0) = true := by rw [bne_iff_ne]; exact h2
      go_enter Try.func9, Try.ntmps9
      go_wp2_with (first
        | (go_at_call 29; refine Hin.out.mono ?_; rintro e w1 ⟨⟨x, hx, rfl⟩, hW⟩; have HW1 := Lib.hid hW; have qx : (x != 0) = true := by rw [bne_iff_ne]; exact hx
           clear hW hx)
        | (go_at_call 23; refine (Hpc.out _ (HA.out.below HW1.out)).mono ?_; rintro e w2 ⟨rfl, hW⟩; have HW2 := Lib.hid (HW1.out.trans (hW.mono HW1.out.size)); clear hW)
        | (go_at_call 30; refine (Hsc.out _ (Rd.below HB.out HW2.out)).mono ?_; rintro e w3 ⟨rfl, rfl⟩))
      go_ret
      exact ⟨rfl, HW2.out⟩
    · clear hr hne
      generalize pkErr vars p = er at *
      have q : (er != 0) = true := by rw [bne_iff_ne]; exact h1
      go_enter Try.func9, Try.ntmps9
      go_wp2_with (first
        | (go_at_call 29; refine Hin.out.mono ?_; rintro e w1 ⟨⟨x, hx, rfl⟩, hW⟩; have HW1 := Lib.hid hW; have qx : (x != 0) = true := by rw [bne_iff_ne]; exact hx
           clear hW hx)
        | (go_at_call 23; refine (Hpc.out _ (HA.out.below HW1.out)).mono ?_; rintro e w2 ⟨rfl, hW⟩; have HW2 := Lib.hid (HW1.out.trans (hW.mono HW1.out.size)); clear hW))
      go_ret
      exact ⟨rfl, HW2.out⟩
end Go.Proofs.Ytadmmciiahdmcaa
