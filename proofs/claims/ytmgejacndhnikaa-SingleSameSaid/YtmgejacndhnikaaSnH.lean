/- SingleSame: single.meet: where a Join is. -/
import Derived.Test.YtmgejacndhnikaaSsaX
import Derived.Test.YtmgejacndhnikaaOwnBo
import Derived.Deep.LoopGhost
import Derived.BigGuardPart
namespace Go.Proofs.Ytmgejacndhnikaa
set_option maxRecDepth 100000
open Go.RowKit

def cntT (o : List Bool) : Nat := o.count true
theorem cntT_le (o : List Bool) : cntT o ≤ o.length := List.count_le_length
theorem cntT_set : ∀ {o : List Bool} {j : Nat}, o[j]? = some false → cntT (o.set j true) = cntT o + 1
  | [], _, h => by simp at h
  | x :: r, 0, h => by
    have e : x = false := by simpa using h
    subst e
    simp [cntT]
  | x :: r, j + 1, h => by
    have ih := cntT_set (o := r) (j := j) (by simpa using h)
    unfold cntT at ih ⊢
    rw [List.set_cons_succ, List.count_cons, List.count_cons, ih]
    omega
theorem getT_set {l : List Bool} {i : Nat} {x : Bool} (h : i < l.length) (j : Nat) : (l.set i x).getD j false = if i = j then x else l.getD j false := by
  rw [List.getD_eq_getElem?_getD, List.getD_eq_getElem?_getD, List.getElem?_set]
  by_cases e : i = j
  · subst e; rw [if_pos rfl, if_pos rfl, if_pos h]; rfl
  · rw [if_neg e, if_neg e]
/-- Between two rounds: q is what is new. -/
structure MtO (ls : List (List Int)) (P : Nat → Prop) (q : Nat) (o : List Bool) : Prop where
  len : o.length = ls.length
  snd : ∀ j, o.getD j false = true → Jv ls P j
  qin : ∀ i, q.testBit i = true → P i ∨ o.getD i false = true
  cl : ∀ i, (P i ∨ o.getD i false = true) → q.testBit i = true ∨ ∀ j, W.EdgeF ls i j → o.getD j false = true
/-- In a round: nodes below I are done, and of I its edges below J. -/
structure MtM (ls : List (List Int)) (P : Nat → Prop) (was I J q : Nat) (o : List Bool) : Prop where
  len : o.length = ls.length
  snd : ∀ j, o.getD j false = true → Jv ls P j
  win : ∀ i, was.testBit i = true → P i ∨ o.getD i false = true
  qin : ∀ i, q.testBit i = true → o.getD i false = true
  cl : ∀ i, (P i ∨ o.getD i false = true) → q.testBit i = true ∨ (was.testBit i = true ∧ I ≤ i) ∨ ∀ j, W.EdgeF ls i j → o.getD j false = true
  cur : was.testBit I = true → ∀ j, j < J → W.EdgeF ls I j → o.getD j false = true
section
variable {ls : List (List Int)} {P : Nat → Prop} {was I J q : Nat} {o : List Bool}
theorem getT_lt (h : o.getD I false = true) : I < o.length := by
  rcases Nat.lt_or_ge I o.length with e | e
  · exact e
  · rw [List.getD_eq_getElem?_getD, List.getElem?_eq_none e] at h; cases h
theorem MtO.start {put : Nat} (hP : ∀ i, put.testBit i = true ↔ P i) : MtO ls P put (List.replicate ls.length false) := by
  have no : ∀ j, (List.replicate ls.length false).getD j false = true → False := fun j h => by
    have hl := getT_lt h
    rw [List.getD_eq_getElem?_getD, List.getElem?_eq_getElem hl] at h
    simp at h
  exact ⟨List.length_replicate, fun j h => (no j h).elim, fun i h => .inl ((hP i).1 h), fun i h => h.elim (fun h => .inl ((hP i).2 h)) (fun h => (no i h).elim)⟩
theorem MtO.enter (h : MtO ls P q o) : MtM ls P q 0 0 0 o :=
  ⟨h.len, h.snd, h.qin, fun i hi => (by rw [Nat.zero_testBit] at hi; cases hi), fun i hi => (h.cl i hi).elim (fun e => .inr (.inl ⟨e, Nat.zero_le _⟩)) (fun e => .inr (.inr e)), fun _ j hj => by omega⟩
theorem MtM.skip (h : MtM ls P was I 0 q o) (hI : was.testBit I = false) : MtM ls P was (I + 1) 0 q o :=
  ⟨h.len, h.snd, h.win, h.qin, fun i hi => by
    rcases h.cl i hi with e | ⟨e1, e2⟩ | e
    · exact .inl e
    · exact .inr (.inl ⟨e1, by
        rcases Nat.lt_or_ge I i with h | h
        · exact h
        · have : i = I := by omega
          subst this
          rw [hI] at e1; cases e1⟩)
    · exact .inr (.inr e), fun _ j hj => by omega⟩
theorem MtM.next (h : MtM ls P was I ls.length q o) (hI : was.testBit I = true) (he : ∀ j, W.EdgeF ls I j → j < ls.length) : MtM ls P was (I + 1) 0 q o :=
  ⟨h.len, h.snd, h.win, h.qin, fun i hi => by
    rcases h.cl i hi with e | ⟨e1, e2⟩ | e
    · exact .inl e
    · by_cases e3 : i = I
      · subst e3
        exact .inr (.inr fun j hj => h.cur hI j (he j hj) hj)
      · exact .inr (.inl ⟨e1, by omega⟩)
    · exact .inr (.inr e), fun _ j hj => by omega⟩
theorem MtM.pass (h : MtM ls P was I J q o) (hn : W.EdgeF ls I J → o.getD J false = true) : MtM ls P was I (J + 1) q o :=
  ⟨h.len, h.snd, h.win, h.qin, h.cl, fun hI j hj he => by
    by_cases e : j = J
    · subst e; exact hn he
    · exact h.cur hI j (by omega) he⟩
theorem MtM.set (h : MtM ls P was I J q o) (hI : was.testBit I = true) (hJ : J < ls.length) (he : W.EdgeF ls I J) : MtM ls P was I (J + 1) (q ||| 2 ^ J) (o.set J true) := by
  have hJo : J < o.length := by rw [h.len]; exact hJ
  have up : ∀ j, o.getD j false = true → (o.set J true).getD j false = true := fun j hj => by
    rw [getT_set hJo]
    split
    · rfl
    · exact hj
  refine ⟨by rw [List.length_set]; exact h.len, fun j hj => ?_, fun i hi => (h.win i hi).imp id (up i), fun i hi => ?_, fun i hi => ?_, fun hI j hj hef => ?_⟩
  · rw [getT_set hJo] at hj
    by_cases e : J = j
    · subst e
      rcases h.win I hI with e | e
      · exact .put e he
      · exact .join (h.snd I e) he
    · rw [if_neg e] at hj; exact h.snd j hj
  · rw [W.set_bit] at hi
    rw [getT_set hJo]
    by_cases e : J = i
    · rw [if_pos e]
    · rw [if_neg e]
      simp [e] at hi
      exact h.qin i hi
  · rw [W.set_bit]
    by_cases e : J = i
    · left; simp [e]
    · rw [getT_set hJo, if_neg e] at hi
      rcases h.cl i hi with e1 | e1 | e1
      · left; rw [e1]; rfl
      · exact .inr (.inl e1)
      · exact .inr (.inr fun j hj => up j (e1 j hj))
  · by_cases e : j = J
    · subst e; rw [getT_set hJo, if_pos rfl]
    · exact up j (h.cur hI j (by omega) hef)
theorem MtM.leave (h : MtM ls P was ls.length 0 q o) (hw : ∀ i, was.testBit i = true → i < ls.length) : MtO ls P q o :=
  ⟨h.len, h.snd, fun i hi => .inr (h.qin i hi), fun i hi => by
    rcases h.cl i hi with e | ⟨e1, e2⟩ | e
    · exact .inl e
    · have := hw i e1; omega
    · exact .inr e⟩
theorem MtO.done (h : MtO ls P 0 o) (j : Nat) : o.getD j false = true ↔ Jv ls P j := by
  refine ⟨h.snd j, fun hj => ?_⟩
  induction hj with
  | put hp he => exact (h.cl _ (.inl hp)).elim (fun e => by rw [Nat.zero_testBit] at e; cases e) (fun e => e _ he)
  | join _ he ih => exact (h.cl _ (.inr ih)).elim (fun e => by rw [Nat.zero_testBit] at e; cases e) (fun e => e _ he)
end
theorem edgeS_bit {ls : List (List Int)} (h8 : ls.length ≤ 8) (hv : W.Valid ls) (i j : Nat) : (W.edgeS ls i).testBit j = true ↔ W.EdgeF ls i j := by
  unfold W.edgeS
  rw [W.setN_bit]
  refine ⟨fun h => h.2, fun h => ⟨?_, h⟩⟩
  obtain ⟨k, _, he, _⟩ := h
  have := (W.Edge.lt hv he).2
  omega
theorem edgeF_lt {ls : List (List Int)} (hv : W.Valid ls) {i j : Nat} (h : W.EdgeF ls i j) : j < ls.length := by
  obtain ⟨k, _, he, _⟩ := h
  exact (W.Edge.lt hv he).2
def MeetE (ls : List (List Int)) (P : Nat → Prop) (w : World) (e : Ending) (w' : World) : Prop :=
  (∃ (gB : Nat) (o : List Bool), e = .returned (.slice (some ⟨gB, 0, none⟩) ls.length ls.length) ∧ OwnBo w' w.heap.size 4 (.slice (some ⟨gB, 0, none⟩) ls.length ls.length) o ∧ o.length = ls.length ∧ ∀ j, o.getD j false = true ↔ Jv ls P j) ∧ Below w.heap.size w w'
set_option maxHeartbeats 16000000 in
theorem meet_calls {ls : List (List Int)} {P : Nat → Prop} (h1 : 1 ≤ ls.length) (h8 : ls.length ≤ 8) (hv : W.Valid ls) {put : Nat} (hput : put < 256) (hP : ∀ i, put.testBit i = true ↔ P i) (hlt : ∀ i, P i → i < ls.length) (g0 c0 B0 : Nat) (w : World) (hU : W.OwnU w B0 24 (.slice (some ⟨g0, 0, none⟩) ls.length c0) (W.edgesL ls)) :
    Calls Try.prog 58 #[.slice (some ⟨g0, 0, none⟩) ls.length c0, .int .u32 (put : Nat)] w (MeetE ls P w) := by
  have HU := Lib.hid hU
  have HV := Lib.hid hv
  have HPl := Lib.hid hlt
  have HST := Lib.hid (MtO.start (ls := ls) hP)
  have Hpl : Hid (∀ i, put.testBit i = true → i < ls.length) := Lib.hid (fun i hi => hlt i ((hP i).1 hi))
  have Hlen := Lib.hid (W.edgesL_len ls)
  have hg0 : g0 < w.heap.size := (own_lt' hU g0 rfl).2
  have HcU : Hid (∀ (w' : World), Below w.heap.size w w' → ∀ k, k < ls.length → w'.cell? ⟨g0, k, none⟩ = some (.int .u32 (W.edgeS ls k : Nat))) := Lib.hid (fun w' hb k hk => by
    obtain ⟨g', e, -, -, -, -, hc⟩ := W.OwnU.at2 (Own.below HU.out hb) (by rw [Hlen.out]; omega)
    injection e with e
    injection e with e
    subst e
    have := hc k (by rw [Hlen.out]; exact hk)
    rw [W.edgesL_get] at this
    exact this)
  clear hU hv hlt hP
  go_enter Try.func58, Try.ntmps58
  go_wp2_with (at_make; refine wpList_makeBo rfl _ _ rfl w.heap.size ls.length rfl rfl (by omega) (Nat.le_refl _) ?_; intro w1 hown1 hgrow1)
  have HW1 := Lib.hid ((Below.refl w.heap.size w).grown hgrow1 (Nat.le_refl _) (fun k hk => by cases hk))
  obtain ⟨gB, hgB⟩ : ∃ gB, gB = w.heap.size := ⟨_, rfl⟩
  have HO1 : Hid (OwnBo w1 w.heap.size 4 (.slice (some ⟨gB, 0, none⟩) ls.length ls.length) (List.replicate ls.length false)) := Lib.hid (by rw [hgB]; exact hown1)
  rw [← hgB]
  have HgB := Lib.hid hgB
  clear hown1 hgrow1 hgB
  go_loopg [6] 17 (fun g s6 wr => ∃ (q : Nat) (o : List Bool), s6 = .int .u32 (q : Nat) ∧ q < 256 ∧ Hid (OwnBo wr w.heap.size 4 (.slice (some ⟨gB, 0, none⟩) ls.length ls.length) o) ∧ Hid (MtO ls P q o) ∧ Hid (∀ i, q.testBit i = true → i < ls.length) ∧ Hid (Below w.heap.size w wr) ∧ Hid (2 * (ls.length - cntT o) + (if q = 0 then 0 else 1) ≤ g ∧ g ≤ 17))
  case atStart => exact ⟨put, List.replicate ls.length false, rfl, hput, HO1, HST, Hpl, HW1, Lib.hid ⟨by split <;> omega, by omega⟩⟩
  case round =>
    clear HO1 HST Hpl HW1
    obtain ⟨was, o, rfl, hq, HO, HM, Hq, HW, Hg⟩ := hrel
    by_cases h0 : was = 0
    · subst h0
      go_wp2
      go_ret
      exact ⟨⟨gB, o, rfl, HO.out, HM.out.len, HM.out.done⟩, HW.out⟩
    · have q0 : (((was : Nat) : Int) != 0) = true := by rw [bne_iff_ne]; omega
      have H0 := Lib.hid h0
      have HE := Lib.hid HM.out.enter
      obtain ⟨cc, hcc⟩ : ∃ cc, cc = cntT o := ⟨_, rfl⟩
      have Hcc := Lib.hid hcc
      obtain ⟨wo, rfl⟩ : ∃ wo : World, wo = wr := ⟨_, rfl⟩
      have HOo := HO
      have HWo := HW
      clear h0 HM HO HW hcc
      go_wp2
      go_loopw [6, 20] (fun s6 i wr => ∃ (I q : Nat) (o : List Bool), i = .int .i64 (I : Nat) ∧ I ≤ ls.length ∧ s6 = .int .u32 (q : Nat) ∧ q < 256 ∧ Hid (OwnBo wr w.heap.size 4 (.slice (some ⟨gB, 0, none⟩) ls.length ls.length) o) ∧ Hid (MtM ls P was I 0 q o) ∧ Hid (∀ i, q.testBit i = true → i < ls.length) ∧ Hid (Below w.heap.size w wr) ∧ Hid (cc ≤ cntT o ∧ (q ≠ 0 → cc < cntT o))) (fun _ i _ => ls.length - (intOf i).toNat)
      case atStart => exact ⟨0, 0, o, rfl, Nat.zero_le _, rfl, by decide, HOo, HE, Lib.hid (fun i hi => by rw [Nat.zero_testBit] at hi; cases hi), HWo, Lib.hid ⟨by rw [Hcc.out]; exact Nat.le_refl _, fun h => absurd rfl h⟩⟩
      case round =>
        clear HOo HE HWo
        obtain ⟨I, q, o, rfl, hI, rfl, hq2, HO, HM, Hq2, HW, Hc⟩ := hrel
        by_cases hlt : I < ls.length
        · have cU := HcU.out wr HW.out I hlt
          have hIl : ((I : Nat) : Int) < ((ls.length : Nat) : Int) := by omega
          have hI32 : I < 32 := by omega
          have p1 := W.test_u32 was I (by omega)
          have Hlt := Lib.hid hlt
          cases hb : was.testBit I
          · rw [hb] at p1
            have HN := Lib.hid (HM.out.skip hb)
            clear hb
            go_wp2
            go_roundw
            case rel => exact ⟨I + 1, q, o, by go_num, by omega, rfl, hq2, HO, HN, Hq2, HW, Hc⟩
            case measure => simp [intOf]; omega
          · rw [hb] at p1
            have Hb := Lib.hid hb
            have hes : W.edgeS ls I < 256 := W.setN_lt _
            have HEb := Lib.hid (fun j => edgeS_bit h8 HV.out I j)
            obtain ⟨wo, rfl⟩ : ∃ wo : World, wo = wr := ⟨_, rfl⟩
            have HOo := HO
            have HMo := HM
            have HWo := HW
            have Hco := Hc
            clear hb HO HM HW Hc
            generalize W.edgeS ls I = D at *
            go_wp2
            go_loopw [6, 32] (fun s6 i wr => ∃ (J q : Nat) (o : List Bool), i = .int .i64 (J : Nat) ∧ J ≤ ls.length ∧ s6 = .int .u32 (q : Nat) ∧ q < 256 ∧ Hid (OwnBo wr w.heap.size 4 (.slice (some ⟨gB, 0, none⟩) ls.length ls.length) o) ∧ Hid (MtM ls P was I J q o) ∧ Hid (∀ i, q.testBit i = true → i < ls.length) ∧ Hid (Below w.heap.size w wr) ∧ Hid (cc ≤ cntT o ∧ (q ≠ 0 → cc < cntT o))) (fun _ i _ => ls.length - (intOf i).toNat)
            case atStart => exact ⟨0, q, o, rfl, Nat.zero_le _, rfl, hq2, HOo, HMo, Hq2, HWo, Hco⟩
            case round =>
              clear HOo HMo HWo Hco cU p1
              obtain ⟨J, q, o, rfl, hJ, rfl, hq3, HO, HM, Hq3, HW, Hc⟩ := hrel
              by_cases hltJ : J < ls.length
              · have hJl : ((J : Nat) : Int) < ((ls.length : Nat) : Int) := by omega
                have p2 := W.test1_u32 D J (by omega)
                obtain ⟨g', e', hg1, -, -, fz, hcell⟩ := OwnBo.at2 HO.out (by rw [HM.out.len]; omega)
                injection e' with e'
                injection e' with e'
                subst e'
                have cJ := hcell J (by rw [HM.out.len]; exact hltJ)
                have fJ := fz J
                have hgetD : o.getD J false = o[J]'(by rw [HM.out.len]; exact hltJ) := by rw [List.getD_eq_getElem?_getD, List.getElem?_eq_getElem (by rw [HM.out.len]; exact hltJ)]; rfl
                have hsome : o[J]? = some (o[J]'(by rw [HM.out.len]; exact hltJ)) := List.getElem?_eq_getElem _
                generalize o[J]'(by rw [HM.out.len]; exact hltJ) = oj at *
                clear hcell fz
                cases hbJ : D.testBit J
                · rw [hbJ] at p2
                  have HN := Lib.hid (HM.out.pass (fun e => by have := (HEb.out J).2 e; rw [hbJ] at this; cases this))
                  clear hbJ hgetD hsome
                  go_wp2
                  go_roundw
                  case rel => exact ⟨J + 1, q, o, by go_num, by omega, rfl, hq3, HO, HN, Hq3, HW, Hc⟩
                  case measure => simp [intOf]; omega
                · rw [hbJ] at p2
                  have HEJ := Lib.hid ((HEb.out J).1 hbJ)
                  cases oj
                  · have hs := OwnBo.set_ HO.out (k := J) (by rw [HM.out.len]; exact hltJ) true
                    have HS := Lib.hid hs
                    have HN := Lib.hid (HM.out.set Hb.out hltJ HEJ.out)
                    have HWn := Lib.hid (HW.out.setCell (p := ⟨gB, J, none⟩) hg1 (.bool true))
                    have HcN : Hid (cc ≤ cntT (o.set J true) ∧ (q ||| 2 ^ J ≠ 0 → cc < cntT (o.set J true))) := Lib.hid (by rw [cntT_set hsome]; have := Hc.out.1; exact ⟨by omega, fun _ => by omega⟩)
                    have hlt8 : ∀ i, (q ||| 2 ^ J).testBit i = true → i < ls.length := fun i hi => by
                      rw [W.set_bit] at hi
                      by_cases e : J = i
                      · omega
                      · simp [e] at hi; exact Hq3.out i hi
                    have hn256 : q ||| 2 ^ J < 256 := W.lt_pow_of_bits (n := 8) fun k hk => by have := hlt8 k hk; omega
                    have HqN := Lib.hid hlt8
                    have r1 := W.pow_u32 J (by omega)
                    have r2 := W.or_u32 q (2 ^ J) (by omega) (Nat.lt_of_lt_of_le (Nat.pow_lt_pow_right (by decide) (by omega : J < 32)) (by decide))
                    rw [Int.natCast_pow, show ((2 : Nat) : Int) = 2 from rfl] at r1 r2
                    have hJ32 : J < 32 := by omega
                    obtain ⟨qn, hqn⟩ : ∃ qn, qn = q ||| 2 ^ J := ⟨_, rfl⟩
                    rw [← hqn] at HN HcN HqN hn256 r2
                    clear hs hqn hlt8 hbJ hgetD hsome HO HM HW Hc Hq3
                    go_wp2
                    go_roundw
                    case rel => exact ⟨J + 1, qn, o.set J true, by go_num, by omega, rfl, hn256, HS, HN, HqN, HWn, HcN⟩
                    case measure => simp [intOf]; omega
                  · have HN := Lib.hid (HM.out.pass (fun _ => hgetD))
                    clear hbJ hgetD hsome
                    go_wp2
                    go_roundw
                    case rel => exact ⟨J + 1, q, o, by go_num, by omega, rfl, hq3, HO, HN, Hq3, HW, Hc⟩
                    case measure => simp [intOf]; omega
              · have : J = ls.length := by omega
                subst this
                have HN := Lib.hid (HM.out.next Hb.out (fun j hj => edgeF_lt HV.out hj))
                clear hltJ hJ
                go_wp2
                go_roundw
                case rel => exact ⟨I + 1, q, o, by go_num, by have := Hlt.out; omega, rfl, hq3, HO, HN, Hq3, HW, Hc⟩
                case measure => have := Hlt.out; simp [intOf]; omega
        · have : I = ls.length := by omega
          subst this
          have HN := Lib.hid (HM.out.leave Hq.out)
          have HGg : Hid (2 * (ls.length - cntT o) + (if q = 0 then 0 else 1) < gk ∧ gk ≤ 17) := Lib.hid (by
            have h1 := Hg.out
            have h2 := Hc.out
            have h3 := cntT_le o
            rw [HN.out.len] at h3
            rw [if_neg H0.out] at h1
            rw [← Hcc.out] at h1
            refine ⟨?_, h1.2⟩
            by_cases e : q = 0
            · rw [if_pos e]; omega
            · rw [if_neg e]; have := h2.2 e; omega)
          clear hlt hI
          go_wp2
          go_roundg (2 * (ls.length - cntT o) + (if q = 0 then 0 else 1))
          case measure => have := HGg.out; omega
          case rel => exact ⟨q, o, rfl, hq2, HO, HN, Hq2, HW, Lib.hid ⟨Nat.le_refl _, by have := HGg.out; omega⟩⟩
end Go.Proofs.Ytmgejacndhnikaa
