/- codemasontop.allowed; whole.Do. -/
import Derived.Test.YtmgejacndhnikaaTopB
import Derived.Test.YtmgejacndhnikaaMchV
import Derived.Test.YtmgejacndhnikaaBlkU
namespace Go.Proofs.Ytmgejacndhnikaa
set_option maxRecDepth 100000
open Go.RowKit

def AllowE (vars : Int) (st hv : List Int) (w : World) (e : Ending) (w' : World) : Prop :=
  Below w.heap.size w w' ∧ ∃ b, e = .returned (.bool b) ∧ (b = true ↔ haveErr vars hv = 0 ∧ leK hv st)
theorem leK_iff {vars : Int} {st hv : List Int} (h1 : haveErr vars hv = 0) (h2 : startErr vars st = 0) : leK hv st ↔ ∀ i (h : i < st.length), 0 ≤ st[i] → st[i] = hv.getD i 0 := by
  obtain ⟨e1, b1⟩ := haveErr_ok h1
  obtain ⟨e2, b2⟩ := startErr_ok h2
  constructor
  · rintro ⟨_, h⟩ i hi h0
    rcases h i hi with h | h
    · rw [getI_get hi] at h; omega
    · rw [getI_get hi] at h; exact h
  · intro h
    refine ⟨by omega, fun i hi => ?_⟩
    rw [getI_get hi]
    have := b2 _ (List.getElem_mem hi)
    by_cases h0 : 0 ≤ st[i]
    · exact .inr (h i hi h0)
    · exact .inl (by omega)
set_option maxHeartbeats 4000000 in
theorem allowed_calls (vars : Int) (A B : Option Addr) (st hv : List Int) (cap capB : Nat) (w : World) (hA : RdI w A st) (hB : RdI w B hv) (hm : st.length ≤ maxLen) (hm' : hv.length ≤ maxLen) (h2 : startErr vars st = 0) :
    Calls Try.prog 16 #[.int .i64 vars, .slice A st.length cap, .slice B hv.length capB] w (AllowE vars st hv w) := by
  have Hc := Lib.hid (haveCheck_calls vars B hv capB w hB hm')
  unfold maxLen at hm hm'
  have HA := Lib.hid hA
  have HB := Lib.hid hB
  clear hA hB
  by_cases h1 : haveErr vars hv = 0
  · have Hk := Lib.hid (leK_iff h1 h2)
    have H1 := Lib.hid h1
    obtain ⟨e1, -⟩ := haveErr_ok h1
    obtain ⟨e2, -⟩ := startErr_ok h2
    have hll : hv.length ≤ st.length := by omega
    have hll2 : st.length ≤ hv.length := by omega
    rw [h1] at Hc
    clear h1 h2 e1 e2
    go_enter Try.func16, Try.ntmps16
    go_wp2_with fail
    (with_reducible refine Hc.out.mono ?_)
    rintro e w1 ⟨rfl, e1⟩
    rw [e1]
    clear e1 Hc
    go_wp2_with fail
    go_loopw [15] (fun i wr => ∃ k : Nat, k ≤ st.length ∧ i = .int .i64 k ∧ Hid (∀ i (h : i < st.length), i < k → 0 ≤ st[i] → st[i] = hv.getD i 0) ∧ Hid (Below w.heap.size w wr)) (fun i _ => st.length - (intOf i).toNat)
    case atStart => exact ⟨0, Nat.zero_le _, rfl, Lib.hid (fun i _ hi => by omega), Lib.hid (Below.refl _ _)⟩
    case round =>
      obtain ⟨k, hk, rfl, HJ, HW⟩ := hrel
      by_cases hlt : k < st.length
      · obtain ⟨b1, o1, rfl, hb1, c1⟩ := RdI.at1 (Rd.below HA.out HW.out) hlt
        obtain ⟨b2, o2, rfl, hb2, c2⟩ := RdI.at1 (Rd.below HB.out HW.out) (k := k) (by omega)
        have q1 : ((k : Nat) : Int) < ((st.length : Nat) : Int) := by omega
        have q2 : ((k : Nat) : Int) < ((hv.length : Nat) : Int) := by omega
        have hkv : k < hv.length := by omega
        have HN : Hid (∀ x y, st[k] = x → hv[k] = y → (0 ≤ x → x = y) → ∀ i (h : i < st.length), i < k + 1 → 0 ≤ st[i] → st[i] = hv.getD i 0) := Lib.hid (fun x y hx hy h i hi hik h0 => by
          rcases Nat.lt_or_ge i k with h3 | h3
          · exact HJ.out i hi h3 h0
          · obtain rfl : i = k := by omega
            rw [getI_get hkv, hx, hy]
            exact h (by rw [← hx]; exact h0))
        have HF : Hid (0 ≤ st[k] → st[k] ≠ hv[k] → ¬ leK hv st) := Lib.hid (fun h0 hne hl => hne (by rw [Hk.out.1 hl k hlt h0, getI_get hkv]))
        have HNk := Lib.hid (HN.out _ _ rfl rfl)
        clear HJ HN
        generalize st[k] = x at *
        generalize hv[k] = y at *
        by_cases h0 : 0 ≤ x
        · have d0 : decide (0 ≤ x) = true := decide_eq_true h0
          by_cases hxy : x = y
          · have d1 : (x != y) = false := by rw [bne_eq_false_iff_eq]; exact hxy
            have HN2 := Lib.hid (HNk.out (fun _ => hxy))
            clear hxy HF HNk
            go_wp2
            go_roundw
            case rel => exact ⟨k + 1, by omega, by go_num, HN2, HW⟩
            case measure => simp [intOf]; omega
          · have d1 : (x != y) = true := by rw [bne_iff_ne]; exact hxy
            have HF2 := Lib.hid (HF.out h0 hxy)
            clear hxy HF HNk
            go_wp2
            go_ret
            exact ⟨HW.out, false, rfl, ⟨fun h => (by cases h), fun h => absurd h.2 HF2.out⟩⟩
        · have d0 : decide (0 ≤ x) = false := decide_eq_false h0
          have HN2 := Lib.hid (HNk.out (fun h => absurd h h0))
          clear HF HNk h0
          go_wp2
          go_roundw
          case rel => exact ⟨k + 1, by omega, by go_num, HN2, HW⟩
          case measure => simp [intOf]; omega
      · have hke : k = st.length := by omega
        subst hke
        have HL := Lib.hid (Hk.out.2 (fun i hi h0 => HJ.out i hi hi h0))
        clear HJ
        go_wp2
        go_ret
        exact ⟨HW.out, true, rfl, ⟨fun _ => ⟨H1.out, HL.out⟩, fun _ => rfl⟩⟩
  · have q : (haveErr vars hv != 0) = true := by rw [bne_iff_ne]; exact h1
    have H1 := Lib.hid h1
    generalize hy : haveErr vars hv = y at *
    have Hy := Lib.hid hy
    clear h1 hy h2
    go_enter Try.func16, Try.ntmps16
    go_wp2_with fail
    (with_reducible refine Hc.out.mono ?_)
    rintro e w1 ⟨rfl, e1⟩
    rw [e1]
    clear e1 Hc
    go_wp2_with fail
    go_ret
    exact ⟨Below.refl _ _, false, rfl, ⟨fun h => (by cases h), fun h => absurd (by rw [← Hy.out]; exact h.1) H1.out⟩⟩
/-- The bytes that were made do what the program does. -/
theorem MadeQ.run {vars : Int} {n : Nat} (hn : vars = n) {p : List Blk} {st hv c : List Int} {want : Nat} (h : MadeQ vars p st want c) (hp : pkErr vars p = 0) (hw : want < 2 ^ n) (hh : haveErr vars hv = 0) (hle : leK hv st) {k : Nat} (hk : k ≤ 200) (hr : runsB p hv k) (he : (stB p hv k).1 < 0) :
    ∃ m xs q b', m < 20000 ∧ GoM c m ⟨0, 0, padC hv⟩ ⟨q, b', xs ++ (List.replicate 6 0).drop hv.length⟩ ∧ StopM c q ∧ aliL want (stB p hv k).2 xs := by
  obtain ⟨hl, hb⟩ := haveErr_ok hh
  have go : ∀ (p' : List Blk), POk vars p' → runsB p' hv k → (stB p' hv k).1 < 0 → aliL want (stB p hv k).2 (stB p' hv k).2 → c = progY p' → ∃ m xs q b', m < 20000 ∧ GoM c m ⟨0, 0, padC hv⟩ ⟨q, b', xs ++ (List.replicate 6 0).drop hv.length⟩ ∧ StopM c q ∧ aliL want (stB p hv k).2 xs := by
    rintro p' hp' hr' he' ha rfl
    obtain ⟨m, bx, hm, hif⟩ := prog_go hp' hl hb ((List.replicate 6 0).drop hv.length) k hr'
    rw [if_neg (by omega)] at hif
    obtain ⟨q, hg, hs⟩ := hif
    exact ⟨m, _, q, bx, by omega, hg, hs, ha⟩
  rcases h.2 with e | ⟨F, q, hS, hT, hq, e⟩
  · exact go p (pok_of hp) hr he ⟨rfl, fun _ _ => rfl⟩ e
  · have hP := pok_of hp
    have hf0 := pkErr_pok (foldP_ok hP hS.1)
    have f1 := fold_run hP hS hl hb hle
    obtain ⟨_, _, t3⟩ := hT.run hn hw hf0
    have hpair : ∀ k, runsB p hv k → (stB (foldP p F) hv k).1 = (stB p hv k).1 := fun k hr => by rw [f1 k hr]
    have hrf : runsB (foldP p F) hv k := (runs_pair hpair k).1 hr
    have t4 := t3 hv hl hb k hrf
    have hpair2 : ∀ k, runsB (foldP p F) hv k → (stB q hv k).1 = (stB (foldP p F) hv k).1 := fun k hr => (t3 hv hl hb k hr).1
    refine go q (pok_of hq) ((runs_pair hpair2 k).1 hrf) (by rw [t4.1, f1 k hr]; exact he) ?_ e
    have := t4.2 (by rw [f1 k hr]; exact he)
    rwa [f1 k hr] at this
end Go.Proofs.Ytmgejacndhnikaa
