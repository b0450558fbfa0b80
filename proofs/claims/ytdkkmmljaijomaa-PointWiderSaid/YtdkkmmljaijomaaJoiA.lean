/- (*point.classes).join, same: walked. -/
import Derived.Test.YtdkkmmljaijomaaJoiQ
import Derived.BigQuiet
import Derived.Deep.QuietTactic
import Derived.BigGuardPart
import Derived.Deep.LoopGhost
namespace Go.Proofs.Ytdkkmmljaijomaa
set_option maxRecDepth 100000
open Go.RowKit

/-- The first i are mapped. -/
def MpU (n : Nat) (l l' : List Int) (a b : Int) (i : Nat) : Prop := l'.length = n ∧ ∀ j : Nat, j < n → gI l' j = if j < i then chB a b (gI l j) else gI l j
section
variable {n : Nat} {l l' : List Int} {a b : Int} {i : Nat}
theorem MpU.start (h : l.length = n) : MpU n l l a b 0 := ⟨h, fun j _ => by simp⟩
theorem MpU.at_ (h : MpU n l l' a b i) (hi : i < n) : gI l' i = gI l i := by rw [h.2 i hi, if_neg (by omega)]
theorem MpU.same (h : MpU n l l' a b i) (hi : i < n) (hb : gI l i ≠ b) : MpU n l l' a b (i + 1) := ⟨h.1, fun j hj => by
  rw [h.2 j hj]
  by_cases e : j = i
  · subst e
    rw [if_neg (by omega), if_pos (by omega)]
    unfold chB; rw [if_neg hb]
  · by_cases e2 : j < i
    · rw [if_pos e2, if_pos (by omega)]
    · rw [if_neg e2, if_neg (by omega)]⟩
theorem MpU.put (h : MpU n l l' a b i) (hi : i < n) (hb : gI l i = b) : MpU n l (l'.set i a) a b (i + 1) := ⟨by rw [List.length_set]; exact h.1, fun j hj => by
  rw [gI_set (by rw [h.1]; exact hi), h.2 j hj]
  by_cases e : i = j
  · subst e
    rw [if_pos rfl, if_pos (by omega)]
    unfold chB; rw [if_pos hb]
  · rw [if_neg e]
    by_cases e2 : j < i
    · rw [if_pos e2, if_pos (by omega)]
    · rw [if_neg e2, if_neg (by omega)]⟩
theorem MpU.all (hl : l.length = n) (h : MpU n l l' a b n) : l' = l.map (chB a b) := by
  refine List.ext_getElem (by rw [h.1, List.length_map, hl]) fun j h1 h2 => ?_
  have h3 : j < n := by rw [← h.1]; exact h1
  have := h.2 j h3
  rw [if_pos h3, gI_get h1, gI_get (by omega)] at this
  rw [this, List.getElem_map]
end
def JoinE (w : World) (T OB TB cO cT n : Nat) (o t : List Int) (C : Prop) (e : Ending) (w' : World) : Prop :=
  (∃ v, e = .returned v) ∧ ∃ o' t', JT w' T OB TB cO cT n o' t' ∧ Two OB TB w w' ∧ MuE n o t C o' t'
set_option maxHeartbeats 8000000 in
theorem join_calls (T OB TB cO cT n : Nat) (hn : n ≤ 8) (a b : Int) (o t : List Int) (w : World) (h : JT w T OB TB cO cT n o t) (hc : Cls n o t) (ha : RepN n o a) (hb : RepN n o b) :
    Calls Try.prog 57 #[.pointer (some ⟨T, 0, none⟩), .int .i64 a, .int .i64 b] w (JoinE w T OB TB cO cT n o t (a = b ∨ a < 0 ∨ b < 0)) := by
  obtain ⟨a0, ha0⟩ : ∃ a0, a0 = a := ⟨_, rfl⟩
  obtain ⟨b0, hb0⟩ : ∃ b0, b0 = b := ⟨_, rfl⟩
  have H0 := Lib.hid (show JT w T OB TB cO cT n o t ∧ Two OB TB w w ∧ Cls n o t ∧ (RepN n o a0 ∧ RepN n o b0) from ⟨h, Two.refl _ _ _, hc, ha0 ▸ ha, hb0 ▸ hb⟩)
  rw [← ha0, ← hb0]
  clear h hc ha hb ha0 hb0 a b
  go_enter Try.func57, Try.ntmps57
  go_wp2_with fail
  go_loopg [1, 2] (muC n o t) (fun g av bv wr => ∃ (a b : Int) (o' t' : List Int), av = .int .i64 a ∧ bv = .int .i64 b ∧ Hid (JT wr T OB TB cO cT n o' t' ∧ Two OB TB w wr ∧ Cls n o' t' ∧ (RepN n o' a ∧ RepN n o' b)) ∧ Hid ((o' = o ∧ t' = t ∧ a = a0 ∧ b = b0) ∨ muC n o' t' < muC n o t) ∧ Hid (g = muC n o' t'))
  case atStart => exact ⟨a0, b0, o, t, rfl, rfl, H0, Lib.hid (.inl ⟨rfl, rfl, rfl, rfl⟩), Lib.hid rfl⟩
  case round =>
    clear H0
    obtain ⟨a, b, o', t', rfl, rfl, H, HM, Hg⟩ := hrel
    by_cases hq : a = b ∨ a < 0 ∨ b < 0
    · have Hend := Lib.hid (show ∃ o' t', JT wr T OB TB cO cT n o' t' ∧ Two OB TB w wr ∧ MuE n o t (a0 = b0 ∨ a0 < 0 ∨ b0 < 0) o' t' from ⟨o', t', H.out.1, H.out.2.1, H.out.2.2.1, HM.out.imp (fun ⟨h1, h2, h3, h4⟩ => ⟨h1, h2, by rw [← h3, ← h4]; exact hq⟩) id⟩)
      clear H HM Hg
      have hq' : a = b ∨ (a ≠ b ∧ a < 0) ∨ (a ≠ b ∧ 0 ≤ a ∧ b < 0) := by omega
      clear hq
      rcases hq' with rfl | ⟨q1, q2⟩ | ⟨q1, q2, q3⟩
      all_goals
        go_wp2
        all_goals first | (exfalso; omega) | (go_end0; exact ⟨⟨_, rfl⟩, Hend.out⟩)
    · obtain ⟨hJ, hT, hC, ha, hb⟩ := H.out
      have q1 : a ≠ b := fun e => hq (.inl e)
      have q2 : 0 ≤ a := by omega
      have q3 : 0 ≤ b := by omega
      clear hq
      have hxa := hC.merge (a := a) (b := b)
      rcases ha with rfl | ⟨ha, haa⟩
      · omega
      rcases hb with rfl | ⟨hb, hbb⟩
      · omega
      have Hmg := Lib.hid (hC.merge ha.1 ha.2 haa hb.1 hb.2 hbb q1)
      have HJ := Lib.hid hJ
      have HT := Lib.hid hT
      have Hlo := Lib.hid hC.lo
      have Hlt := Lib.hid hC.lt
      obtain ⟨ka, rfl⟩ := Int.eq_ofNat_of_zero_le q2
      obtain ⟨kb, rfl⟩ := Int.eq_ofNat_of_zero_le q3
      have c0 := hJ.clO
      have c1 := hJ.clT
      have c2 := (hJ.atT (i := ka) (by omega)).1
      have c3 := (hJ.atT (i := kb) (by omega)).1
      have q4 : (ka : Int) < (n : Int) := ha.2
      have q5 : (kb : Int) < (n : Int) := hb.2
      clear hJ hT hC haa hbb ha hb H hxa
      obtain ⟨x, hx⟩ : ∃ x, x = gI t' ka := ⟨_, rfl⟩
      obtain ⟨y, hy⟩ : ∃ y, y = gI t' kb := ⟨_, rfl⟩
      rw [← hx] at c2
      rw [← hy] at c3
      have Hx := Lib.hid hx
      have Hy := Lib.hid hy
      clear hx hy
      go_wp2
      go_quiet (fail)
      go_wp2
      have HJ0 : Hid (JT (wr.drewN nq) T OB TB cO cT n o' t' ∧ Two OB TB w (wr.drewN nq)) := Lib.hid ⟨HJ.out.drewN nq, HT.out.drewN nq⟩
      clear HJ HT c0 c1 c2 c3
      generalize wr.drewN nq = wr at *
      go_loopw [40] (fun i wr => ∃ (k : Nat) (o2 t2 : List Int), k ≤ n ∧ i = .int .i64 k ∧ Hid (JT wr T OB TB cO cT n o2 t2 ∧ Two OB TB w wr) ∧ Hid (MpU n o' o2 ka kb k ∧ MpU n t' t2 ka kb k)) (fun i _ => n - (intOf i).toNat)
      case atStart => exact ⟨0, o', t', Nat.zero_le _, rfl, HJ0, Lib.hid ⟨.start Hlo.out, .start Hlt.out⟩⟩
      case round =>
        clear HJ0
        obtain ⟨k, o2, t2, hk, rfl, HJ, HP⟩ := hrel
        obtain ⟨hJ, hT⟩ := HJ.out
        obtain ⟨hP1, hP2⟩ := HP.out
        have c0 := hJ.clO
        have c1 := hJ.clT
        by_cases hkn : k < n
        · have q6 : (k : Int) < (n : Int) := by omega
          obtain ⟨d1, f1⟩ := hJ.atO hkn
          obtain ⟨d2, f2⟩ := hJ.atT hkn
          rw [hP1.at_ hkn] at d1
          rw [hP2.at_ hkn] at d2
          by_cases e1 : gI o' k = kb
          · have hJ1 := hJ.setO hkn ka
            have hT1 := hT.set1 k (.int .i64 ka)
            have hP3 := hP1.put hkn e1
            have g1 := hJ1.clT
            obtain ⟨g2, g3⟩ := hJ1.atT hkn
            rw [hP2.at_ hkn] at g2
            by_cases e2 : gI t' k = kb
            · have HJ2 := Lib.hid (show _ ∧ _ from ⟨hJ1.setT hkn ka, hT1.set2 k (.int .i64 ka)⟩)
              have HP4 := Lib.hid (show _ ∧ _ from ⟨hP3, hP2.put hkn e2⟩)
              clear hJ hT hP1 hP2 hP3 hJ1 hT1 HJ HP
              rw [e1] at d1
              rw [e2] at d2 g2
              clear e1 e2
              go_wp2
              go_roundw
              case rel => exact ⟨k + 1, _, _, by omega, by go_num, HJ2, HP4⟩
              case measure => simp [intOf]; omega
            · have HJ2 := Lib.hid (show _ ∧ _ from ⟨hJ1, hT1⟩)
              have HP4 := Lib.hid (show _ ∧ _ from ⟨hP3, hP2.same hkn e2⟩)
              clear hJ hT hP1 hP2 hP3 hJ1 hT1 HJ HP
              rw [e1] at d1
              clear e1
              generalize gI t' k = z at *
              go_wp2
              go_roundw
              case rel => exact ⟨k + 1, _, _, by omega, by go_num, HJ2, HP4⟩
              case measure => simp [intOf]; omega
          · have hP3 := hP1.same hkn e1
            by_cases e2 : gI t' k = kb
            · have HJ2 := Lib.hid (show _ ∧ _ from ⟨hJ.setT hkn ka, hT.set2 k (.int .i64 ka)⟩)
              have HP4 := Lib.hid (show _ ∧ _ from ⟨hP3, hP2.put hkn e2⟩)
              clear hJ hT hP1 hP2 hP3 HJ HP
              rw [e2] at d2
              clear e2
              generalize gI o' k = z at *
              go_wp2
              go_roundw
              case rel => exact ⟨k + 1, _, _, by omega, by go_num, HJ2, HP4⟩
              case measure => simp [intOf]; omega
            · have HP4 := Lib.hid (show _ ∧ _ from ⟨hP3, hP2.same hkn e2⟩)
              clear hJ hT hP1 hP2 hP3 HP
              generalize gI o' k = z at *
              generalize gI t' k = z' at *
              go_wp2
              go_roundw
              case rel => exact ⟨k + 1, _, _, by omega, by go_num, HJ, HP4⟩
              case measure => simp [intOf]; omega
        · have : k = n := by omega
          subst this
          have ho := hP1.all Hlo.out
          have ht := hP2.all Hlt.out
          have kal : ka < k := by omega
          have hJ1 := hJ.setT kal x
          have hT1 := hT.set2 ka (.int .i64 x)
          have hJ2 := hJ1.setT kal y
          have hT2 := hT1.set2 ka (.int .i64 y)
          obtain ⟨c4, f1⟩ := hJ.atT kal
          have g1 := hJ1.clT
          obtain ⟨g2, g3⟩ := hJ1.atT kal
          rw [gI_set (by rw [hJ.lt]; exact kal), if_pos rfl] at g2
          have k1 := hJ2.clT
          obtain ⟨k2, k3⟩ := hJ2.atT kal
          rw [gI_set (by rw [hJ1.lt]; exact kal), if_pos rfl] at k2
          have Hnext : Hid (∀ (wz : World) (tz : List Int) (x' y' : Int), JT wz T OB TB cO cT k o2 tz → Two OB TB w wz → tz = mgT t' ka kb → x' = chB ka kb x → y' = chB ka kb y →
              (JT wz T OB TB cO cT k (mgO o' ka kb) (mgT t' ka kb) ∧ Two OB TB w wz ∧ Cls k (mgO o' ka kb) (mgT t' ka kb) ∧ (RepN k (mgO o' ka kb) x' ∧ RepN k (mgO o' ka kb) y'))) := Lib.hid (by
            intro wz tz x' y' h1 h2 h3 h4 h5
            subst h3 h4 h5
            rw [ho] at h1
            exact ⟨h1, h2, Hmg.out.1, by rw [Hx.out]; exact Hmg.out.2.2.1, by rw [Hy.out]; exact Hmg.out.2.2.2⟩)
          have Hmz : Hid (∀ z : Int, z = mgZ x y ka kb → (t2.set ka z) = mgT t' ka kb) := Lib.hid (by
            intro z hz
            rw [ht, hz]
            unfold mgT
            rw [← Hx.out, ← Hy.out, Int.toNat_natCast])
          have Hmu : Hid (muC k (mgO o' ka kb) (mgT t' ka kb) < muC k o' t' ∧ muC k (mgO o' ka kb) (mgT t' ka kb) < muC k o t) := Lib.hid (by
            refine ⟨Hmg.out.2.1, ?_⟩
            have h1 := Hmg.out.2.1
            rcases HM.out with ⟨h2, h3, _⟩ | h2
            · rw [← h2, ← h3]; exact h1
            · omega)
          rcases Int.lt_or_le x 0 with hx | hx
          · have hxk : x ≠ kb := by omega
            by_cases hy : y = kb
            · subst hy
              have HN := Lib.hid (Hnext.out _ _ x ka (hJ2.setT kal ka) (hT2.set2 ka (.int .i64 ka)) (by rw [List.set_set, List.set_set]; exact Hmz.out _ (by unfold mgZ; rw [if_pos hx]; unfold chB; rw [if_pos rfl])) (by unfold chB; rw [if_neg hxk]) (by unfold chB; rw [if_pos rfl]))
              generalize gI t2 ka = z4 at c4
              clear hJ hT hJ1 hJ2 hT1 hT2 hP1 hP2 ho ht Hmz Hnext Hmg HM Hlo Hlt HP HJ c0 Hx Hy
              go_wp2
              go_roundg (muC k (mgO o' ka kb) (mgT t' ka kb))
              case measure => have h1 := Hmu.out.1; have h2 := Hg.out; omega
              case rel => exact ⟨_, _, _, _, rfl, rfl, HN, Lib.hid (.inr Hmu.out.2), Lib.hid rfl⟩
            · skip
              have HN := Lib.hid (Hnext.out _ _ x y hJ2 hT2 (by rw [List.set_set]; exact Hmz.out _ (by unfold mgZ; rw [if_pos hx]; unfold chB; rw [if_neg hy])) (by unfold chB; rw [if_neg hxk]) (by unfold chB; rw [if_neg hy]))
              generalize gI t2 ka = z4 at c4
              clear hJ hT hJ1 hJ2 hT1 hT2 hP1 hP2 ho ht Hmz Hnext Hmg HM Hlo Hlt HP HJ c0 Hx Hy
              go_wp2
              go_roundg (muC k (mgO o' ka kb) (mgT t' ka kb))
              case measure => have h1 := Hmu.out.1; have h2 := Hg.out; omega
              case rel => exact ⟨_, _, _, _, rfl, rfl, HN, Lib.hid (.inr Hmu.out.2), Lib.hid rfl⟩
          · by_cases hxk : x = kb
            · subst hxk
              by_cases hy : y = kb
              · subst hy
                have HN := Lib.hid (Hnext.out _ _ ka ka (hJ1.setT kal ka) (hT1.set2 ka (.int .i64 ka)) (by rw [List.set_set]; exact Hmz.out _ (by unfold mgZ; rw [if_neg (by omega)]; unfold chB; rw [if_pos rfl])) (by unfold chB; rw [if_pos rfl]) (by unfold chB; rw [if_pos rfl]))
                generalize gI t2 ka = z4 at c4
                clear hJ hT hJ1 hJ2 hT1 hT2 hP1 hP2 ho ht Hmz Hnext Hmg HM Hlo Hlt HP HJ c0 Hx Hy
                go_wp2
                go_roundg (muC k (mgO o' ka kb) (mgT t' ka kb))
                case measure => have h1 := Hmu.out.1; have h2 := Hg.out; omega
                case rel => exact ⟨_, _, _, _, rfl, rfl, HN, Lib.hid (.inr Hmu.out.2), Lib.hid rfl⟩
              · skip
                have HN := Lib.hid (Hnext.out _ _ ka y (hJ1.setT kal ka) (hT1.set2 ka (.int .i64 ka)) (by rw [List.set_set]; exact Hmz.out _ (by unfold mgZ; rw [if_neg (by omega)]; unfold chB; rw [if_pos rfl])) (by unfold chB; rw [if_pos rfl]) (by unfold chB; rw [if_neg hy]))
                generalize gI t2 ka = z4 at c4
                clear hJ hT hJ1 hJ2 hT1 hT2 hP1 hP2 ho ht Hmz Hnext Hmg HM Hlo Hlt HP HJ c0 Hx Hy
                go_wp2
                go_roundg (muC k (mgO o' ka kb) (mgT t' ka kb))
                case measure => have h1 := Hmu.out.1; have h2 := Hg.out; omega
                case rel => exact ⟨_, _, _, _, rfl, rfl, HN, Lib.hid (.inr Hmu.out.2), Lib.hid rfl⟩
            · by_cases hy : y = kb
              · subst hy
                have HN := Lib.hid (Hnext.out _ _ x ka hJ1 hT1 (by exact Hmz.out _ (by unfold mgZ; rw [if_neg (by omega)]; unfold chB; rw [if_neg hxk])) (by unfold chB; rw [if_neg hxk]) (by unfold chB; rw [if_pos rfl]))
                generalize gI t2 ka = z4 at c4
                clear hJ hT hJ1 hJ2 hT1 hT2 hP1 hP2 ho ht Hmz Hnext Hmg HM Hlo Hlt HP HJ c0 Hx Hy
                go_wp2
                go_roundg (muC k (mgO o' ka kb) (mgT t' ka kb))
                case measure => have h1 := Hmu.out.1; have h2 := Hg.out; omega
                case rel => exact ⟨_, _, _, _, rfl, rfl, HN, Lib.hid (.inr Hmu.out.2), Lib.hid rfl⟩
              · skip
                have HN := Lib.hid (Hnext.out _ _ x y hJ1 hT1 (by exact Hmz.out _ (by unfold mgZ; rw [if_neg (by omega)]; unfold chB; rw [if_neg hxk])) (by unfold chB; rw [if_neg hxk]) (by unfold chB; rw [if_neg hy]))
                generalize gI t2 ka = z4 at c4
                clear hJ hT hJ1 hJ2 hT1 hT2 hP1 hP2 ho ht Hmz Hnext Hmg HM Hlo Hlt HP HJ c0 Hx Hy
                go_wp2
                go_roundg (muC k (mgO o' ka kb) (mgT t' ka kb))
                case measure => have h1 := Hmu.out.1; have h2 := Hg.out; omega
                case rel => exact ⟨_, _, _, _, rfl, rfl, HN, Lib.hid (.inr Hmu.out.2), Lib.hid rfl⟩
end Go.Proofs.Ytdkkmmljaijomaa
