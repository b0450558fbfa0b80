/- codemasonref.ClashCheck, codemasonkeep.clashes, codemasonref.Clash, codemasonkeep.most; color.Least. -/
import Derived.Test.YtckmedmebabkjaaDoorColB
import Derived.Test.YtckmedmebabkjaaDoorColP
namespace Go.Proofs.YtckmedmebabkjaaDoor
open Go.RowKit

theorem insideP {n : Int} {x y : Int} : insideB n [x, y] = decide (inP n (x, y)) := by
  unfold insideB inP
  simp only [List.all_cons, List.all_nil, Bool.and_true, ← Bool.decide_and]
  refine decide_eq_decide.2 ?_
  show (0 ≤ x ∧ x < n) ∧ 0 ≤ y ∧ y < n ↔ 0 ≤ x ∧ x < n ∧ 0 ≤ y ∧ y < n
  omega
set_option maxHeartbeats 4000000 in
theorem clashCheck_calls (n : Int) (A : Option Addr) (ps : List (Int × Int)) (cap : Nat) (w : World) (hA : RdP w A ps) (hm : ps.length ≤ maxLen) :
    Calls Tryd.prog 18 #[.int .i64 n, .slice A ps.length cap] w fun e w' => e = .returned (.int .i64 (clErr n ps)) ∧ Below w.heap.size w w' := by
  unfold maxLen at hm
  have HA := Lib.hid hA; clear hA
  by_cases hn : n < 1 ∨ 8 < n ∨ 28 < ps.length
  · have He := Lib.hid (clErr_1 hn)
    rw [He.out]
    have hd : n < 1 ∨ (1 ≤ n ∧ 8 < n) ∨ (1 ≤ n ∧ n ≤ 8 ∧ decide ((28 : Int) < (ps.length : Int)) = true) := by
      simp only [decide_eq_true_eq]; omega
    clear hn
    rcases hd with h1 | ⟨h1, h2⟩ | ⟨h1, h2, h3⟩
    all_goals
      go_enter Tryd.func18, Tryd.ntmps18
      go_wp2
      all_goals first | (exfalso; simp only [decide_eq_true_eq] at *; omega) | (go_ret; exact ⟨rfl, Below.refl _ _⟩)
  obtain ⟨m, rfl⟩ := Int.eq_ofNat_of_zero_le (show 0 ≤ n by omega)
  have h1 : 1 ≤ m := by omega
  have h8 : m ≤ 8 := by omega
  have q1 : decide ((m : Int) < 1) = false := decide_eq_false (by omega)
  have q2 : decide (8 < m) = false := decide_eq_false (by omega)
  have q3 : decide (28 < ps.length) = false := decide_eq_false (by omega)
  have h28 : ps.length ≤ 28 := by omega
  have HN := Lib.hid hn
  clear hn hm
  go_enter Tryd.func18, Tryd.ntmps18
  go_wp2
  clear q1 q2 q3
  go_loopw [22] (fun i wr => ∃ k : Nat, k ≤ ps.length ∧ i = .int .i64 k ∧ Hid (∀ p ∈ ps.take k, inP m p) ∧ Below w.heap.size w wr) (fun i _ => ps.length - (intOf i).toNat)
  case atStart => exact ⟨0, Nat.zero_le _, rfl, fun p hp => by simp at hp, Below.refl _ _⟩
  case round =>
    obtain ⟨k, hk, rfl, hP, hW⟩ := hrel
    have HW := Lib.hid hW
    have hw2 := hW.size
    by_cases hlt : k < ps.length
    · obtain ⟨b, off, rfl, hb, c0, c1⟩ := RdP.at2 (Rd.below HA.out hW) hlt
      have Hst := Lib.hid (fun h => clTail (p := inP m) hlt hP.out h)
      have Hmem := Lib.hid (List.getElem_mem hlt)
      clear hW hP
      generalize ps[k] = p at *
      obtain ⟨x, y⟩ := p
      dsimp only at c0 c1
      by_cases hin : inP m (x, y)
      · have Hin := Lib.hid hin
        have Hi := Lib.hid (insideP (n := m) (x := x) (y := y) |>.trans (decide_eq_true hin))
        clear hin
        go_wp2_with (go_at_call 25; refine (inside_calls _ _ [x, y] _ _ (rdI_new2 _ _ _ _ _ (by simp)) (by simp [maxLen])).mono ?_; rintro e w' ⟨rfl, rfl⟩; rw [Hi.out])
        refine ⟨⟨k + 1, by omega, by go_num, Hst.out Hin.out, (HW.out.alloc hw2 _).alloc (by simp; omega) _⟩, by simp [intOf]; omega⟩
      · have Hin := Lib.hid hin
        have Hi := Lib.hid (insideP (n := m) (x := x) (y := y) |>.trans (decide_eq_false hin))
        clear hin
        have Hf := Lib.hid (clErr_2 HN.out Hmem.out Hin.out)
        go_wp2_with (go_at_call 25; refine (inside_calls _ _ [x, y] _ _ (rdI_new2 _ _ _ _ _ (by simp)) (by simp [maxLen])).mono ?_; rintro e w' ⟨rfl, rfl⟩; rw [Hi.out])
        go_ret
        exact ⟨ret_int Hf.out.symm, (HW.out.alloc hw2 _).alloc (by simp; omega) _⟩
    · have : k = ps.length := by omega
      subst this
      have Hall := Lib.hid (show ∀ p ∈ ps, inP m p by have := hP.out; rwa [List.take_length] at this)
      clear hP hlt hk hW
      go_wp2
      go_loopw [37] (fun i wr => ∃ k : Nat, k ≤ ps.length ∧ i = .int .i64 k ∧ Hid (∀ p ∈ ps.take k, p.1 ≠ p.2) ∧ Below w.heap.size w wr) (fun i _ => ps.length - (intOf i).toNat)
      case atStart => exact ⟨0, Nat.zero_le _, rfl, fun p hp => by simp at hp, HW.out⟩
      case round =>
        clear HW hw2
        obtain ⟨k, hk, rfl, hP, hW⟩ := hrel
        have hw2 := hW.size
        have HW := Lib.hid hW
        by_cases hlt : k < ps.length
        · obtain ⟨b, off, rfl, hb, c0, c1⟩ := RdP.at2 (Rd.below HA.out hW) hlt
          have Hst := Lib.hid (fun h => clTail (p := fun p : Int × Int => p.1 ≠ p.2) hlt hP.out h)
          have Hmem := Lib.hid (List.getElem_mem hlt)
          clear hP hW
          generalize ps[k] = p at *
          obtain ⟨x, y⟩ := p
          dsimp only at c0 c1
          by_cases he : x = y
          · subst he
            have Hf := Lib.hid (clErr_3 HN.out Hall.out Hmem.out rfl)
            have q : (x == x) = true := by simp
            go_wp2
            go_ret
            exact ⟨ret_int Hf.out.symm, HW.out.alloc hw2 _⟩
          · have q : (x == y) = false := by rw [beq_eq_false_iff_ne]; exact he
            have He := Lib.hid he
            clear he
            go_wp2
            go_roundw
            case rel => exact ⟨k + 1, by omega, by go_num, Hst.out He.out, HW.out.alloc hw2 _⟩
            case measure => simp [intOf]; omega
        · have : k = ps.length := by omega
          subst this
          have Hok : Hid (ClOk m ps) := ⟨h1, h8, h28, Hall.out, by have := hP.out; rwa [List.take_length] at this⟩
          clear hW hP
          go_wp2
          go_ret
          exact ⟨ret_int Hok.out.err.symm, HW.out⟩
set_option maxHeartbeats 1000000 in
theorem keepClashes_calls (n : Int) (A : Option Addr) (ps : List (Int × Int)) (cap : Nat) (w : World) (hA : RdP w A ps) (hm : ps.length ≤ maxLen) :
    Calls Tryd.prog 6 #[.int .i64 n, .slice A ps.length cap] w fun e w' => e = .returned (.bool (clErr n ps == 0)) ∧ Below w.heap.size w w' := by
  have HA := Lib.hid hA; clear hA
  go_enter Tryd.func6, Tryd.ntmps6
  go_wp2_with (go_at_call 18; refine (clashCheck_calls _ _ _ _ _ HA.out hm).mono ?_; rintro e w' ⟨rfl, hB⟩; have HB := Lib.hid hB; clear hB)
  go_ret
  exact ⟨rfl, HB.out⟩

/-- Do two clash, by the first k pairs? -/
theorem Cl.take_no {ps : List (Int × Int)} {i j k : Nat} (hk : k < ps.length) (h : ¬ Cl (ps.take k) i j) (h' : ¬ ((ps[k].1 = i ∧ ps[k].2 = j) ∨ (ps[k].1 = j ∧ ps[k].2 = i))) : ¬ Cl (ps.take (k + 1)) i j := by
  rw [List.take_succ_eq_append_getElem hk]
  rintro ⟨p, hp, he⟩
  rcases List.mem_append.1 hp with hp | hp
  · exact h ⟨p, hp, he⟩
  · simp at hp; subst hp; exact h' he
def ClB (ps : List (Int × Int)) (i j : Nat) (b : Bool) : Prop := b = true ↔ Cl ps i j
set_option maxHeartbeats 4000000 in
theorem clash_calls (A : Option Addr) (ps : List (Int × Int)) (cap i j : Nat) (w : World) (hA : RdP w A ps) (hm : ps.length ≤ maxLen) (b : Bool) (hb : ClB ps i j b) :
    Calls Tryd.prog 10 #[.slice A ps.length cap, .int .i64 i, .int .i64 j] w fun e w' => e = .returned (.bool b) ∧ Below w.heap.size w w' := by
  unfold maxLen at hm
  have HA := Lib.hid hA; clear hA
  have Hb := Lib.hid hb; clear hb
  go_enter Tryd.func10, Tryd.ntmps10
  go_wp2
  go_loopw [11] (fun c wr => ∃ k : Nat, k ≤ ps.length ∧ c = .int .i64 k ∧ Hid (¬ Cl (ps.take k) i j) ∧ Below w.heap.size w wr) (fun c _ => ps.length - (intOf c).toNat)
  case atStart => exact ⟨0, Nat.zero_le _, rfl, fun ⟨p, hp, _⟩ => by simp at hp, Below.refl _ _⟩
  case round =>
    obtain ⟨k, hk, rfl, hP, hW⟩ := hrel
    have HW := Lib.hid hW
    have hw2 := hW.size
    by_cases hlt : k < ps.length
    · obtain ⟨b1, off, rfl, hb, c0, c1⟩ := RdP.at2 (Rd.below HA.out hW) hlt
      have Hst := Lib.hid (Cl.take_no hlt hP.out)
      have Hyes := Lib.hid (show ((ps[k].1 = i ∧ ps[k].2 = j) ∨ (ps[k].1 = j ∧ ps[k].2 = i)) → Cl ps i j from fun h => ⟨_, List.getElem_mem hlt, h⟩)
      clear hW hP
      generalize ps[k] = p at *
      obtain ⟨x, y⟩ := p
      dsimp only at c0 c1
      have HS2 : Hid (¬ ((x = i ∧ y = j) ∨ (x = j ∧ y = i)) → ¬ Cl (ps.take (k + 1)) i j) := Hst.out
      have HY2 : Hid (((x = i ∧ y = j) ∨ (x = j ∧ y = i)) → Cl ps i j) := Hyes.out
      clear Hst Hyes
      cases e1 : (x == (i : Int)) <;> cases e2 : (y == (j : Int)) <;> cases e3 : (x == (j : Int)) <;> cases e4 : (y == (i : Int))
      all_goals
        go_wp2
        all_goals
          have e1' := e1
          have e2' := e2
          have e3' := e3
          have e4' := e4
          simp only [beq_iff_eq, beq_eq_false_iff_ne] at e1' e2' e3' e4'
        first
          | (go_ret
             exact ⟨ret_bool (Hb.out.2 (HY2.out (by omega))).symm, HW.out.alloc hw2 _⟩)
          | (go_roundw
             case rel => exact ⟨k + 1, by omega, by go_num, HS2.out (by omega), HW.out.alloc hw2 _⟩
             case measure => simp [intOf]; omega)
    · have : k = ps.length := by omega
      subst this
      have Hn : Hid (b = false) := by
        have h := hP.out
        rw [List.take_length] at h
        cases b
        · rfl
        · exact absurd (Hb.out.1 rfl) h
      clear hW hP
      go_wp2
      go_ret
      exact ⟨ret_bool Hn.out.symm, HW.out⟩

def mostN : List Nat → Nat → Nat
  | [], k => k
  | x :: r, k => mostN r (if k < x + 1 then x + 1 else k)
theorem mostN_le {l : List Nat} {k b : Nat} (hk : k ≤ b) (h : ∀ x ∈ l, x < b) : mostN l k ≤ b := by
  induction l generalizing k with
  | nil => exact hk
  | cons x r ih =>
    have := h x (by simp)
    exact ih (by split <;> omega) fun y hy => h y (by simp [hy])
theorem mostN_ge {l : List Nat} {k : Nat} : k ≤ mostN l k ∧ ∀ x ∈ l, x < mostN l k := by
  induction l generalizing k with
  | nil => exact ⟨Nat.le_refl _, by simp⟩
  | cons x r ih =>
    obtain ⟨h1, h2⟩ := ih (k := if k < x + 1 then x + 1 else k)
    show k ≤ mostN r (if k < x + 1 then x + 1 else k) ∧ ∀ y ∈ x :: r, y < mostN r (if k < x + 1 then x + 1 else k)
    generalize mostN r (if k < x + 1 then x + 1 else k) = z at *
    refine ⟨?_, fun y hy => ?_⟩
    · split at h1 <;> omega
    · rcases List.mem_cons.1 hy with rfl | hy
      · split at h1 <;> omega
      · exact h2 y hy
theorem mostN_drop {l : List Nat} {k m : Nat} (hk : k < l.length) : mostN (l.drop k) m = mostN (l.drop (k + 1)) (if m < l[k] + 1 then l[k] + 1 else m) := by
  rw [List.drop_eq_getElem_cons hk]; rfl
set_option maxHeartbeats 1000000 in
theorem most_calls (A : Option Addr) (l : List Nat) (cap : Nat) (w : World) (hA : RdC w A l) (hm : l.length ≤ 1000) (hb : ∀ x ∈ l, x < 1000) :
    Calls Tryd.prog 11 #[.slice A l.length cap] w fun e w' => e = .returned (.int .i64 (mostN l 0 : Nat)) ∧ w' = w := by
  have HA := Lib.hid hA; clear hA
  have Hb := Lib.hid hb; clear hb
  go_enter Tryd.func11, Tryd.ntmps11
  go_wp2
  go_loop [3, 8] (fun m i => ∃ k m' : Nat, k ≤ l.length ∧ i = .int .i64 k ∧ m = .int .i64 m' ∧ Hid (mostN (l.drop k) m' = mostN l 0)) (fun _ i => l.length - (intOf i).toNat)
  case atStart => exact ⟨0, 0, Nat.zero_le _, rfl, rfl, Lib.hid rfl⟩
  case round =>
    obtain ⟨k, m, hk, rfl, rfl, hP⟩ := hrel
    by_cases hlt : k < l.length
    · obtain ⟨b, off, rfl, hb, c0⟩ := RdC.at1 HA.out hlt
      have hs := Hb.out _ (List.getElem_mem hlt)
      have Hst := Lib.hid ((mostN_drop hlt).symm.trans hP.out)
      clear hP
      generalize l[k] = x at *
      by_cases hc : m < x + 1
      · have q : decide ((m : Int) < (x : Int) + 1) = true := decide_eq_true (by omega)
        have Hst2 : Hid (mostN (l.drop (k + 1)) (x + 1) = mostN l 0) := by have := Hst.out; rwa [if_pos hc] at this
        clear Hst
        go_wp2
        all_goals first | (exfalso; omega) | skip
        go_round
        case rel => exact ⟨k + 1, x + 1, by omega, by go_num, by go_num, Hst2⟩
        case measure => simp [intOf]; omega
      · have q : decide ((m : Int) < (x : Int) + 1) = false := decide_eq_false (by omega)
        have Hst2 : Hid (mostN (l.drop (k + 1)) m = mostN l 0) := by have := Hst.out; rwa [if_neg hc] at this
        clear Hst
        go_wp2
        all_goals first | (exfalso; omega) | skip
        go_round
        case rel => exact ⟨k + 1, m, by omega, by go_num, rfl, Hst2⟩
        case measure => simp [intOf]; omega
    · have : k = l.length := by omega
      subst this
      have H := Lib.hid (show m = mostN l 0 by have := hP.out; rwa [List.drop_length] at this)
      clear hP
      go_wp2
      go_ret
      exact ⟨ret_int (by rw [H.out]), rfl⟩
end Go.Proofs.YtckmedmebabkjaaDoor
