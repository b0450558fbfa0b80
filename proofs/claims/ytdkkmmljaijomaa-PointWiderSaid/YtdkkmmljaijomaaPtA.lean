/- Pointers: api.Point; point.wrong and codemasonref.PointCheck answer ptErr. -/
import Derived.Test.YtdkkmmljaijomaaOwn
import Derived.Test.YtdkkmmljaijomaaInside
import Derived.BigGuardPart
namespace Go.Proofs.Ytdkkmmljaijomaa
open Go.RowKit

structure Pt where
  kind : Int
  to : Int
  from_ : Int
def Pt.cells (p : Pt) : List Value := [.int .i64 p.kind, .int .i64 p.to, .int .i64 p.from_]
abbrev RdPt (w : World) (A : Option Addr) (l : List Pt) : Prop := Rd Pt.cells 3 w A l
theorem RdPt.at3 {w : World} {A : Option Addr} {l : List Pt} (h : RdPt w A l) {k : Nat} (hk : k < l.length) :
    ∃ b off, A = some ⟨b, off, none⟩ ∧ b < w.heap.size ∧ w.cell? ⟨b, off + k * 3, none⟩ = some (.int .i64 l[k].kind) ∧ w.cell? ⟨b, off + k * 3 + 1, none⟩ = some (.int .i64 l[k].to) ∧
      w.cell? ⟨b, off + k * 3 + 2, none⟩ = some (.int .i64 l[k].from_) := by
  obtain ⟨b, off, e, hb, hc⟩ := h.at_ hk
  exact ⟨b, off, e, hb, by simpa [Pt.cells] using hc 0 (by omega), by simpa [Pt.cells] using hc 1 (by omega), by simpa [Pt.cells] using hc 2 (by omega)⟩
def ptErr1 (n : Int) (p : Pt) : Int := if p.kind < 1 ∨ 4 < p.kind then 6 else if insideB n [p.to, p.from_] then 0 else 2
def ptErrs (n : Int) : List Pt → Int
  | [] => 0
  | p :: r => if ptErr1 n p = 0 then ptErrs n r else ptErr1 n p
def ptBig (n : Int) (l : List Pt) (s : List Int) : Prop := n < 1 ∨ 8 < n ∨ 12 < l.length ∨ 200 < s.length
instance (n : Int) (l : List Pt) (s : List Int) : Decidable (ptBig n l s) := by unfold ptBig; exact inferInstance
def ptErr (n : Int) (l : List Pt) (s : List Int) : Int :=
  if ptBig n l s then 1 else if ptErrs n l ≠ 0 then ptErrs n l else if insideB l.length s then 0 else 5
theorem ptErrs_drop {n : Int} {l : List Pt} {k : Nat} {E : Int} (hk : k < l.length) (h0 : ptErrs n (l.drop k) = E) :
    (∀ e, ptErr1 n l[k] = e → e ≠ 0 → E = e) ∧ (ptErr1 n l[k] = 0 → ptErrs n (l.drop (k + 1)) = E) := by
  rw [List.drop_eq_getElem_cons hk, show ∀ t r, ptErrs n (t :: r) = if ptErr1 n t = 0 then ptErrs n r else ptErr1 n t from fun _ _ => rfl] at h0
  constructor
  · intro e he hne; rw [if_neg (by rw [he]; exact hne)] at h0; rw [← h0, he]
  · intro h; rw [if_pos h] at h0; exact h0
theorem inside2 {n x y : Int} : insideB n [x, y] = true ↔ 0 ≤ x ∧ x < n ∧ 0 ≤ y ∧ y < n := by
  unfold insideB
  simp only [List.all_cons, List.all_nil, Bool.and_true, Bool.and_eq_true, decide_eq_true_eq]
  omega
theorem ptErr1_6 {n k a b : Int} (h : k < 1 ∨ 4 < k) : ptErr1 n ⟨k, a, b⟩ = 6 := by unfold ptErr1; rw [if_pos h]
theorem ptErr1_2 {n k a b : Int} (h : ¬ (k < 1 ∨ 4 < k)) (h' : ¬ (0 ≤ a ∧ a < n ∧ 0 ≤ b ∧ b < n)) : ptErr1 n ⟨k, a, b⟩ = 2 := by
  unfold ptErr1; rw [if_neg h, if_neg (by rw [inside2]; exact h')]
theorem ptErr1_0 {n k a b : Int} (h : ¬ (k < 1 ∨ 4 < k)) (h' : 0 ≤ a ∧ a < n ∧ 0 ≤ b ∧ b < n) : ptErr1 n ⟨k, a, b⟩ = 0 := by
  unfold ptErr1; rw [if_neg h, if_pos (by rw [inside2]; exact h')]
/-- What steps that may be are. -/
structure PtOk (n : Nat) (l : List Pt) : Prop where
  n1 : 1 ≤ n
  n8 : n ≤ 8
  len : l.length ≤ 12
  kind : ∀ p ∈ l, 1 ≤ p.kind ∧ p.kind ≤ 4
  ins : ∀ p ∈ l, 0 ≤ p.to ∧ p.to < n ∧ 0 ≤ p.from_ ∧ p.from_ < n
theorem ptErrs_ok {n : Int} : ∀ {l : List Pt}, ptErrs n l = 0 → ∀ p ∈ l, (1 ≤ p.kind ∧ p.kind ≤ 4) ∧ 0 ≤ p.to ∧ p.to < n ∧ 0 ≤ p.from_ ∧ p.from_ < n
  | [], _, p, hp => by cases hp
  | q :: r, h, p, hp => by
    rw [show ptErrs n (q :: r) = if ptErr1 n q = 0 then ptErrs n r else ptErr1 n q from rfl] at h
    by_cases h0 : ptErr1 n q = 0
    · rw [if_pos h0] at h
      rcases List.mem_cons.1 hp with rfl | hp
      · unfold ptErr1 at h0
        split at h0
        · cases h0
        · rename_i h1
          split at h0
          · rename_i h2; rw [inside2] at h2; exact ⟨by omega, h2⟩
          · cases h0
      · exact ptErrs_ok h p hp
    · rw [if_neg h0] at h; exact absurd h h0
theorem ptErrs_of {n : Int} : ∀ {l : List Pt}, (∀ p ∈ l, (1 ≤ p.kind ∧ p.kind ≤ 4) ∧ 0 ≤ p.to ∧ p.to < n ∧ 0 ≤ p.from_ ∧ p.from_ < n) → ptErrs n l = 0
  | [], _ => rfl
  | q :: r, h => by
    obtain ⟨h1, h2⟩ := h q (by simp)
    rw [show ptErrs n (q :: r) = if ptErr1 n q = 0 then ptErrs n r else ptErr1 n q from rfl, if_pos (ptErr1_0 (by omega) h2)]
    exact ptErrs_of fun p hp => h p (by simp [hp])
theorem ptErr_ok {n : Int} {l : List Pt} {s : List Int} (h : ptErr n l s = 0) : ∃ m : Nat, n = m ∧ PtOk m l ∧ insideB l.length s = true ∧ s.length ≤ 200 := by
  unfold ptErr at h
  split at h
  · cases h
  · rename_i h1
    unfold ptBig at h1
    split at h
    · rename_i h2; exact absurd h h2
    · rename_i h2
      split at h
      · rename_i h3
        obtain ⟨m, rfl⟩ := Int.eq_ofNat_of_zero_le (show 0 ≤ n by omega)
        have h4 := ptErrs_ok (Classical.not_not.1 h2)
        exact ⟨m, rfl, ⟨by omega, by omega, by omega, fun p hp => (h4 p hp).1, fun p hp => (h4 p hp).2⟩, h3, by omega⟩
      · cases h

/-- The closure of point.wrong: out of 0 .. n - 1? -/
def outB (n : Int) (x : Int) : Bool := decide (x < 0 ∨ n ≤ x)
set_option maxHeartbeats 400000 in
theorem out_no (N n cap : Nat) (A : Option Addr) (x : Int) (w : World) (hc : w.cell? ⟨N, 0, none⟩ = some (.slice A n cap)) (h : outB n x = false) :
    Calls Try.prog 55 #[.int .i64 x, .pointer (some ⟨N, 0, none⟩)] w fun e w' => e = .returned (.bool false) ∧ w' = w := by
  have h' : ¬ (x < 0 ∨ (n : Int) ≤ x) := of_decide_eq_false h
  have h1 : decide (x < 0) = false := decide_eq_false (by omega)
  have h2 : decide ((n : Int) ≤ x) = false := decide_eq_false (by omega)
  clear h h'
  go_enter Try.func55, Try.ntmps55
  go_wp2
  go_ret
  exact ⟨ret_bool (by first | rfl | (simp at *; omega)), rfl⟩
set_option maxHeartbeats 400000 in
theorem out_yes (N n cap : Nat) (A : Option Addr) (x : Int) (w : World) (hc : w.cell? ⟨N, 0, none⟩ = some (.slice A n cap)) (h : outB n x = true) :
    Calls Try.prog 55 #[.int .i64 x, .pointer (some ⟨N, 0, none⟩)] w fun e w' => e = .returned (.bool true) ∧ w' = w := by
  have h' : x < 0 ∨ (n : Int) ≤ x := of_decide_eq_true h
  clear h
  by_cases h1 : x < 0
  · clear h'
    go_enter Try.func55, Try.ntmps55
    go_wp2
    go_ret
    exact ⟨rfl, rfl⟩
  · have h2 : (n : Int) ≤ x := by omega
    have h1' : decide (x < 0) = false := decide_eq_false h1
    clear h' h1
    go_enter Try.func55, Try.ntmps55
    go_wp2
    go_ret
    exact ⟨ret_bool (by first | rfl | (simp at *; omega)), rfl⟩
theorem take_all_succ {α : Type} {p : α → Prop} {l : List α} {k : Nat} (hk : k < l.length) (h : ∀ x ∈ l.take k, p x) (h' : p l[k]) : ∀ x ∈ l.take (k + 1), p x := by
  rw [List.take_succ_eq_append_getElem hk]
  intro x hx
  rcases List.mem_append.1 hx with h1 | h1
  · exact h x h1
  · simp at h1; subst h1; exact h'
def OutEnd (n : Nat) (l : List Int) (w : World) (e : Ending) (w' : World) : Prop :=
  w' = w ∧ ∃ m : Int, e = .returned (.int .i64 m) ∧ ((m = -1 ∧ ∀ x ∈ l, outB n x = false) ∨ (0 ≤ m ∧ ∃ x ∈ l, outB n x = true))
set_option maxHeartbeats 400000 in
theorem outIndex_calls (N n capn : Nat) (An A : Option Addr) (l : List Int) (cap : Nat) (w : World) (hc : w.cell? ⟨N, 0, none⟩ = some (.slice An n capn)) (hA : RdI w A l) (hm : l.length ≤ maxLen) :
    Calls Try.prog 59 #[.slice A l.length cap, .func (.func 55) #[] #[.pointer (some ⟨N, 0, none⟩)]] w (OutEnd n l w) := by
  unfold maxLen at hm
  have HA := Lib.hid hA; clear hA
  have Hc := Lib.hid hc; clear hc
  go_enter Try.func59, Try.ntmps59
  go_wp2
  go_loop [8] (fun i => ∃ k : Nat, k ≤ l.length ∧ i = .int .i64 k ∧ Hid (∀ x ∈ l.take k, outB n x = false)) (fun i => l.length - (intOf i).toNat)
  case atStart => exact ⟨0, Nat.zero_le _, rfl, fun x hx => by simp at hx⟩
  case round =>
    obtain ⟨k, hk, rfl, hP⟩ := hrel
    by_cases hlt : k < l.length
    · obtain ⟨b, off, rfl, hb, c0⟩ := RdI.at1 HA.out hlt
      have hmem := List.getElem_mem hlt
      have Hmem := Lib.hid hmem
      have Hst := Lib.hid (take_all_succ (p := fun x => outB n x = false) hlt hP.out)
      clear hmem hP
      generalize l[k] = x at *
      cases hx : outB n x
      · have Hx := Lib.hid hx
        clear hx
        go_wp2_with (go_at_call 55; refine (out_no N n capn An _ _ Hc.out Hx.out).mono ?_; rintro e w' ⟨rfl, rfl⟩)
        go_round
        case rel => exact ⟨k + 1, by omega, by go_num, Hst.out Hx.out⟩
        case measure => simp [intOf]; omega
      · have Hx := Lib.hid hx
        clear hx
        go_wp2_with (go_at_call 55; refine (out_yes N n capn An _ _ Hc.out Hx.out).mono ?_; rintro e w' ⟨rfl, rfl⟩)
        go_ret
        exact ⟨rfl, k, rfl, .inr ⟨by omega, x, Hmem.out, Hx.out⟩⟩
    · go_wp2
      go_ret
      have : k = l.length := by omega
      subst this
      have := hP.out
      rw [List.take_length] at this
      exact ⟨rfl, -1, rfl, .inl ⟨rfl, this⟩⟩
set_option maxHeartbeats 400000 in
theorem outContains_calls (N n capn : Nat) (An A : Option Addr) (l : List Int) (cap : Nat) (w : World) (hc : w.cell? ⟨N, 0, none⟩ = some (.slice An n capn)) (hA : RdI w A l) (hm : l.length ≤ maxLen) :
    Calls Try.prog 54 #[.slice A l.length cap, .func (.func 55) #[] #[.pointer (some ⟨N, 0, none⟩)]] w fun e w' => e = .returned (.bool (!insideB n l)) ∧ w' = w := by
  have HA := Lib.hid hA; clear hA
  have hall : (∀ x ∈ l, outB n x = false) → insideB n l = true := fun h => by
    unfold insideB
    rw [List.all_eq_true]
    intro x hx
    have := of_decide_eq_false (h x hx)
    simp only [decide_eq_true_eq]
    omega
  have hany : (∃ x ∈ l, outB n x = true) → insideB n l = false := fun ⟨x, hx, h⟩ => by
    unfold insideB
    rw [List.all_eq_false]
    refine ⟨x, hx, ?_⟩
    have := of_decide_eq_true h
    simp only [decide_eq_true_eq]
    omega
  have Hall := Lib.hid hall
  have Hany := Lib.hid hany
  clear hall hany
  go_enter Try.func54, Try.ntmps54
  go_wp2_with fail
  refine (outIndex_calls N n capn An A l cap w hc HA.out hm).mono ?_
  rintro e w' ⟨rfl, m, rfl, h⟩
  rcases h with ⟨rfl, h⟩ | ⟨h0, h⟩
  · have Ha := Lib.hid (Hall.out h)
    clear h hm
    go_wp2
    go_ret
    exact ⟨ret_bool (by rw [Ha.out]; first | rfl | simp), rfl⟩
  · have Ha := Lib.hid (Hany.out h)
    clear h hm
    go_wp2
    go_ret
    exact ⟨ret_bool (by rw [Ha.out]; try (simp; try omega)), rfl⟩

set_option maxRecDepth 100000 in
set_option maxHeartbeats 4000000 in
theorem ptWrong_calls (n : Int) (A B : Option Addr) (l : List Pt) (s : List Int) (cap capB : Nat) (w : World) (hA : RdPt w A l) (hm : l.length ≤ maxLen) (hB : RdI w B s) (hmB : s.length ≤ maxLen) :
    Calls Try.prog 43 #[.int .i64 n, .slice A l.length cap, .slice B s.length capB] w fun e w' => e = .returned (.int .i64 (ptErr n l s)) ∧ Below w.heap.size w w' := by
  unfold maxLen at hm hmB
  have hB1 : Below w.heap.size w (w.alloc (.cells #[.slice A l.length cap] 41)) := (Below.refl _ _).alloc (Nat.le_refl _) _
  have HB1 := Lib.hid hB1
  have HA := Lib.hid (Rd.below hA hB1)
  have HBs := Lib.hid (Rd.below hB hB1)
  have Hbox := Lib.hid (cell_new w #[.slice A l.length cap] 41 w.heap.size rfl 0)
  clear hA hB hB1
  by_cases hn : ptBig n l s
  · have He := Lib.hid (show ptErr n l s = 1 by unfold ptErr; rw [if_pos hn])
    unfold ptBig at hn
    have hd : n < 1 ∨ (1 ≤ n ∧ 8 < n) ∨ (1 ≤ n ∧ n ≤ 8 ∧ decide ((12 : Int) < (l.length : Int)) = true) ∨ (1 ≤ n ∧ n ≤ 8 ∧ decide ((12 : Int) < (l.length : Int)) = false ∧ decide ((200 : Int) < (s.length : Int)) = true) := by
      simp only [decide_eq_true_eq, decide_eq_false_iff_not]; omega
    clear hn
    rcases hd with h1 | ⟨h1, h2⟩ | ⟨h1, h2, h3⟩ | ⟨h1, h2, h3, h4⟩
    all_goals
      go_enter Try.func43, Try.ntmps43
      go_wp2
      all_goals first | (exfalso; simp only [decide_eq_true_eq, decide_eq_false_iff_not] at *; omega) | (go_ret; exact ⟨ret_int He.out.symm, HB1.out⟩)
  have hE := show ptErr n l s = if ptErrs n l ≠ 0 then ptErrs n l else if insideB l.length s then 0 else 5 by unfold ptErr; rw [if_neg hn]
  have HE := Lib.hid hE
  unfold ptBig at hn
  obtain ⟨m, rfl⟩ := Int.eq_ofNat_of_zero_le (show 0 ≤ n by omega)
  have h1 : 1 ≤ m := by omega
  have h8 : m ≤ 8 := by omega
  have h12 : l.length ≤ 12 := by omega
  have h200 : s.length ≤ 200 := by omega
  have q1 : decide ((m : Int) < 1) = false := decide_eq_false (by omega)
  have q2 : decide (8 < m) = false := decide_eq_false (by omega)
  have q3 : decide (12 < l.length) = false := decide_eq_false (by omega)
  have q4 : decide (200 < s.length) = false := decide_eq_false (by omega)
  clear hn hm hmB hE
  go_enter Try.func43, Try.ntmps43
  go_wp2
  clear q1 q2 q3 q4
  go_loopw [27] (fun i wr => ∃ k : Nat, k ≤ l.length ∧ i = .int .i64 k ∧ Hid (ptErrs m (l.drop k) = ptErrs m l) ∧ Below (w.heap.size + 1) (w.alloc (.cells #[.slice A l.length cap] 41)) wr) (fun i _ => l.length - (intOf i).toNat)
  case atStart => exact ⟨0, Nat.zero_le _, rfl, rfl, Below.refl _ _⟩
  case round =>
    obtain ⟨k, hk, rfl, hP, hW⟩ := hrel
    have hs0 : (w.alloc (.cells #[.slice A l.length cap] 41)).heap.size = w.heap.size + 1 := by simp
    have HW := Lib.hid hW
    have hw2 := hW.size
    rw [hs0] at hw2
    have HWw := Lib.hid (HB1.out.trans (hW.mono (Nat.le_succ _)))
    by_cases hlt : k < l.length
    · obtain ⟨b, off, rfl, hb, c0, c1, c2⟩ := RdPt.at3 (Rd.below HA.out (by rw [hs0]; exact hW)) hlt
      have HS := Lib.hid (ptErrs_drop hlt hP.out)
      clear hW hP hs0
      generalize l[k] = p at *
      obtain ⟨x, y, z⟩ := p
      dsimp only at c0 c1 c2
      by_cases hk1 : x < 1 ∨ 4 < x
      · have Hne := Lib.hid (HS.out.1 6 (ptErr1_6 hk1) (by decide))
        have He := Lib.hid (show ptErr m l s = 6 by rw [HE.out, Hne.out]; rfl)
        rcases (show x < 1 ∨ (1 ≤ x ∧ 4 < x) by omega) with hx | ⟨hx, hx'⟩
        all_goals
          clear hk1
          go_wp2
          all_goals first
            | (exfalso; omega)
            | (go_ret
               exact ⟨ret_int He.out.symm, HWw.out.alloc (by omega) _⟩)
      · by_cases hin : 0 ≤ y ∧ y < m ∧ 0 ≤ z ∧ z < m
        · have Hst := Lib.hid (HS.out.2 (ptErr1_0 hk1 hin))
          obtain ⟨a1, a2, a3, a4⟩ := hin
          rcases Int.lt_trichotomy y z with hab | rfl | hab
          all_goals
            go_wp2
            all_goals first
              | (exfalso; omega)
              | (go_roundw
                 case rel => exact ⟨k + 1, by omega, by go_num, Hst.out, HW.out.alloc (by omega) _⟩
                 case measure => simp [intOf]; omega)
        · have Hne := Lib.hid (HS.out.1 2 (ptErr1_2 hk1 hin) (by decide))
          have He := Lib.hid (show ptErr m l s = 2 by rw [HE.out, Hne.out]; rfl)
          rcases Int.lt_trichotomy y z with hab | rfl | hab
          all_goals
            go_wp2
            all_goals first
              | (exfalso; omega)
              | (go_ret
                 exact ⟨ret_int He.out.symm, HWw.out.alloc (by omega) _⟩)
    · have : k = l.length := by omega
      subst this
      have H0 := Lib.hid (show ptErrs m l = 0 by have := hP.out; rw [List.drop_length] at this; exact this.symm)
      have hbx := (hW.cell (p := ⟨w.heap.size, 0, none⟩) (Nat.lt_succ_self _)).trans Hbox.out
      have Hbx := Lib.hid hbx
      have HR2 := Lib.hid (Rd.below HBs.out (by rw [hs0]; exact hW))
      clear hW hP hs0 hlt hk hbx
      cases hin : insideB l.length s
      · have He := Lib.hid (show ptErr m l s = 5 by rw [HE.out, H0.out, hin]; rfl)
        have Hin := Lib.hid hin
        clear hin
        go_wp2_with (go_at_call 54; refine (outContains_calls w.heap.size l.length cap _ _ s _ _ Hbx.out HR2.out (by unfold maxLen; omega)).mono ?_; rintro e w' ⟨rfl, rfl⟩; rw [Hin.out])
        go_ret
        exact ⟨ret_int He.out.symm, HWw.out⟩
      · have He := Lib.hid (show ptErr m l s = 0 by rw [HE.out, H0.out, hin]; rfl)
        have Hin := Lib.hid hin
        clear hin
        go_wp2_with (go_at_call 54; refine (outContains_calls w.heap.size l.length cap _ _ s _ _ Hbx.out HR2.out (by unfold maxLen; omega)).mono ?_; rintro e w' ⟨rfl, rfl⟩; rw [Hin.out])
        go_ret
        exact ⟨ret_int He.out.symm, HWw.out⟩
end Go.Proofs.Ytdkkmmljaijomaa
