/- hold.Lru, Fifo, Min; codemasonkeep.held. -/
import Derived.Test.YtdkkmmljaijomaaHoldE
namespace Go.Proofs.Ytdkkmmljaijomaa
open Go.RowKit

def Held (refs : List Int) (P : Int) : Prop := refs.length ≤ 20 ∧ 1 ≤ P ∧ P ≤ 8
instance (refs : List Int) (P : Int) : Decidable (Held refs P) := by unfold Held; exact inferInstance
def PickFirst : List Int → List Int → Nat → Prop := fun _ _ i => i = 0
def HoldEnd (again : Bool) (pick : List Int → List Int → Nat → Prop) (refs : List Int) (P : Int) (w : World) (e : Ending) (w' : World) : Prop :=
  Below w.heap.size w w' ∧ ((¬ Held refs P ∧ e = .returned (.tuple #[.int .i64 0, .int .i64 1])) ∨
    (∃ P' m : Nat, P = P' ∧ Held refs P ∧ e = .returned (.tuple #[.int .i64 m, .int .i64 0]) ∧ m ≤ refs.length ∧ Runs again P' pick refs [] m))
set_option maxHeartbeats 1000000 in
theorem wrong_calls (A : Option Addr) (refs : List Int) (cap : Nat) (P : Int) (w : World) (hm : refs.length ≤ maxLen) :
    Calls Try.prog 33 #[.slice A refs.length cap, .int .i64 P] w fun e w' => e = .returned (.int .i64 (if Held refs P then 0 else 1)) ∧ w' = w := by
  unfold maxLen at hm
  by_cases h : Held refs P
  · rw [if_pos h]
    obtain ⟨h1, h2, h3⟩ := h
    have q1 : decide ((20 : Int) < (refs.length : Int)) = false := decide_eq_false (by omega)
    go_enter Try.func33, Try.ntmps33
    go_wp2
    all_goals first | (exfalso; omega) | (go_ret; exact ⟨rfl, rfl⟩)
  · rw [if_neg h]
    unfold Held at h
    have hd : decide ((20 : Int) < (refs.length : Int)) = true ∨ (decide ((20 : Int) < (refs.length : Int)) = false ∧ P < 1) ∨ (decide ((20 : Int) < (refs.length : Int)) = false ∧ 1 ≤ P ∧ 8 < P) := by
      simp only [decide_eq_true_eq, decide_eq_false_iff_not]; omega
    clear h
    rcases hd with q1 | ⟨q1, q2⟩ | ⟨q1, q2, q3⟩
    all_goals
      go_enter Try.func33, Try.ntmps33
      go_wp2
      all_goals first | (exfalso; simp only [decide_eq_true_eq, decide_eq_false_iff_not] at *; omega) | (go_ret; exact ⟨rfl, rfl⟩)
set_option maxHeartbeats 1000000 in
theorem held_calls (A : Option Addr) (refs : List Int) (cap : Nat) (P : Int) (w : World) (hm : refs.length ≤ maxLen) :
    Calls Try.prog 14 #[.slice A refs.length cap, .int .i64 P] w fun e w' => e = .returned (.bool (decide (Held refs P))) ∧ w' = w := by
  unfold maxLen at hm
  by_cases h : Held refs P
  · rw [decide_eq_true h]
    obtain ⟨h1, h2, h3⟩ := h
    have q1 : decide ((refs.length : Int) ≤ (20 : Int)) = true := decide_eq_true (by omega)
    go_enter Try.func14, Try.ntmps14
    go_wp2
    all_goals first | (exfalso; omega) | (go_ret; exact ⟨ret_bool (by first | rfl | simp; omega), rfl⟩)
  · rw [decide_eq_false h]
    unfold Held at h
    have hd : decide ((refs.length : Int) ≤ (20 : Int)) = false ∨ (decide ((refs.length : Int) ≤ (20 : Int)) = true ∧ P < 1) ∨ (decide ((refs.length : Int) ≤ (20 : Int)) = true ∧ 1 ≤ P ∧ 8 < P) := by
      simp only [decide_eq_true_eq, decide_eq_false_iff_not]; omega
    clear h
    rcases hd with q1 | ⟨q1, q2⟩ | ⟨q1, q2, q3⟩
    all_goals
      go_enter Try.func14, Try.ntmps14
      go_wp2
      all_goals first | (exfalso; simp only [decide_eq_true_eq, decide_eq_false_iff_not] at *; omega) | (go_ret; exact ⟨ret_bool (by first | rfl | simp; omega), rfl⟩)
theorem run_cf {n : FuncId} {fn : Func} {c : Code} (hf : Try.prog.funcs[n]? = some fn) (h1 : (fn.name == "runtime.NumGoroutine") = false) (h2 : fn.body = some c) :
    ∀ (args : Array Value) (w : World), Sem.run Try.prog (callFunc n args) w = .ok (.enter n args) w := fun args w => by
  have h1' : ¬ fn.name = "runtime.NumGoroutine" := by simpa using h1
  simp [callFunc, hf, h1', h2]
theorem cf_first : ∀ (args : Array Value) (w : World), Sem.run Try.prog (callFunc 35 args) w = .ok (.enter 35 args) w := run_cf Try.func35 (by kernel_rfl) rfl
theorem cf_min : ∀ (args : Array Value) (w : World), Sem.run Try.prog (callFunc 36 args) w = .ok (.enter 36 args) w := run_cf Try.func36 (by kernel_rfl) rfl
set_option maxHeartbeats 2000000 in
theorem lru_calls (A : Option Addr) (refs : List Int) (cap : Nat) (P : Int) (w : World) (hA : RdI w A refs) (hm : refs.length ≤ maxLen) :
    Calls Try.prog 15 #[.slice A refs.length cap, .int .i64 P] w (HoldEnd true PickFirst refs P w) := by
  have HA := Lib.hid hA; clear hA
  by_cases h : Held refs P
  · have H := Lib.hid h
    obtain ⟨P, rfl⟩ := Int.eq_ofNat_of_zero_le (show 0 ≤ P by have := h.2.1; omega)
    obtain ⟨h1, h2, h3⟩ := h
    go_enter Try.func15, Try.ntmps15
    go_wp2_with (first
      | (go_at_call 33; refine (wrong_calls _ _ _ _ _ hm).mono ?_; rintro e w1 ⟨rfl, rfl⟩; rw [if_pos H.out])
      | (go_at_call 34; refine (play_calls true P PickFirst 35 #[] _ _ _ _ HA.out (by omega) (by omega) (by omega) cf_first (fun wr k S B c _ _ hS _ => (first_calls _ _ _).mono fun e w' ⟨he, hw⟩ => ⟨0, he, by omega, rfl, hw⟩)).mono ?_; rintro e w2 ⟨m, rfl, hmm, hr, hB⟩; have Hr := Lib.hid hr; have HB := Lib.hid hB; clear hr hB))
    go_ret2
    exact ⟨HB.out, .inr ⟨P, m, rfl, H.out, rfl, hmm, Hr.out⟩⟩
  · have H := Lib.hid h
    clear h
    go_enter Try.func15, Try.ntmps15
    go_wp2_with (go_at_call 33; refine (wrong_calls _ _ _ _ _ hm).mono ?_; rintro e w1 ⟨rfl, rfl⟩; rw [if_neg H.out])
    go_ret2
    exact ⟨Below.refl _ _, .inl ⟨H.out, rfl⟩⟩
set_option maxHeartbeats 2000000 in
theorem fifo_calls (A : Option Addr) (refs : List Int) (cap : Nat) (P : Int) (w : World) (hA : RdI w A refs) (hm : refs.length ≤ maxLen) :
    Calls Try.prog 17 #[.slice A refs.length cap, .int .i64 P] w (HoldEnd false PickFirst refs P w) := by
  have HA := Lib.hid hA; clear hA
  by_cases h : Held refs P
  · have H := Lib.hid h
    obtain ⟨P, rfl⟩ := Int.eq_ofNat_of_zero_le (show 0 ≤ P by have := h.2.1; omega)
    obtain ⟨h1, h2, h3⟩ := h
    go_enter Try.func17, Try.ntmps17
    go_wp2_with (first
      | (go_at_call 33; refine (wrong_calls _ _ _ _ _ hm).mono ?_; rintro e w1 ⟨rfl, rfl⟩; rw [if_pos H.out])
      | (go_at_call 34; refine (play_calls false P PickFirst 35 #[] _ _ _ _ HA.out (by omega) (by omega) (by omega) cf_first (fun wr k S B c _ _ hS _ => (first_calls _ _ _).mono fun e w' ⟨he, hw⟩ => ⟨0, he, by omega, rfl, hw⟩)).mono ?_; rintro e w2 ⟨m, rfl, hmm, hr, hB⟩; have Hr := Lib.hid hr; have HB := Lib.hid hB; clear hr hB))
    go_ret2
    exact ⟨HB.out, .inr ⟨P, m, rfl, H.out, rfl, hmm, Hr.out⟩⟩
  · have H := Lib.hid h
    clear h
    go_enter Try.func17, Try.ntmps17
    go_wp2_with (go_at_call 33; refine (wrong_calls _ _ _ _ _ hm).mono ?_; rintro e w1 ⟨rfl, rfl⟩; rw [if_neg H.out])
    go_ret2
    exact ⟨Below.refl _ _, .inl ⟨H.out, rfl⟩⟩
set_option maxHeartbeats 2000000 in
theorem min_calls (A : Option Addr) (refs : List Int) (cap : Nat) (P : Int) (w : World) (hA : RdI w A refs) (hm : refs.length ≤ maxLen) (hcap : refs.length ≤ cap) :
    Calls Try.prog 16 #[.slice A refs.length cap, .int .i64 P] w (HoldEnd false Far refs P w) := by
  have hB1 : Below w.heap.size w (w.alloc (.cells #[.slice A refs.length cap] 22)) := (Below.refl _ _).alloc (Nat.le_refl _) _
  have HA1 := Lib.hid (Rd.below hA hB1)
  have HB1 := Lib.hid hB1
  have Hbox := Lib.hid (cell_new w #[.slice A refs.length cap] 22 w.heap.size rfl 0)
  clear hA hB1
  by_cases h : Held refs P
  · have H := Lib.hid h
    obtain ⟨P, rfl⟩ := Int.eq_ofNat_of_zero_le (show 0 ≤ P by have := h.2.1; omega)
    obtain ⟨h1, h2, h3⟩ := h
    go_enter Try.func16, Try.ntmps16
    go_wp2_with (first
      | (go_at_call 33; refine (wrong_calls _ _ _ _ _ hm).mono ?_; rintro e w1 ⟨rfl, rfl⟩; rw [if_pos H.out])
      | (go_at_call 34; refine (play_calls false P Far 36 #[.pointer (some ⟨w.heap.size, 0, none⟩)] _ _ _ _ HA1.out (by omega) (by omega) (by omega) cf_min (fun wr k S B c hBw hR hS hk => minGoes_calls w.heap.size A B refs S cap c k wr ((hBw.cell (p := ⟨w.heap.size, 0, none⟩) (by simp)).trans Hbox.out) (Rd.below HA1.out hBw) (by omega) hcap hR (by omega) (by omega) hk)).mono ?_; rintro e w2 ⟨m, rfl, hmm, hr, hB⟩; have Hr := Lib.hid hr; have HB := Lib.hid (HB1.out.trans (hB.mono (by simp))); clear hr hB))
    go_ret2
    exact ⟨HB.out, .inr ⟨P, m, rfl, H.out, rfl, hmm, Hr.out⟩⟩
  · have H := Lib.hid h
    clear h
    go_enter Try.func16, Try.ntmps16
    go_wp2_with (go_at_call 33; refine (wrong_calls _ _ _ _ _ hm).mono ?_; rintro e w1 ⟨rfl, rfl⟩; rw [if_neg H.out])
    go_ret2
    exact ⟨HB1.out, .inl ⟨H.out, rfl⟩⟩
end Go.Proofs.Ytdkkmmljaijomaa
