/- codemasonref.Once. -/
import Derived.Test.YtckmedmebabkjaaDoorOrdP
import Derived.Test.YtckmedmebabkjaaDoorHasR
namespace Go.Proofs.YtckmedmebabkjaaDoor
open Go.RowKit
def OnceEnd (m : Nat) (O : List Int) (w : World) (e : Ending) (w' : World) : Prop := (∃ b : Bool, (b = true ↔ OrdOk m O) ∧ e = .returned (.bool b)) ∧ w' = w
set_option maxHeartbeats 1000000 in
theorem once_calls (m : Nat) (B : Option Addr) (O : List Int) (c2 : Nat) (w : World) (hB : RdI w B O) (hm : O.length ≤ maxLen) :
    Calls Tryd.prog 7 #[.int .i64 m, .slice B O.length c2] w (OnceEnd m O w) := by
  have hm' := hm
  unfold maxLen at hm'
  have Hh := Lib.hid (fun x => has_calls B O c2 x w hB hm)
  clear hB
  by_cases hl : O.length = m
  case neg =>
    have q2 : (((O.length : Nat) : Int) != ((m : Nat) : Int)) = true := by rw [bne_iff_ne]; omega
    have Hn := Lib.hid (fun h : OrdOk m O => hl h.len)
    clear hl
    go_enter Tryd.func7, Tryd.ntmps7
    go_wp2
    go_ret
    exact ⟨⟨false, ⟨(fun h => by cases h), fun h => absurd h Hn.out⟩, rfl⟩, rfl⟩
  have q2 : (((O.length : Nat) : Int) != ((m : Nat) : Int)) = false := by rw [hl]; simp
  have Hl := Lib.hid hl
  have hm1 : m ≤ 9223372036854775807 := by omega
  clear hl hm hm'
  go_enter Tryd.func7, Tryd.ntmps7
  go_wp2
  go_loop [5] (fun i => ∃ k : Nat, k ≤ m ∧ i = .int .i64 k ∧ Hid (∀ i, i < k → ((i : Nat) : Int) ∈ O)) (fun i => m - (intOf i).toNat)
  case atStart => exact ⟨0, Nat.zero_le _, rfl, Lib.hid fun i h => by omega⟩
  case round =>
    obtain ⟨k, hk, rfl, hP⟩ := hrel
    by_cases hlt : k < m
    · have q1 : ((k : Nat) : Int) < ((m : Nat) : Int) := by omega
      have Hk := Lib.hid (Hh.out k)
      by_cases hx : ((k : Nat) : Int) ∈ O
      · have Hd := Lib.hid (decide_eq_true hx)
        have Hp2 : Hid (∀ i, i < k + 1 → ((i : Nat) : Int) ∈ O) := Lib.hid fun i hi => by
          by_cases e : i = k
          · subst e; exact hx
          · exact hP.out i (by omega)
        clear hx hP
        go_wp2_with (go_at_call 19; refine Hk.out.mono ?_; rintro e w1 ⟨rfl, rfl⟩; rw [Hd.out])
        go_round
        case rel => exact ⟨k + 1, by omega, by go_num, Hp2⟩
        case measure => simp [intOf]; omega
      · have Hd := Lib.hid (decide_eq_false hx)
        have Hn := Lib.hid (fun h : OrdOk m O => hx (h.all k hlt))
        clear hx hP
        go_wp2_with (go_at_call 19; refine Hk.out.mono ?_; rintro e w1 ⟨rfl, rfl⟩; rw [Hd.out])
        go_ret
        exact ⟨⟨false, ⟨(fun h => by cases h), fun h => absurd h Hn.out⟩, rfl⟩, rfl⟩
    · have : k = m := by omega
      subst this
      go_wp2
      go_ret
      exact ⟨⟨true, ⟨fun _ => ordOk_of Hl.out hP.out, fun _ => rfl⟩, rfl⟩, rfl⟩

end Go.Proofs.YtckmedmebabkjaaDoor
