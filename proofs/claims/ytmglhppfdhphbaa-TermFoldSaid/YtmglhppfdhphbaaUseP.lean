/- TermUse: plain law. -/
import Derived.Test.YtmglhppfdhphbaaValQ
namespace Go.Proofs.Ytmglhppfdhphbaa
open Go.RowKit

/-- Which terms the last one needs. -/
inductive Us (l : List Term) : Nat → Prop
  | root : Us l (l.length - 1)
  | ca {i a : Nat} (h : Us l i) (h2 : 2 < (l.getD i ⟨0, 0, 0, 0⟩).op) (e : (l.getD i ⟨0, 0, 0, 0⟩).a = a) : Us l a
  | cb {i b : Nat} (h : Us l i) (h2 : 2 < (l.getD i ⟨0, 0, 0, 0⟩).op) (e : (l.getD i ⟨0, 0, 0, 0⟩).b = b) : Us l b
section
variable {l : List Term} {vars : Int}
theorem Us.lt (hok : ∀ k (h : k < l.length), TOk vars k l[k]) (h1 : 1 ≤ l.length) {i : Nat} (h : Us l i) : i < l.length := by
  induction h with
  | root => omega
  | @ca i a _ h2 e ih =>
    obtain ⟨_, _, _, _, hob⟩ := hok i ih
    rw [getD_at ih] at h2 e
    have := hob (by omega)
    omega
  | @cb i b _ h2 e ih =>
    obtain ⟨_, _, _, _, hob⟩ := hok i ih
    rw [getD_at ih] at h2 e
    have := hob (by omega)
    omega
/-- Values that are the same for what is used give the same. -/
theorem us_val (hok : ∀ k (h : k < l.length), TOk vars k l[k]) (h1 : 1 ≤ l.length) {hv hw : List Int} (hs : ∀ i, Us l i → (l.getD i ⟨0, 0, 0, 0⟩).op = 2 → hv.getD (l.getD i ⟨0, 0, 0, 0⟩).val.toNat 0 = hw.getD (l.getD i ⟨0, 0, 0, 0⟩).val.toNat 0) :
    ∀ n i, i < n → Us l i → (valsTo hv l l.length).getD i 0 = (valsTo hw l l.length).getD i 0 := fun n => by
  induction n with
  | zero => intro i h; omega
  | succ n ih =>
    intro i hin hu
    have hi := hu.lt hok h1
    have hsi := hs i hu
    obtain ⟨o1, o6, _, _, hob⟩ := hok i hi
    rw [val_here hok hi, val_here hok hi]
    rw [getD_at hi] at hsi
    unfold val1
    by_cases h2 : 2 < l[i].op
    · obtain ⟨a0, a1, b0, b1⟩ := hob (by omega)
      obtain ⟨a, ea⟩ := Int.eq_ofNat_of_zero_le a0
      obtain ⟨b, eb⟩ := Int.eq_ofNat_of_zero_le b0
      have va := ih a (by omega) (hu.ca (by rw [getD_at hi]; exact h2) (by rw [getD_at hi]; exact ea))
      have vb := ih b (by omega) (hu.cb (by rw [getD_at hi]; exact h2) (by rw [getD_at hi]; exact eb))
      rw [if_neg (by omega), if_neg (by omega), if_neg (by omega), if_neg (by omega), ea, eb, Int.toNat_natCast, Int.toNat_natCast, va, vb]
    · rcases (show l[i].op = 1 ∨ l[i].op = 2 by omega) with h | h
      · rw [if_pos h, if_pos h]
      · rw [if_neg (by omega), if_pos h, if_neg (by omega), if_pos h]
        exact hsi h
theorem us_tVal (hok : ∀ k (h : k < l.length), TOk vars k l[k]) (h1 : 1 ≤ l.length) {hv hw : List Int} (hs : ∀ i, Us l i → (l.getD i ⟨0, 0, 0, 0⟩).op = 2 → hv.getD (l.getD i ⟨0, 0, 0, 0⟩).val.toNat 0 = hw.getD (l.getD i ⟨0, 0, 0, 0⟩).val.toNat 0) : tVal hv l = tVal hw l :=
  us_val hok h1 hs _ _ (Nat.lt_succ_self _) Us.root
end
end Go.Proofs.Ytmglhppfdhphbaa
