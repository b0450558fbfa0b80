/- codemasonref.Set, equality of pairs, the plain law of WayOrder. -/
import Derived.Test.YtljmignfbagomaaWalkD
import Derived.ChangeKeysEq
namespace Go.Proofs.Ytljmignfbagomaa
open Go.RowKit Go.Shelf

def setF (l : List Nat) : Nat := l.foldl (fun s x => s ||| 2 ^ x) 0
theorem foldl_bit : ∀ (l : List Nat) (s k : Nat), (l.foldl (fun s x => s ||| 2 ^ x) s).testBit k = (s.testBit k || decide (k ∈ l))
  | [], s, k => by simp
  | x :: l, s, k => by
    rw [List.foldl_cons, foldl_bit l, set_bit, Bool.or_assoc]
    congr 1
    rw [Bool.eq_iff_iff, Bool.or_eq_true, decide_eq_true_eq, decide_eq_true_eq, decide_eq_true_eq, List.mem_cons]
    exact or_congr_left ⟨Eq.symm, Eq.symm⟩
theorem setF_bit (l : List Nat) (k : Nat) : (setF l).testBit k = decide (k ∈ l) := by
  unfold setF
  rw [foldl_bit]; simp
theorem setF_lt {l : List Nat} (h : ∀ x ∈ l, x < 32) : setF l < 4294967296 := by
  have := lt_pow_of_bits (s := setF l) (n := 32) fun k hk => by
    rw [setF_bit, decide_eq_true_eq] at hk
    exact h k hk
  simpa using this
theorem setF_snoc (l : List Nat) (x : Nat) : setF (l ++ [x]) = setF l ||| 2 ^ x := by simp [setF]
theorem szTo_filter (s : Nat) : ∀ k, szTo s k = ((List.range k).filter fun j => s.testBit j).length
  | 0 => rfl
  | k + 1 => by
    rw [List.range_succ, List.filter_append, List.length_append, ← szTo_filter s k, show szTo s (k + 1) = szTo s k + if s.testBit k then 1 else 0 from rfl]
    cases hb : s.testBit k <;> simp [hb]
theorem sizeN_setF {l : List Nat} (hn : l.Nodup) (h : ∀ x ∈ l, x < 32) : sizeN (setF l) = l.length := by
  unfold sizeN
  rw [szTo_filter]
  refine Nat.le_antisymm (nodup_sub_lenW (List.nodup_range.filter _) fun x hx => ?_) (nodup_sub_lenW hn fun x hx => ?_)
  · rw [List.mem_filter, setF_bit, decide_eq_true_eq] at hx
    exact hx.2
  · rw [List.mem_filter, setF_bit, decide_eq_true_eq]
    exact ⟨List.mem_range.2 (h x hx), hx⟩
set_option maxHeartbeats 2000000 in
theorem set_calls (A : Option Addr) (l : List Nat) (cap : Nat) (w : World) (hA : RdI w A (natI l)) (h : ∀ x ∈ l, x < 32) (hm : l.length ≤ 1000) :
    Calls Try.prog 34 #[.slice A l.length cap] w fun e w' => e = .returned (.int .u32 (setF l : Nat)) ∧ w' = w := by
  have HA := Lib.hid hA
  have Hx := Lib.hid h
  clear hA h
  go_enter Try.func34, Try.ntmps34
  go_wp2
  go_loopw [3, 8] (fun s i wr => ∃ k : Nat, k ≤ l.length ∧ i = .int .i64 k ∧ s = .int .u32 (setF (l.take k) : Nat) ∧ wr = w) (fun _ i _ => l.length - (intOf i).toNat)
  case atStart => exact ⟨0, Nat.zero_le _, rfl, rfl, rfl⟩
  case round =>
    obtain ⟨k, hk, rfl, rfl, rfl⟩ := hrel
    by_cases hlt : k < l.length
    · have q1 : ((k : Nat) : Int) < ((l.length : Nat) : Int) := by omega
      obtain ⟨b, off, rfl, hb, c0⟩ := RdI.at1 HA.out (k := k) (by simp [natI]; exact hlt)
      have e0 : (natI l)[k]'(by simp [natI]; exact hlt) = ((l[k] : Nat) : Int) := by simp [natI]
      rw [e0] at c0
      have hx := Hx.out _ (List.getElem_mem hlt)
      have Hs : Hid (setF (l.take (k + 1)) = setF (l.take k) ||| 2 ^ l[k]) := Lib.hid (by rw [List.take_succ_eq_append_getElem hlt, setF_snoc])
      have hs := setF_lt (l := l.take k) fun x hx => Hx.out x (List.mem_of_mem_take hx)
      clear e0
      generalize l[k] = x at *
      generalize setF (l.take k) = s at *
      have p1 := pow_u32 x hx
      have p2 := or_u32 s (2 ^ x) hs (Nat.lt_of_lt_of_le (Nat.pow_lt_pow_right (by decide) hx) (by decide))
      rw [Int.natCast_pow, show ((2 : Nat) : Int) = 2 from rfl] at p1 p2
      rw [← Hs.out] at p2
      have p4 : (x : Int) % 18446744073709551616 = x := by omega
      clear Hs
      go_wp2
      all_goals first | (exfalso; omega) | skip
      go_roundw
      case rel => exact ⟨k + 1, by omega, by go_num, rfl, by first | rfl | trivial⟩
      case measure => simp [intOf]; omega
    · have hke : k = l.length := by omega
      subst hke
      rw [List.take_length]
      go_wp2
      go_ret
      exact ⟨rfl, rfl⟩
/-- Equality of two pairs. -/
theorem pair_eqlIn (a b c d : Int) (w : World) : (Op.equalIn 10000 51 (.agg #[.int .i64 a, .int .i64 b]) (.agg #[.int .i64 c, .int .i64 d])).run Try.prog w = .ok (decide ((a, b) = (c, d))) w := by
  rw [run_equalIn_array w 9999 (t := 51) (e := 3) (n := 2) _ _ Try.underlying51 (by rfl)]
  have hu := Try.underlying3
  have h0 : (Op.equalIn 9999 3 (.int .i64 a) (.int .i64 c)).run Try.prog w = .ok (a == c) w := run_equalIn_int w 9998 3 .i64 .i64 a c hu
  have h1 : (Op.equalIn 9999 3 (.int .i64 b) (.int .i64 d)).run Try.prog w = .ok (b == d) w := run_equalIn_int w 9998 3 .i64 .i64 b d hu
  have hp : Try.prog.plainKey 3 = true := by unfold Program.plainKey; rw [hu]
  have hc : Try.prog.cellsOf 3 = 1 := rfl
  rw [hc, show List.range 2 = [0, 1] from rfl]
  simp only [Op.eqItems, Sem.run_bind, Nat.zero_mul, Nat.one_mul]
  have g1 := run_part_plain w hp (xs := #[.int .i64 a, .int .i64 b]) (off := 0) (v := .int .i64 a) rfl
  have g2 := run_part_plain w hp (xs := #[.int .i64 c, .int .i64 d]) (off := 0) (v := .int .i64 c) rfl
  have g3 := run_part_plain w hp (xs := #[.int .i64 a, .int .i64 b]) (off := 1) (v := .int .i64 b) rfl
  have g4 := run_part_plain w hp (xs := #[.int .i64 c, .int .i64 d]) (off := 1) (v := .int .i64 d) rfl
  rw [g1]
  simp only [Result.andThen_ok]
  rw [g2]
  simp only [Result.andThen_ok]
  rw [h0]
  simp only [Result.andThen_ok]
  by_cases e : a = c
  · have : (a == c) = true := beq_iff_eq.2 e
    rw [this]
    simp only [Bool.not_true, Bool.false_eq_true, if_false, Sem.run_bind]
    rw [g3]
    simp only [Result.andThen_ok]
    rw [g4]
    simp only [Result.andThen_ok]
    rw [h1]
    simp only [Result.andThen_ok]
    by_cases e2 : b = d
    · subst e e2; simp
    · have : (b == d) = false := by rw [beq_eq_false_iff_ne]; exact e2
      rw [this]; simp [e2]
  · have : (a == c) = false := by rw [beq_eq_false_iff_ne]; exact e
    rw [this]; simp [e]
/-! ## Plain -/
theorem posD_rev {l : List Nat} (hn : l.Nodup) {x : Nat} (hx : x ∈ l) : posD l.reverse x + posD l x + 1 = l.length := by
  obtain ⟨u, v, e⟩ := List.append_of_mem hx
  have h1 := posD_split hn e
  have h2 := posD_split (l := l.reverse) (u := v.reverse) (v := u.reverse) (x := x) ((List.reverse_perm l).nodup_iff.2 hn) (by rw [e]; simp)
  rw [h1, h2, e]; simp; omega
def atZ (n : Nat) (r : List Nat) (k : Nat) : List Int := (List.range n).map fun x => if x ∈ r.take k then (posD r x : Int) else 0
theorem atZ_len (n : Nat) (l : List Nat) (k : Nat) : (atZ n l k).length = n := by simp [atZ]
theorem atZ_zero (n : Nat) (l : List Nat) : atZ n l 0 = List.replicate n 0 := by
  unfold atZ
  rw [show (fun x => if x ∈ l.take 0 then (posD l x : Int) else 0) = fun _ => 0 from by funext x; rw [if_neg (by simp)], List.map_const', List.length_range]
theorem atZ_set {n : Nat} {l : List Nat} (hn : l.Nodup) {k : Nat} (hk : k < l.length) : (atZ n l k).set l[k] (k : Int) = atZ n l (k + 1) := by
  unfold atZ
  rw [map_range_setW]
  refine List.map_congr_left fun i _ => ?_
  have hm : i ∈ l.take (k + 1) ↔ i ∈ l.take k ∨ i = l[k] := by rw [List.take_succ_eq_append_getElem hk, List.mem_append, List.mem_singleton]
  by_cases e : i = l[k]
  · rw [if_pos e, if_pos (hm.2 (.inr e)), e, posD_get hn hk]
  · rw [if_neg e]
    by_cases h : i ∈ l.take k
    · rw [if_pos h, if_pos (hm.2 (.inl h))]
    · rw [if_neg h, if_neg (fun h2 => (hm.1 h2).elim h e)]
theorem atZ_all {n : Nat} {l : List Nat} {x : Nat} (hm : x ∈ l) (h : x < (atZ n l l.length).length) : (atZ n l l.length)[x] = (posD l x : Int) := by
  simp [atZ, hm]
theorem order_set {ls : List (List Int)} (h1 : 1 ≤ ls.length) (h8 : ls.length ≤ 8) (hv : Valid ls) {l : List Nat} (hL : Left (EdW ls) ls.length l) : setF l.reverse = fromS ls (-1) 0 := set_ext fun k => by
  rw [Bool.eq_iff_iff, setF_bit, decide_eq_true_eq, List.mem_reverse, fromS_bit h8 hv (by omega) k]
  have hin : ∀ x, Comes_ ls (-1) 0 x → x ∈ l := Comes_.closed hL.mem0 fun b c hb he => hL.closed hb (edge_edw.1 he)
  exact ⟨fun h => ⟨by omega, (hL.from0 h).comes⟩, fun h => hin k h.2⟩
theorem order_back {ls : List (List Int)} {l : List Nat} (hL : Left (EdW ls) ls.length l) {i j : Nat} (hi : i ∈ l) (he : EdW ls i j) : j ∈ l ∧ (BkP ls l i j ↔ ¬ posD l.reverse i < posD l.reverse j) := by
  have hj := hL.closed hi he
  refine ⟨hj, ?_⟩
  have a1 := posD_rev hL.nodup hi
  have a2 := posD_rev hL.nodup hj
  unfold BkP
  rw [posI_in hi, posI_in hj]
  constructor
  · rintro ⟨_, h, _⟩; omega
  · intro h; exact ⟨by omega, by omega, he.2⟩
end Go.Proofs.Ytljmignfbagomaa
