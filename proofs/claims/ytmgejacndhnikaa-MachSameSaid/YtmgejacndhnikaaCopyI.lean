/- copy of ints to the head of a row of the call's own. -/
import Derived.Test.YtmgejacndhnikaaTurnG
import Derived.Laws.CopyOwn
namespace Go.Proofs.Ytmgejacndhnikaa
open Go.RowKit

theorem flatMap_int_ (l : List Int) : l.flatMap intCells = l.map (Value.int .i64) := by
  induction l with
  | nil => rfl
  | cons x r ih => rw [List.flatMap_cons, ih]; rfl
theorem ownI_heap {w : World} {base g n : Nat} {l : List Int} (h : OwnI w base 3 (.slice (some ⟨g, 0, none⟩) n n) l) : w.heap[g]? = some (.cells (l.map (Value.int .i64)).toArray 3 (0, 0)) ∧ base ≤ g ∧ n = l.length ∧ g < w.heap.size := by
  rcases h.2 with ⟨h0, _⟩ | ⟨g', cap, cur, e, hb, hh, hn, hm, hs, ht⟩
  · cases h0
  · injection e with e1 e2 e3
    injection e1 with e1
    injection e1 with e1
    subst e1 e3
    refine ⟨?_, hb, e2, ?_⟩
    · rw [hh, ← flatMap_int_, ← ht]
      congr 2
      rw [List.take_of_length_le (by simp [hs]; omega)]
    · rcases Nat.lt_or_ge g w.heap.size with h | h
      · exact h
      · rw [Array.getElem?_eq_none h] at hh; cases hh
theorem ownI_of_heap {w : World} {base g : Nat} {l : List Int} (h : w.heap[g]? = some (.cells (l.map (Value.int .i64)).toArray 3 (0, 0))) (hb : base ≤ g) (hm : l.length ≤ maxLen) : OwnI w base 3 (.slice (some ⟨g, 0, none⟩) l.length l.length) l := by
  refine ⟨by rw [flatMap_int_]; simp, .inr ⟨g, l.length, _, rfl, hb, h, Nat.le_refl _, hm, by simp, ?_⟩⟩
  rw [flatMap_int_, List.take_of_length_le (by simp)]
theorem infoSize : (Try.prog.info? 3).map (·.size) = some 1 := by kernel_rfl
theorem addr_add (b off j : Nat) : ((⟨b, off, none⟩ : Addr).add j) = ⟨b, off + j, none⟩ := by unfold Addr.add; by_cases h0 : j = 0 <;> simp [h0]
theorem wpList_copyI {w : World} {ops : Array Oper} {rest : List Oper} {o : Oper} {a : Act} {Q : Exit → Act → World → Prop} (hgd : o.guard = none) (d s : Operand)
    (ho : o.op = .call { callee := .builtin .copy, args := #[d, s], argTypes := #[23, 23] })
    (base g n : Nat) (ls : List Int) (hd : a.eval d = .slice (some ⟨g, 0, none⟩) n n) (hown : OwnI w base 3 (.slice (some ⟨g, 0, none⟩) n n) ls)
    (B : Option Addr) (hv : List Int) (capB : Nat) (hs : a.eval s = .slice B hv.length capB) (hB : RdI w B hv) (hle : hv.length ≤ n) (b0 : Nat) (w0 : World) (hb : Below b0 w0 w) (hb0 : b0 ≤ base)
    (h : ∀ w', OwnI w' base 3 (.slice (some ⟨g, 0, none⟩) n n) (hv ++ ls.drop hv.length) → Below b0 w0 w' → wpList Try.prog ops Q rest (a.put o.dst (.int .i64 hv.length)) w') : wpList Try.prog ops Q (o :: rest) a w := by
  obtain ⟨hh, hbg, hn, _⟩ := ownI_heap hown
  refine wpList_copy_splice hgd d s 23 23 ho 3 Try.underlying23 infoSize (some ⟨g, 0, none⟩) B n n hv.length capB hd hs g 0 (ls.map (Value.int .i64)) 3 hh (hv.map (.int .i64)) (by rw [List.length_map]; exact (Nat.min_eq_left hle).symm) ?_ ?_ ?_ b0 w0 hb (by omega) ?_
  · intro hp
    rw [List.length_map] at hp
    obtain ⟨b, off, rfl, hbl, hc⟩ := hB hp
    refine ⟨rfl, _, rfl, fun j v hv' => ?_⟩
    rw [List.getElem?_map, Option.map_eq_some_iff] at hv'
    obtain ⟨x, hx, rfl⟩ := hv'
    have := hc j x hx 0 (by decide)
    rw [addr_add]
    simpa [intCells] using this
  · rw [List.length_map, List.length_map]; omega
  · intro v hv'
    obtain ⟨x, _, rfl⟩ := List.mem_map.1 hv'
    rfl
  · intro w' hw' hB'
    have e : splice (ls.map (Value.int .i64)) 0 (hv.map (.int .i64)) = (hv ++ ls.drop hv.length).map (.int .i64) := by
      unfold splice
      simp [List.map_append, List.map_drop]
    have hw2 := hw'.out
    rw [e] at hw2
    have hln : (hv ++ ls.drop hv.length).length = n := by rw [List.length_append, List.length_drop]; omega
    have := ownI_of_heap (base := base) hw2 hbg (by
      have := hown.2
      rcases this with ⟨h0, _⟩ | ⟨g', cap, cur, e', _, _, hnc, hm, _⟩
      · cases h0
      · injection e' with _ e2 e3
        rw [hln, e3]; exact hm)
    rw [hln] at this
    have hr := h w' this hB'
    rwa [show goInt (hv.map (Value.int .i64)).length = .int .i64 hv.length by rw [List.length_map]; rfl]
end Go.Proofs.Ytmgejacndhnikaa
