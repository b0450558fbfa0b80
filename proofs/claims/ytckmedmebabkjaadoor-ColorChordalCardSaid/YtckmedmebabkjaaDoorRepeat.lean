/- slices.Repeat of a slice of one number. -/
import Derived.Test.YtckmedmebabkjaaDoorOwn
import Derived.Laws.CopyOwn
import Derived.StillTailTactics
import Derived.Deep.RegionHeld3
namespace Go.Proofs.YtckmedmebabkjaaDoor
open Go.RowKit

theorem flatMap_int_ (l : List Int) : l.flatMap intCells = l.map (Value.int .i64) := by
  induction l with
  | nil => rfl
  | cons x r ih => rw [List.flatMap_cons, ih]; rfl
theorem ownI_heap {w : World} {base g n : Nat} {l : List Int} (h : OwnI w base 3 (.slice (some ⟨g, 0, none⟩) n n) l) : w.heap[g]? = some (.cells (l.map (Value.int .i64)).toArray 3 (0, 0)) ∧ base ≤ g ∧ n = l.length ∧ g < w.heap.size := by
  rcases h.2 with ⟨h0, _⟩ | ⟨g', cap, cur, e, hb, hh, hn, hm, hs, ht⟩
  · cases h0
  · injection e with e1 e2 e3
    injection e1 with e1
    injection e1 with e1
    subst e1 e3
    refine ⟨?_, hb, e2, ?_⟩
    · rw [hh, ← flatMap_int_, ← ht]
      congr 2
      rw [List.take_of_length_le (by simp [hs]; omega)]
    · rcases Nat.lt_or_ge g w.heap.size with h | h
      · exact h
      · rw [Array.getElem?_eq_none h] at hh; cases hh
theorem ownI_of_heap {w : World} {base g : Nat} {l : List Int} (h : w.heap[g]? = some (.cells (l.map (Value.int .i64)).toArray 3 (0, 0))) (hb : base ≤ g) (hm : l.length ≤ maxLen) : OwnI w base 3 (.slice (some ⟨g, 0, none⟩) l.length l.length) l := by
  refine ⟨by rw [flatMap_int_]; simp, .inr ⟨g, l.length, _, rfl, hb, h, Nat.le_refl _, hm, by simp, ?_⟩⟩
  rw [flatMap_int_, List.take_of_length_le (by simp)]
theorem infoSize : (Tryd.prog.info? 3).map (·.size) = some 1 := by kernel_rfl
def repL (x : Int) (n k : Nat) : List Int := List.replicate k x ++ List.replicate (n - k) 0
theorem repL_len (x : Int) {n k : Nat} (h : k ≤ n) : (repL x n k).length = n := by simp [repL]; omega
theorem repL_all (x : Int) (n : Nat) : repL x n n = List.replicate n x := by simp [repL]
theorem repL_splice (x : Int) {n k c : Nat} (h : k + c ≤ n) : splice ((repL x n k).map (Value.int .i64)) k (List.replicate c (Value.int .i64 x)) = (repL x n (k + c)).map (Value.int .i64) := by
  unfold splice repL
  simp only [List.map_append, List.map_replicate, List.length_replicate]
  rw [List.take_append_of_le_length (by simp), List.take_of_length_le (by simp), List.drop_append, List.drop_of_length_le (by simp), List.drop_replicate, List.length_replicate]
  rw [List.nil_append, ← List.append_assoc, List.replicate_append_replicate]
  congr 2
  omega
theorem addr_add (b off j : Nat) : ((⟨b, off, none⟩ : Addr).add j) = ⟨b, off + j, none⟩ := by unfold Addr.add; by_cases h0 : j = 0 <;> simp [h0]
/-- copy of c times x into a row of x and zeros. -/
theorem wpList_copyRep {w : World} {ops : Array Oper} {rest : List Oper} {o : Oper} {a : Act} {Q : Exit → Act → World → Prop} (hgd : o.guard = none) (d s : Operand)
    (ho : o.op = .call { callee := .builtin .copy, args := #[d, s], argTypes := #[23, 23] })
    (x : Int) (n k c g dLen dCap S so sLen sCap : Nat) (hd : a.eval d = .slice (some ⟨g, k, none⟩) dLen dCap) (hs : a.eval s = .slice (some ⟨S, so, none⟩) sLen sCap) (hc : c = Nat.min sLen dLen) (hk : k + c ≤ n)
    (hsrc : ∀ j, j < c → w.cell? ⟨S, so + j, none⟩ = some (.int .i64 x)) (hh : w.heap[g]? = some (.cells ((repL x n k).map (Value.int .i64)).toArray 3 (0, 0)))
    (B : Nat) (w0 : World) (hb : Below B w0 w) (hBg : B ≤ g)
    (h : ∀ w', w'.heap[g]? = some (.cells ((repL x n (k + c)).map (Value.int .i64)).toArray 3 (0, 0)) → Below B w0 w' → wpList Tryd.prog ops Q rest (a.put o.dst (.int .i64 c)) w') : wpList Tryd.prog ops Q (o :: rest) a w := by
  refine wpList_copy_splice hgd d s 23 23 ho 3 Tryd.underlying23 infoSize (some ⟨g, k, none⟩) (some ⟨S, so, none⟩) dLen dCap sLen sCap hd hs g k ((repL x n k).map (Value.int .i64)) 3 hh (List.replicate c (.int .i64 x)) (by rw [List.length_replicate]; exact hc) ?_ ?_ ?_ B w0 hb hBg ?_
  · refine fun _ => ⟨rfl, _, rfl, fun j v hv => ?_⟩
    obtain ⟨hj, e⟩ := List.getElem?_eq_some_iff.1 hv
    rw [List.length_replicate] at hj
    rw [List.getElem_replicate] at e
    rw [addr_add, hsrc j hj, e]
  · rw [List.length_replicate, List.length_map, repL_len x (by omega)]; omega
  · intro v hv
    rw [(List.mem_replicate.1 hv).2]; rfl
  · intro w' hw' hB'
    rw [repL_splice x hk] at hw'
    have := h w' hw' hB'
    rwa [List.length_replicate]
/-- The same, of the run. -/
theorem run_copyRep {w : World} {ty : TypeId} (x : Int) (n k c g dLen dCap S so sLen sCap : Nat) (hc : c = Nat.min sLen dLen) (hk : k + c ≤ n)
    (hsrc : ∀ j, j < c → w.cell? ⟨S, so + j, none⟩ = some (.int .i64 x)) (hh : w.heap[g]? = some (.cells ((repL x n k).map (Value.int .i64)).toArray 3 (0, 0)))
    (B : Nat) (w0 : World) (hb : Below B w0 w) (hBg : B ≤ g) :
    ∃ w', Sem.run Tryd.prog (Builtin.copy_ #[23, 23] ty #[.slice (some ⟨g, k, none⟩) dLen dCap, .slice (some ⟨S, so, none⟩) sLen sCap]) w = .ok (.int .i64 c) w' ∧
      w'.heap[g]? = some (.cells ((repL x n (k + c)).map (Value.int .i64)).toArray 3 (0, 0)) ∧ Below B w0 w' := by
  have hrun := run_copy_row (P := Tryd.prog) w 23 23 ty 3 g k dLen dCap ⟨S, so, none⟩ sLen sCap ((repL x n k).map (Value.int .i64)).toArray 3 (List.replicate c (.int .i64 x)) Tryd.underlying23 infoSize hh (by rw [List.length_replicate]; exact hc)
    (fun j v hv => by
      obtain ⟨hj, e⟩ := List.getElem?_eq_some_iff.1 hv
      rw [List.length_replicate] at hj
      rw [List.getElem_replicate] at e
      rw [addr_add, hsrc j hj, e]) (by simp [repL_len x (show k ≤ n by omega)]; omega) (fun v hv => by rw [(List.mem_replicate.1 hv).2]; rfl)
  refine ⟨_, by rw [hrun, List.length_replicate]; rfl, ?_, below_setRow hb hBg _⟩
  have e := repL_splice x hk
  unfold splice at e
  rw [setRow_heap w g _ _ 3 _ hh, ← e]
  simp
set_option maxHeartbeats 4000000 in
theorem repeat_calls (hmul : ∀ (x y : Nat), x < 100 → y < 100 → ∀ w, Calls Tryd.prog 24 #[.int .u64 x, .int .u64 y] w fun e w' => e = .returned (.tuple #[.int .u64 0, .int .u64 ((x * y : Nat) : Int)]) ∧ w' = w)
    (S : Nat) (x : Int) (n : Nat) (w : World) (hS : w.cell? ⟨S, 0, none⟩ = some (.int .i64 x)) (hSl : S < w.heap.size) (hn : 1 ≤ n) (hn8 : n ≤ 50) :
    Calls Tryd.prog 16 #[.slice (some ⟨S, 0, none⟩) 1 1, .int .i64 n] w fun e w' => ∃ v, e = .returned v ∧ OwnI w' w.heap.size 3 v (List.replicate n x) ∧ Below w.heap.size w w' := by
  have HM := Lib.hid (hmul 1 n (by omega) (by omega))
  rw [Nat.one_mul] at HM
  clear hmul
  have q1 : decide ((n : Int) < 0) = false := decide_eq_false (by omega)
  have q2 : decide ((9223372036854775807 : Int) < (n : Int)) = false := decide_eq_false (by omega)
  go_enter Tryd.func16, Tryd.ntmps16
  have hpos : 0 < n := hn
  have Hone := Lib.hid (show 1 = Nat.min 1 n from (Nat.min_eq_left hn).symm)
  go_wp2_with (first
    | (go_at_call 24; refine (HM.out _).mono ?_; rintro e w1 ⟨rfl, rfl⟩)
    | (at_make; refine wpList_makeI rfl _ _ rfl w1.heap.size n rfl rfl (by omega) (Nat.le_refl _) ?_
       intro w2 hown2 hgrow2
       have hB2 := (Below.refl w1.heap.size w1).grown hgrow2 (Nat.le_refl _) (fun k hk => by cases hk)
       have Hh := Lib.hid (show w2.heap[w1.heap.size]? = some (.cells ((repL x n 0).map (Value.int .i64)).toArray 3 (0, 0)) by unfold repL; simpa using (ownI_heap hown2).1)
       have Hsrc := Lib.hid (show ∀ j, j < 1 → w2.cell? ⟨S, 0 + j, none⟩ = some (.int .i64 x) from fun j hj => by
         have : j = 0 := by omega
         subst this; exact (hB2.cell (p := ⟨S, 0, none⟩) hSl).trans hS)
       have HB2 := Lib.hid hB2
       have Hlt2 := Lib.hid (ownI_heap hown2).2.2.2
       clear hown2 hgrow2 hB2)
    | (with_reducible refine wpList_copyRep rfl (.tmp 31) (.tmp 32) rfl x n 0 1 w1.heap.size n n S 0 1 1 rfl rfl Hone.out (by omega) Hsrc.out Hh.out w1.heap.size w1 HB2.out (Nat.le_refl _) ?_; intro w3 hh3 hB3))
  have Hh3 := Lib.hid hh3
  have HB3 := Lib.hid hB3
  clear hh3 hB3 Hh Hsrc HM
  go_loopw [8] (fun i wr => ∃ k : Nat, 1 ≤ k ∧ k ≤ n ∧ i = .int .i64 k ∧ Hid (wr.heap[w1.heap.size]? = some (.cells ((repL x n k).map (Value.int .i64)).toArray 3 (0, 0))) ∧ Below w1.heap.size w1 wr) (fun i _ => n - (intOf i).toNat)
  case atStart => exact ⟨1, Nat.le_refl _, hn, rfl, Hh3, HB3.out⟩
  case round =>
    clear Hh3 HB3
    obtain ⟨k, hk1, hk, rfl, hh, hW⟩ := hrel
    have HW := Lib.hid hW
    clear hW
    by_cases hlt : k < n
    · have Hc := Lib.hid (show min k (n - k) = Nat.min k (n - k) from rfl)
      have hc1 : k + min k (n - k) ≤ n := by omega
      have hc0 : 1 ≤ min k (n - k) := by omega
      have Hsrc := Lib.hid (show ∀ j, j < min k (n - k) → wr.drew.cell? ⟨w1.heap.size, 0 + j, none⟩ = some (.int .i64 x) from fun j hj => by
        rw [World.cell?_drew, cell_of_row wr w1.heap.size (0 + j) _ _ _ hh.out, List.getElem?_toArray, List.getElem?_map, repL, Nat.zero_add, List.getElem?_append_left (by simp; omega), List.getElem?_replicate, if_pos (by omega)]
        rfl)
      have t0 : ¬ n = k := by omega
      have t1 : (0 : Int) ≤ ((k : Nat) : Int) := by omega
      have t2 : ((k : Nat) : Int) ≤ ((n : Nat) : Int) := by omega
      generalize min k (n - k) = c at *
      have t3 : IntKind.i64.wrap ((k : Int) + (c : Int)) = (k : Int) + (c : Int) := IntWalk.i64_in _ (by omega)
      go_wp2
      refine wp_region_held_drew (S := fun w' => Below w1.heap.size w1 w') (by kernel_rfl) HW.out.drew (fun hH => ?_)
      have Hhd := Lib.hid (show wr.drew.heap[w1.heap.size]? = some (.cells ((repL x n k).map (Value.int .i64)).toArray 3 (0, 0)) from hh.out)
      generalize wr.drew = wd at *
      refine wpAnyH_take (i := 0) (oi := { dst := some 38, op := Go.Op.move (Go.Operand.tmp 8), type := 3, pos := "slices.go:528", after := #[], guard := none }) rfl (by kernel_rfl) (by kernel_rfl) (by kernel_rfl) (fun _ _ _ h => h) (Or.inl ⟨by rfl, fun w hw => by (go_simp; try with_reducible rfl)⟩) (by assumption) ?_
      try simp only [Act.put, List.setIfInBounds_toArray, List.set_cons_zero, List.set_cons_succ]
      refine wpAnyH_take (i := 1) (oi := { dst := some 39, op := Go.Op.move (Go.Operand.tmp 7), type := 23, pos := "slices.go:528", after := #[], guard := none }) rfl (by kernel_rfl) (by kernel_rfl) (by kernel_rfl) (fun _ _ _ h => h) (Or.inl ⟨by rfl, fun w hw => by (go_simp; try with_reducible rfl)⟩) (by assumption) ?_
      try simp only [Act.put, List.setIfInBounds_toArray, List.set_cons_zero, List.set_cons_succ]
      refine wpAnyH_take (i := 2) (oi := { dst := some 40, op := Go.Op.move (Go.Operand.tmp 8), type := 3, pos := "slices.go:528", after := #[], guard := none }) rfl (by kernel_rfl) (by kernel_rfl) (by kernel_rfl) (fun _ _ _ h => h) (Or.inl ⟨by rfl, fun w hw => by (go_simp; try with_reducible rfl)⟩) (by assumption) ?_
      try simp only [Act.put, List.setIfInBounds_toArray, List.set_cons_zero, List.set_cons_succ]
      refine wpAnyH_take (i := 3) (oi := { dst := some 41, op := Go.Op.slice 23 (Go.Operand.tmp 39) (some (Go.Operand.tmp 40)) none none, type := 23, pos := "slices.go:528", after := #[{ on := 1, ground := Go.Ground.data }, { on := 2, ground := Go.Ground.data }], guard := none }) rfl (by kernel_rfl) (by kernel_rfl) (by kernel_rfl) (fun _ _ _ h => h) (Or.inl ⟨by rfl, fun w hw => by (go_simp; try with_reducible rfl)⟩) (by assumption) ?_
      try simp only [Act.put, List.setIfInBounds_toArray, List.set_cons_zero, List.set_cons_succ]
      refine wpAnyH_take (i := 4) (oi := { dst := some 42, op := Go.Op.move (Go.Operand.tmp 7), type := 23, pos := "slices.go:528", after := #[], guard := none }) rfl (by kernel_rfl) (by kernel_rfl) (by kernel_rfl) (fun _ _ _ h => h) (Or.inl ⟨by rfl, fun w hw => by (go_simp; try with_reducible rfl)⟩) (by assumption) ?_
      try simp only [Act.put, List.setIfInBounds_toArray, List.set_cons_zero, List.set_cons_succ]
      refine wpAnyH_take (i := 5) (oi := { dst := some 43, op := Go.Op.move (Go.Operand.tmp 8), type := 3, pos := "slices.go:528", after := #[], guard := none }) rfl (by kernel_rfl) (by kernel_rfl) (by kernel_rfl) (fun _ _ _ h => h) (Or.inl ⟨by rfl, fun w hw => by (go_simp; try with_reducible rfl)⟩) (by assumption) ?_
      try simp only [Act.put, List.setIfInBounds_toArray, List.set_cons_zero, List.set_cons_succ]
      refine wpAnyH_take (i := 6) (oi := { dst := some 44, op := Go.Op.slice 23 (Go.Operand.tmp 42) none (some (Go.Operand.tmp 43)) none, type := 23, pos := "slices.go:528", after := #[{ on := 4, ground := Go.Ground.data }, { on := 5, ground := Go.Ground.data }], guard := none }) rfl (by kernel_rfl) (by kernel_rfl) (by kernel_rfl) (fun _ _ _ h => h) (Or.inl ⟨by rfl, fun w hw => by (go_simp; try with_reducible rfl)⟩) (by assumption) ?_
      try simp only [Act.put, List.setIfInBounds_toArray, List.set_cons_zero, List.set_cons_succ]
      refine wpAnyH_ready (rs := [7]) (by kernel_rfl) (by simp) ?_
      refine AllReadyH.cons (o := { dst := some 45, op := Go.Op.call { callee := Go.Callee.builtin Go.Builtin.copy, args := #[Go.Operand.tmp 41, Go.Operand.tmp 44], argTypes := #[23, 23] }, type := 3, pos := "slices.go:528", after := #[{ on := 3, ground := Go.Ground.data }, { on := 6, ground := Go.Ground.data }], guard := none }) rfl (fun K hK => ?_) AllReadyH.nil
      obtain ⟨w3, hrun, hh3, hB3⟩ := run_copyRep (w := wd) (ty := 3) x n k c w1.heap.size (n - k) (n - k) w1.heap.size 0 k n Hc.out hc1 Hsrc.out Hhd.out w1.heap.size w1 hH (Nat.le_refl _)
      go_simp
      refine hK.out _ _ hB3 (fun hH2 => ?_)
      clear hK hrun hH
      try simp only [Act.put, List.setIfInBounds_toArray, List.set_cons_zero, List.set_cons_succ]
      refine wpAnyH_take (i := 8) (oi := { dst := some 46, op := Go.Op.binOp Go.BinOp.add 3 (Go.Operand.tmp 38) (Go.Operand.tmp 45) 3, type := 3, pos := "slices.go:528", after := #[{ on := 0, ground := Go.Ground.data }, { on := 7, ground := Go.Ground.data }], guard := none }) rfl (by kernel_rfl) (by kernel_rfl) (by kernel_rfl) (fun _ _ _ h => h) (Or.inl ⟨by rfl, fun w hw => by (go_simp; try with_reducible rfl)⟩) (by assumption) ?_
      try simp only [Act.put, List.setIfInBounds_toArray, List.set_cons_zero, List.set_cons_succ]
      refine wpAnyH_take (i := 9) (oi := { dst := some 8, op := Go.Op.assign (Go.Operand.tmp 46), type := 3, pos := "slices.go:528", after := #[{ on := 8, ground := Go.Ground.data }, { on := 7, ground := Go.Ground.chain }, { on := 0, ground := Go.Ground.phase }, { on := 1, ground := Go.Ground.phase }, { on := 2, ground := Go.Ground.phase }, { on := 3, ground := Go.Ground.phase }, { on := 4, ground := Go.Ground.phase }, { on := 5, ground := Go.Ground.phase }, { on := 6, ground := Go.Ground.phase }, { on := 7, ground := Go.Ground.phase }, { on := 8, ground := Go.Ground.phase }], guard := none }) rfl (by kernel_rfl) (by kernel_rfl) (by kernel_rfl) (fun _ _ _ h => h) (Or.inl ⟨by rfl, fun w hw => by (go_simp; try with_reducible rfl)⟩) (by assumption) ?_
      try simp only [Act.put, List.setIfInBounds_toArray, List.set_cons_zero, List.set_cons_succ]
      refine wpAnyH_done (by kernel_rfl) ?_ _
      clear hH2
      have HB3 := Lib.hid hB3
      have Hh3 := Lib.hid hh3
      clear hB3 hh3
      go_wp2
      go_roundw
      case rel => exact ⟨k + c, by omega, hc1, by go_num, Hh3, HB3.out⟩
      case measure => simp [intOf]; omega
    · have : k = n := by omega
      subst this
      have Hown : Hid (OwnI wr w1.heap.size 3 (.slice (some ⟨w1.heap.size, 0, none⟩) k k) (List.replicate k x)) := by
        have h := hh.out
        rw [repL_all] at h
        have := ownI_of_heap (base := w1.heap.size) h (Nat.le_refl _) (by simp; unfold maxLen; omega)
        rwa [List.length_replicate] at this
      clear hh
      go_wp2
      go_ret
      exact ⟨_, rfl, Hown.out, HW.out⟩
end Go.Proofs.YtckmedmebabkjaaDoor
