/- stack.Run walked; what it computes of a tree's code. -/
import Derived.Test.YtmglhppfdhphbaaStkC
import Derived.Test.YtmglhppfdhphbaaHave
import Derived.Deep.RegionHeld3
namespace Go.Proofs.Ytmglhppfdhphbaa
open Go.RowKit

/-- The first k of a row of one's own. -/
theorem Own.take_ {α : Type} {f : α → List Value} {size base E : Nat} {w : World} {A : Option Addr} {n cap k : Nat} {l : List α} (hf : ∀ x, (f x).length = size) (h : Own f size w base E (.slice A n cap) l) (hk : k ≤ l.length) (hl : 0 < l.length) : Own f size w base E (.slice A k cap) (l.take k) := by
  have hfl : (l.take k).flatMap f = (l.flatMap f).take (k * size) := by
    clear h hl
    induction l generalizing k with
    | nil => simp
    | cons x r ih =>
      cases k with
      | zero => simp
      | succ k =>
        rw [List.take_succ_cons, List.flatMap_cons, List.flatMap_cons, ih (by simpa using hk), List.take_append, hf, List.take_of_length_le (l := f x) (by rw [hf, Nat.succ_mul]; omega), Nat.succ_mul, Nat.add_sub_cancel]
  rcases h.2 with ⟨h0, h1⟩ | ⟨g, c, cur, e, h2, h3, h4, h5, h6, h7⟩
  · omega
  · injection e with e1 e2 e3
    subst e1 e3
    have hn : n = l.length := e2
    refine ⟨?_, Or.inr ⟨g, cap, cur, ?_, h2, h3, ?_, h5, h6, ?_⟩⟩
    · rw [flatMap_len hf]
    · rw [List.length_take, Nat.min_eq_left hk]
    · rw [List.length_take, Nat.min_eq_left hk]; omega
    · rw [List.length_take, Nat.min_eq_left hk, hfl, ← h7, List.take_take, Nat.min_eq_left (Nat.mul_le_mul_right _ hk)]

theorem intNew (w : World) (x : Int) (E s : Nat) (hs : w.heap.size = s) : ∀ j, j < 1 → (w.alloc (.cells #[.int .i64 x] E)).cell? ⟨s, j, none⟩ = (intCells x)[j]? := fun j hj => by
  have : j = 0 := by omega
  subst this
  rw [cell_new _ _ _ s hs]; rfl
/-- One operation on a stack. -/
def stk1 (hv s : List Int) (c : SOp) : List Int :=
  if c.op = 1 then s ++ [c.val] else if c.op = 2 then s ++ [hv.getD c.val.toNat 0] else s.take (s.length - 2) ++ [doF c.op (s.getD (s.length - 2) 0) (s.getD (s.length - 1) 0)]
def stkR (hv s : List Int) (c : List SOp) : List Int := c.foldl (stk1 hv) s
section
variable {vars : Int} {l : List Term} {hv : List Int}
theorem stkR_append (s : List Int) (a b : List SOp) : stkR hv s (a ++ b) = stkR hv (stkR hv s a) b := List.foldl_append ..
theorem stk1_two (s : List Int) (x y op v : Int) (h : 2 < op) : stk1 hv (s ++ [x] ++ [y]) ⟨op, v⟩ = s ++ [doF op x y] := by
  unfold stk1
  dsimp only
  rw [if_neg (by omega), if_neg (by omega)]
  have e1 : (s ++ [x] ++ [y]).length - 2 = s.length := by simp
  have e2 : (s ++ [x] ++ [y]).length - 1 = s.length + 1 := by simp
  rw [e1, e2]
  congr 1
  · rw [List.append_assoc, List.take_left']; rfl
  · congr 2
    · rw [List.getD_eq_getElem?_getD, List.append_assoc, List.getElem?_append_right (Nat.le_refl _), Nat.sub_self]; rfl
    · rw [List.getD_eq_getElem?_getD, List.getElem?_append_right (by simp)]
      simp
/-- A term's code puts its value. -/
theorem laid_val (hok : ∀ k (h : k < l.length), TOk vars k l[k]) : ∀ n i, i < n → i < l.length → ∀ s : List Int, stkR hv s (laid l i) = s ++ [(valsTo hv l l.length).getD i 0]
  | n + 1, i, hn, hi, s => by
    have e : l.getD i tnul = l[i] := getD_at hi
    obtain ⟨o1, o6, on, ov, _⟩ := hok i hi
    rw [val_here hok hi]
    by_cases h2 : 2 < (l.getD i tnul).op
    · obtain ⟨a, b, ea, eb, la, lb⟩ := ab_of hok hi h2
      rw [laid_node hok hi h2 ea eb, stkR_append, stkR_append, laid_val hok n a (by omega) (by omega), laid_val hok n b (by omega) (by omega)]
      show stk1 hv _ _ = _
      rw [stk1_two _ _ _ _ _ h2]
      rw [e] at h2 ea eb ⊢
      unfold val1
      rw [if_neg (by omega), if_neg (by omega), ea, eb, Int.toNat_natCast, Int.toNat_natCast]
    · rw [laid_leaf h2]
      rw [e] at h2 ⊢
      show stk1 hv _ _ = _
      unfold stk1 val1
      dsimp only
      by_cases h1 : l[i].op = 1
      · rw [if_pos h1, if_pos h1]
      · rw [if_neg h1, if_neg h1, if_pos (by omega), if_pos (by omega)]
/-- What a right operation leaves on a stack of values. -/
theorem stk1_bd {s : List Int} {c : SOp} (hh : ∀ x ∈ hv, 0 ≤ x ∧ x ≤ 255) (hs : ∀ x ∈ s, 0 ≤ x ∧ x ≤ 255) (hv0 : 0 ≤ vars) (h : sErr1 vars s.length c = 0) : ∀ x ∈ stk1 hv s c, 0 ≤ x ∧ x ≤ 255 := by
  unfold stk1
  intro x hx
  split at hx
  · rename_i h1
    rcases List.mem_append.1 hx with hx | hx
    · exact hs x hx
    · simp at hx; subst hx
      unfold sErr1 at h
      rw [if_neg (by omega), if_pos (by omega)] at h
      split at h
      · cases h
      · omega
  · split at hx
    · rcases List.mem_append.1 hx with hx | hx
      · exact hs x hx
      · simp only [List.mem_singleton] at hx; subst hx; exact getD_mem_bd hh _
    · rcases List.mem_append.1 hx with hx | hx
      · exact hs x (List.mem_of_mem_take hx)
      · simp only [List.mem_singleton] at hx; subst hx; exact doF_bd _ _ _
theorem stk1_len {s : List Int} {c : SOp} (h : sErr1 vars s.length c = 0) : ((stk1 hv s c).length : Int) = sNext s.length c := by
  unfold sErr1 at h
  by_cases h0 : c.op < 1 ∨ 6 < c.op
  · rw [if_pos h0] at h; cases h
  rw [if_neg h0] at h
  by_cases h2 : c.op ≤ 2
  · rw [sNext_leaf h2]
    unfold stk1
    by_cases h1 : c.op = 1
    · rw [if_pos h1]; simp
    · rw [if_neg h1, if_pos (by omega)]; simp
  · rw [if_neg h2] at h
    by_cases hd : (s.length : Int) < 2
    · rw [if_pos hd] at h; cases h
    rw [sNext_node (by omega)]
    unfold stk1
    rw [if_neg (by omega), if_neg (by omega)]
    simp
    omega
end
set_option maxRecDepth 100000 in
set_option maxHeartbeats 8000000 in
theorem stkRun_ok (vars : Int) (A B : Option Addr) (c : List SOp) (hv : List Int) (capA capB : Nat) (w : World) (hA : RdS w A c) (hB : RdI w B hv) (hv0 : 0 ≤ vars) (h0 : sErr vars c = 0) (h1 : haveErr vars hv = 0) :
    Calls Try.prog 36 #[.int .i64 vars, .slice A c.length capA, .slice B hv.length capB] w fun e w' => ∃ v, e = .returned (.tuple #[v, .int .i64 0]) ∧ OwnI w' w.heap.size 3 v (stkR hv [] c) ∧ Below w.heap.size w w' := by
  have hn : c.length ≤ 40 ∧ vars ≤ 6 ∧ sErrs vars 0 c = 0 := by
    unfold sErr at h0
    by_cases h : 6 < vars ∨ 40 < c.length
    · rw [if_pos h] at h0; cases h0
    · rw [if_neg h] at h0; exact ⟨by omega, by omega, h0⟩
  obtain ⟨hn, hv6, hE0⟩ := hn
  obtain ⟨hl, hh⟩ := haveErr_ok h1
  have HA := Lib.hid hA
  have HB := Lib.hid hB
  have H0 := Lib.hid h0
  have H1 := Lib.hid h1
  have HH := Lib.hid hh
  have Hl := Lib.hid hl
  have HE0 := Lib.hid hE0
  have hd0 : decide (vars < 0) = false := decide_eq_false (by omega)
  clear hA hB h0 h1 hh hl hE0
  go_enter Try.func36, Try.ntmps36
  go_wp2_with (first
    | (go_at_call 50; refine (stkWrong_calls _ A c capA w HA.out (by unfold maxLen; omega)).mono ?_; rintro e w1 ⟨rfl, hW⟩; rw [H0.out]; have HW1 := Lib.hid hW; have HA1 := Lib.hid (Rd.below HA.out hW); have HB1 := Lib.hid (Rd.below HB.out hW); clear hW)
    | (go_at_call 44; refine (have_calls vars B hv capB _ HB1.out (by have := Hl.out; unfold maxLen; omega)).mono ?_; rintro e w2 ⟨rfl, rfl⟩; rw [H1.out]))
  go_loopw [10, 30] (fun v i wr => ∃ (k : Nat) (s : List Int), k ≤ c.length ∧ i = .int .i64 k ∧ OwnI wr w.heap.size 3 v s ∧ Hid (stkR hv s (c.drop k) = stkR hv [] c ∧ sErrs vars s.length (c.drop k) = 0) ∧ (Hid (∀ x ∈ s, 0 ≤ x ∧ x ≤ 255) ∧ s.length ≤ k) ∧ Below w.heap.size w wr) (fun _ i _ => c.length - (intOf i).toNat)
  case atStart => exact ⟨0, [], Nat.zero_le _, rfl, Own.nil_ _ _ _, Lib.hid ⟨rfl, HE0.out⟩, ⟨Lib.hid (fun x hx => by cases hx), Nat.le_refl _⟩, HW1.out⟩
  case round =>
    obtain ⟨k, s, hk, rfl, hO, hE, ⟨hB0, hsl⟩, hW⟩ := hrel
    have hws := hW.size
    obtain ⟨As, cs, rfl, -⟩ := OwnI.rd hO
    have HO := Lib.hid hO
    have HW := Lib.hid hW
    by_cases hlt : k < c.length
    · obtain ⟨b, off, rfl, hb, c0, c1⟩ := RdS.at2 (Rd.below HA.out hW) hlt
      have q1 : ((k : Nat) : Int) < ((c.length : Nat) : Int) := by omega
      have hE1 := hE.out.1
      have hE2 := hE.out.2
      rw [List.drop_eq_getElem_cons hlt] at hE1 hE2
      generalize c[k] = cc at *
      have hz : sErr1 vars s.length cc = 0 := by
        by_cases h : sErr1 vars s.length cc = 0
        · exact h
        · rw [show sErrs vars s.length (cc :: c.drop (k + 1)) = if sErr1 vars s.length cc = 0 then sErrs vars (sNext s.length cc) (c.drop (k + 1)) else sErr1 vars s.length cc from rfl, if_neg h] at hE2; exact absurd hE2 h
      rw [show sErrs vars s.length (cc :: c.drop (k + 1)) = if sErr1 vars s.length cc = 0 then sErrs vars (sNext s.length cc) (c.drop (k + 1)) else sErr1 vars s.length cc from rfl, if_pos hz, ← stk1_len (hv := hv) hz] at hE2
      have hE1 : stkR hv (stk1 hv s cc) (c.drop (k + 1)) = stkR hv [] c := hE1
      have hBf := stk1_bd HH.out hB0.out hv0 hz
      have hLf := stk1_len (hv := hv) hz
      have Hz := Lib.hid hz
      have Hst' := Lib.hid (And.intro hE1 hE2)
      have HBf' := Lib.hid hBf
      obtain ⟨op, val⟩ := cc
      have hz1 : 1 ≤ op ∧ op ≤ 6 ∧ (op = 2 → 0 ≤ val ∧ val < vars) ∧ (2 < op → 2 ≤ s.length) := by
        unfold sErr1 at hz
        dsimp only at hz
        by_cases e1 : op < 1 ∨ 6 < op
        · rw [if_pos e1] at hz; cases hz
        rw [if_neg e1] at hz
        refine ⟨by omega, by omega, fun e2 => ?_, fun e2 => ?_⟩
        · rw [if_pos (by omega)] at hz
          by_cases e3 : 0 ≤ vars ∧ (val < 0 ∨ op = 1 ∧ 255 < val ∨ op = 2 ∧ vars ≤ val)
          · rw [if_pos e3] at hz; cases hz
          · omega
        · rw [if_neg (by omega)] at hz
          by_cases e3 : (s.length : Int) < 2
          · rw [if_pos e3] at hz; cases hz
          · omega
      obtain ⟨o1, o6, ov, o2⟩ := hz1
      dsimp only at c0 c1
      have HWa := Lib.hid (fun o : Int => HW.out.alloc hws (.cells #[.int .i64 o, .int .i64 val] 62))
      clear hE hE1 hE2 hBf hz hO hW
      by_cases hop1 : op = 1
      · subst hop1
        have e1 : stk1 hv s ⟨1, val⟩ = s ++ [val] := rfl
        rw [e1] at Hst' HBf' hLf
        rw [sNext_leaf (by show (1 : Int) ≤ 2; decide)] at hLf
        have hx := HBf'.out val (by simp)
        obtain ⟨v9, w9, hrun, hown9, hg9, -⟩ := run_app1 (P := Try.prog) (w := (wr.alloc (.cells #[.int .i64 1, .int .i64 val] 62)).alloc (.cells #[.int .i64 val] 3)) 23 23 intCells 1 8 3 (.int .i64 0) Try.underlying23 infoInt rfl (by decide) intCells_len intCells_one w.heap.size _ s val ((HO.out.alloc _).alloc _) (wr.heap.size + 1) 1 (intNew _ _ _ (wr.heap.size + 1) (by simp)) (by unfold maxLen; omega) (by omega) (by simp; omega)
        have Hrun := Lib.hid hrun
        have HO9 := Lib.hid hown9
        have HW9 := Lib.hid (((HWa.out 1).alloc (by simp; omega) (.cells #[.int .i64 val] 3)).grown hg9 (by simp; omega) (fun j e => (own_lt' HO.out j e).1))
        clear hrun hown9 hg9
        go_wp2_with (at_builtin; refine wpList_app_run rfl 23 _ _ rfl rfl rfl Hrun.out ?_)
        go_roundw
        case rel => exact ⟨k + 1, _, by omega, by go_num, HO9.out, Hst', ⟨HBf', by simp; omega⟩, HW9.out⟩
        case measure => simp [intOf]; omega
      by_cases hop2 : op = 2
      · subst hop2
        obtain ⟨v0, v1⟩ := ov rfl
        obtain ⟨n, rfl⟩ := Int.eq_ofNat_of_zero_le v0
        have hnl : n < hv.length := by have := Hl.out; omega
        have e1 : stk1 hv s ⟨2, (n : Int)⟩ = s ++ [hv.getD n 0] := rfl
        rw [e1] at Hst' HBf' hLf
        obtain ⟨bh, offh, rfl, hbh, ch⟩ := RdI.at1 (Rd.below HB.out HW.out) hnl
        have eh : hv[n] = hv.getD n 0 := (getD_get hnl).symm
        rw [eh] at ch
        have q2 : ((n : Nat) : Int) < ((hv.length : Nat) : Int) := by omega
        have hx := HBf'.out (hv.getD n 0) (by simp)
        generalize hv.getD n 0 = x at *
        obtain ⟨v9, w9, hrun, hown9, hg9, -⟩ := run_app1 (P := Try.prog) (w := (wr.alloc (.cells #[.int .i64 2, .int .i64 (n : Nat)] 62)).alloc (.cells #[.int .i64 x] 3)) 23 23 intCells 1 8 3 (.int .i64 0) Try.underlying23 infoInt rfl (by decide) intCells_len intCells_one w.heap.size _ s x ((HO.out.alloc _).alloc _) (wr.heap.size + 1) 1 (intNew _ _ _ (wr.heap.size + 1) (by simp)) (by unfold maxLen; omega) (by omega) (by simp; omega)
        have Hrun := Lib.hid hrun
        have HO9 := Lib.hid hown9
        have HW9 := Lib.hid (((HWa.out 2).alloc (by simp; omega) (.cells #[.int .i64 x] 3)).grown hg9 (by simp; omega) (fun j e => (own_lt' HO.out j e).1))
        clear hrun hown9 hg9 eh
        go_wp2_with (at_builtin; refine wpList_app_run rfl 23 _ _ rfl rfl rfl Hrun.out ?_)
        go_roundw
        case rel => exact ⟨k + 1, _, by omega, by go_num, HO9.out, Hst', ⟨HBf', by simp; omega⟩, HW9.out⟩
        case measure => simp [intOf]; omega
      · have h3 : 2 < op := by omega
        have hs2 := o2 h3
        obtain ⟨m, hm⟩ : ∃ m, s.length = m + 2 := ⟨s.length - 2, by omega⟩
        have e1 : stk1 hv s ⟨op, val⟩ = s.take m ++ [doF op (s.getD m 0) (s.getD (m + 1) 0)] := by
          unfold stk1
          dsimp only
          rw [if_neg hop1, if_neg hop2, hm]; rfl
        rw [e1] at Hst' HBf'
        obtain ⟨g, rfl, hg1, hg2, _, hfz, hcell⟩ := OwnI.at2 HO.out (by omega)
        have d0 := hcell m (by omega)
        have d1 := hcell (m + 1) (by omega)
        rw [show s[m] = s.getD m 0 from (getD_get (by omega)).symm] at d0
        rw [show s[m + 1] = s.getD (m + 1) 0 from (getD_get (by omega)).symm] at d1
        have bx := getD_mem_bd hB0.out m
        have by_ := getD_mem_bd hB0.out (m + 1)
        have Hcl := Lib.hid (fun w => do_calls op (s.getD m 0) (s.getD (m + 1) 0) w bx by_)
        have hOs := OwnI.set_ ((HO.out.alloc (.cells #[.int .i64 op, .int .i64 val] 62)).drew) (k := m) (by omega) (doF op (s.getD m 0) (s.getD (m + 1) 0))
        have hOt := Own.take_ intCells_len hOs (k := m + 1) (by simp; omega) (by simp; omega)
        have e2 : (s.set m (doF op (s.getD m 0) (s.getD (m + 1) 0))).take (m + 1) = s.take m ++ [doF op (s.getD m 0) (s.getD (m + 1) 0)] := by
          rw [List.take_succ_eq_append_getElem (by simp; omega), List.getElem_set_self]
          congr 1
          rw [List.take_set_of_le (Nat.le_refl _)]
        rw [e2] at hOt
        have HOf := Lib.hid hOt
        have Hst := Lib.hid Hst'.out
        have HBf : Hid (∀ x ∈ s.take m ++ [doF op (s.getD m 0) (s.getD (m + 1) 0)], 0 ≤ x ∧ x ≤ 255) ∧ (s.take m ++ [doF op (s.getD m 0) (s.getD (m + 1) 0)]).length ≤ k + 1 := ⟨HBf', by simp; omega⟩
        have HBf := Lib.hid HBf
        generalize hxm : s.getD m 0 = x at *
        generalize hym : s.getD (m + 1) 0 = y at *
        have hdb := doF_bd op x y
        have HWf := Lib.hid ((HWa.out op).drew.setCell (p := ⟨g, m, none⟩) (by simpa using hg1) (.int .i64 (doF op x y)))
        have Hs0 : Hid ((wr.alloc (.cells #[.int .i64 op, .int .i64 val] 62)).drew.cell? ⟨wr.heap.size, 0, none⟩ = some (.int .i64 op) ∧ (wr.alloc (.cells #[.int .i64 op, .int .i64 val] 62)).drew.cell? ⟨g, m + 1, none⟩ = some (.int .i64 y)) := Lib.hid ⟨cell_new wr _ _ wr.heap.size rfl 0, (cell_grown (World.grownBy_alloc wr _ none) _ (m + 1) hg2 (by simp)).trans d1⟩
        have Hk0 : Hid ((wr.alloc (.cells #[.int .i64 op, .int .i64 val] 62)).drew.cell? ⟨g, m, none⟩ = some (.int .i64 x)) := Lib.hid ((cell_grown (World.grownBy_alloc wr _ none) _ m hg2 (by simp)).trans d0)
        have Hf0 : Hid ((wr.alloc (.cells #[.int .i64 op, .int .i64 val] 62)).drew.frozen? ⟨g, m, none⟩ = false) := Lib.hid (by rw [World.frozen?_drew, frozen?_alloc_cells]; exact hfz m)
        have hgw : g < wr.heap.size := hg2
        have q3 : ((s.length : Nat) : Int) - 2 = ((m : Nat) : Int) := by omega
        have q4 : ((m : Nat) : Int) < ((s.length : Nat) : Int) := by omega
        have q5 : ((m : Nat) : Int) + 1 < ((s.length : Nat) : Int) := by omega
        have q8 : IntKind.i64.wrap ((m : Int) + 1) = (m : Int) + 1 := by rw [IntKind.wrap_i64]; omega
        have q9 : 0 ≤ (m : Int) + 1 := by omega
        have q6 : (op == 1) = false := by rw [beq_eq_false_iff_ne]; exact hop1
        have q7 : (op == 2) = false := by rw [beq_eq_false_iff_ne]; exact hop2
        clear hOs hOt e1 e2 hcell hfz HBf' Hst' hxm hym hLf bx by_ hm hs2 o2 ov
        have Hkp : Hid (∀ (w' : World) (u : Value), (w'.cell? ⟨wr.heap.size, 0, none⟩ = some (.int .i64 op) ∧ w'.cell? ⟨g, m + 1, none⟩ = some (.int .i64 y)) → ((w'.setCell ⟨g, m, none⟩ u).cell? ⟨wr.heap.size, 0, none⟩ = some (.int .i64 op) ∧ (w'.setCell ⟨g, m, none⟩ u).cell? ⟨g, m + 1, none⟩ = some (.int .i64 y))) := Lib.hid fun w' u hs => by
          rw [World.cell?_setCell_far _ _ _ _ (by show g ≠ wr.heap.size; omega), World.cell?_setCell_other _ _ _ _ (fun e => by injection e with _ e; omega)]
          exact hs
        go_wp2
        refine wp_region_held_drew (S := fun w' => w'.cell? ⟨wr.heap.size, 0, none⟩ = some (.int .i64 op) ∧ w'.cell? ⟨g, m + 1, none⟩ = some (.int .i64 y)) (by kernel_rfl) Hs0.out (fun hH0 => ?_)
        generalize (wr.alloc (.cells #[.int .i64 op, .int .i64 val] 62)).drew = w0 at *
        generalize doF op x y = z at *
          -- the region
        refine wpAnyH_take (i := 0) (oi := { dst := some 39, op := Go.Op.move (Go.Operand.tmp 10), type := 23, pos := "stack.go:74", after := #[], guard := none }) rfl (by kernel_rfl) (by kernel_rfl) (by kernel_rfl) (fun _ _ _ h => h) (Or.inl ⟨by rfl, fun w hw => by (go_simp; try with_reducible rfl)⟩) (by assumption) ?_
        try simp only [Act.put, List.setIfInBounds_toArray, List.set_cons_zero, List.set_cons_succ]
        refine wpAnyH_take (i := 1) (oi := { dst := some 40, op := Go.Op.move (Go.Operand.tmp 13), type := 3, pos := "stack.go:74", after := #[], guard := none }) rfl (by kernel_rfl) (by kernel_rfl) (by kernel_rfl) (fun _ _ _ h => h) (Or.inl ⟨by rfl, fun w hw => by (go_simp; try with_reducible rfl)⟩) (by assumption) ?_
        try simp only [Act.put, List.setIfInBounds_toArray, List.set_cons_zero, List.set_cons_succ]
        refine wpAnyH_take (i := 2) (oi := { dst := some 41, op := Go.Op.fieldAddr 62 (Go.Operand.tmp 12) 0, type := 0, pos := "stack.go:74", after := #[], guard := none }) rfl (by kernel_rfl) (by kernel_rfl) (by kernel_rfl) (fun _ _ _ h => h) (Or.inl ⟨by rfl, fun w hw => by (go_simp; try with_reducible rfl)⟩) (by assumption) ?_
        try simp only [Act.put, List.setIfInBounds_toArray, List.set_cons_zero, List.set_cons_succ]
        refine wpAnyH_take (i := 3) (oi := { dst := some 42, op := Go.Op.load 3 (Go.Operand.tmp 41), type := 3, pos := "stack.go:74", after := #[{ on := 2, ground := Go.Ground.data }], guard := none }) rfl (by kernel_rfl) (by kernel_rfl) (by kernel_rfl) (fun _ _ _ h => h) (Or.inl ⟨by rfl, fun w hw => by (obtain ⟨p0, p1⟩ := hw; go_simp; try with_reducible rfl)⟩) (by assumption) ?_
        try simp only [Act.put, List.setIfInBounds_toArray, List.set_cons_zero, List.set_cons_succ]
        refine wpAnyH_take (i := 4) (oi := { dst := some 43, op := Go.Op.move (Go.Operand.tmp 10), type := 23, pos := "stack.go:74", after := #[], guard := none }) rfl (by kernel_rfl) (by kernel_rfl) (by kernel_rfl) (fun _ _ _ h => h) (Or.inl ⟨by rfl, fun w hw => by (go_simp; try with_reducible rfl)⟩) (by assumption) ?_
        try simp only [Act.put, List.setIfInBounds_toArray, List.set_cons_zero, List.set_cons_succ]
        refine wpAnyH_take (i := 5) (oi := { dst := some 44, op := Go.Op.move (Go.Operand.tmp 13), type := 3, pos := "stack.go:74", after := #[], guard := none }) rfl (by kernel_rfl) (by kernel_rfl) (by kernel_rfl) (fun _ _ _ h => h) (Or.inl ⟨by rfl, fun w hw => by (go_simp; try with_reducible rfl)⟩) (by assumption) ?_
        try simp only [Act.put, List.setIfInBounds_toArray, List.set_cons_zero, List.set_cons_succ]
        refine wpAnyH_take (i := 6) (oi := { dst := some 45, op := Go.Op.indexAddr 23 (Go.Operand.tmp 43) (Go.Operand.tmp 44), type := 0, pos := "stack.go:74", after := #[{ on := 4, ground := Go.Ground.data }, { on := 5, ground := Go.Ground.data }], guard := none }) rfl (by kernel_rfl) (by kernel_rfl) (by kernel_rfl) (fun _ _ _ h => h) (Or.inl ⟨by rfl, fun w hw => by (go_simp; try with_reducible rfl)⟩) (by assumption) ?_
        try simp only [Act.put, List.setIfInBounds_toArray, List.set_cons_zero, List.set_cons_succ]
        refine wpAnyH_take (i := 8) (oi := { dst := some 47, op := Go.Op.move (Go.Operand.tmp 10), type := 23, pos := "stack.go:74", after := #[], guard := none }) rfl (by kernel_rfl) (by kernel_rfl) (by kernel_rfl) (fun _ _ _ h => h) (Or.inl ⟨by rfl, fun w hw => by (go_simp; try with_reducible rfl)⟩) (by assumption) ?_
        try simp only [Act.put, List.setIfInBounds_toArray, List.set_cons_zero, List.set_cons_succ]
        refine wpAnyH_take (i := 9) (oi := { dst := some 48, op := Go.Op.move (Go.Operand.tmp 13), type := 3, pos := "stack.go:74", after := #[], guard := none }) rfl (by kernel_rfl) (by kernel_rfl) (by kernel_rfl) (fun _ _ _ h => h) (Or.inl ⟨by rfl, fun w hw => by (go_simp; try with_reducible rfl)⟩) (by assumption) ?_
        try simp only [Act.put, List.setIfInBounds_toArray, List.set_cons_zero, List.set_cons_succ]
        refine wpAnyH_take (i := 10) (oi := { dst := some 49, op := Go.Op.binOp Go.BinOp.add 3 (Go.Operand.tmp 48) (Go.Operand.const (Go.Value.int Go.IntKind.i64 1)) 3, type := 3, pos := "stack.go:74", after := #[{ on := 9, ground := Go.Ground.data }], guard := none }) rfl (by kernel_rfl) (by kernel_rfl) (by kernel_rfl) (fun _ _ _ h => h) (Or.inl ⟨by rfl, fun w hw => by (go_simp; try with_reducible rfl)⟩) (by assumption) ?_
        try simp only [Act.put, List.setIfInBounds_toArray, List.set_cons_zero, List.set_cons_succ]
        refine wpAnyH_take (i := 11) (oi := { dst := some 50, op := Go.Op.indexAddr 23 (Go.Operand.tmp 47) (Go.Operand.tmp 49), type := 0, pos := "stack.go:74", after := #[{ on := 8, ground := Go.Ground.data }, { on := 10, ground := Go.Ground.data }], guard := none }) rfl (by kernel_rfl) (by kernel_rfl) (by kernel_rfl) (fun _ _ _ h => h) (Or.inl ⟨by rfl, fun w hw => by (go_simp; try with_reducible rfl)⟩) (by assumption) ?_
        try simp only [Act.put, List.setIfInBounds_toArray, List.set_cons_zero, List.set_cons_succ]
        refine wpAnyH_take (i := 12) (oi := { dst := some 51, op := Go.Op.load 3 (Go.Operand.tmp 50), type := 3, pos := "stack.go:74", after := #[{ on := 11, ground := Go.Ground.data }], guard := none }) rfl (by kernel_rfl) (by kernel_rfl) (by kernel_rfl) (fun _ _ _ h => h) (Or.inl ⟨by rfl, fun w hw => by (obtain ⟨p0, p1⟩ := hw; go_simp; try with_reducible rfl)⟩) (by assumption) ?_
        try simp only [Act.put, List.setIfInBounds_toArray, List.set_cons_zero, List.set_cons_succ]
        refine wpAnyH_ready (rs := [7]) (by kernel_rfl) (by simp) ?_
        refine AllReadyH.cons (o := { dst := some 46, op := Go.Op.load 3 (Go.Operand.tmp 45), type := 3, pos := "stack.go:74", after := #[{ on := 6, ground := Go.Ground.data }], guard := none }) rfl (fun K hK => ?_) AllReadyH.nil
        have cc := Hk0.out
        go_simp
        clear cc
        refine hK.out _ _ hH0 (fun hH1 => ?_)
        clear hK hH0
        have hH0 := hH1
        clear hH1
        try simp only [Act.put, List.setIfInBounds_toArray, List.set_cons_zero, List.set_cons_succ]
        refine wpAnyH_ready (rs := [13]) (by kernel_rfl) (by simp) ?_
        refine AllReadyH.cons (o := { dst := some 52, op := Go.Op.call { callee := Go.Callee.value (Go.Operand.func 45), args := #[Go.Operand.tmp 42, Go.Operand.tmp 46, Go.Operand.tmp 51], argTypes := #[3, 3, 3] }, type := 3, pos := "stack.go:74", after := #[{ on := 3, ground := Go.Ground.data }, { on := 7, ground := Go.Ground.data }, { on := 12, ground := Go.Ground.data }], guard := none }) rfl (fun K hK => ?_) AllReadyH.nil
        go_simp
        go_at_call 45
        refine (Hcl.out _).mono ?_
        rintro e w9 ⟨rfl, rfl⟩
        refine hK.out _ _ hH0 (fun hH1 => ?_)
        clear hK hH0
        have hH0 := hH1
        clear hH1
        try simp only [Act.put, List.setIfInBounds_toArray, List.set_cons_zero, List.set_cons_succ]
        refine wpAnyH_take (i := 14) (oi := { dst := some 53, op := Go.Op.indexAddr 23 (Go.Operand.tmp 39) (Go.Operand.tmp 40), type := 0, pos := "stack.go:74", after := #[{ on := 0, ground := Go.Ground.data }, { on := 1, ground := Go.Ground.data }, { on := 0, ground := Go.Ground.phase }, { on := 1, ground := Go.Ground.phase }, { on := 2, ground := Go.Ground.phase }, { on := 3, ground := Go.Ground.phase }, { on := 4, ground := Go.Ground.phase }, { on := 5, ground := Go.Ground.phase }, { on := 6, ground := Go.Ground.phase }, { on := 7, ground := Go.Ground.phase }, { on := 8, ground := Go.Ground.phase }, { on := 9, ground := Go.Ground.phase }, { on := 10, ground := Go.Ground.phase }, { on := 11, ground := Go.Ground.phase }, { on := 12, ground := Go.Ground.phase }, { on := 13, ground := Go.Ground.phase }], guard := none }) rfl (by kernel_rfl) (by kernel_rfl) (by kernel_rfl) (fun _ _ _ h => h) (Or.inl ⟨by rfl, fun w hw => by (go_simp; try with_reducible rfl)⟩) (by assumption) ?_
        try simp only [Act.put, List.setIfInBounds_toArray, List.set_cons_zero, List.set_cons_succ]
        refine wpAnyH_ready (rs := [15]) (by kernel_rfl) (by simp) ?_
        refine AllReadyH.cons (o := { dst := none, op := Go.Op.store 3 (Go.Operand.tmp 53) (Go.Operand.tmp 52), type := 0, pos := "stack.go:74", after := #[{ on := 14, ground := Go.Ground.data }, { on := 13, ground := Go.Ground.data }, { on := 13, ground := Go.Ground.chain }, { on := 0, ground := Go.Ground.phase }, { on := 1, ground := Go.Ground.phase }, { on := 2, ground := Go.Ground.phase }, { on := 3, ground := Go.Ground.phase }, { on := 4, ground := Go.Ground.phase }, { on := 5, ground := Go.Ground.phase }, { on := 6, ground := Go.Ground.phase }, { on := 7, ground := Go.Ground.phase }, { on := 8, ground := Go.Ground.phase }, { on := 9, ground := Go.Ground.phase }, { on := 10, ground := Go.Ground.phase }, { on := 11, ground := Go.Ground.phase }, { on := 12, ground := Go.Ground.phase }, { on := 13, ground := Go.Ground.phase }], guard := none }) rfl (fun K hK => ?_) AllReadyH.nil
        have f0 := Hf0.out
        have e0 := Hk0.out
        go_simp
        refine hK.out _ _ (Hkp.out _ _ hH0) (fun hH2 => ?_)
        clear hK hH0
        try simp only [Act.put, List.setIfInBounds_toArray, List.set_cons_zero, List.set_cons_succ]
        refine wpAnyH_done (by kernel_rfl) ?_ _
        clear hH2
        go_wp2
        go_roundw
        case rel => exact ⟨k + 1, _, by omega, by go_num, HOf.out, Hst, HBf.out, HWf.out⟩
        case measure => simp [intOf]; omega
          -- behind the region
    · have : k = c.length := by omega
      subst this
      have hfin := hE.out.1
      rw [List.drop_length] at hfin
      have hfin : s = stkR hv [] c := hfin
      have HF : Hid (OwnI wr w.heap.size 3 (.slice As s.length cs) (stkR hv [] c)) := Lib.hid (by rw [← hfin]; exact HO.out)
      clear hO hW hfin
      go_wp2
      go_ret2
      exact ⟨_, rfl, HF.out, HW.out⟩
end Go.Proofs.Ytmglhppfdhphbaa
