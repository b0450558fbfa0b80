/- HoldAll. -/
import Derived.Test.YtdkkmmljaijomaaHoldI
import Derived.Test.YtdkkmmljaijomaaHasR
namespace Go.Proofs.Ytdkkmmljaijomaa
open Go.RowKit

/-- Each thing that is asked for and is not there misses once at least. -/
theorem Runs.once {again : Bool} {P : Nat} {pick : List Int → List Int → Nat → Prop} {l S : List Int} {m : Nat} (h : Runs again P pick l S m) : ∀ D : List Int, D.Nodup → (∀ x ∈ D, x ∈ l ∧ x ∉ S) → D.length ≤ m := by
  have drop1 : ∀ {D : List Int} {r : Int}, D.length ≤ (D.erase r).length + 1 := fun {D r} => by
    by_cases h : r ∈ D
    · have := len_erase_mem h; omega
    · rw [List.erase_of_not_mem h]; omega
  have key : ∀ {D rest S' S : List Int} {r : Int}, D.Nodup → (∀ x ∈ D, x ∈ r :: rest ∧ x ∉ S) → (∀ x ∈ S', x = r ∨ x ∈ S) → ∀ x ∈ D.erase r, x ∈ rest ∧ x ∉ S' := fun {D rest S' S r} hn hD hS x hx => by
    obtain ⟨h1, h2⟩ := (List.Nodup.mem_erase_iff hn).1 hx
    obtain ⟨h3, h4⟩ := hD x h2
    refine ⟨by rcases List.mem_cons.1 h3 with e | e; exact absurd e h1; exact e, fun h5 => ?_⟩
    rcases hS x h5 with e | e
    · exact h1 e
    · exact h4 e
  induction h with
  | done S =>
    intro D hn hD
    cases D with
    | nil => exact Nat.le_refl _
    | cons x r => have := (hD x (by simp)).1; cases this
  | hit h k ih =>
    rename_i r rest S m
    intro D hn hD
    refine ih D hn fun x hx => ?_
    obtain ⟨h1, h2⟩ := hD x hx
    have hne : x ≠ r := fun e => h2 (e ▸ h)
    refine ⟨by rcases List.mem_cons.1 h1 with e | e; exact absurd e hne; exact e, ?_⟩
    cases again
    · exact h2
    · simp only [if_true, List.mem_append, List.mem_singleton, not_or]
      exact ⟨fun h3 => h2 (List.mem_of_mem_erase h3), hne⟩
  | room h hl k ih =>
    rename_i r rest S m
    intro D hn hD
    have := ih _ (hn.sublist List.erase_sublist) (key hn hD fun x hx => by
      rcases List.mem_append.1 hx with e | e
      · exact .inr e
      · simp at e; exact .inl e)
    have := @drop1 D r
    omega
  | goes h hl hi hp k ih =>
    rename_i r rest S m i
    intro D hn hD
    have := ih _ (hn.sublist List.erase_sublist) (key hn hD fun x hx => by
      rcases List.mem_append.1 hx with e | e
      · exact .inr (mem_eraseIdx_ e)
      · simp at e; exact .inl e)
    have := @drop1 D r
    omega
theorem sub_snoc {S N : List Int} {r : Int} (h : ∀ x ∈ S, x ∈ N) (hr : r ∈ N) : ∀ x ∈ S ++ [r], x ∈ N := fun x hx => by
  rcases List.mem_append.1 hx with e | e
  · exact h x e
  · simp at e; subst e; exact hr
theorem full_no {S N : List Int} {r : Int} {P : Nat} (hn : S.Nodup) (hS : ∀ x ∈ S, x ∈ N) (hr : r ∈ N) (h : r ∉ S) (hl : S.length = P) (hN : N.length ≤ P) : False := by
  have := nodup_sub_len (nodup_snoc hn h) (sub_snoc hS hr)
  simp at this; omega
/-- Where there is a place for each nothing goes. -/
theorem Runs.most {again : Bool} {P : Nat} {pick : List Int → List Int → Nat → Prop} {l S : List Int} {m : Nat} (h : Runs again P pick l S m) : ∀ N : List Int, N.length ≤ P → S.Nodup → (∀ x ∈ S, x ∈ N) → (∀ x ∈ l, x ∈ N) → m + S.length ≤ N.length := by
  induction h with
  | done S => exact fun N _ hn hS _ => by have := nodup_sub_len hn hS; omega
  | hit h k ih =>
    rename_i r rest S m
    intro N hN hn hS hl
    cases again
    · exact ih N hN hn hS fun x hx => hl x (by simp [hx])
    · simp only [if_true] at ih
      have := ih N hN (Runs.nodup_again hn) (sub_snoc (fun x hx => hS x (List.mem_of_mem_erase hx)) (hS r h)) (fun x hx => hl x (by simp [hx]))
      have := len_erase_mem h
      simp at *; omega
  | room h hl0 k ih =>
    intro N hN hn hS hl
    have := ih N hN (nodup_snoc hn h) (sub_snoc hS (hl _ (by simp))) (fun x hx => hl x (by simp [hx]))
    simp at this; omega
  | goes h hl0 hi hp k ih =>
    intro N hN hn hS hl
    exact (full_no hn hS (hl _ (by simp)) h hl0 hN).elim
theorem Stuck.no {P : Nat} {l S : List Int} (h : Stuck false P l S) : ∀ N : List Int, N.length ≤ P → S.Nodup → (∀ x ∈ S, x ∈ N) → (∀ x ∈ l, x ∈ N) → False := by
  induction h with
  | hit h k ih => exact fun N hN hn hS hl => ih N hN hn hS fun x hx => hl x (by simp [hx])
  | room h hl0 k ih => exact fun N hN hn hS hl => ih N hN (nodup_snoc hn h) (sub_snoc hS (hl _ (by simp))) (fun x hx => hl x (by simp [hx]))
  | stop h hl0 => exact fun N hN hn hS hl => full_no hn hS (hl _ (by simp)) h hl0 hN
/-- The different ones of l. -/
structure NamesOf (l N : List Int) : Prop where
  nodup : N.Nodup
  mem : ∀ x, x ∈ N ↔ x ∈ l
  len : N.length ≤ l.length
theorem NamesOf.keep {l N : List Int} {r : Int} (h : NamesOf l N) (hr : r ∈ N) : NamesOf (l ++ [r]) N :=
  ⟨h.nodup, fun x => by rw [List.mem_append, List.mem_singleton, h.mem]; exact ⟨.inl, fun hx => by rcases hx with e | rfl; exact e; exact (h.mem _).1 hr⟩, by have := h.len; simp; omega⟩
theorem NamesOf.push {l N : List Int} {r : Int} (h : NamesOf l N) (hr : r ∉ N) : NamesOf (l ++ [r]) (N ++ [r]) :=
  ⟨nodup_snoc h.nodup hr, fun x => by rw [List.mem_append, List.mem_append, h.mem], by have := h.len; simp; omega⟩
theorem NamesOf.le {l N : List Int} (h : NamesOf l N) {again : Bool} {P : Nat} {pick : List Int → List Int → Nat → Prop} {m : Nat} (hr : Runs again P pick l [] m) : N.length ≤ m := hr.once N h.nodup fun x hx => ⟨(h.mem x).1 hx, by simp⟩
theorem NamesOf.eq {l N : List Int} (h : NamesOf l N) {again : Bool} {P : Nat} {pick : List Int → List Int → Nat → Prop} {m : Nat} (hr : Runs again P pick l [] m) (hP : N.length ≤ P) : m = N.length := by
  have h1 := h.le hr
  have h2 := hr.most N hP (by simp) (by simp) fun x hx => (h.mem x).2 hx
  simp at h2; omega

theorem wpList_appI8 {w : World} {ops : Array Oper} {rest : List Oper} {o : Oper} {a : Act} {Q : Exit → Act → World → Prop} (hgd : o.guard = none) (s x : Operand)
    (ho : o.op = .call { callee := .builtin .append, args := #[s, x], argTypes := #[22, 22] })
    (base : Nat) (v : Value) (l : List Int) (y : Int) (hs : a.eval s = v) (hown : OwnI w base 3 v l) (S c : Nat) (hx : a.eval x = .slice (some ⟨S, 0, none⟩) 1 c)
    (hnew : w.cell? ⟨S, 0, none⟩ = some (.int .i64 y)) (hlen : (l.length + 1) * 8 ≤ 140737488355328) (hbase : base ≤ w.heap.size)
    (h : ∀ v' w', OwnI w' base 3 v' (l ++ [y]) → w.grownBy w' v.ownBlock → wpList Try.prog ops Q rest (a.put o.dst v') w') : wpList Try.prog ops Q (o :: rest) a w :=
  wpList_app1 hgd s x 22 ho intCells 1 8 3 (.int .i64 0) Try.underlying22 infoInt rfl (by decide) intCells_len intCells_one base v l y hs hown S c hx
    (fun j hj => by have : j = 0 := by omega
                    subst this; rw [hnew]; rfl) (by unfold maxLen; omega) (by omega) hbase h

set_option maxRecDepth 100000 in
set_option maxHeartbeats 8000000 in
theorem holdAll_calls (A : Option Addr) (refs : List Int) (cap : Nat) (P : Int) (w : World) (hA : RdI w A refs) (hm : refs.length * 8 ≤ 140737488351232) (hcap : refs.length ≤ cap) (hP : P ≤ 9223372036854775807) :
    Calls Try.prog 6 #[.slice A refs.length cap, .int .i64 P] w fun e w' => e = .returned (.bool true) ∧ Below w.heap.size w w' := by
  have HA := Lib.hid hA; clear hA
  have hm' : refs.length ≤ maxLen := by unfold maxLen; omega
  have Hm := Lib.hid hm'
  clear hm'
  go_enter Try.func6, Try.ntmps6
  go_wp2
  go_loopw [5, 18] (fun ns i wr => ∃ (k : Nat) (N : List Int), k ≤ refs.length ∧ i = .int .i64 k ∧ OwnI wr w.heap.size 3 ns N ∧ Hid (NamesOf (refs.take k) N) ∧ Below w.heap.size w wr) (fun _ i _ => refs.length - (intOf i).toNat)
  case atStart => exact ⟨0, [], Nat.zero_le _, rfl, Own.nil_ _ _ _, Lib.hid ⟨by simp, by simp, by simp⟩, Below.refl _ _⟩
  case round =>
    obtain ⟨k, N, hk, rfl, hown, hN, hW⟩ := hrel
    have HW := Lib.hid hW
    have Hown := Lib.hid hown
    have hw2 := hW.size
    obtain ⟨B, c, rfl, hR, _, hc⟩ := hown.form intCells_len
    have hNk : N.length ≤ k := by have := hN.out.len; simp at this; omega
    have HR := Lib.hid hR
    clear hR hown
    by_cases hlt : k < refs.length
    · obtain ⟨b0, off0, rfl, hb0, c0⟩ := RdI.at1 (Rd.below HA.out hW) hlt
      have Htk := Lib.hid (List.take_succ_eq_append_getElem hlt)
      clear hW
      by_cases hr : refs[k] ∈ N
      · have Hst : Hid (NamesOf (refs.take (k + 1)) N) := by show NamesOf _ _; rw [Htk.out]; exact hN.out.keep hr
        have Hd := Lib.hid (decide_eq_true hr)
        clear hr Htk
        generalize refs[k] = r at *
        go_wp2_with (go_at_call 19; refine (has_calls _ _ _ _ _ HR.out (by unfold maxLen; omega)).mono ?_; rintro e w3 ⟨rfl, rfl⟩; rw [Hd.out])
        go_roundw
        case rel => exact ⟨k + 1, N, by omega, by go_num, Hown.out, Hst, HW.out⟩
        case measure => simp [intOf]; omega
      · have Hst : Hid (NamesOf (refs.take (k + 1)) (N ++ [refs[k]])) := by show NamesOf _ _; rw [Htk.out]; exact hN.out.push hr
        have Hd := Lib.hid (decide_eq_false hr)
        clear hr Htk
        generalize refs[k] = r at *
        go_wp2_with (first
          | (go_at_call 19; refine (has_calls _ _ _ _ _ HR.out (by unfold maxLen; omega)).mono ?_; rintro e w3 ⟨rfl, rfl⟩; rw [Hd.out])
          | (at_builtin; refine wpList_appI8 rfl _ _ rfl w.heap.size _ _ r rfl (Hown.out.alloc _) _ _ rfl (cell_new _ _ _ _ rfl _) (by omega) (by simp; omega) ?_; intro v5 w5 hown5 hgrow5))
        have HB5 := Lib.hid (below_own (HW.out.alloc (by omega) _) hgrow5 (Hown.out.alloc _) (Nat.le_refl _) (by simp; omega))
        have Hown5 := Lib.hid hown5
        clear hown5 hgrow5
        go_roundw
        case rel => exact ⟨k + 1, _, by omega, by go_num, Hown5.out, Hst, HB5.out⟩
        case measure => simp [intOf]; omega
    · have : k = refs.length := by omega
      subst this
      have HN : Hid (NamesOf refs N) := by have := hN.out; rwa [List.take_length] at this
      clear hW hN hlt hk Hown HR hc
      obtain ⟨wp, rfl⟩ : ∃ wp : World, wp = wr := ⟨_, rfl⟩
      go_wp2_with fail
      refine (min_calls _ _ _ _ _ (Rd.below HA.out HW.out) Hm.out hcap).mono ?_
      intro e w2 hr
      by_cases h : Held refs P
      case neg =>
        obtain ⟨hB, rfl⟩ := hr.bad h
        have HB := Lib.hid (HW.out.trans (hB.mono hw2))
        have H' := Lib.hid (decide_eq_false h)
        clear hB hr h
        go_wp2_with (go_at_call 14; refine (held_calls _ _ _ _ _ Hm.out).mono ?_; rintro e w1 ⟨rfl, rfl⟩; rw [H'.out])
        go_ret
        exact ⟨rfl, HB.out⟩
      have H := Lib.hid h
      have H' := Lib.hid (decide_eq_true h)
      obtain ⟨P, rfl⟩ := Int.eq_ofNat_of_zero_le (show 0 ≤ P by have := h.2.1; omega)
      obtain ⟨h1, h2, h3⟩ := h
      obtain ⟨hB, k, rfl, hk, hrk⟩ := hr.ok H.out
      have HB2 := Lib.hid (HW.out.trans (hB.mono hw2))
      have Hrk := Lib.hid hrk
      have hw2 := HB2.out.size
      clear hB hr hrk
      go_wp2_with (go_at_call 14; refine (held_calls _ _ _ _ _ Hm.out).mono ?_; rintro e w1 ⟨rfl, rfl⟩; rw [H'.out])
      refine (lru_calls _ _ _ _ _ (Rd.below HA.out HB2.out) Hm.out).mono ?_
      intro e w3 hr
      obtain ⟨hB, a, rfl, ha, hra⟩ := hr.ok H.out
      have HB3 := Lib.hid (HB2.out.trans (hB.mono hw2))
      have Hra := Lib.hid hra
      have hw3 := HB3.out.size
      clear hB hr hra
      go_wp2_with fail
      refine (fifo_calls _ _ _ _ _ (Rd.below HA.out HB3.out) Hm.out).mono ?_
      intro e w4 hr
      obtain ⟨hB, b, rfl, hb, hrb⟩ := hr.ok H.out
      have HB4 := Lib.hid (HB3.out.trans (hB.mono hw3))
      have Hrb := Lib.hid hrb
      have hw4 := HB4.out.size
      clear hB hr hrb
      go_wp2_with fail
      refine (playAll_calls _ none _ [] _ 0 _ _ (Rd.below HA.out HB4.out) Hm.out Rd.nil_ (by simp) (by simp)).mono ?_
      rintro e w5 ⟨hB, hr⟩
      have HB5 := Lib.hid (HB4.out.trans (hB.mono hw4))
      clear hB
      have hnk := HN.out.le Hrk.out
      have qk : decide ((k : Int) < (N.length : Int)) = false := decide_eq_false (by omega)
      by_cases hNP : P < N.length
      · have q : decide ((P : Int) < (N.length : Int)) = true := decide_eq_true (by omega)
        rcases hr with ⟨h0, _⟩ | ⟨P', hp, _, ⟨rfl, _⟩ | ⟨m, rfl, hmm, hr⟩⟩
        · exact absurd H.out h0
        all_goals
          (try clear hr)
          clear hp
          go_wp2
          all_goals first
            | (exfalso; omega)
            | (go_ret
               exact ⟨ret_bool (by first | rfl | (simp; omega)), HB5.out⟩)
      · have q : decide ((P : Int) < (N.length : Int)) = false := decide_eq_false (by omega)
        have e1 := HN.out.eq Hrk.out (by omega)
        have e2 := HN.out.eq Hra.out (by omega)
        have e3 := HN.out.eq Hrb.out (by omega)
        rcases hr with ⟨h0, _⟩ | ⟨P', hp, _, ⟨rfl, hs⟩ | ⟨m, rfl, hmm, hr⟩⟩
        · exact absurd H.out h0
        · have : P' = P := by omega
          subst this
          exact (hs.no N (by omega) (by simp) (by simp) fun x hx => (HN.out.mem x).2 hx).elim
        · have : P' = P := by omega
          subst this
          have e4 := HN.out.eq hr (by omega)
          have q1 : ((k : Int) == (N.length : Int)) = true := by rw [beq_iff_eq]; omega
          have q2 : ((a : Int) == (k : Int)) = true := by rw [beq_iff_eq]; omega
          have q3 : ((b : Int) == (k : Int)) = true := by rw [beq_iff_eq]; omega
          have q4 : ((m : Int) == (k : Int)) = true := by rw [beq_iff_eq]; omega
          have q5 : ((k : Int) == (m : Int)) = true := by rw [beq_iff_eq]; omega
          clear hr hp e1 e2 e3 e4
          go_wp2
          all_goals first
            | (exfalso; omega)
            | (go_ret
               exact ⟨ret_bool (by first | rfl | (simp; omega)), HB5.out⟩)
end Go.Proofs.Ytdkkmmljaijomaa
