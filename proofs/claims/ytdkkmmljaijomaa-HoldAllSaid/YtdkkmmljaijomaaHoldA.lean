/- Few places, many things: the plain laws of hold (Belady; Mattson, Gecsei, Slutz, Traiger; Sleator, Tarjan). No condition: plain lists. -/
namespace Go.Proofs.Ytdkkmmljaijomaa

theorem nodup_sub_len {α : Type} : ∀ {l m : List α}, l.Nodup → (∀ x ∈ l, x ∈ m) → l.length ≤ m.length
  | [], _, _, _ => by simp
  | a :: l, m, hn, hs => by
    rw [List.nodup_cons] at hn
    obtain ⟨p, q, rfl⟩ := List.append_of_mem (hs a (by simp))
    have : l.length ≤ (p ++ q).length := nodup_sub_len hn.2 fun x hx => by
      have h1 := hs x (by simp [hx])
      have h2 : x ≠ a := fun e => hn.1 (e ▸ hx)
      simp only [List.mem_append, List.mem_cons] at h1 ⊢
      rcases h1 with h | h | h
      · exact .inl h
      · exact absurd h h2
      · exact .inr h
    simp at this ⊢; omega

/-- A run of things: what is there, and the misses; which one goes is said by pick (what is still asked for, what is there, its place). -/
inductive Runs (again : Bool) (P : Nat) (pick : List Int → List Int → Nat → Prop) : List Int → List Int → Nat → Prop
  | done (S : List Int) : Runs again P pick [] S 0
  | hit {r : Int} {rest S : List Int} {m : Nat} (h : r ∈ S) (k : Runs again P pick rest (if again then S.erase r ++ [r] else S) m) : Runs again P pick (r :: rest) S m
  | room {r : Int} {rest S : List Int} {m : Nat} (h : r ∉ S) (hl : S.length ≠ P) (k : Runs again P pick rest (S ++ [r]) m) : Runs again P pick (r :: rest) S (m + 1)
  | goes {r : Int} {rest S : List Int} {m i : Nat} (h : r ∉ S) (hl : S.length = P) (hi : i < S.length) (hp : pick (r :: rest) S i) (k : Runs again P pick rest (S.eraseIdx i ++ [r]) m) : Runs again P pick (r :: rest) S (m + 1)

/-- Any way to do it with Q places. -/
inductive Legal (Q : Nat) : List Int → List Int → Nat → Prop
  | done (S : List Int) : Legal Q [] S 0
  | hit {r : Int} {rest S S' : List Int} {m : Nat} (h : r ∈ S) (hs : ∀ x ∈ S', x ∈ S) (hr : r ∈ S') (hn : S'.Nodup) (hl : S'.length ≤ Q) (k : Legal Q rest S' m) : Legal Q (r :: rest) S m
  | miss {r : Int} {rest S S' : List Int} {m : Nat} (h : r ∉ S) (hs : ∀ x ∈ S', x = r ∨ x ∈ S) (hr : r ∈ S') (hn : S'.Nodup) (hl : S'.length ≤ Q) (k : Legal Q rest S' m) : Legal Q (r :: rest) S (m + 1)

theorem Legal.mono {Q Q' : Nat} (hq : Q ≤ Q') {l S : List Int} {m : Nat} (h : Legal Q l S m) : Legal Q' l S m := by
  induction h with
  | done S => exact .done S
  | hit h hs hr hn hl k ih => exact .hit h hs hr hn (by omega) ih
  | miss h hs hr hn hl k ih => exact .miss h hs hr hn (by omega) ih

theorem mem_eraseIdx_ {l : List Int} {i : Nat} {x : Int} (h : x ∈ l.eraseIdx i) : x ∈ l := List.mem_of_mem_eraseIdx h
theorem nodup_snoc {l : List Int} {r : Int} (hn : l.Nodup) (h : r ∉ l) : (l ++ [r]).Nodup := by
  rw [List.nodup_append]
  refine ⟨hn, by simp, fun a ha b hb => ?_⟩
  simp at hb; subst hb
  exact fun e => h (e ▸ ha)
theorem nodup_eraseIdx {l : List Int} (hn : l.Nodup) (i : Nat) : (l.eraseIdx i).Nodup := hn.sublist (List.eraseIdx_sublist l i)
theorem len_erase_mem {l : List Int} {r : Int} (h : r ∈ l) : (l.erase r).length + 1 = l.length := by
  have := List.length_erase_of_mem h
  have := List.length_pos_of_mem h
  omega
theorem Runs.nodup_again {S : List Int} {r : Int} (hn : S.Nodup) : (S.erase r ++ [r]).Nodup := by
  refine nodup_snoc (hn.sublist List.erase_sublist) fun h => ?_
  exact (List.Nodup.mem_erase_iff hn).1 h |>.1 rfl
theorem Runs.legal {again : Bool} {P : Nat} {pick : List Int → List Int → Nat → Prop} {l S : List Int} {m : Nat} (h : Runs again P pick l S m) (hP : 1 ≤ P) (hn : S.Nodup) (hl : S.length ≤ P) : Legal P l S m := by
  induction h with
  | done S => exact .done S
  | hit h k ih =>
    rename_i r rest S m
    cases again
    · exact .hit h (fun x hx => hx) h hn hl (ih hn hl)
    · simp only [if_true] at ih k ⊢
      have hn' := Runs.nodup_again (r := r) hn
      have hl' : (S.erase r ++ [r]).length ≤ P := by have := len_erase_mem h; simp; omega
      refine .hit h (fun x hx => ?_) (by simp) hn' hl' (ih hn' hl')
      rw [List.mem_append] at hx
      rcases hx with hx | hx
      · exact List.mem_of_mem_erase hx
      · simp at hx; subst hx; exact h
  | room h hl0 k ih =>
    rename_i r rest S m
    have hn' := nodup_snoc hn h
    have hl' : (S ++ [r]).length ≤ P := by simp; omega
    exact .miss h (fun x hx => by simp at hx; rcases hx with h | h <;> simp [h]) (by simp) hn' hl' (ih hn' hl')
  | goes h hl0 hi hp k ih =>
    rename_i r rest S m i
    have hn' : (S.eraseIdx i ++ [r]).Nodup := nodup_snoc (nodup_eraseIdx hn i) fun hx => h (mem_eraseIdx_ hx)
    have hl' : (S.eraseIdx i ++ [r]).length ≤ P := by rw [List.length_append, List.length_eraseIdx, if_pos hi]; simp; omega
    exact .miss h (fun x hx => by
      rw [List.mem_append] at hx
      rcases hx with hx | hx
      · exact .inr (mem_eraseIdx_ hx)
      · simp at hx; exact .inl hx) (by simp) hn' hl' (ih hn' hl')

/-- Of no thing that is there it is longer till it is asked for. -/
def Far (rest there : List Int) (i : Nat) : Prop := ∃ h : i < there.length, ∀ T, there[i] ∈ rest.take T → ∀ y ∈ there, y ∈ rest.take T

def cntT (l : List Int) (T : Nat) (S : List Int) : Nat := (S.filter fun x => decide (x ∈ l.take T)).length
theorem cntT_le {l : List Int} {T : Nat} {S : List Int} : cntT l T S ≤ S.length := List.length_filter_le _ _
theorem cntT_all {l : List Int} {T : Nat} {S : List Int} (h : ∀ y ∈ S, y ∈ l.take T) : cntT l T S = S.length := by
  unfold cntT; rw [List.filter_eq_self.2 (fun x hx => decide_eq_true (h x hx))]
theorem cntT_sub {l : List Int} {T : Nat} {S S' : List Int} (hn : S'.Nodup) (hs : ∀ x ∈ S', x ∈ S) : cntT l T S' ≤ cntT l T S :=
  nodup_sub_len (hn.sublist List.filter_sublist) fun x hx => by
    rw [List.mem_filter] at hx ⊢; exact ⟨hs x hx.1, hx.2⟩
theorem cntT_append {l : List Int} {T : Nat} {S S' : List Int} : cntT l T (S ++ S') = cntT l T S + cntT l T S' := by
  unfold cntT; rw [List.filter_append, List.length_append]
theorem cntT_one {l : List Int} {T : Nat} {r : Int} : cntT l T [r] = if r ∈ l.take T then 1 else 0 := by
  unfold cntT; rw [List.filter_cons]; split <;> simp_all
theorem cntT_zero {l : List Int} {S : List Int} : cntT l 0 S = 0 := by
  unfold cntT
  rw [List.length_eq_zero_iff, List.filter_eq_nil_iff]
  simp
/-- From (r :: rest) to rest. -/
theorem cntT_step {r : Int} {rest : List Int} {T : Nat} {S : List Int} (hn : S.Nodup) :
    cntT (r :: rest) (T + 1) S = cntT rest T S + (if r ∈ S then (if r ∈ rest.take T then 0 else 1) else 0) := by
  induction S with
  | nil => simp [cntT]
  | cons a S ih =>
    rw [List.nodup_cons] at hn
    have ih := ih hn.2
    have e1 : cntT (r :: rest) (T + 1) (a :: S) = (if a = r ∨ a ∈ rest.take T then 1 else 0) + cntT (r :: rest) (T + 1) S := by
      unfold cntT; rw [List.filter_cons, List.take_succ_cons]
      simp only [List.mem_cons, decide_eq_true_eq]
      split <;> simp <;> omega
    have e2 : cntT rest T (a :: S) = (if a ∈ rest.take T then 1 else 0) + cntT rest T S := by
      unfold cntT; rw [List.filter_cons]
      simp only [decide_eq_true_eq]
      split <;> simp <;> omega
    rw [e1, e2, ih]
    by_cases e : a = r
    · subst e
      by_cases hm : a ∈ rest.take T <;> simp [hm, hn.1]
      · omega
    · have e' : ¬ r = a := fun h => e h.symm
      by_cases hm : a ∈ rest.take T <;> simp [e, e', hm] <;> omega
theorem cntT_eraseIdx {l : List Int} {T : Nat} {S : List Int} {i : Nat} (hi : i < S.length) : cntT l T (S.eraseIdx i) + (if S[i] ∈ l.take T then 1 else 0) = cntT l T S := by
  have e : S = S.take i ++ S[i] :: S.drop (i + 1) := by
    rw [← List.drop_eq_getElem_cons hi, List.take_append_drop]
  have e2 : S.eraseIdx i = S.take i ++ S.drop (i + 1) := by rw [List.eraseIdx_eq_take_drop_succ]
  have e3 : cntT l T S = cntT l T (S.take i) + (cntT l T [S[i]] + cntT l T (S.drop (i + 1))) := by
    rw [← cntT_append, ← cntT_append]; exact congrArg _ e
  rw [e2, e3, cntT_append, cntT_one]; omega

/-- BELADY: who lets the one go that is asked for last has the fewest misses. -/
theorem belady {P : Nat} : ∀ {l A B : List Int} {m n d : Nat}, Runs false P Far l A m → Legal P l B n → A.Nodup → A.length ≤ P → B.Nodup →
    (∀ T, cntT l T B ≤ cntT l T A + d) → m ≤ n + d
  | _, _, _, _, _, _, .done A, _, _, _, _, _ => Nat.zero_le _
  | r :: rest, A, B, m, n, d, hA, hB, hnA, hlA, hnB, hd => by
    have s1 : ∀ T, cntT rest T B + (if r ∈ B then (if r ∈ rest.take T then 0 else 1) else 0) ≤ cntT rest T A + (if r ∈ A then (if r ∈ rest.take T then 0 else 1) else 0) + d := fun T => by
      have := hd (T + 1); rwa [cntT_step hnB, cntT_step hnA] at this
    -- what B has behind
    have hBs : ∃ B' n', Legal P rest B' n' ∧ B'.Nodup ∧ B'.length ≤ P ∧ r ∈ B' ∧ n = n' + (if r ∈ B then 0 else 1) ∧ ∀ T, cntT rest T B' ≤ cntT rest T B + (if r ∈ B then 0 else (if r ∈ rest.take T then 1 else 0)) := by
      cases hB with
      | hit h hs hr hn hl k => exact ⟨_, _, k, hn, hl, hr, by rw [if_pos h]; rfl, fun T => by rw [if_pos h]; exact cntT_sub hn hs⟩
      | miss h hs hr hn hl k =>
        refine ⟨_, _, k, hn, hl, hr, by rw [if_neg h], fun T => ?_⟩
        rw [if_neg h, ← cntT_one, ← cntT_append]
        exact cntT_sub hn fun x hx => by rcases hs x hx with h | h <;> simp [h]
    obtain ⟨B', n', kB, hnB', hlB', hrB', rfl, hcB⟩ := hBs
    cases hA with
    | hit h k =>
      simp only [Bool.false_eq_true, if_false] at k
      by_cases hb : r ∈ B
      · rw [if_pos hb]
        refine belady k kB hnA hlA hnB' fun T => ?_
        have := s1 T; have := hcB T
        rw [if_pos hb] at *
        rw [if_pos h] at *
        by_cases hr : r ∈ List.take T rest <;> simp only [hr, if_true, if_false] at * <;> omega
      · rw [if_neg hb]
        have := belady (d := d + 1) k kB hnA hlA hnB' fun T => by
          have := s1 T; have := hcB T
          rw [if_neg hb] at *
          rw [if_pos h] at *
          by_cases hr : r ∈ List.take T rest <;> simp only [hr, if_true, if_false] at * <;> omega
        omega
    | room h hl k =>
      have hnA' := nodup_snoc hnA h
      have hlA' : (A ++ [r]).length ≤ P := by simp; omega
      by_cases hb : r ∈ B
      · rw [if_pos hb]
        have h0 := s1 0
        rw [cntT_zero, cntT_zero, if_pos hb, if_neg h, List.take_zero, if_neg (by simp)] at h0
        have := belady (d := d - 1) k kB hnA' hlA' hnB' fun T => by
          have := s1 T; have := hcB T
          rw [cntT_append, cntT_one]
          rw [if_pos hb] at *
          rw [if_neg h] at *
          by_cases hr : r ∈ List.take T rest <;> simp only [hr, if_true, if_false] at * <;> omega
        omega
      · rw [if_neg hb]
        have := belady (d := d) k kB hnA' hlA' hnB' fun T => by
          have := s1 T; have := hcB T
          rw [cntT_append, cntT_one]
          rw [if_neg hb] at *
          rw [if_neg h] at *
          by_cases hr : r ∈ List.take T rest <;> simp only [hr, if_true, if_false] at * <;> omega
        omega
    | goes h hl hi hp k =>
      rename_i m i
      have hnA' : (A.eraseIdx i ++ [r]).Nodup := nodup_snoc (nodup_eraseIdx hnA i) fun hx => h (mem_eraseIdx_ hx)
      have hlA' : (A.eraseIdx i ++ [r]).length ≤ P := by rw [List.length_append, List.length_eraseIdx, if_pos hi]; simp; omega
      obtain ⟨_, hfar⟩ := hp
      -- where the one that goes is asked for in time, all of A are, and A has all that can be
      have hfull : ∀ T, A[i] ∈ rest.take T → cntT rest T B' ≤ cntT rest T (A.eraseIdx i ++ [r]) := fun T ht => by
        have hall : ∀ y ∈ A, y ∈ rest.take T := fun y hy => by
          have := hfar (T + 1) (by rw [List.take_succ_cons]; exact List.mem_cons_of_mem _ ht) y hy
          rw [List.take_succ_cons] at this
          rcases List.mem_cons.1 this with e | e
          · exact absurd (e ▸ hy) h
          · exact e
        have e1 := cntT_eraseIdx (l := rest) (T := T) hi
        rw [cntT_all hall, if_pos ht] at e1
        rw [cntT_append, cntT_one]
        by_cases hr : r ∈ rest.take T
        · rw [if_pos hr]
          have := @cntT_le rest T B'
          omega
        · rw [if_neg hr]
          obtain ⟨p, q, rfl⟩ := List.append_of_mem hrB'
          have e2 : cntT rest T (p ++ r :: q) = cntT rest T p + (cntT rest T [r] + cntT rest T q) := by
            rw [← cntT_append, ← cntT_append]; rfl
          rw [cntT_one, if_neg hr] at e2
          have := @cntT_le rest T p
          have := @cntT_le rest T q
          simp at hlB'
          omega
      by_cases hb : r ∈ B
      · rw [if_pos hb]
        have h0 := s1 0
        rw [cntT_zero, cntT_zero, if_pos hb, if_neg h, List.take_zero, if_neg (by simp)] at h0
        have := belady (d := d - 1) k kB hnA' hlA' hnB' fun T => by
          by_cases ht : A[i] ∈ rest.take T
          · have := hfull T ht; omega
          · have e1 := cntT_eraseIdx (l := rest) (T := T) hi
            rw [if_neg ht] at e1
            have := s1 T; have := hcB T
            rw [cntT_append, cntT_one]
            rw [if_pos hb] at *
            rw [if_neg h] at *
            by_cases hr : r ∈ List.take T rest <;> simp only [hr, if_true, if_false] at * <;> omega
        omega
      · rw [if_neg hb]
        have := belady (d := d) k kB hnA' hlA' hnB' fun T => by
          by_cases ht : A[i] ∈ rest.take T
          · have := hfull T ht; omega
          · have e1 := cntT_eraseIdx (l := rest) (T := T) hi
            rw [if_neg ht] at e1
            have := s1 T; have := hcB T
            rw [cntT_append, cntT_one]
            rw [if_neg hb] at *
            rw [if_neg h] at *
            by_cases hr : r ∈ List.take T rest <;> simp only [hr, if_true, if_false] at * <;> omega
        omega
theorem belady0 {P Q : Nat} (hq : Q ≤ P) {l : List Int} {m n : Nat} (hA : Runs false P Far l [] m) (hB : Legal Q l [] n) : m ≤ n :=
  belady (d := 0) hA (hB.mono hq) (by simp) (by simp) (by simp) fun T => by simp [cntT]

/-- LRU with one more place. -/
theorem lru_more {P : Nat} {pick pick' : List Int → List Int → Nat → Prop} (hp : ∀ l S i, pick l S i → i = 0) (hp' : ∀ l S i, pick' l S i → i = 0) :
    ∀ {l A B : List Int} {m n : Nat}, Runs true P pick l A m → Runs true (P + 1) pick' l B n → B.Nodup → A.length ≤ P → (B = A ∨ ∃ x, B = x :: A ∧ A.length = P) → n ≤ m
  | _, _, _, _, _, _, .done _, _, _, _ => Nat.zero_le _
  | r :: rest, A, B, m, n, hA, hB, hn, hl, hAB => by
    have hsub : ∀ y ∈ A, y ∈ B := fun y hy => by rcases hAB with rfl | ⟨x, rfl, _⟩ <;> simp [hy]
    cases hA with
    | hit h k =>
      have hB' := hsub r h
      cases hB with
      | hit h' k' =>
        simp only [if_true] at k k'
        refine lru_more hp hp' k k' (Runs.nodup_again hn) (by have := len_erase_mem h; simp; omega) ?_
        rcases hAB with rfl | ⟨x, rfl, hx⟩
        · exact .inl rfl
        · refine .inr ⟨x, ?_, by have := len_erase_mem h; simp; omega⟩
          have : r ≠ x := fun e => (List.nodup_cons.1 hn).1 (e ▸ h)
          rw [List.erase_cons_tail (by simpa using fun e => this e.symm)]; rfl
      | room h' => exact absurd hB' h'
      | goes h' => exact absurd hB' h'
    | room h hlne k =>
      rcases hAB with rfl | ⟨x, rfl, hx⟩
      · cases hB with
        | hit h' => exact absurd h' h
        | room h' hlne' k' =>
          have := lru_more hp hp' k k' (nodup_snoc hn h') (by simp; omega) (.inl rfl)
          omega
        | goes h' hlne' => omega
      · omega
    | goes h hle hi hpk k =>
      have h0 := hp _ _ _ hpk
      subst h0
      have hAe : A.eraseIdx 0 = A.tail := by cases A <;> rfl
      have hlen : (A.eraseIdx 0 ++ [r]).length ≤ P := by rw [List.length_append, List.length_eraseIdx, if_pos hi]; simp; omega
      have hlen' : (A.eraseIdx 0 ++ [r]).length = P := by rw [List.length_append, List.length_eraseIdx, if_pos hi]; simp; omega
      obtain ⟨a, A', rfl⟩ : ∃ a A', A = a :: A' := by cases A with | nil => simp at hi | cons a A' => exact ⟨a, A', rfl⟩
      rcases hAB with rfl | ⟨x, rfl, hx⟩
      · cases hB with
        | hit h' => exact absurd h' h
        | room h' hlne' k' =>
          have := lru_more hp hp' k k' (nodup_snoc hn h') hlen (.inr ⟨a, rfl, hlen'⟩)
          omega
        | goes h' hlne' => omega
      · cases hB with
        | hit h' k' =>
          simp only [if_true] at k'
          rcases List.mem_cons.1 h' with e | e
          · subst e
            rw [List.erase_cons_head] at k'
            have := lru_more hp hp' k k' (nodup_snoc (List.nodup_cons.1 hn).2 h) hlen (.inr ⟨a, rfl, hlen'⟩)
            omega
          · exact absurd e h
        | room h' hlne' k' => simp at hlne' hx; omega
        | goes h' hlne' hi' hpk' k' =>
          have h0 := hp' _ _ _ hpk'
          subst h0
          have := lru_more hp hp' k k' (nodup_snoc (List.nodup_cons.1 hn).2 h) hlen (.inr ⟨a, rfl, hlen'⟩)
          omega
end Go.Proofs.Ytdkkmmljaijomaa
