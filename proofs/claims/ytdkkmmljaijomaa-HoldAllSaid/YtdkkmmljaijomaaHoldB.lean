/- Sleator, Tarjan: the plain law. No condition: plain lists. -/
import Derived.Test.YtdkkmmljaijomaaHoldA
namespace Go.Proofs.Ytdkkmmljaijomaa

theorem erase_append_l {a b : List Int} {r : Int} (h : r ∈ a) : (a ++ b).erase r = a.erase r ++ b := List.erase_append_left b h
theorem erase_append_r {a b : List Int} {r : Int} (h : r ∉ a) : (a ++ b).erase r = a ++ b.erase r := List.erase_append_right b h

/-- A part of the run: since it began, c misses of the one, u of the other one; E: what was asked for; Src: what the other one can have of it. -/
structure Ph (P Q : Nat) (L O E Src : List Int) (c u e : Nat) : Prop where
  c_lt : c < P
  ce : c + e ≤ E.length
  e1 : e ≤ 1
  src : Src.length ≤ u + (Q - 1) + e
  nE : E.Nodup
  sE : ∀ x ∈ E, x ∈ Src
  sO : ∀ x ∈ O, x ∈ Src
  suf : E.length ≤ P → ∃ pre, L = pre ++ E
theorem Ph.cu {P Q : Nat} {L O E Src : List Int} {c u e : Nat} (h : Ph P Q L O E Src c u e) : c ≤ u + (Q - 1) := by
  have h1 := h.ce; have h2 := h.src; have h3 := nodup_sub_len h.nE h.sE; omega
theorem last_arith {P Q m c u : Nat} (hq : 1 ≤ Q) (hqp : Q ≤ P) (h : c ≤ u + (Q - 1)) : (P - Q + 1) * (P * m + c - Q) ≤ P * ((P - Q + 1) * m + u) := by
  have h1 : P * m + c - Q ≤ P * m + (c - Q) := by omega
  have h2 : (P - Q + 1) * (P * m + c - Q) ≤ (P - Q + 1) * (P * m + (c - Q)) := Nat.mul_le_mul_left _ h1
  have h3 : (P - Q + 1) * (c - Q) ≤ P * u := Nat.mul_le_mul (by omega) (by omega)
  have h4 : (P - Q + 1) * (P * m + (c - Q)) = P * ((P - Q + 1) * m) + (P - Q + 1) * (c - Q) := by
    rw [Nat.mul_add, Nat.mul_left_comm]
  rw [Nat.mul_add]; omega

theorem sleator {P Q : Nat} (hq : 1 ≤ Q) (hqp : Q ≤ P) {pick : List Int → List Int → Nat → Prop} (hp : ∀ l S i, pick l S i → i = 0) :
    ∀ {l L O : List Int} {a k : Nat}, Runs true P pick l L a → Legal Q l O k → L.Nodup → L.length ≤ P → ∀ (E Src : List Int) (m c u e : Nat), Ph P Q L O E Src c u e →
    (P - Q + 1) * (P * m + c + a - Q) ≤ P * ((P - Q + 1) * m + u + k)
  | _, L, O, _, kx, .done _, hB, hn, hl, E, Src, m, c, u, e, h => by
    have := last_arith (m := m) hq hqp h.cu
    have h2 : P * ((P - Q + 1) * m + u) ≤ P * ((P - Q + 1) * m + u + kx) := Nat.mul_le_mul_left _ (Nat.le_add_right _ _)
    exact Nat.le_trans this h2
  | r :: rest, L, O, a, k, hA, hB, hn, hl, E, Src, m, c, u, e, h => by
    -- what the other one does
    have hBs : ∃ (O' : List Int) (k' u' : Nat) (Src' : List Int), Legal Q rest O' k' ∧ O'.length ≤ Q ∧ r ∈ O' ∧ u + k = u' + k' ∧ Src'.length ≤ u' + (Q - 1) + e ∧ (∀ x ∈ Src, x ∈ Src') ∧ r ∈ Src' ∧ (∀ x ∈ O', x ∈ Src') := by
      have h2 := h.src
      cases hB with
      | hit h1 hs hr hn hl k' => exact ⟨_, _, u, Src, k', hl, hr, rfl, h2, fun _ hx => hx, h.sO r h1, fun x hx => h.sO x (hs x hx)⟩
      | miss h1 hs hr hn hl k' =>
        refine ⟨_, _, u + 1, Src ++ [r], k', hl, hr, by omega, by simp; omega, fun x hx => by simp [hx], by simp, fun x hx => ?_⟩
        rcases hs x hx with e | e
        · simp [e]
        · simp [h.sO x e]
    obtain ⟨O', k', u', Src', kB, hlO, hrO, hk, hsrc, hss, hrs, hos⟩ := hBs
    rw [show (P - Q + 1) * m + u + k = (P - Q + 1) * m + u' + k' by omega]
    have hE' : (∀ x ∈ E.erase r ++ [r], x ∈ Src') ∧ (∀ x ∈ E ++ [r], x ∈ Src') := by
      constructor <;> intro x hx <;> rcases List.mem_append.1 hx with e | e
      · exact hss x (h.sE x (List.mem_of_mem_erase e))
      · simp at e; subst e; exact hrs
      · exact hss x (h.sE x e)
      · simp at e; subst e; exact hrs
    -- a new part, where there were P misses
    have new : ∀ {L' : List Int} {a' : Nat} {E' : List Int}, Runs true P pick rest L' a' → L'.Nodup → L'.length ≤ P → (∃ p, L' = p ++ [r]) → c + 1 = P → c + 1 + e ≤ E'.length → E'.Nodup → (∀ x ∈ E', x ∈ Src') →
        (P - Q + 1) * (P * m + c + (a' + 1) - Q) ≤ P * ((P - Q + 1) * m + u' + k') := by
      intro L' a' E' kA hn' hl' ⟨p, hp'⟩ hc hce hnE hsE
      have h1 := nodup_sub_len hnE hsE
      have h2 := sleator hq hqp hp kA kB hn' hl' [r] O' (m + 1) 0 0 1 ⟨by omega, by simp, Nat.le_refl _, by omega, by simp, (fun x hx => by simp at hx; subst hx; exact hrO), fun _ hx => hx, fun _ => ⟨p, hp'⟩⟩
      have h3 : P * ((P - Q + 1) * (m + 1) + 0 + k') ≤ P * ((P - Q + 1) * m + u' + k') := Nat.mul_le_mul_left _ (by rw [Nat.mul_succ]; omega)
      refine Nat.le_trans ?_ (Nat.le_trans h2 h3)
      rw [show P * (m + 1) + 0 + a' = P * m + c + (a' + 1) by rw [Nat.mul_succ]; omega]
      exact Nat.le_refl _
    cases hA with
    | hit hr kA =>
      simp only [if_true] at kA
      have hn' := Runs.nodup_again (r := r) hn
      have hl' : (L.erase r ++ [r]).length ≤ P := by have := len_erase_mem hr; simp; omega
      by_cases he : r ∈ E
      · refine sleator hq hqp hp kA kB hn' hl' (E.erase r ++ [r]) Src' m c u' e ⟨h.c_lt, ?_, h.e1, hsrc, Runs.nodup_again h.nE, hE'.1, hos, fun hle => ?_⟩
        · have := len_erase_mem he; have := h.ce; simp; omega
        · obtain ⟨pre, rfl⟩ := h.suf (by have := len_erase_mem he; simp at hle; omega)
          have : r ∉ pre := fun hx => by
            rw [List.nodup_append] at hn
            exact hn.2.2 r hx r he rfl
          exact ⟨pre, by rw [erase_append_r this, List.append_assoc]⟩
      · refine sleator hq hqp hp kA kB hn' hl' (E ++ [r]) Src' m c u' e ⟨h.c_lt, ?_, h.e1, hsrc, nodup_snoc h.nE he, hE'.2, hos, fun hle => ?_⟩
        · have := h.ce; simp; omega
        · obtain ⟨pre, rfl⟩ := h.suf (by simp at hle; omega)
          have : r ∈ pre := by
            rcases List.mem_append.1 hr with e | e
            · exact e
            · exact absurd e he
          exact ⟨pre.erase r, by rw [erase_append_l this, List.append_assoc]⟩
    | room hr hne kA =>
      rename_i a
      have hn' := nodup_snoc hn hr
      have hl' : (L ++ [r]).length ≤ P := by simp; omega
      by_cases he : r ∈ E
      · have hbig : P < E.length := by
          apply Classical.byContradiction; intro hx
          obtain ⟨pre, rfl⟩ := h.suf (by omega)
          exact hr (by simp [he])
        have h1 := len_erase_mem he
        by_cases hc : c + 1 = P
        · exact new kA hn' hl' ⟨L, rfl⟩ hc (by have := h.e1; omega) h.nE (fun x hx => hss x (h.sE x hx))
        · have := sleator hq hqp hp kA kB hn' hl' (E.erase r ++ [r]) Src' m (c + 1) u' e ⟨by have := h.c_lt; omega, by have := h.e1; have := h.c_lt; simp; omega, h.e1, hsrc, Runs.nodup_again h.nE, hE'.1, hos, fun hle => by simp at hle; omega⟩
          rwa [show P * m + (c + 1) + a = P * m + c + (a + 1) by omega] at this
      · by_cases hc : c + 1 = P
        · exact new kA hn' hl' ⟨L, rfl⟩ hc (by have := h.ce; rw [List.length_append]; simp; omega) (nodup_snoc h.nE he) hE'.2
        · have := sleator hq hqp hp kA kB hn' hl' (E ++ [r]) Src' m (c + 1) u' e ⟨by have := h.c_lt; omega, by have := h.ce; simp; omega, h.e1, hsrc, nodup_snoc h.nE he, hE'.2, hos, fun hle => by
            obtain ⟨pre, rfl⟩ := h.suf (by simp at hle; omega)
            exact ⟨pre, by rw [List.append_assoc]⟩⟩
          rwa [show P * m + (c + 1) + a = P * m + c + (a + 1) by omega] at this
    | goes hr hfull hi hpk kA =>
      rename_i a i
      have h0 := hp _ _ _ hpk
      subst h0
      have hn' : (L.eraseIdx 0 ++ [r]).Nodup := nodup_snoc (nodup_eraseIdx hn 0) fun hx => hr (mem_eraseIdx_ hx)
      have hl' : (L.eraseIdx 0 ++ [r]).length ≤ P := by rw [List.length_append, List.length_eraseIdx, if_pos hi]; simp; omega
      by_cases he : r ∈ E
      · have hbig : P < E.length := by
          apply Classical.byContradiction; intro hx
          obtain ⟨pre, rfl⟩ := h.suf (by omega)
          exact hr (by simp [he])
        have h1 := len_erase_mem he
        by_cases hc : c + 1 = P
        · exact new kA hn' hl' ⟨_, rfl⟩ hc (by have := h.e1; omega) h.nE (fun x hx => hss x (h.sE x hx))
        · have := sleator hq hqp hp kA kB hn' hl' (E.erase r ++ [r]) Src' m (c + 1) u' e ⟨by have := h.c_lt; omega, by have := h.e1; have := h.c_lt; simp; omega, h.e1, hsrc, Runs.nodup_again h.nE, hE'.1, hos, fun hle => by simp at hle; omega⟩
          rwa [show P * m + (c + 1) + a = P * m + c + (a + 1) by omega] at this
      · by_cases hc : c + 1 = P
        · exact new kA hn' hl' ⟨_, rfl⟩ hc (by have := h.ce; rw [List.length_append]; simp; omega) (nodup_snoc h.nE he) hE'.2
        · have := sleator hq hqp hp kA kB hn' hl' (E ++ [r]) Src' m (c + 1) u' e ⟨by have := h.c_lt; omega, by have := h.ce; simp; omega, h.e1, hsrc, nodup_snoc h.nE he, hE'.2, hos, fun hle => by
            simp at hle
            obtain ⟨pre, rfl⟩ := h.suf (by omega)
            cases pre with
            | nil => simp at hfull; omega
            | cons x pre => exact ⟨pre, by simp⟩⟩
          rwa [show P * m + (c + 1) + a = P * m + c + (a + 1) by omega] at this
theorem sleator0 {P Q : Nat} (hq : 1 ≤ Q) (hqp : Q ≤ P) {pick : List Int → List Int → Nat → Prop} (hp : ∀ l S i, pick l S i → i = 0) {l : List Int} {a k : Nat} (hA : Runs true P pick l [] a) (hB : Legal Q l [] k) :
    (P - Q + 1) * (a - Q) ≤ P * k := by
  have := sleator hq hqp hp hA hB (by simp) (by simp) [] [] 0 0 0 0 ⟨by omega, by simp, by omega, by simp, by simp, by simp, by simp, fun _ => ⟨[], rfl⟩⟩
  simpa using this
end Go.Proofs.Ytdkkmmljaijomaa
