/- cut.nearest walked; rows of blocks as the call makes them. -/
import Derived.Test.YtadmmciiahdmcaaCutF
import Derived.Test.YtadmmciiahdmcaaOnes
namespace Go.Proofs.Ytadmmciiahdmcaa
set_option maxRecDepth 100000
open Go.RowKit

/-- The nearest, of the first k. -/
def NearTo (ls : List Nat) (i k : Nat) (r : Int) : Prop :=
  (r = -1 ∧ ∀ j, j < k → j ≠ i → (getU ls i).testBit j = false) ∨
  (∃ m : Nat, m < k ∧ r = m ∧ m ≠ i ∧ (getU ls i).testBit m = true ∧ ∀ j, j < k → j ≠ i → (getU ls i).testBit j = true → cnt8 (getU ls j) ≤ cnt8 (getU ls m))
theorem NearTo.first (ls : List Nat) (i : Nat) : NearTo ls i 0 (-1) := .inl ⟨rfl, fun j hj => by omega⟩
theorem NearTo.skip {ls : List Nat} {i k : Nat} {r : Int} (h : NearTo ls i k r) (hk : k = i ∨ (getU ls i).testBit k = false) : NearTo ls i (k + 1) r := by
  have key : ∀ j, j < k + 1 → j ≠ i → (getU ls i).testBit j = true → j < k := fun j hj hne hb => by
    rcases Nat.lt_or_ge j k with h1 | h1
    · exact h1
    · have : j = k := by omega
      subst this
      rcases hk with hk | hk
      · exact absurd hk hne
      · rw [hk] at hb; cases hb
  rcases h with ⟨h1, h2⟩ | ⟨m, h1, h2, h3, h4, h5⟩
  · refine .inl ⟨h1, fun j hj hne => ?_⟩
    cases hb : (getU ls i).testBit j
    · rfl
    · have := h2 j (key j hj hne hb) hne
      rw [hb] at this; cases this
  · exact .inr ⟨m, by omega, h2, h3, h4, fun j hj hne hb => h5 j (key j hj hne hb) hne hb⟩
theorem NearTo.take {ls : List Nat} {i k : Nat} {r : Int} (h : NearTo ls i k r) (hne : k ≠ i) (hb : (getU ls i).testBit k = true) (hr : r < 0 ∨ ∃ m : Nat, r = m ∧ cnt8 (getU ls m) < cnt8 (getU ls k)) : NearTo ls i (k + 1) k := by
  refine .inr ⟨k, by omega, rfl, hne, hb, fun j hj hj2 hjb => ?_⟩
  rcases Nat.lt_or_ge j k with h1 | h1
  · rcases h with ⟨_, h3⟩ | ⟨m, h2, h3, _, _, h6⟩
    · have := h3 j h1 hj2
      rw [hjb] at this; cases this
    · rcases hr with hr | ⟨m', hr, hc⟩
      · omega
      · have : m = m' := by omega
        subst this
        have := h6 j h1 hj2 hjb
        omega
  · have : j = k := by omega
    subst this; exact Nat.le_refl _
theorem NearTo.stay {ls : List Nat} {i k m : Nat} (h : NearTo ls i k (m : Int)) (hc : cnt8 (getU ls k) ≤ cnt8 (getU ls m)) : NearTo ls i (k + 1) (m : Int) := by
  rcases h with ⟨h1, _⟩ | ⟨m', h1, h2, h3, h4, h5⟩
  · omega
  · have : m' = m := by omega
    subst this
    refine .inr ⟨m', by omega, rfl, h3, h4, fun j hj hne hb => ?_⟩
    rcases Nat.lt_or_ge j k with h6 | h6
    · exact h5 j h6 hne hb
    · have : j = k := by omega
      subst this; exact hc
theorem NearTo.val {ls : List Nat} {i k : Nat} {r : Int} (h : NearTo ls i k r) : r = -1 ∨ ∃ m : Nat, r = m ∧ m < k := by
  rcases h with ⟨h1, _⟩ | ⟨m, h1, h2, _⟩
  · exact .inl h1
  · exact .inr ⟨m, h2, h1⟩
set_option maxHeartbeats 4000000 in
theorem nearest_calls (A : Option Addr) (ls : List Nat) (cap i : Nat) (w : World) (hA : RdU w A ls) (hi : i < ls.length) (h8 : ls.length ≤ 8) (hv : ∀ x ∈ ls, x < 256) :
    Calls Try.prog 65 #[.slice A ls.length cap, .int .i64 (i : Nat)] w fun e w' => (∃ r, e = .returned (.int .i64 r) ∧ NearTo ls i ls.length r) ∧ ∃ nq, w' = w.drewN nq := by
  have HA := Lib.hid hA
  have HV := Lib.hid hv
  have hii : ((i : Nat) : Int) < ((ls.length : Nat) : Int) := by omega
  clear hA hv
  go_enter Try.func65, Try.ntmps65
  go_wp2
  go_loopw [10, 5] (fun j r wr => ∃ (k : Nat) (x : Int), k ≤ ls.length ∧ j = .int .i64 k ∧ r = .int .i64 x ∧ Hid (NearTo ls i k x) ∧ Hid (∃ nq, wr = w.drewN nq)) (fun j _ _ => ls.length - (intOf j).toNat)
  case atStart => exact ⟨0, -1, Nat.zero_le _, rfl, rfl, Lib.hid (NearTo.first ls i), Lib.hid ⟨0, rfl⟩⟩
  case round =>
    obtain ⟨k, r, hk, rfl, rfl, HNr, HWe⟩ := hrel
    have HWn : Hid (∀ nq, ∃ m, wr.drewN nq = w.drewN m) := Lib.hid (by obtain ⟨n0, rfl⟩ := HWe.out; exact fun nq => ⟨n0 + nq, World.drewN_drewN _ _ _⟩)
    have Hcl : Hid (∀ a, wr.cell? a = w.cell? a) := Lib.hid (by obtain ⟨n0, rfl⟩ := HWe.out; exact fun _ => rfl)
    by_cases hlt : k < ls.length
    · have Hlt := Lib.hid hlt
      obtain ⟨b1, o1, rfl, hb1, m1⟩ := RdU.at1 HA.out hi
      obtain ⟨b2, o2, e2, hb2, m2⟩ := RdU.at1 HA.out hlt
      obtain ⟨rfl, rfl⟩ : b1 = b2 ∧ o1 = o2 := by injection e2 with e2; injection e2 with e2 e3; exact ⟨e2, e3⟩
      have v1 := HV.out _ (List.getElem_mem hi)
      have v2 := HV.out _ (List.getElem_mem hlt)
      rw [← getU_get hi, ← Hcl.out] at m1
      rw [← getU_get hi] at v1
      rw [← getU_get hlt, ← Hcl.out] at m2
      rw [← getU_get hlt] at v2
      have q1 : ((k : Nat) : Int) < ((ls.length : Nat) : Int) := by omega
      have ro := W.test1_u32 (getU ls i) k (by omega)
      clear e2 hb1 hb2
      by_cases hki : k = i
      · have d1 : (((k : Nat) : Int) != ((i : Nat) : Int)) = false := by rw [hki]; simp
        have HN1 := Lib.hid (HNr.out.skip (.inl hki))
        clear hki
        go_wp2
        go_quiet (fail)
        go_wp2
        go_roundw
        case rel => exact ⟨k + 1, r, by have := Hlt.out; omega, by go_num, rfl, HN1, Lib.hid (HWn.out _)⟩
        case measure => simp [intOf]; omega
      have d1 : (((k : Nat) : Int) != ((i : Nat) : Int)) = true := by rw [bne_iff_ne]; omega
      cases hb : (getU ls i).testBit k
      · rw [hb] at ro
        have HN1 := Lib.hid (HNr.out.skip (.inr hb))
        clear hb
        go_wp2
        go_quiet (fail)
        go_wp2
        go_roundw
        case rel => exact ⟨k + 1, r, by have := Hlt.out; omega, by go_num, rfl, HN1, Lib.hid (HWn.out _)⟩
        case measure => simp [intOf]; omega
      rw [hb] at ro
      by_cases hr : r < 0
      · have d2 : decide (r < 0) = true := decide_eq_true hr
        have HN1 := Lib.hid (HNr.out.take hki hb (.inl hr))
        clear hki hb
        go_wp2
        go_quiet (fail)
        go_wp2
        go_roundw
        case rel => exact ⟨k + 1, _, by have := Hlt.out; omega, by go_num, rfl, HN1, Lib.hid (HWn.out _)⟩
        case measure => simp [intOf]; omega
      obtain ⟨m, rfl, hmk⟩ : ∃ m : Nat, r = m ∧ m < k := by
        rcases HNr.out.val with h | h
        · omega
        · exact h
      have hml : m < ls.length := by omega
      obtain ⟨b3, o3, e3, hb3, m3⟩ := RdU.at1 HA.out hml
      obtain ⟨rfl, rfl⟩ : b1 = b3 ∧ o1 = o3 := by injection e3 with e3; injection e3 with e3 e4; exact ⟨e3, e4⟩
      have v3 := HV.out _ (List.getElem_mem hml)
      rw [← getU_get hml, ← Hcl.out] at m3
      rw [← getU_get hml] at v3
      have q2 : ((m : Nat) : Int) < ((ls.length : Nat) : Int) := by omega
      have d2 : decide ((m : Int) < 0) = false := decide_eq_false hr
      have H1 := Lib.hid fun w => ones_calls (getU ls k) w v2
      have H2 := Lib.hid fun w => ones_calls (getU ls m) w v3
      by_cases hc : cnt8 (getU ls m) < cnt8 (getU ls k)
      · have d3 : decide (((cnt8 (getU ls m) : Nat) : Int) < ((cnt8 (getU ls k) : Nat) : Int)) = true := decide_eq_true (by omega)
        have d4 : decide (((cnt8 (getU ls k) : Nat) : Int) > ((cnt8 (getU ls m) : Nat) : Int)) = true := d3
        have d5 : ((cnt8 (getU ls m) : Nat) : Int) < ((cnt8 (getU ls k) : Nat) : Int) := by omega
        have HN1 := Lib.hid (HNr.out.take hki hb (.inr ⟨m, rfl, hc⟩))
        clear hki hb e3 hb3 hc
        go_wp2
        go_quiet ((go_at_call 81; first | with_reducible exact Calls.quiet_of (H1.out _) | with_reducible exact Calls.quiet_of (H2.out _)))
        go_wp2
        go_roundw
        case rel => exact ⟨k + 1, _, by have := Hlt.out; omega, by go_num, rfl, HN1, Lib.hid (HWn.out _)⟩
        case measure => simp [intOf]; omega
      · have d3 : decide (((cnt8 (getU ls m) : Nat) : Int) < ((cnt8 (getU ls k) : Nat) : Int)) = false := decide_eq_false (by omega)
        have d4 : decide (((cnt8 (getU ls k) : Nat) : Int) > ((cnt8 (getU ls m) : Nat) : Int)) = false := d3
        have d5 : ¬ ((cnt8 (getU ls m) : Nat) : Int) < ((cnt8 (getU ls k) : Nat) : Int) := by omega
        have HN1 := Lib.hid (HNr.out.stay (by omega))
        clear hki hb e3 hb3 hc
        go_wp2
        go_quiet ((go_at_call 81; first | with_reducible exact Calls.quiet_of (H1.out _) | with_reducible exact Calls.quiet_of (H2.out _)))
        go_wp2
        go_roundw
        case rel => exact ⟨k + 1, _, by have := Hlt.out; omega, by go_num, rfl, HN1, Lib.hid (HWn.out _)⟩
        case measure => simp [intOf]; omega
    · have : k = ls.length := by omega
      subst this
      have hll : ¬ ((ls.length : Int) < (ls.length : Int)) := by omega
      clear hlt hk
      go_wp2
      go_ret
      exact ⟨⟨_, rfl, HNr.out⟩, HWe.out⟩
/-- Entries that read as blocks, each code a row that the call made. -/
structure BkRow (w : World) (base : Nat) (v : Value) (es : List Ent) (l : List Blk) : Prop where
  own : Own Ent.cells 4 w base 25 v es
  len : es.length = l.length
  ent : ∀ (i : Nat) (e : Ent) (b : Blk), es[i]? = some e → l[i]? = some b → e.n = b.code.length ∧ e.test = b.test ∧ e.thn = b.thn ∧ e.els = b.els ∧ OwnSt w base 78 (.slice e.A e.n e.cap) b.code
theorem BkRow.rd {w : World} {base : Nat} {v : Value} {es : List Ent} {l : List Blk} (h : BkRow w base v es l) : ∃ A cap, v = .slice A l.length cap ∧ RdBk w A l := by
  obtain ⟨A, cap, h1, h2, _⟩ := Own.form entCells_len h.own
  refine ⟨A, cap, by rw [← h.len]; exact h1, fun hn => ?_⟩
  obtain ⟨b, off, e, hb, hc⟩ := h2 (by rw [h.len]; exact hn)
  refine ⟨b, off, e, hb, fun k x hk => ?_⟩
  have hke : k < es.length := by rw [h.len]; exact (List.getElem?_eq_some_iff.1 hk).1
  obtain ⟨f1, f2, f3, f4, f5⟩ := h.ent k es[k] x (List.getElem?_eq_getElem hke) hk
  have hcc := hc k es[k] (List.getElem?_eq_getElem hke)
  obtain ⟨A', cap', g1, g2, _⟩ := Own.form stepCells_len f5
  injection g1 with g1 g3 g4
  refine ⟨es[k].A, es[k].cap, ?_, ?_, ?_, ?_, by rw [g1]; exact g2⟩
  · have := hcc 0 (by omega); simpa [Ent.cells, f1] using this
  · have := hcc 1 (by omega); simpa [Ent.cells, f2] using this
  · have := hcc 2 (by omega); simpa [Ent.cells, f3] using this
  · have := hcc 3 (by omega); simpa [Ent.cells, f4] using this
end Go.Proofs.Ytadmmciiahdmcaa
namespace Go.Proofs.Ytadmmciiahdmcaa
open Go.RowKit

/-- What is left of a block. -/
noncomputable def slB (want : Nat) (F : List Nat) (t : Nat) (f : Nat → Int) (i : Nat) (b : Blk) : Blk :=
  if 0 ≤ b.test ∧ t.testBit i = false then ⟨kpC b.code (beC want F t i b), -1, f i, 0⟩ else { b with code := kpC b.code (beC want F t i b) }
def SlQ (p : List Blk) (want : Nat) (F : List Nat) (t : Nat) (f : Nat → Int) (q : List Blk) : Prop := q.length = p.length ∧ ∀ (i : Nat) (b : Blk), p[i]? = some b → q[i]? = some (slB want F t f i b)
/-- Only what is needed is noted. -/
theorem low_exact {p : List Blk} {on : Nat → Nat} {want : Nat} {T : Tri} (hl : Low p on want T) (hc : Clo p on want T) {i k : Nat} {b : Blk} (hb : p[i]? = some b) : T.M i k ↔ ctM b.code (beC want T.F T.t i b) k := by
  refine ⟨fun h => ?_, hc.M i b k hb⟩
  have hC : Clo p on want ⟨T.F, fun i k => ∃ b, p[i]? = some b ∧ ctM b.code (beC want T.F T.t i b) k, T.t⟩ := by
    refine ⟨hc.F, fun i b k hb hm => ⟨b, hb, hm⟩, fun i b j hb h0 hj ho hd => hc.t i b j hb h0 hj ho (hd.imp id fun ⟨k, b', hb', hm⟩ => ⟨k, hc.M j b' k hb' hm⟩)⟩
  obtain ⟨b', hb', hm⟩ := (hl _ hC).M i k h
  rw [hb] at hb'
  injection hb' with hb'
  rw [hb']; exact hm
theorem ctM_succ {s : Step} {c : List Step} {l k : Nat} : ctM (s :: c) l (k + 1) ↔ ctM c l k := by
  unfold ctM
  rw [List.getElem?_cons_succ, List.drop_succ_cons]
theorem ctM_zero {s : Step} {c : List Step} {l : Nat} : ctM (s :: c) l 0 ↔ (ctC c l).testBit s.to.toNat = true := by
  unfold ctM
  exact ⟨fun ⟨x, h1, h2⟩ => by injection h1 with h1; rw [h1]; exact h2, fun h => ⟨s, rfl, h⟩⟩
theorem ct_none : ∀ {c : List Step} {l : Nat}, (∀ k, ¬ ctM c l k) → ctC c l = l ∧ kpC c l = []
  | [], _, _ => ⟨rfl, rfl⟩
  | s :: c, l, h => by
    obtain ⟨h1, h2⟩ := ct_none (c := c) (l := l) fun k hk => h (k + 1) (ctM_succ.2 hk)
    have h3 : ¬ (ctC c l).testBit s.to.toNat = true := fun hb => h 0 (ctM_zero.2 hb)
    exact ⟨(kpC_no h3).2.trans h1, (kpC_no h3).1.trans h2⟩
def selB : List Step → List Bool → List Step
  | s :: c, true :: b => s :: selB c b
  | _ :: c, false :: b => selB c b
  | _, _ => []
theorem sel_kp : ∀ {c : List Step} {b : List Bool} {l : Nat}, b.length = c.length → (∀ k, b[k]? = some true ↔ ctM c l k) → selB c b = kpC c l
  | [], [], _, _, _ => rfl
  | [], _ :: _, _, h, _ => by simp at h
  | _ :: _, [], _, h, _ => by simp at h
  | s :: c, x :: b, l, h, hk => by
    have ih := sel_kp (c := c) (b := b) (l := l) (by simpa using h) fun k => by rw [← ctM_succ (s := s), ← hk (k + 1)]; simp
    have h0 := hk 0
    rw [ctM_zero] at h0
    cases x
    · have h3 : ¬ (ctC c l).testBit s.to.toNat = true := fun hb => by have := h0.2 hb; simp at this
      rw [(kpC_no h3).1]; exact ih
    · have h3 : (ctC c l).testBit s.to.toNat = true := h0.1 (by simp)
      rw [(kpC_yes h3).1]
      show s :: selB c b = _
      rw [ih]
def nd (p : List Blk) (v : List Int) (j : Nat) : Nat := (stB p v j).1.toNat
section
variable {vars : Int} {p : List Blk} {v : List Int} {K : Nat} {ls : List (List Int)}
/-- From a turn on, if one does not come by wo, one can come to the end without it. -/
theorem ends_from (hP : Path p v K (fun j => (stB p v j).1.toNat)) (wo : Int) : ∀ N a, a < K → K - a = N → (∀ m, a ≤ m → m < K → ((nd p v m : Nat) : Int) ≠ wo) → W.Ends (nexts p) wo (nd p v a)
  | 0, a, ha, hN, _ => by omega
  | N + 1, a, ha, hN, h => by
    have hlt : nd p v a < p.length := hP.lt a ha
    have hget : (nexts p)[nd p v a]? = some (nxB (p.getD (nd p v a) bnul)) := by
      unfold nexts
      rw [List.getElem?_map, List.getElem?_eq_getElem hlt, bget hlt]; rfl
    by_cases hl : a + 1 < K
    · exact .go hget (h a (Nat.le_refl _) ha) (hP.next a hl) (ends_from hP wo N (a + 1) hl (by omega) fun m h1 h2 => h m (by omega) h2)
    · have he : nxB (p.getD (nd p v (K - 1)) bnul) = [] := hP.last (by omega)
      have : K - 1 = a := by omega
      rw [this] at he
      rw [he] at hget
      exact .stop hget (h a (Nat.le_refl _) ha)
/-- One comes by x to a place from which one can come to the end without wo. -/
theorem ends_back (hP : Path p v K (fun j => (stB p v j).1.toNat)) (wo : Int) {a m : Nat} (hm : m < K) (hE : W.Ends (nexts p) wo (nd p v m)) : ∀ d, a + d = m → (∀ x, a ≤ x → x < m → ((nd p v x : Nat) : Int) ≠ wo) → W.Ends (nexts p) wo (nd p v a)
  | 0, hd, _ => by have : a = m := by omega
                   rw [this]; exact hE
  | d + 1, hd, h => by
    have hlt : nd p v a < p.length := hP.lt a (by omega)
    have hget : (nexts p)[nd p v a]? = some (nxB (p.getD (nd p v a) bnul)) := by
      unfold nexts
      rw [List.getElem?_map, List.getElem?_eq_getElem hlt, bget hlt]; rfl
    exact .go hget (h a (Nat.le_refl _) (by omega)) (hP.next a (by omega)) (ends_back hP wo (a := a + 1) hm hE d (by omega) fun x h1 h2 => h x (by omega) h2)
theorem ends_cut {k d : Int} : ∀ {s : Nat}, W.Ends ls k s → ¬ W.Ends ls d s → ∃ e : Nat, (e : Int) = d ∧ W.Ends ls k e := fun {s} h => by
  induction h with
  | @stop i h1 h2 =>
    intro hn
    by_cases e : (i : Int) = d
    · exact ⟨i, e, .stop h1 h2⟩
    · exact absurd (.stop h1 e) hn
  | @go i j l h1 h2 h3 h4 ih =>
    intro hn
    by_cases e : (i : Int) = d
    · exact ⟨i, e, .go h1 h2 h3 h4⟩
    · exact ih fun hd => hn (.go h1 e h3 hd)
theorem not_self {k : Nat} : ¬ W.Ends ls (k : Int) k := fun h => by
  cases h with
  | stop _ h => exact h rfl
  | go _ h _ _ => exact h rfl
/-- The last place before b of those at which something is so. -/
theorem last_of (P : Nat → Prop) : ∀ (d a b : Nat), a + d + 1 = b → P a → ∃ x, a ≤ x ∧ x < b ∧ P x ∧ ∀ y, x < y → y < b → ¬ P y
  | 0, a, b, h, ha => ⟨a, Nat.le_refl _, by omega, ha, fun y h1 h2 => by omega⟩
  | d + 1, a, b, h, ha => by
    by_cases hb : P (b - 1)
    · exact ⟨b - 1, by omega, by omega, hb, fun y h1 h2 => by omega⟩
    · obtain ⟨x, h1, h2, h3, h4⟩ := last_of P d a (b - 1) (by omega) ha
      refine ⟨x, h1, by omega, h3, fun y h5 h6 => ?_⟩
      rcases Nat.lt_or_ge y (b - 1) with h7 | h7
      · exact h4 y h5 h7
      · have : y = b - 1 := by omega
        rw [this]; exact hb
theorem first_of (P : Nat → Prop) : ∀ (d a : Nat), P (a + d) → ∃ x, a ≤ x ∧ x ≤ a + d ∧ P x ∧ ∀ y, a ≤ y → y < x → ¬ P y
  | 0, a, h => ⟨a, Nat.le_refl _, Nat.le_refl _, h, fun y h1 h2 => by omega⟩
  | d + 1, a, h => by
    by_cases ha : P a
    · exact ⟨a, Nat.le_refl _, by omega, ha, fun y h1 h2 => by omega⟩
    · obtain ⟨x, h1, h2, h3, h4⟩ := first_of P d (a + 1) (by rw [show a + 1 + d = a + (d + 1) by omega]; exact h)
      refine ⟨x, by omega, by omega, h3, fun y h5 h6 => ?_⟩
      rcases Nat.lt_or_ge a y with h7 | h7
      · exact h4 y h7 h6
      · have : y = a := by omega
        rw [this]; exact ha
end
/-- On a run that ends: of whom one is sure. -/
structure OnRun (p : List Blk) (v : List Int) (K : Nat) : Prop where
  P : Path p v K (fun j => (stB p v j).1.toNat)
  n8 : p.length ≤ 8
section
variable {p : List Blk} {v : List Int} {K : Nat}
theorem OnRun.lt (h : OnRun p v K) {j : Nat} (hj : j < K) : nd p v j < p.length := h.P.lt j hj
theorem OnRun.next (h : OnRun p v K) {j : Nat} (hj : j + 1 < K) : ((nd p v (j + 1) : Nat) : Int) ∈ nxB (p.getD (nd p v j) bnul) := h.P.next j hj
theorem OnRun.last (h : OnRun p v K) (hj : 0 < K) : nxB (p.getD (nd p v (K - 1)) bnul) = [] := h.P.last hj
def Sr (p : List Blk) (i k : Nat) : Prop := (getU (W.lastL (nexts p)) i).testBit k = true
theorem sr_iff (h8 : p.length ≤ 8) {i k : Nat} (hi : i < p.length) : Sr p i k ↔ k < p.length ∧ W.Ends (nexts p) (-1) i ∧ ¬ W.Ends (nexts p) (k : Int) i := by
  have hl : (nexts p).length = p.length := by simp [nexts]
  have h1 : i < (W.lastL (nexts p)).length := by rw [W.lastL_len, hl]; exact hi
  unfold Sr
  rw [getU_get h1, W.lastL_get, W.lastS_bit (by omega), hl]
theorem OnRun.ends (h : OnRun p v K) {a : Nat} (ha : a < K) : W.Ends (nexts p) (-1) (nd p v a) := ends_from h.P (-1) _ a ha rfl fun m _ _ => by omega
theorem OnRun.sr (h : OnRun p v K) {a k : Nat} (ha : a < K) : Sr p (nd p v a) k ↔ k < p.length ∧ ¬ W.Ends (nexts p) (k : Int) (nd p v a) := by
  rw [sr_iff h.n8 (show nd p v a < p.length from h.P.lt a ha)]
  exact ⟨fun h => ⟨h.1, h.2.2⟩, fun h' => ⟨h'.1, h.ends ha, h'.2⟩⟩
theorem OnRun.self (h : OnRun p v K) {a : Nat} (ha : a < K) : Sr p (nd p v a) (nd p v a) := (h.sr ha).2 ⟨h.P.lt a ha, not_self⟩
theorem OnRun.meets (h : OnRun p v K) {a k : Nat} (ha : a < K) (hs : Sr p (nd p v a) k) : ∃ m, a ≤ m ∧ m < K ∧ nd p v m = k := by
  by_cases hm : ∃ m, a ≤ m ∧ m < K ∧ nd p v m = k
  · exact hm
  · exact absurd (ends_from h.P (k : Int) _ a ha rfl fun m h1 h2 e => hm ⟨m, h1, h2, by omega⟩) ((h.sr ha).1 hs).2
/-- Ahead of the nearest no other of whom one is sure is met. -/
theorem OnRun.nearest (h : OnRun p v K) {a d m : Nat} (ha : a < K) (hd : Sr p (nd p v a) d) (hdi : d ≠ nd p v a) (hmax : ∀ k, k < p.length → k ≠ nd p v a → Sr p (nd p v a) k → cnt8 (getU (W.lastL (nexts p)) k) ≤ cnt8 (getU (W.lastL (nexts p)) d))
    (ham : a < m) (hm : m < K) (hno : ∀ x, a < x → x ≤ m → nd p v x ≠ d) : Sr p (nd p v a) (nd p v m) → nd p v m = nd p v a := fun hs => by
  by_cases e : nd p v m = nd p v a
  · exact e
  · exfalso
    have hdl : d < p.length := ((h.sr ha).1 hd).1
    have hsd : Sr p (nd p v m) d := (h.sr hm).2 ⟨hdl, fun hE => ((h.sr ha).1 hd).2 (ends_back h.P (d : Int) (a := a) hm hE (m - a) (by omega) fun x h1 h2 e => by
      rcases Nat.lt_or_ge a x with h3 | h3
      · exact hno x h3 (by omega) (by omega)
      · have : x = a := by omega
        subst this; exact hdi (by omega))⟩
    -- one meets d behind m
    obtain ⟨y, hy1, hy2, hy3⟩ := h.meets hm hsd
    have hyd : W.Ends (nexts p) (-1) d := by rw [← hy3]; exact h.ends hy2
    have hsub : ∀ k, (getU (W.lastL (nexts p)) d).testBit k = true → (getU (W.lastL (nexts p)) (nd p v m)).testBit k = true := fun k hk => by
      obtain ⟨k1, _, k3⟩ := (sr_iff h.n8 hdl).1 hk
      refine (h.sr hm).2 ⟨k1, fun hE => ?_⟩
      obtain ⟨e', he1, he2⟩ := ends_cut hE ((h.sr hm).1 hsd).2
      have : e' = d := by omega
      rw [this] at he2
      exact k3 he2
    have hnot : ¬ Sr p d (nd p v m) := fun hds => by
      have h1 := ((sr_iff h.n8 hdl).1 hds).2.2
      have h2 := ((h.sr hm).1 hsd).2
      obtain ⟨x, x1, x2, x3, x4⟩ := last_of (fun x => nd p v x = d ∨ nd p v x = nd p v m) (K - y - 1) y K (by omega) (.inl hy3)
      have hne : d ≠ nd p v m := fun e' => hno m ham (Nat.le_refl _) e'.symm
      rcases x3 with x3 | x3
      · refine h1 ?_
        rw [← x3]
        refine ends_from h.P _ _ x x2 rfl fun z z1 z2 ez => ?_
        rcases Nat.lt_or_ge x z with z3 | z3
        · exact x4 z z3 z2 (.inr (by omega))
        · have : z = x := by omega
          subst this; have : nd p v z = nd p v m := by omega
          omega
      · refine h2 ?_
        rw [← x3]
        refine ends_from h.P _ _ x x2 rfl fun z z1 z2 ez => ?_
        rcases Nat.lt_or_ge x z with z3 | z3
        · exact x4 z z3 z2 (.inl (by omega))
        · have : z = x := by omega
          subst this; have : nd p v z = d := by omega
          omega
    have hlt : cnt8 (getU (W.lastL (nexts p)) d) < cnt8 (getU (W.lastL (nexts p)) (nd p v m)) := by
      refine cnt8_mono_lt hsub (fun e' => hnot ?_) ?_
      · unfold Sr; rw [e']; exact h.self hm
      · have h1 : nd p v m < (W.lastL (nexts p)).length := by rw [W.lastL_len]; simp [nexts]; exact h.P.lt m hm
        rw [getU_get h1, W.lastL_get]; exact W.lastS_lt _ _
    have := hmax _ (show nd p v m < p.length from h.P.lt m hm) e hs
    omega
end
end Go.Proofs.Ytadmmciiahdmcaa
namespace Go.Proofs.Ytadmmciiahdmcaa
open Go.RowKit

theorem wAndN_bit (a b k : Nat) : (W.andN a b).testBit k = true ↔ k < 32 ∧ a.testBit k = true ∧ b.testBit k = false := W.setTo_bit _ _ _
structure Wz (n : Nat) (p : List Blk) (want : Nat) (T : Tri) (f : Nat → Int) (q : List Blk) : Prop where
  hp : POk (n : Int) p
  hw : want < 2 ^ n
  hl : Low p (getU (W.onL (nexts p))) want T
  hc : Clo p (getU (W.onL (nexts p))) want T
  hF : ltU T.F (2 ^ n)
  ht : ∀ i b, p[i]? = some b → T.t.testBit i = true → 0 ≤ b.test
  near : ∀ i, i < p.length → NearTo (W.lastL (nexts p)) i p.length (f i)
  hq : SlQ p want T.F T.t f q
section
variable {n : Nat} {p q : List Blk} {want : Nat} {T : Tri} {f : Nat → Int}
theorem Wz.be_lt (h : Wz n p want T f q) {i : Nat} {b : Blk} (hb : p[i]? = some b) : beC want T.F T.t i b < 2 ^ n :=
  lt_of_bits fun k hk => by
    rw [beC_bit] at hk
    rcases hk with (⟨_, h1⟩ | ⟨j, _, h1⟩) | ⟨h1, h2⟩
    · exact bit_lt h.hw h1
    · exact bit_lt (h.hF _) h1
    · have h3 := (h.hp.bs b (List.mem_of_getElem? hb)).hi
      have h4 := h.ht i b hb h1
      omega
/-- One block of the whole, the like of what is left. -/
theorem Wz.code (h : Wz n p want T f q) {i : Nat} {b : Blk} (hb : p[i]? = some b) {v u : List Int} (hv : (v.length : Int) = n) (ha : aliL (getU T.F i) v u) : aliL (beC want T.F T.t i b) (dgR v b.code) (dgR u (kpC b.code (beC want T.F T.t i b))) := by
  have hbo := h.hp.bs b (List.mem_of_getElem? hb)
  have h6 := h.hp.v6
  have hlt := h.be_lt hb
  refine kp_like rfl (by omega) hbo.code hv hlt (ha.le ?_)
  exact (h.hc.F i b hb).leN (Nat.lt_of_lt_of_le (ctC_lt rfl (by omega) hbo.code hlt) (Nat.le_trans (Nat.pow_le_pow_right (by decide) (show n ≤ 6 by omega)) (by decide)))
def Dead (T : Tri) (i : Nat) : Prop := T.t.testBit i = false ∧ ∀ k, ¬ T.M i k
/-- A block of which nothing is needed changes nothing that is. -/
theorem Wz.dead (h : Wz n p want T f q) {i : Nat} {b : Blk} (hb : p[i]? = some b) (hd : Dead T i) {v u : List Int} (hv : (v.length : Int) = n) (ha : aliL (getU T.F i) v u) : aliL (beC want T.F T.t i b) (dgR v b.code) u := by
  have h1 := h.code hb hv ha
  rwa [(ct_none fun k hk => hd.2 k (h.hc.M i b k hb hk)).2] at h1
variable {v : List Int} {K : Nat}
theorem on_bit (h8 : p.length ≤ 8) {i j s : Nat} (hi : i < p.length) (hj : j < p.length) (hji : (j : Int) ∈ nxB (p.getD i bnul)) (h1 : Sr p j s) (h2 : Sr p i s → s = i) : (getU (W.onL (nexts p)) i).testBit s = true := by
  have hl : (nexts p).length = p.length := by simp [nexts]
  have h3 : i < (W.onL (nexts p)).length := by simp [W.onL, hl]; exact hi
  have e : getU (W.onL (nexts p)) i = W.onS (nexts p) i := by rw [getU_get h3]; simp [W.onL]
  have e2 : (nexts p).getD i [] = nxB (p.getD i bnul) := by
    rw [List.getD_eq_getElem?_getD]
    unfold nexts
    rw [List.getElem?_map, List.getElem?_eq_getElem hi, bget hi]; rfl
  have gl : ∀ {x : Nat}, x < p.length → getU (W.lastL (nexts p)) x = W.lastS (nexts p) x := fun {x} hx => by
    have h4 : x < (W.lastL (nexts p)).length := by rw [W.lastL_len, hl]; exact hx
    rw [getU_get h4, W.lastL_get]
  rw [e]
  unfold W.onS
  rw [e2, W.onP_bit]
  refine ⟨(j : Int), hji, ?_⟩
  rw [Int.toNat_natCast]
  unfold W.on1
  have s8 : s < 32 := by have := ((sr_iff h8 hj).1 h1).1; omega
  refine (wAndN_bit _ _ _).2 ⟨s8, ?_, ?_⟩
  · unfold Sr at h1; rwa [gl hj] at h1
  · cases hb : (W.andN (W.lastS (nexts p) i) (2 ^ i)).testBit s
    · rfl
    · obtain ⟨_, h5, h6⟩ := (wAndN_bit _ _ _).1 hb
      have h7 : Sr p i s := by unfold Sr; rw [gl hi]; exact h5
      rw [h2 h7, testBit_pow, decide_eq_false_iff_not] at h6
      exact absurd rfl h6
/-- Behind a test that is not needed nothing is needed before the nearest is met. -/
theorem Wz.dark (h : Wz n p want T f q) (hR : OnRun p v K) {a : Nat} {b : Blk} (hb : p[nd p v a]? = some b) (h0 : 0 ≤ b.test) (hn : T.t.testBit (nd p v a) = false) (hno : ∀ m, a < m → m < K → (∀ x, a < x → x ≤ m → f (nd p v a) ≠ (nd p v x : Nat)) → Sr p (nd p v a) (nd p v m) → nd p v m = nd p v a) :
    ∀ m, a < m → m < K → (∀ x, a < x → x ≤ m → f (nd p v a) ≠ (nd p v x : Nat)) → Dead T (nd p v m) := fun m => by
  induction m using Nat.strongRecOn with
  | ind m ih =>
    intro ham hm hne
    obtain ⟨x, x1, x2, x3, x4⟩ := last_of (fun x => Sr p (nd p v x) (nd p v m) → nd p v m = nd p v x) (m - a - 1) a m (by omega) (hno m ham hm hne)
    have hx : x < K := by omega
    have hSn : Sr p (nd p v (x + 1)) (nd p v m) := by
      rcases Nat.lt_or_ge (x + 1) m with h1 | h1
      · by_cases hs : Sr p (nd p v (x + 1)) (nd p v m)
        · exact hs
        · exact absurd (fun h => absurd h hs) (x4 (x + 1) (by omega) h1)
      · have : x + 1 = m := by omega
        rw [this]; exact hR.self hm
    have hxl := hR.lt hx
    have hx1l := hR.lt (j := x + 1) (by omega)
    have hnx := hR.next (j := x) (by omega)
    obtain ⟨bx, hbx⟩ : ∃ bx, p[nd p v x]? = some bx := ⟨_, List.getElem?_eq_getElem hxl⟩
    have htx : T.t.testBit (nd p v x) = false := by
      rcases Nat.lt_or_ge a x with h1 | h1
      · exact (ih x x2 h1 hx fun y y1 y2 => hne y y1 (by omega)).1
      · have : x = a := by omega
        rw [this]; exact hn
    by_cases h00 : 0 ≤ bx.test
    · have hon := on_bit (p := p) hR.n8 hxl hx1l hnx hSn x3
      have hml := hR.lt hm
      refine ⟨?_, fun k hk => ?_⟩
      · cases hb2 : T.t.testBit (nd p v m)
        · rfl
        · have := h.hc.t _ bx (nd p v m) hbx h00 hml hon (.inl hb2)
          rw [htx] at this; cases this
      · have := h.hc.t _ bx (nd p v m) hbx h00 hml hon (.inr ⟨k, hk⟩)
        rw [htx] at this; cases this
    · -- one way on alone
      have hxa : a < x := by
        rcases Nat.lt_or_ge a x with h1 | h1
        · exact h1
        · have : x = a := by omega
          rw [this] at hbx
          rw [hb] at hbx
          injection hbx with hbx
          rw [hbx] at h0
          exact absurd h0 h00
      have hgb : p.getD (nd p v x) bnul = bx := by rw [List.getD_eq_getElem?_getD, hbx]; rfl
      have hone : nxB (p.getD (nd p v x) bnul) = [((nd p v (x + 1) : Nat) : Int)] := by
        have h5 := hnx
        rw [hgb] at h5 ⊢
        unfold nxB at h5 ⊢
        rw [if_neg (c := 0 ≤ bx.test ∧ bx.els ≠ bx.thn) (fun hc => h00 hc.1), List.append_nil] at h5 ⊢
        split at h5
        · rename_i h6
          rw [if_pos h6]
          rw [List.mem_singleton] at h5
          rw [h5]
        · cases h5
      have hs2 : Sr p (nd p v x) (nd p v m) := by
        refine (hR.sr hx).2 ⟨hR.lt hm, fun hE => ?_⟩
        have hget : (nexts p)[nd p v x]? = some [((nd p v (x + 1) : Nat) : Int)] := by
          unfold nexts
          rw [List.getElem?_map, hbx, ← hone, hgb]; rfl
        cases hE with
        | stop h1 _ => rw [hget] at h1; cases h1
        | go h1 _ h3 h4 =>
          rw [hget] at h1
          injection h1 with h1
          rw [← h1, List.mem_singleton] at h3
          have : _ = nd p v (x + 1) := Int.ofNat.inj h3
          rw [this] at h4
          exact ((hR.sr (by omega)).1 hSn).2 h4
      rw [x3 hs2]
      exact ih x x2 hxa hx fun y y1 y2 => hne y y1 (by omega)
/-- Along turns of which nothing is needed the variables stay alike. -/
theorem Wz.along (h : Wz n p want T f q) (hR : OnRun p v K) (hst : ∀ j, j ≤ K → ((stB p v j).2.length : Int) = n) (hrn : runsB p v K) {u : List Int} {a : Nat} (h0 : a + 1 < K → aliL (getU T.F (nd p v (a + 1))) (stB p v (a + 1)).2 u) : ∀ d, a + 1 + d < K → (∀ x, a < x → x < a + 1 + d → Dead T (nd p v x)) → aliL (getU T.F (nd p v (a + 1 + d))) (stB p v (a + 1 + d)).2 u
  | 0, hd, _ => h0 hd
  | d + 1, hd, hD => by
    have ih := h.along hR hst hrn h0 d (by omega) fun x h1 h2 => hD x h1 (by omega)
    have hl := hR.lt (j := a + 1 + d) (by omega)
    have hb := List.getElem?_eq_getElem hl
    have h1 := h.dead hb (hD (a + 1 + d) (by omega) (by omega)) (hst _ (by omega)) ih
    have h2 := hR.next (j := a + 1 + d) (by omega)
    rw [bget hl] at h2
    rw [show a + 1 + (d + 1) = a + 1 + d + 1 by omega]
    have e : (stB p v (a + 1 + d + 1)).2 = dgR (stB p v (a + 1 + d)).2 p[nd p v (a + 1 + d)].code := by
      rw [st_succ]
      show dgR _ (p.getD (nd p v (a + 1 + d)) bnul).code = _
      rw [bget hl]
    rw [e]
    refine h1.le fun k hk => (beC_bit _ _ _ _ _ _).2 (.inl (.inr ⟨_, h2, ?_⟩))
    rw [Int.toNat_natCast]; exact hk
/-- A run from any block, any values. -/
def itB (q : List Blk) (s : Int × List Int) : Nat → Int × List Int
  | 0 => s
  | k + 1 => goB q (itB q s k).1 (itB q s k).2
theorem itB_shift (q : List Blk) (s : Int × List Int) : ∀ k, itB q s (k + 1) = itB q (goB q s.1 s.2) k
  | 0 => rfl
  | k + 1 => by
    show goB q (itB q s (k + 1)).1 (itB q s (k + 1)).2 = _
    rw [itB_shift q s k]; rfl
theorem itB_st (q : List Blk) (v : List Int) : ∀ k, itB q (0, v) k = stB q v k
  | 0 => rfl
  | k + 1 => by
    show goB q (itB q (0, v) k).1 (itB q (0, v) k).2 = _
    rw [itB_st q v k]; rfl
/-- From there q stops, no later than after c turns, with the same in what is wanted. -/
def Stops (q : List Blk) (want : Nat) (fin : List Int) (s : Int × List Int) (c : Nat) : Prop := ∃ k, k ≤ c ∧ (∀ j, j < k → 0 ≤ (itB q s j).1) ∧ (itB q s k).1 < 0 ∧ aliL want fin (itB q s k).2
theorem Stops.step {q : List Blk} {want : Nat} {fin : List Int} {s : Int × List Int} {c : Nat} (h0 : 0 ≤ s.1) (h : Stops q want fin (goB q s.1 s.2) c) : Stops q want fin s (c + 1) := by
  obtain ⟨k, h1, h2, h3, h4⟩ := h
  refine ⟨k + 1, by omega, fun j hj => ?_, by rw [itB_shift]; exact h3, by rw [itB_shift]; exact h4⟩
  cases j with
  | zero => exact h0
  | succ j => rw [itB_shift]; exact h2 j (by omega)
theorem Stops.now {q : List Blk} {want : Nat} {fin : List Int} {s : Int × List Int} (h : s.1 < 0) (ha : aliL want fin s.2) : Stops q want fin s 0 := ⟨0, Nat.le_refl _, fun j hj => by omega, h, ha⟩
theorem Stops.le {q : List Blk} {want : Nat} {fin : List Int} {s : Int × List Int} {c d : Nat} (h : Stops q want fin s c) (hd : c ≤ d) : Stops q want fin s d := by
  obtain ⟨k, h1, h2⟩ := h
  exact ⟨k, by omega, h2⟩
theorem Wz.sim (h : Wz n p want T f q) (hR : OnRun p v K) (hst : ∀ j, j ≤ K → ((stB p v j).2.length : Int) = n) (hrn : runsB p v K) (hend : (stB p v K).1 < 0) :
    ∀ N a, a < K → K - a = N → ∀ u, aliL (getU T.F (nd p v a)) (stB p v a).2 u → Stops q want (stB p v K).2 (((nd p v a : Nat) : Int), u) N := fun N => by
  induction N using Nat.strongRecOn with
  | ind N ih =>
    intro a ha hN u hu
    have hl := hR.lt ha
    have hb := List.getElem?_eq_getElem hl
    have hgb := bget hl
    have hq := h.hq.2 _ _ hb
    have hqg : q.getD (nd p v a) bnul = slB want T.F T.t f (nd p v a) p[nd p v a] := by rw [List.getD_eq_getElem?_getD, hq]; rfl
    have hbo := h.hp.bs _ (List.getElem_mem hl)
    have hcode := h.code hb (hst a (by omega)) hu
    have e2 : (stB p v (a + 1)).2 = dgR (stB p v a).2 p[nd p v a].code := by
      rw [st_succ]
      show dgR _ (p.getD (nd p v a) bnul).code = _
      rw [hgb]
    have hnd : ((nd p v a : Nat) : Int) = (stB p v a).1 := by have := hrn a ha; unfold nd; omega
    have e1 : (stB p v (a + 1)).1 = (goB p ((nd p v a : Nat) : Int) (stB p v a).2).1 := by rw [st_succ, hnd]
    obtain ⟨N', rfl⟩ : ∃ N', N = N' + 1 := ⟨N - 1, by omega⟩
    refine Stops.step (by show (0 : Int) ≤ ((nd p v a : Nat) : Int); omega) ?_
    show Stops q want _ (goB q ((nd p v a : Nat) : Int) u) N'
    have hq2 : (goB q ((nd p v a : Nat) : Int) u).2 = dgR u (q.getD (nd p v a) bnul).code := by unfold goB; rw [Int.toNat_natCast]
    have hqc : (q.getD (nd p v a) bnul).code = kpC p[nd p v a].code (beC want T.F T.t (nd p v a) p[nd p v a]) := by
      rw [hqg]; unfold slB; split <;> rfl
    rw [hqc] at hq2
    by_cases hcut : 0 ≤ p[nd p v a].test ∧ T.t.testBit (nd p v a) = false
    · -- the test is cut away
      have hq1 : (goB q ((nd p v a : Nat) : Int) u).1 = f (nd p v a) := by
        unfold goB
        rw [Int.toNat_natCast, hqg]
        unfold slB
        rw [if_pos hcut]
        dsimp only
        rw [if_neg (fun hc => absurd hc.1 (by omega))]
      have hpair : goB q ((nd p v a : Nat) : Int) u = (f (nd p v a), dgR u (kpC p[nd p v a].code (beC want T.F T.t (nd p v a) p[nd p v a]))) := Prod.ext hq1 hq2
      rw [hpair]
      generalize hu' : dgR u (kpC p[nd p v a].code (beC want T.F T.t (nd p v a) p[nd p v a])) = u' at *
      have hnx : nxB p[nd p v a] ≠ [] := by
        have := hbo.two hcut.1
        unfold nxB
        rw [if_pos this.1.1]; simp
      have ha1 : a + 1 < K := by
        rcases Nat.lt_or_ge (a + 1) K with h1 | h1
        · exact h1
        · have h2 := hR.last (by omega)
          have : K - 1 = a := by omega
          rw [this, hgb] at h2
          exact absurd h2 hnx
      have h0 : aliL (getU T.F (nd p v (a + 1))) (stB p v (a + 1)).2 u' := by
        have h2 := hR.next (j := a) ha1
        rw [hgb] at h2
        rw [e2]
        refine hcode.le fun k hk => (beC_bit _ _ _ _ _ _).2 (.inl (.inr ⟨_, h2, ?_⟩))
        rw [Int.toNat_natCast]; exact hk
      have hnear := h.near _ hl
      rcases hnear with ⟨hm1, hnone⟩ | ⟨d, hdl, hfd, hdi, hdb, hmax⟩
      · -- to the end
        have hdark := h.dark hR hb hcut.1 hcut.2 (fun m hm1 hm2 _ hs => by
          by_cases e : nd p v m = nd p v a
          · exact e
          · have := hnone _ (hR.lt hm2) e
            unfold Sr at hs
            rw [hs] at this; cases this)
        have hdk : ∀ m, a < m → m < K → Dead T (nd p v m) := fun m hm1' hm2 => hdark m hm1' hm2 fun x _ _ => by rw [hm1]; omega
        have hal := h.along hR hst hrn (fun _ => h0) (K - 1 - (a + 1)) (by omega) fun x x1 x2 => hdk x x1 (by omega)
        rw [show a + 1 + (K - 1 - (a + 1)) = K - 1 by omega] at hal
        have hlK := hR.lt (j := K - 1) (by omega)
        have hbK := List.getElem?_eq_getElem hlK
        have h1 := h.dead hbK (hdk (K - 1) (by omega) (by omega)) (hst _ (by omega)) hal
        have h2 := hR.last (by omega)
        rw [bget hlK] at h2
        have eK : (stB p v K).2 = dgR (stB p v (K - 1)).2 p[nd p v (K - 1)].code := by
          have : K = (K - 1) + 1 := by omega
          conv => lhs; rw [this]
          rw [st_succ]
          show dgR _ (p.getD (nd p v (K - 1)) bnul).code = _
          rw [bget hlK]
        refine (Stops.now (by dsimp only; omega) ?_).le (Nat.zero_le _)
        dsimp only
        rw [eK]
        exact h1.le fun k hk => (beC_bit _ _ _ _ _ _).2 (.inl (.inl ⟨h2, hk⟩))
      · -- to the nearest
        have hdS : Sr p (nd p v a) d := hdb
        obtain ⟨m0, hm0, hm0K, hm0d⟩ := hR.meets ha hdS
        have hm0a : a < m0 := by
          rcases Nat.lt_or_ge a m0 with h1 | h1
          · exact h1
          · have : m0 = a := by omega
            rw [this] at hm0d; exact absurd hm0d.symm hdi
        obtain ⟨m, hm1, hm2, hm3, hm4⟩ := first_of (fun x => nd p v x = d) (m0 - (a + 1)) (a + 1) (by rw [show a + 1 + (m0 - (a + 1)) = m0 by omega]; exact hm0d)
        have hmK : m < K := by omega
        have hdark := h.dark hR hb hcut.1 hcut.2 (fun m hm1' hm2' hne hs => hR.nearest ha hdS hdi hmax hm1' hm2' (fun x x1 x2 e => hne x x1 x2 (by rw [hfd, ← e])) hs)
        have hal := h.along hR hst hrn (fun _ => h0) (m - (a + 1)) (by omega) fun x x1 x2 => hdark x x1 (by omega) fun y y1 y2 e => hm4 y (by omega) (by omega) (by rw [hfd] at e; omega)
        rw [show a + 1 + (m - (a + 1)) = m by omega] at hal
        have := ih (K - m) (by omega) m hmK rfl u' hal
        rw [hm3] at this
        rw [hfd]
        exact this.le (by omega)
    · -- the same way on
      have hqs : q.getD (nd p v a) bnul = { p[nd p v a] with code := kpC p[nd p v a].code (beC want T.F T.t (nd p v a) p[nd p v a]) } := by
        rw [hqg]; unfold slB; rw [if_neg hcut]
      have hsame : (goB q ((nd p v a : Nat) : Int) u).1 = (stB p v (a + 1)).1 := by
        rw [e1]
        unfold goB
        rw [Int.toNat_natCast, hqs, hgb]
        dsimp only
        by_cases h1 : 0 ≤ p[nd p v a].test
        · have h2 : T.t.testBit (nd p v a) = true := by
            cases hb2 : T.t.testBit (nd p v a)
            · exact absurd ⟨h1, hb2⟩ hcut
            · rfl
          have := hcode.2 p[nd p v a].test.toNat ((beC_bit _ _ _ _ _ _).2 (.inr ⟨h2, rfl⟩))
          rw [this]
        · rw [if_neg (fun h => h1 h.1), if_neg (fun h => h1 h.1)]
      have hpair : goB q ((nd p v a : Nat) : Int) u = ((stB p v (a + 1)).1, dgR u (kpC p[nd p v a].code (beC want T.F T.t (nd p v a) p[nd p v a]))) := Prod.ext hsame hq2
      rw [hpair]
      rcases Nat.lt_or_ge (a + 1) K with ha1 | ha1
      · have h2 := hR.next (j := a) ha1
        rw [hgb] at h2
        have hnd1 : (stB p v (a + 1)).1 = ((nd p v (a + 1) : Nat) : Int) := by have := hrn (a + 1) ha1; unfold nd; omega
        rw [hnd1]
        refine (ih (K - (a + 1)) (by omega) (a + 1) ha1 rfl _ ?_).le (by omega)
        rw [e2]
        refine hcode.le fun k hk => (beC_bit _ _ _ _ _ _).2 (.inl (.inr ⟨_, h2, ?_⟩))
        rw [Int.toNat_natCast]; exact hk
      · have hKa : K = a + 1 := by omega
        have h2 := hR.last (by omega)
        have h3 : K - 1 = a := by omega
        rw [h3, hgb] at h2
        refine (Stops.now (by dsimp only; rw [← hKa]; exact hend) ?_).le (Nat.zero_le _)
        dsimp only
        rw [hKa, e2]
        exact hcode.le fun k hk => (beC_bit _ _ _ _ _ _).2 (.inl (.inl ⟨h2, hk⟩))
/-- What is cut stops no later, with the same in what is wanted. -/
theorem Wz.run (h : Wz n p want T f q) (hv : (v.length : Int) = n) (hb : ∀ x ∈ v, 0 ≤ x ∧ x ≤ 255) (hr : runsB p v K) (he : (stB p v K).1 < 0) : ∃ k, k ≤ K ∧ runsB q v k ∧ (stB q v k).1 < 0 ∧ aliL want (stB p v K).2 (stB q v k).2 := by
  have hP := path_of h.hp hv hb hr he
  have hR : OnRun p v K := ⟨hP, h.hp.n8⟩
  have hst : ∀ j, j ≤ K → ((stB p v j).2.length : Int) = n := fun j hj => (st_ok h.hp hv hb j fun i hi => hr i (by omega)).1
  have hK : 0 < K := by
    rcases Nat.eq_zero_or_pos K with h0 | h0
    · rw [h0] at he; exact absurd he (by show ¬ (0 : Int) < 0; omega)
    · exact h0
  obtain ⟨k, h1, h2, h3, h4⟩ := h.sim hR hst hr he K 0 hK (by omega) v ⟨rfl, fun _ _ => rfl⟩
  have e0 : ((((nd p v 0 : Nat) : Int)), v) = ((0 : Int), v) := rfl
  rw [e0] at h2 h3 h4
  exact ⟨k, h1, fun j hj => by rw [← itB_st]; exact h2 j hj, by rw [← itB_st q v k]; exact h3, by rw [← itB_st q v k]; exact h4⟩
/-- What is cut is a program. -/
theorem Wz.ok (h : Wz n p want T f q) (h0 : pkErr (n : Int) p = 0) : pkErr (n : Int) q = 0 := by
  rw [pkErr_zero] at h0 ⊢
  obtain ⟨⟨a1, a2, a3, a4, a5⟩, a6⟩ := h0
  have hl := h.hq.1
  refine ⟨⟨a1, a2, by omega, by omega, Nat.le_trans ?_ a5⟩, fun c hc => ?_⟩
  · have key : ∀ (p q : List Blk), q.length = p.length → (∀ i (b c : Blk), p[i]? = some b → q[i]? = some c → c.code.length ≤ b.code.length) → manyB q ≤ manyB p := fun p => by
      induction p with
      | nil => intro q hq _; rw [List.length_eq_zero_iff.1 hq]; exact Nat.le_refl _
      | cons b p ih =>
        intro q hq hh
        cases q with
        | nil => cases hq
        | cons c q =>
          have h1 := hh 0 b c rfl rfl
          have h2 := ih q (by simpa using hq) fun i b' c' h3 h4 => hh (i + 1) b' c' (by simpa using h3) (by simpa using h4)
          unfold manyB at *
          simp only [List.map_cons, List.sum_cons]
          omega
    refine key p q hl fun i b c hb hc => ?_
    have := h.hq.2 i b hb
    rw [hc] at this
    injection this with this
    rw [this]
    unfold slB
    split <;> exact (kpC_sub _ _).length_le
  · obtain ⟨i, hi, rfl⟩ := List.mem_iff_getElem.1 hc
    have hip : i < p.length := by omega
    have hb := List.getElem?_eq_getElem hip
    have hq := h.hq.2 i _ hb
    rw [List.getElem?_eq_getElem hi] at hq
    injection hq with hq
    rw [hq, hl]
    have hbe := a6 _ (List.getElem_mem hip)
    have hsub := bErr_sub (kpC_sub p[i].code (beC want T.F T.t i p[i])) hbe
    unfold slB
    split
    · rw [bErr_zero] at hsub ⊢
      refine ⟨hsub.1, eErr_0 (by omega) ?_⟩
      rcases (h.near i hip).val with h1 | ⟨m, h1, h2⟩
      · rw [h1]; omega
      · rw [h1]; omega
    · exact hsub
end
end Go.Proofs.Ytadmmciiahdmcaa
namespace Go.Proofs.Ytadmmciiahdmcaa
set_option maxRecDepth 100000
open Go.RowKit

section
variable {w w' : World} {base : Nat} {v v' : Value} {es : List Ent} {l : List Blk}
theorem BkRow.nil (w : World) (base : Nat) : BkRow w base (.slice none 0 0) [] [] := ⟨Own.nil_ _ _ _, rfl, fun i e b h => by simp at h⟩
theorem BkRow.below (h : BkRow w base v es l) (hb : Below w.heap.size w w') : BkRow w' base v es l :=
  ⟨Own.below h.own hb, h.len, fun i e b h1 h2 => let ⟨a1, a2, a3, a4, a5⟩ := h.ent i e b h1 h2; ⟨a1, a2, a3, a4, Own.below a5 hb⟩⟩
theorem BkRow.push (h : BkRow w base v es l) {e : Ent} {b : Blk} (he : e.n = b.code.length ∧ e.test = b.test ∧ e.thn = b.thn ∧ e.els = b.els) (hc : OwnSt w base 78 (.slice e.A e.n e.cap) b.code)
    (hown : Own Ent.cells 4 w' base 25 v' (es ++ [e])) (hg : w.grownBy w' v.ownBlock) : BkRow w' base v' (es ++ [e]) (l ++ [b]) := by
  refine ⟨hown, by simp [h.len], fun i e' b' h1 h2 => ?_⟩
  rcases Nat.lt_or_ge i es.length with hi | hi
  · rw [List.getElem?_append_left hi] at h1
    rw [List.getElem?_append_left (by rw [← h.len]; exact hi)] at h2
    obtain ⟨a1, a2, a3, a4, a5⟩ := h.ent i e' b' h1 h2
    exact ⟨a1, a2, a3, a4, kept_ty a5 h.own (by decide) hg⟩
  · rw [List.getElem?_append_right hi] at h1
    rw [List.getElem?_append_right (by rw [← h.len]; exact hi)] at h2
    have h0 : i - es.length = 0 := by
      have := (List.getElem?_eq_some_iff.1 h1).1
      simp at this; omega
    rw [h0] at h1
    rw [← h.len, h0] at h2
    injection h1 with h1
    injection h2 with h2
    subst h1 h2
    exact ⟨he.1, he.2.1, he.2.2.1, he.2.2.2, kept_ty hc h.own (by decide) hg⟩
end
theorem selB_snoc : ∀ {c : List Step} {b : List Bool} {j : Nat} (hj : j < c.length) (hb : j < b.length), selB (c.take (j + 1)) (b.take (j + 1)) = selB (c.take j) (b.take j) ++ (if b[j] = true then [c[j]] else [])
  | s :: c, x :: b, 0, _, _ => by cases x <;> simp [selB]
  | s :: c, x :: b, j + 1, hj, hb => by
    have ih := selB_snoc (c := c) (b := b) (j := j) (by simpa using hj) (by simpa using hb)
    cases x
    · show selB (c.take (j + 1)) (b.take (j + 1)) = selB (c.take j) (b.take j) ++ _
      rw [ih]; rfl
    · show s :: selB (c.take (j + 1)) (b.take (j + 1)) = s :: selB (c.take j) (b.take j) ++ _
      rw [ih]; rfl
theorem selB_len : ∀ (c : List Step) (b : List Bool), (selB c b).length ≤ c.length
  | [], _ => by simp [selB]
  | _ :: _, [] => by simp [selB]
  | s :: c, true :: b => by simp only [selB, List.length_cons]; have := selB_len c b; omega
  | s :: c, false :: b => by simp only [selB, List.length_cons]; have := selB_len c b; omega
/-- The blocks that are left, of the first k. -/
def PreQ (p : List Blk) (want : Nat) (F : List Nat) (t k : Nat) (l : List Blk) : Prop := l.length = k ∧ ∀ (i : Nat) (b : Blk), i < k → p[i]? = some b → ∃ r, NearTo (W.lastL (nexts p)) i p.length r ∧ l[i]? = some (slB want F t (fun _ => r) i b)
theorem PreQ.snoc {p : List Blk} {want : Nat} {F : List Nat} {t k : Nat} {l : List Blk} (h : PreQ p want F t k l) {b : Blk} (hb : p[k]? = some b) {r : Int} (hr : NearTo (W.lastL (nexts p)) k p.length r) : PreQ p want F t (k + 1) (l ++ [slB want F t (fun _ => r) k b]) := by
  refine ⟨by rw [List.length_append, h.1]; rfl, fun i c hi hc => ?_⟩
  rcases Nat.lt_or_ge i k with h1 | h1
  · obtain ⟨r', h2, h3⟩ := h.2 i c h1 hc
    exact ⟨r', h2, by rw [List.getElem?_append_left (by rw [h.1]; exact h1)]; exact h3⟩
  · have : i = k := by omega
    subst this
    rw [hb] at hc
    injection hc with hc
    subst hc
    exact ⟨r, hr, by rw [List.getElem?_append_right (by rw [h.1]; exact Nat.le_refl _), h.1, Nat.sub_self]; rfl⟩
theorem PreQ.done {p : List Blk} {want : Nat} {F : List Nat} {t : Nat} {l : List Blk} (h : PreQ p want F t p.length l) : ∃ f : Nat → Int, (∀ i, i < p.length → NearTo (W.lastL (nexts p)) i p.length (f i)) ∧ SlQ p want F t f l := by
  have key : ∀ i, ∃ r : Int, i < p.length → NearTo (W.lastL (nexts p)) i p.length r ∧ ∀ b, p[i]? = some b → l[i]? = some (slB want F t (fun _ => r) i b) := fun i => by
    by_cases hi : i < p.length
    · obtain ⟨r, h1, h2⟩ := h.2 i _ hi (List.getElem?_eq_getElem hi)
      exact ⟨r, fun _ => ⟨h1, fun b hb => by rw [List.getElem?_eq_getElem hi] at hb; injection hb with hb; rw [← hb]; exact h2⟩⟩
    · exact ⟨0, fun h => absurd h hi⟩
  refine ⟨fun i => (key i).choose, fun i hi => ((key i).choose_spec hi).1, h.1, fun i b hb => ?_⟩
  exact ((key i).choose_spec (List.getElem?_eq_some_iff.1 hb).1).2 b hb
theorem near_ex (ls : List Nat) (i : Nat) : ∀ k, ∃ r, NearTo ls i k r
  | 0 => ⟨-1, NearTo.first ls i⟩
  | k + 1 => by
    obtain ⟨r, hr⟩ := near_ex ls i k
    by_cases h1 : k = i
    · exact ⟨r, hr.skip (.inl h1)⟩
    cases hb : (getU ls i).testBit k
    · exact ⟨r, hr.skip (.inr hb)⟩
    rcases hr.val with h2 | ⟨m, rfl, hm⟩
    · exact ⟨_, hr.take h1 hb (.inl (by omega))⟩
    · by_cases hc : cnt8 (getU ls m) < cnt8 (getU ls k)
      · exact ⟨_, hr.take h1 hb (.inr ⟨m, rfl, hc⟩)⟩
      · exact ⟨_, hr.stay (by omega)⟩
def SliceE (n : Nat) (p : List Blk) (want : Nat) (w : World) (e : Ending) (w' : World) : Prop :=
  ((∃ x, x ≠ 0 ∧ e = .returned (.tuple #[.slice none 0 0, .int .i64 x])) ∨
    (pkErr (n : Int) p = 0 ∧ want < 2 ^ n ∧ ∃ (A' : Option Addr) (c' : Nat) (q : List Blk) (T : Tri) (f : Nat → Int), e = .returned (.tuple #[.slice A' p.length c', .int .i64 0]) ∧ RdBk w' A' q ∧ Wz n p want T f q)) ∧ Below w.heap.size w w'
set_option maxHeartbeats 1000000 in
theorem slice_bad (vars : Int) (A : Option Addr) (p : List Blk) (cap want : Nat) (w : World) (hA : RdBk w A p) (hm : p.length ≤ maxLen) (hmc : smallB p) (h0 : pkErr vars p ≠ 0) :
    Calls Try.prog 37 #[.int .i64 vars, .slice A p.length cap, .int .u32 want] w fun e w' => (∃ x, x ≠ 0 ∧ e = .returned (.tuple #[.slice none 0 0, .int .i64 x])) ∧ Below w.heap.size w w' := by
  have Hb := Lib.hid (build_bad vars A p cap want w hA hm hmc h0)
  clear hA h0
  go_enter Try.func37, Try.ntmps37
  go_upto_region 2 with (go_at_call 64; refine Hb.out.mono ?_; rintro e w1 ⟨x, hx, rfl, hW⟩; have HW1 := Lib.hid hW; clear hW)
  have q : (x != 0) = true := by rw [bne_iff_ne]; exact hx
  have Hx := Lib.hid hx
  clear hx
  go_wp2
  go_ret2
  exact ⟨⟨x, Hx.out, rfl⟩, HW1.out⟩
set_option maxHeartbeats 4000000 in
theorem slice_calls (n : Nat) (A : Option Addr) (p : List Blk) (cap want : Nat) (w : World) (hA : RdBk w A p) (hm : p.length ≤ maxLen) (hmc : smallB p) :
    Calls Try.prog 37 #[.int .i64 (n : Nat), .slice A p.length cap, .int .u32 want] w (SliceE n p want w) := by
  have Hb := Lib.hid (build_calls n A p cap want w hA hm hmc)
  have HA := Lib.hid hA
  clear hA
  go_enter Try.func37, Try.ntmps37
  go_wp2_with (go_at_call 64; refine Hb.out.mono ?_; clear Hb; rintro e w1 (⟨x, hx, rfl, hW⟩ | ⟨h0, h1, T, SB, FB, R, b, cS, t, F, B, vs, rfl, hX, hC, hO⟩))
  · have q : (x != 0) = true := by rw [bne_iff_ne]; exact hx
    have Hx := Lib.hid hx
    have HW1 := Lib.hid hW
    clear hx hW
    go_wp2
    go_ret2
    exact ⟨.inl ⟨x, Hx.out, rfl⟩, HW1.out⟩
  have H0 := Lib.hid h0
  have H1 := Lib.hid h1
  have HP := Lib.hid (pok_of h0)
  have hn8 := HP.out.n8
  have hn1 := HP.out.n1
  have HX := Lib.hid hX
  have HC := Lib.hid hC
  have Hll : Hid ((W.lastL (nexts p)).length = p.length) := Lib.hid (by rw [W.lastL_len]; simp [nexts])
  obtain ⟨As, cs, rfl, hRs⟩ := OwnU.rd hO
  rw [Hll.out]
  have HRs := Lib.hid hRs
  have Hlv : Hid (∀ x ∈ W.lastL (nexts p), x < 256) := Lib.hid fun x hx => by
    unfold W.lastL at hx
    obtain ⟨i, _, rfl⟩ := List.mem_map.1 hx
    exact W.lastS_lt _ _
  have HA1 := Lib.hid (HA.out.below hX.bel)
  clear h0 h1 hX hC hO hRs HA
  go_wp2
  go_loopw [30, 11] (fun i v wr => ∃ (k : Nat) (vq : Value) (es : List Ent) (l : List Blk), k ≤ p.length ∧ i = .int .i64 k ∧ v = vq ∧ Hid (BkRow wr w1.heap.size vq es l) ∧ Hid (PreQ p want F t k l) ∧ Hid (Below w1.heap.size w1 wr)) (fun i _ _ => p.length - (intOf i).toNat)
  case atStart => exact ⟨0, _, [], [], Nat.zero_le _, rfl, rfl, Lib.hid (BkRow.nil _ _), Lib.hid ⟨rfl, fun i b hi => by omega⟩, Lib.hid (Below.refl _ _)⟩
  case round =>
    obtain ⟨k, vq, es, l, hk, rfl, hv, HBk, HPq, HW⟩ := hrel
    obtain rfl := hv.symm
    obtain ⟨wo, rfl⟩ : ∃ wo : World, wo = wr := ⟨_, rfl⟩
    by_cases hlt : k < p.length
    · have Hlt := Lib.hid hlt
      have q1 : ((k : Nat) : Int) < ((p.length : Nat) : Int) := by omega
      have Hb := Lib.hid (List.getElem?_eq_getElem hlt)
      obtain ⟨pb, off, A', cap', rfl, hpb, d0, d1, d2, d3, hSt⟩ := RdBk.at_ (HA1.out.below HW.out) hlt
      have hcl : p[k].code.length ≤ 20 := by have := manyB_mem (List.getElem_mem hlt); have := HP.out.many; omega
      have hbo := HP.out.bs _ (List.getElem_mem hlt)
      have Hbl := Lib.hid (HX.out.len k _ Hb.out)
      have Hrow := Lib.hid (HX.out.ct.hB k hlt)
      have HcS := Lib.hid (HX.out.ct.atS hlt)
      have Hex := Lib.hid fun j => low_exact HX.out.low HC.out Hb.out (k := j)
      have Htlo := Lib.hid hbo.lo
      generalize p[k] = bk at *
      obtain ⟨code, test, thn, els⟩ := bk
      dsimp only at d0 d1 d2 d3 hcl hSt Hbl Htlo
      have HSt := Lib.hid hSt
      clear hSt hbo
      go_upto_region 8 with fail
      obtain ⟨NB, hNB⟩ : ∃ NB, NB = wo.heap.size := ⟨_, rfl⟩
      have hw1s := HW.out.size
      have HW5 := Lib.hid ((Below.refl wo.heap.size wo).alloc (Nat.le_refl _) (.cells #[.slice A' code.length cap', .int .i64 test, .int .i64 thn, .int .i64 els] 25))
      have HN5 : Hid ((wo.alloc (.cells #[.slice A' code.length cap', .int .i64 test, .int .i64 thn, .int .i64 els] 25)).heap[NB]? = some (.cells #[.slice A' code.length cap', .int .i64 test, .int .i64 thn, .int .i64 els] 25 (0, 0))) := Lib.hid (by rw [hNB]; exact heap_alloc_new wo _)
      have hn0 : (wo.alloc (.cells #[.slice A' code.length cap', .int .i64 test, .int .i64 thn, .int .i64 els] 25)).cell? ⟨NB, 0, none⟩ = some (.slice A' code.length cap') := by rw [cell_of_row _ NB _ _ _ _ HN5.out]; rfl
      rw [← hNB]
      have HNB := Lib.hid hNB
      clear hNB d0 d1 d2 d3 hpb
      generalize wo.alloc (.cells #[.slice A' code.length cap', .int .i64 test, .int .i64 thn, .int .i64 els] 25) = w5 at *
      go_wp2
      go_loopw [38, 14] (fun i v wx => ∃ (j : Nat) (vc : Value), j ≤ code.length ∧ i = .int .i64 j ∧ v = vc ∧ Hid (Below wo.heap.size wo wx) ∧ Hid (wx.heap[NB]? = some (.cells #[.slice A' code.length cap', .int .i64 test, .int .i64 thn, .int .i64 els] 25 (0, 0))) ∧ Hid (OwnSt wx (NB + 1) 78 vc (selB (code.take j) ((B k).take j)))) (fun i _ _ => code.length - (intOf i).toNat)
      case atStart => exact ⟨0, _, Nat.zero_le _, rfl, rfl, HW5, HN5, Lib.hid (by rw [List.take_zero]; exact Own.nil_ _ _ _)⟩
      case round =>
        clear hn0 HW5 HN5
        obtain ⟨j, vc, hj, rfl, hv, HWx, HNx, HOc⟩ := hrel
        obtain rfl := hv.symm
        by_cases hjl : j < code.length
        · have Hjl := Lib.hid hjl
          have q2 : ((j : Nat) : Int) < ((code.length : Nat) : Int) := by omega
          have HSx := Lib.hid (Rd.below (HSt.out) HWx.out)
          obtain ⟨b2, off2, rfl, hb2, c0, c1, c2, c3, c4⟩ := RdSt.at5 HSx.out hjl
          have hbj : j < (B k).length := by rw [Hbl.out]; exact hjl
          have HSX := Lib.hid ((HX.out.keep HW.out).keep HWx.out)
          have t3 := HSX.out.ct.at_.2.2.2.1
          have s1 := HSX.out.ct.atS Hlt.out
          have mB : wr.cell? ⟨R k, j, none⟩ = some (.bool (B k)[j]) := by rw [cell_of_row wr (R k) j _ _ _ (HSX.out.ct.hB k Hlt.out)]; simp [hbj]
          have qB : ((j : Nat) : Int) < (((B k).length : Nat) : Int) := by omega
          have Hsn := Lib.hid (selB_snoc hjl hbj)
          have hsl : (selB (code.take j) ((B k).take j)).length < 1000000 := by have := selB_len (code.take j) ((B k).take j); rw [List.length_take] at this; omega
          have hNz := lt_cells HNx.out
          generalize code[j] = st at *
          generalize (B k)[j] = y at *
          go_upto_region 12 with fail
          obtain ⟨op, tg, sa, sb, sv⟩ := st
          have HW6 := Lib.hid (HWx.out.alloc HWx.out.size (.cells #[.int .i64 op, .int .i64 tg, .int .i64 sa, .int .i64 sb, .int .i64 sv] 78))
          have HN6 := Lib.hid ((Below.heap_alloc wr (.cells #[.int .i64 op, .int .i64 tg, .int .i64 sa, .int .i64 sb, .int .i64 sv] 78) NB hNz).trans HNx.out)
          have HO6 := Lib.hid (Own.alloc HOc.out (.cells #[.int .i64 op, .int .i64 tg, .int .i64 sa, .int .i64 sb, .int .i64 sv] 78))
          have hb6 := (Below.refl wr.heap.size wr).alloc (Nat.le_refl _) (.cells #[.int .i64 op, .int .i64 tg, .int .i64 sa, .int .i64 sb, .int .i64 sv] 78)
          have g3 := (HSX.out.keep hb6).ct.at_.2.2.2.1
          have g1 := (HSX.out.keep hb6).ct.atS Hlt.out
          have gB := (hb6.cell (p := ⟨R k, j, none⟩) (lt_cells (HSX.out.ct.hB k Hlt.out))).trans mB
          have m0 : (wr.alloc (.cells #[.int .i64 op, .int .i64 tg, .int .i64 sa, .int .i64 sb, .int .i64 sv] 78)).cell? ⟨wr.heap.size, 0, none⟩ = some (.int .i64 op) := cell_new wr _ _ _ rfl _
          have m1 : (wr.alloc (.cells #[.int .i64 op, .int .i64 tg, .int .i64 sa, .int .i64 sb, .int .i64 sv] 78)).cell? ⟨wr.heap.size, 1, none⟩ = some (.int .i64 tg) := cell_new wr _ _ _ rfl _
          have m2 : (wr.alloc (.cells #[.int .i64 op, .int .i64 tg, .int .i64 sa, .int .i64 sb, .int .i64 sv] 78)).cell? ⟨wr.heap.size, 2, none⟩ = some (.int .i64 sa) := cell_new wr _ _ _ rfl _
          have m3 : (wr.alloc (.cells #[.int .i64 op, .int .i64 tg, .int .i64 sa, .int .i64 sb, .int .i64 sv] 78)).cell? ⟨wr.heap.size, 3, none⟩ = some (.int .i64 sb) := cell_new wr _ _ _ rfl _
          have m4 : (wr.alloc (.cells #[.int .i64 op, .int .i64 tg, .int .i64 sa, .int .i64 sb, .int .i64 sv] 78)).cell? ⟨wr.heap.size, 4, none⟩ = some (.int .i64 sv) := cell_new wr _ _ _ rfl _
          have hz6 : NB + 1 ≤ (wr.alloc (.cells #[.int .i64 op, .int .i64 tg, .int .i64 sa, .int .i64 sb, .int .i64 sv] 78)).heap.size := by simp; omega
          clear HWx HNx HOc HSX HSx hb6 c0 c1 c2 c3 c4 t3 s1 mB hb2 hNz
          generalize wr.alloc (.cells #[.int .i64 op, .int .i64 tg, .int .i64 sa, .int .i64 sb, .int .i64 sv] 78) = w6 at *
          generalize wr.heap.size = MB at *
          cases y
          · have HO7 : Hid (OwnSt w6 (NB + 1) 78 vc (selB (code.take (j + 1)) ((B k).take (j + 1)))) := Lib.hid (by rw [Hsn.out]; simpa using HO6.out)
            go_wp2
            go_roundw
            case rel => exact ⟨j + 1, _, by have := Hjl.out; omega, by go_num, rfl, HW6, HN6, HO7⟩
            case measure => simp [intOf]; omega
          · have HO7 := Lib.hid (Own.alloc HO6.out (.cells #[.int .i64 op, .int .i64 tg, .int .i64 sa, .int .i64 sb, .int .i64 sv] 78))
            go_wp2_with (at_builtin; refine wpList_appSt rfl _ _ rfl (NB + 1) _ _ ⟨op, tg, sa, sb, sv⟩ rfl HO7.out _ _ rfl (cellSt_new _ _ _ _ _ rfl rfl) hsl (by simp; omega) ?_; intro v' w7 hown7 hgrow7)
            have HW7 := Lib.hid (below_own (HW6.out.alloc HW6.out.size (.cells #[.int .i64 op, .int .i64 tg, .int .i64 sa, .int .i64 sb, .int .i64 sv] 78)) hgrow7 HO7.out (by have := HNB.out; omega) (by have := HW6.out.size; simp; omega))
            have HN7 := Lib.hid ((hgrow7.block NB (Nat.lt_of_lt_of_le (lt_cells HN6.out) (by simp)) (fun e => by have := (World.ownsRow.lt HO7.out _ e.symm).1; omega)).trans ((Below.heap_alloc w6 (.cells #[.int .i64 op, .int .i64 tg, .int .i64 sa, .int .i64 sb, .int .i64 sv] 78) NB (lt_cells HN6.out)).trans HN6.out))
            have HO8 : Hid (OwnSt w7 (NB + 1) 78 v' (selB (code.take (j + 1)) ((B k).take (j + 1)))) := Lib.hid (by rw [Hsn.out]; simpa using hown7)
            clear hown7 hgrow7
            go_roundw
            case rel => exact ⟨j + 1, _, by have := Hjl.out; omega, by go_num, rfl, HW7, HN7, HO8⟩
            case measure => simp [intOf]; omega
        · have hje : j = code.length := by omega
          subst hje
          have hll : ¬ ((code.length : Int) < (code.length : Int)) := by omega
          have hoc := HOc.out
          rw [List.take_length, ← Hbl.out, List.take_length] at hoc
          have Hkp : Hid (selB code (B k) = kpC code (beC want F t k ⟨code, test, thn, els⟩)) := Lib.hid (sel_kp Hbl.out fun j => ⟨fun h => (Hex.out j).1 ⟨Hlt.out, h⟩, fun h => ((Hex.out j).2 h).2⟩)
          generalize hkc : selB code (B k) = kc at *
          clear hkc
          obtain ⟨Ac, cc, rfl, hRc, -⟩ := Own.form stepCells_len hoc
          have hNl := lt_cells HNx.out
          have HO8 := Lib.hid (hoc.kept (grown_set wr NB 0 (.slice Ac kc.length cc)) (Or.inr (fun e => by have := (World.ownsRow.lt hoc _ e).1; omega)))
          have HW8 := Lib.hid (HWx.out.setCell (p := ⟨NB, 0, none⟩) (show wo.heap.size ≤ NB by have := HNB.out; omega) (.slice Ac kc.length cc))
          have HN8 : Hid ((wr.setCell ⟨NB, 0, none⟩ (.slice Ac kc.length cc)).heap[NB]? = some (.cells #[.slice Ac kc.length cc, .int .i64 test, .int .i64 thn, .int .i64 els] 25 (0, 0))) := Lib.hid (by rw [heap_setC wr NB 0 _ _ _ HNx.out]; rfl)
          have c0 : wr.cell? ⟨NB, 0, none⟩ = some (.slice A' code.length cap') := by rw [cell_of_row wr NB _ _ _ _ HNx.out]; rfl
          have f0 : wr.frozen? ⟨NB, 0, none⟩ = false := frozen_of HNx.out
          clear hoc hRc HOc hjl hj
          go_upto_region 16 with fail
          clear HWx HNx c0 f0 hNl
          generalize wr.setCell ⟨NB, 0, none⟩ (.slice Ac kc.length cc) = w8 at *
          have n1 : w8.cell? ⟨NB, 1, none⟩ = some (.int .i64 test) := by rw [cell_of_row w8 NB _ _ _ _ HN8.out]; rfl
          have t4 := (((HX.out.keep HW.out).keep HW8.out).ct.at_).2.2.2.2.1
          have ht8 := HX.out.t8
          have rt := test_u32 t k (by omega)
          have rd : ∀ j (hj : j < 4), w8.cell? ⟨NB, j, none⟩ = (#[Value.slice Ac kc.length cc, .int .i64 test, .int .i64 thn, .int .i64 els])[j]? := fun j hj => cell_of_row w8 NB j _ _ _ HN8.out
          have n0 : w8.cell? ⟨NB, 0, none⟩ = some (.slice Ac kc.length cc) := rd 0 (by omega)
          have n2 : w8.cell? ⟨NB, 2, none⟩ = some (.int .i64 thn) := rd 2 (by omega)
          have n3 : w8.cell? ⟨NB, 3, none⟩ = some (.int .i64 els) := rd 3 (by omega)
          clear rd
          by_cases h0 : 0 ≤ test
          · have d0 : decide (test ≥ 0) = true := decide_eq_true h0
            have d0' : decide (0 ≤ test) = true := decide_eq_true h0
            cases hb : t.testBit k
            · rw [hb] at rt
              have Hnr0 := nearest_calls As (W.lastL (nexts p)) cs k w8 (Rd.below HRs.out (HW.out.trans (HW8.out.mono HW.out.size))) (by rw [Hll.out]; exact Hlt.out) (by rw [Hll.out]; omega) Hlv.out
              rw [Hll.out] at Hnr0
              have Hnr := Lib.hid Hnr0
              have f8 : ∀ j, w8.frozen? ⟨NB, j, none⟩ = false := fun j => frozen_of HN8.out
              have f81 := f8 1
              have f82 := f8 2
              have f83 := f8 3
              have HN9 : Hid (∀ (nq : Nat) (r : Int), ((((w8.drewN nq).setCell ⟨NB, 1, none⟩ (.int .i64 (-1))).setCell ⟨NB, 2, none⟩ (.int .i64 r)).setCell ⟨NB, 3, none⟩ (.int .i64 0)).heap[NB]? = some (.cells #[.slice Ac kc.length cc, .int .i64 (-1), .int .i64 r, .int .i64 0] 25 (0, 0))) := Lib.hid fun nq r => by
                rw [heap_setC _ NB 3 _ _ _ (heap_setC _ NB 2 _ _ _ (heap_setC (w8.drewN nq) NB 1 _ _ _ HN8.out))]; rfl
              have hNo := HNB.out
              have HW9f : Hid (∀ (nq : Nat) (r : Int), Below wo.heap.size wo ((((w8.drewN nq).setCell ⟨NB, 1, none⟩ (.int .i64 (-1))).setCell ⟨NB, 2, none⟩ (.int .i64 r)).setCell ⟨NB, 3, none⟩ (.int .i64 0))) := Lib.hid fun nq r =>
                (((below_dN HW8.out nq).setCell (p := ⟨NB, 1, none⟩) (show wo.heap.size ≤ NB by omega) _).setCell (p := ⟨NB, 2, none⟩) (show wo.heap.size ≤ NB by omega) _).setCell (p := ⟨NB, 3, none⟩) (show wo.heap.size ≤ NB by omega) _
              have HO9f : Hid (∀ (nq : Nat) (r : Int), OwnSt ((((w8.drewN nq).setCell ⟨NB, 1, none⟩ (.int .i64 (-1))).setCell ⟨NB, 2, none⟩ (.int .i64 r)).setCell ⟨NB, 3, none⟩ (.int .i64 0)) (NB + 1) 78 (.slice Ac kc.length cc) kc) := Lib.hid fun nq r => by
                have hne : ∀ {wq : World}, OwnSt wq (NB + 1) 78 (.slice Ac kc.length cc) kc → (Value.slice Ac kc.length cc).ownBlock ≠ some NB := fun h e => by have := (World.ownsRow.lt h _ e).1; omega
                have h1 := (Own.drewN HO8.out nq).kept (grown_set (w8.drewN nq) NB 1 (.int .i64 (-1))) (Or.inr (hne HO8.out))
                have h2 := h1.kept (grown_set _ NB 2 (.int .i64 r)) (Or.inr (hne HO8.out))
                exact h2.kept (grown_set _ NB 3 (.int .i64 0)) (Or.inr (hne HO8.out))
              clear f8 hNo Hnr0
              go_upto_region 18 with (go_at_call 65; refine Hnr.out.mono ?_; rintro e w9 ⟨⟨r, rfl, hr⟩, nq, rfl⟩; have Hr := Lib.hid hr; clear hr)
              have HN9' := Lib.hid (HN9.out nq r)
              have HW9 := Lib.hid (HW9f.out nq r)
              have HO9 := Lib.hid (HO9f.out nq r)
              clear HN9 HW9f HO9f f81 f82 f83 n0 n1 n2 n3 t4 rt HN8 HO8 HW8
              generalize (((w8.drewN nq).setCell ⟨NB, 1, none⟩ (.int .i64 (-1))).setCell ⟨NB, 2, none⟩ (.int .i64 r)).setCell ⟨NB, 3, none⟩ (.int .i64 0) = w9 at *
              have rd : ∀ j (hj : j < 4), w9.cell? ⟨NB, j, none⟩ = (#[Value.slice Ac kc.length cc, .int .i64 (-1), .int .i64 r, .int .i64 0])[j]? := fun j hj => cell_of_row w9 NB j _ _ _ HN9'.out
              have n0 : w9.cell? ⟨NB, 0, none⟩ = some (.slice Ac kc.length cc) := rd 0 (by omega)
              have n1 : w9.cell? ⟨NB, 1, none⟩ = some (.int .i64 (-1)) := rd 1 (by omega)
              have n2 : w9.cell? ⟨NB, 2, none⟩ = some (.int .i64 r) := rd 2 (by omega)
              have n3 : w9.cell? ⟨NB, 3, none⟩ = some (.int .i64 0) := rd 3 (by omega)
              clear rd
              have HBk9 := Lib.hid (HBk.out.below HW9.out)
              have HWW9 := Lib.hid (HW.out.trans (HW9.out.mono HW.out.size))
              have HSLB : Hid (∃ rz, NearTo (W.lastL (nexts p)) k p.length rz ∧ slB want F t (fun _ => rz) k ⟨code, test, thn, els⟩ = ⟨kc, -1, r, 0⟩) := Lib.hid (by exact ⟨r, Hr.out, by unfold slB; rw [if_pos ⟨h0, hb⟩, ← Hkp.out]⟩)
              have hlq : es.length < 1000000 := by rw [HBk.out.len, HPq.out.1]; omega
              go_wp2_with (at_builtin; refine wpList_appBk rfl _ _ rfl w1.heap.size _ _ ⟨Ac, kc.length, cc, -1, r, 0⟩ rfl (Own.alloc HBk9.out.own _) _ _ rfl (fun j _ => by rw [cell_new _ _ _ _ rfl]; simp [Ent.cells]) hlq (by have := HWW9.out.size; simp; omega) ?_; intro v' w10 hown10 hgrow10)
              have HBk10 := Lib.hid ((HBk9.out.below ((Below.refl _ _).alloc (Nat.le_refl _) _)).push (e := ⟨Ac, kc.length, cc, -1, r, 0⟩) (b := ⟨kc, -1, r, 0⟩) ⟨rfl, rfl, rfl, rfl⟩ ((Own.below HO9.out ((Below.refl _ _).alloc (Nat.le_refl _) _)).base_ (by have := HNB.out; omega)) hown10 hgrow10)
              have HW10 := Lib.hid (below_own (HWW9.out.alloc HWW9.out.size _) hgrow10 (Own.alloc HBk9.out.own _) (Nat.le_refl _) (by have := HWW9.out.size; simp; omega))
              obtain ⟨rr, hr1, hr2⟩ := HSLB.out
              have HPq' := Lib.hid (HPq.out.snoc Hb.out hr1)
              rw [hr2] at HPq'
              clear hown10 hgrow10 hr1 hr2
              go_roundw
              case rel => exact ⟨k + 1, _, _, _, by have := Hlt.out; omega, by go_num, rfl, HBk10, HPq', HW10⟩
              case measure => simp [intOf]; omega
            · rw [hb] at rt
              have HO9 := HO8
              have HW9 := HW8
              have HBk9 := Lib.hid (HBk.out.below HW9.out)
              have HWW9 := Lib.hid (HW.out.trans (HW9.out.mono HW.out.size))
              have HSLB : Hid (∃ rz, NearTo (W.lastL (nexts p)) k p.length rz ∧ slB want F t (fun _ => rz) k ⟨code, test, thn, els⟩ = ⟨kc, test, thn, els⟩) := Lib.hid (by obtain ⟨r, hr⟩ := near_ex (W.lastL (nexts p)) k p.length; exact ⟨r, hr, by unfold slB; rw [if_neg (by dsimp only; simp [hb]), ← Hkp.out]⟩)
              have hlq : es.length < 1000000 := by rw [HBk.out.len, HPq.out.1]; omega
              go_wp2_with (at_builtin; refine wpList_appBk rfl _ _ rfl w1.heap.size _ _ ⟨Ac, kc.length, cc, test, thn, els⟩ rfl (Own.alloc HBk9.out.own _) _ _ rfl (fun j _ => by rw [cell_new _ _ _ _ rfl]; simp [Ent.cells]) hlq (by have := HWW9.out.size; simp; omega) ?_; intro v' w10 hown10 hgrow10)
              have HBk10 := Lib.hid ((HBk9.out.below ((Below.refl _ _).alloc (Nat.le_refl _) _)).push (e := ⟨Ac, kc.length, cc, test, thn, els⟩) (b := ⟨kc, test, thn, els⟩) ⟨rfl, rfl, rfl, rfl⟩ ((Own.below HO9.out ((Below.refl _ _).alloc (Nat.le_refl _) _)).base_ (by have := HNB.out; omega)) hown10 hgrow10)
              have HW10 := Lib.hid (below_own (HWW9.out.alloc HWW9.out.size _) hgrow10 (Own.alloc HBk9.out.own _) (Nat.le_refl _) (by have := HWW9.out.size; simp; omega))
              obtain ⟨rr, hr1, hr2⟩ := HSLB.out
              have HPq' := Lib.hid (HPq.out.snoc Hb.out hr1)
              rw [hr2] at HPq'
              clear hown10 hgrow10 hr1 hr2
              go_roundw
              case rel => exact ⟨k + 1, _, _, _, by have := Hlt.out; omega, by go_num, rfl, HBk10, HPq', HW10⟩
              case measure => simp [intOf]; omega
          · have d0 : decide (test ≥ 0) = false := decide_eq_false h0
            have d0' : decide (0 ≤ test) = false := decide_eq_false h0
            have HO9 := HO8
            have HW9 := HW8
            have HBk9 := Lib.hid (HBk.out.below HW9.out)
            have HWW9 := Lib.hid (HW.out.trans (HW9.out.mono HW.out.size))
            have HSLB : Hid (∃ rz, NearTo (W.lastL (nexts p)) k p.length rz ∧ slB want F t (fun _ => rz) k ⟨code, test, thn, els⟩ = ⟨kc, test, thn, els⟩) := Lib.hid (by obtain ⟨r, hr⟩ := near_ex (W.lastL (nexts p)) k p.length; exact ⟨r, hr, by unfold slB; rw [if_neg (by dsimp only; simp [h0]), ← Hkp.out]⟩)
            have hlq : es.length < 1000000 := by rw [HBk.out.len, HPq.out.1]; omega
            go_wp2_with (at_builtin; refine wpList_appBk rfl _ _ rfl w1.heap.size _ _ ⟨Ac, kc.length, cc, test, thn, els⟩ rfl (Own.alloc HBk9.out.own _) _ _ rfl (fun j _ => by rw [cell_new _ _ _ _ rfl]; simp [Ent.cells]) hlq (by have := HWW9.out.size; simp; omega) ?_; intro v' w10 hown10 hgrow10)
            have HBk10 := Lib.hid ((HBk9.out.below ((Below.refl _ _).alloc (Nat.le_refl _) _)).push (e := ⟨Ac, kc.length, cc, test, thn, els⟩) (b := ⟨kc, test, thn, els⟩) ⟨rfl, rfl, rfl, rfl⟩ ((Own.below HO9.out ((Below.refl _ _).alloc (Nat.le_refl _) _)).base_ (by have := HNB.out; omega)) hown10 hgrow10)
            have HW10 := Lib.hid (below_own (HWW9.out.alloc HWW9.out.size _) hgrow10 (Own.alloc HBk9.out.own _) (Nat.le_refl _) (by have := HWW9.out.size; simp; omega))
            obtain ⟨rr, hr1, hr2⟩ := HSLB.out
            have HPq' := Lib.hid (HPq.out.snoc Hb.out hr1)
            rw [hr2] at HPq'
            clear hown10 hgrow10 hr1 hr2
            go_roundw
            case rel => exact ⟨k + 1, _, _, _, by have := Hlt.out; omega, by go_num, rfl, HBk10, HPq', HW10⟩
            case measure => simp [intOf]; omega
    · have hkp : k = p.length := by omega
      subst hkp
      have hll : ¬ ((p.length : Int) < (p.length : Int)) := by omega
      obtain ⟨Aq, cq, rfl, hRq⟩ := HBk.out.rd
      have HRq := Lib.hid hRq
      obtain ⟨f, hf1, hf2⟩ := HPq.out.done
      have HZ := Lib.hid (show Wz n p want ⟨F, MB p.length B, t⟩ f l from ⟨HP.out, H1.out, HX.out.low, HC.out, HX.out.lt, HX.out.tt, hf1, hf2⟩)
      have hlen := HPq.out.1
      rw [hlen]
      clear hlt hk hRq hf1 hf2 HPq
      go_wp2
      go_ret2
      exact ⟨.inr ⟨H0.out, H1.out, Aq, cq, l, _, f, rfl, HRq.out, HZ.out⟩, HX.out.bel.trans (HW.out.mono HX.out.bel.size)⟩
end Go.Proofs.Ytadmmciiahdmcaa
