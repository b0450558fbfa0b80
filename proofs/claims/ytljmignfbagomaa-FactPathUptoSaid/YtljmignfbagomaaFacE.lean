/- fact.Turn. -/
import Derived.Test.YtljmignfbagomaaFacD
import Derived.Test.YtljmignfbagomaaOwnLL2
namespace Go.Proofs.Ytljmignfbagomaa
open Go.RowKit

/-- Turned as far as the first i rows and t of row i. -/
structure TF (ls : List (List Int)) (i t : Nat) (g : List (List Int)) : Prop where
  len : g.length = ls.length
  short : ∀ (j : Nat) (l : List Int), g[j]? = some l → l.length ≤ 3 * i + t
  mem : ∀ (j : Nat) (l : List Int), g[j]? = some l → ∀ x, x ∈ l ↔ ∃ a : Nat, x = a ∧ ((a < i ∧ EdgeG ls a j) ∨ (a = i ∧ ∃ r, ls[i]? = some r ∧ (j : Int) ∈ r.take t))
theorem TF.first (ls : List (List Int)) : TF ls 0 0 (List.replicate ls.length []) := by
  refine ⟨by simp, fun j l h => ?_, fun j l h x => ?_⟩
  · rw [List.getElem?_replicate] at h
    split at h
    · injection h with h; subst h; simp
    · cases h
  · rw [List.getElem?_replicate] at h
    split at h
    · injection h with h; subst h
      constructor
      · intro hx; cases hx
      · rintro ⟨a, _, ⟨h, _⟩ | ⟨_, r, _, h⟩⟩
        · omega
        · simp at h
    · cases h
theorem TF.next {ls : List (List Int)} {i : Nat} {g : List (List Int)} {r : List Int} (h : TF ls i r.length g) (hr : ls[i]? = some r) (h3 : r.length ≤ 3) : TF ls (i + 1) 0 g := by
  refine ⟨h.len, fun j l hl => by have := h.short j l hl; omega, fun j l hl x => ?_⟩
  rw [h.mem j l hl x]
  constructor
  · rintro ⟨a, rfl, ⟨h1, h2⟩ | ⟨rfl, r', h1, h2⟩⟩
    · exact ⟨a, rfl, .inl ⟨by omega, h2⟩⟩
    · exact ⟨a, rfl, .inl ⟨by omega, r', h1, List.mem_of_mem_take h2⟩⟩
  · rintro ⟨a, rfl, ⟨h1, h2⟩ | ⟨_, r', _, h2⟩⟩
    · by_cases e : a = i
      · subst e
        obtain ⟨r', h3, h4⟩ := h2
        rw [hr] at h3; injection h3 with h3; subst h3
        exact ⟨a, rfl, .inr ⟨rfl, r, hr, by rw [List.take_length]; exact h4⟩⟩
      · exact ⟨a, rfl, .inl ⟨by omega, h2⟩⟩
    · simp at h2
theorem TF.push {ls : List (List Int)} {i t j : Nat} {g : List (List Int)} {r l : List Int} (h : TF ls i t g) (hr : ls[i]? = some r) (ht : t < r.length) (hj : r[t] = (j : Int)) (hl : g[j]? = some l) : TF ls i (t + 1) (g.set j (l ++ [(i : Int)])) := by
  have hjl : j < g.length := (List.getElem?_eq_some_iff.1 hl).1
  have htk : ∀ k : Nat, (k : Int) ∈ r.take (t + 1) ↔ ((k : Int) ∈ r.take t ∨ k = j) := fun k => by
    rw [List.take_succ_eq_append_getElem ht, List.mem_append, List.mem_singleton, hj]
    constructor
    · rintro (h | h)
      · exact .inl h
      · exact .inr (by omega)
    · rintro (h | h)
      · exact .inl h
      · exact .inr (by omega)
  refine ⟨by rw [List.length_set]; exact h.len, fun k m hk => ?_, fun k m hk x => ?_⟩
  · rw [List.getElem?_set] at hk
    split at hk
    · try rw [if_pos hjl] at hk
      injection hk with hk; subst hk
      have := h.short j l hl
      simp; omega
    · have := h.short k m hk; omega
  · rw [List.getElem?_set] at hk
    split at hk
    · rename_i e
      subst e
      try rw [if_pos hjl] at hk
      injection hk with hk; subst hk
      rw [List.mem_append, List.mem_singleton, h.mem j l hl x]
      constructor
      · rintro (⟨a, rfl, ⟨h1, h2⟩ | ⟨rfl, r', h1, h2⟩⟩ | rfl)
        · exact ⟨a, rfl, .inl ⟨h1, h2⟩⟩
        · rw [hr] at h1; injection h1 with h1; subst h1
          exact ⟨a, rfl, .inr ⟨rfl, r, hr, (htk j).2 (.inl h2)⟩⟩
        · exact ⟨i, rfl, .inr ⟨rfl, r, hr, (htk j).2 (.inr rfl)⟩⟩
      · rintro ⟨a, rfl, ⟨h1, h2⟩ | ⟨rfl, r', h1, h2⟩⟩
        · exact .inl ⟨a, rfl, .inl ⟨h1, h2⟩⟩
        · exact .inr rfl
    · rename_i e
      rw [h.mem k m hk x]
      constructor
      · rintro ⟨a, rfl, ⟨h1, h2⟩ | ⟨rfl, r', h1, h2⟩⟩
        · exact ⟨a, rfl, .inl ⟨h1, h2⟩⟩
        · rw [hr] at h1; injection h1 with h1; subst h1
          exact ⟨a, rfl, .inr ⟨rfl, r, hr, (htk k).2 (.inl h2)⟩⟩
      · rintro ⟨a, rfl, ⟨h1, h2⟩ | ⟨rfl, r', h1, h2⟩⟩
        · exact ⟨a, rfl, .inl ⟨h1, h2⟩⟩
        · rw [hr] at h1; injection h1 with h1; subst h1
          rcases (htk k).1 h2 with h3 | h3
          · exact ⟨a, rfl, .inr ⟨rfl, r, hr, h3⟩⟩
          · exact absurd h3.symm e
/-- What fact.Turn gives. -/
structure TurnedF (ls g : List (List Int)) : Prop where
  len : g.length = ls.length
  short : ∀ (j : Nat) (l : List Int), g[j]? = some l → l.length ≤ 24
  mem : ∀ (j : Nat) (l : List Int), g[j]? = some l → ∀ x, x ∈ l ↔ ∃ a : Nat, x = a ∧ EdgeG ls a j
theorem TF.done {ls g : List (List Int)} (h : TF ls ls.length 0 g) (h8 : ls.length ≤ 8) : TurnedF ls g :=
  ⟨h.len, fun j l hl => by have := h.short j l hl; omega, fun j l hl x => by
    rw [h.mem j l hl x]
    constructor
    · rintro ⟨a, rfl, ⟨_, h2⟩ | ⟨_, r', h1, h2⟩⟩
      · exact ⟨a, rfl, h2⟩
      · simp at h2
    · rintro ⟨a, rfl, h2⟩
      obtain ⟨r, h3, h4⟩ := h2
      exact ⟨a, rfl, .inl ⟨(List.getElem?_eq_some_iff.1 h3).1, r, h3, h4⟩⟩⟩
set_option maxHeartbeats 4000000 in
theorem factTurn_calls (A : Option Addr) (ls : List (List Int)) (cap : Nat) (w : World) (hA : RdN w A ls) (h1 : 1 ≤ ls.length) (h8 : ls.length ≤ 8) (hv : Valid ls) :
    Calls Try.prog 57 #[.slice A ls.length cap] w fun e w' => ∃ B g, e = .returned (.slice B ls.length ls.length) ∧ RdN w' B g ∧ TurnedF ls g ∧ Below w.heap.size w w' := by
  have HA := Lib.hid hA; clear hA
  have HV := Lib.hid hv; clear hv
  go_enter Try.func57, Try.ntmps57
  go_wp2_with (at_make; refine wpList_makeN rfl _ _ rfl w.heap.size ls.length rfl rfl (by omega) (Nat.le_refl _) ?_; intro w1 hown1 hgrow1)
  have hW1 : Below w.heap.size w w1 := (Below.refl _ _).grown hgrow1 (Nat.le_refl _) (fun k hk => by cases hk)
  have hb1 : w.heap.size < w1.heap.size := by
    obtain ⟨g, eg, _, hlt, _⟩ := OwnV.at2 hown1 (by simp; omega)
    injection eg with eg; injection eg with eg
    omega
  have HW1 := Lib.hid hW1
  have HLs := Lib.hid (OwnLL.made (B := w.heap.size + 1) hown1 hb1 (by omega))
  clear hown1 hgrow1 hW1
  go_loopw [13] (fun i wr => ∃ (k : Nat) (vals : List Value) (g : List (List Int)), k ≤ ls.length ∧ i = .int .i64 k ∧ OwnLL wr w.heap.size (w.heap.size + 1) vals g ∧ Hid (TF ls k 0 g) ∧ Below w.heap.size w wr) (fun i _ => ls.length - (intOf i).toNat)
  case atStart => exact ⟨0, _, _, Nat.zero_le _, rfl, HLs.out, TF.first ls, HW1.out⟩
  case round =>
    clear HLs HW1
    obtain ⟨i, vals, g, hi, rfl, hLL, hT, hW⟩ := hrel
    have HLL := Lib.hid hLL
    have HW := Lib.hid hW
    by_cases hlt : i < ls.length
    · obtain ⟨b2, off2, A2, cap2, rfl, hb2, c2, hR⟩ := RdN.at_ (RdN.below HA.out hW) hlt
      have hl := Lib.hid (List.getElem?_eq_getElem hlt)
      have hl3 := (HV.out _ (List.getElem_mem hlt)).1
      have Hin := Lib.hid ((HV.out _ (List.getElem_mem hlt)).2)
      have HR0 := Lib.hid (fun w' (hb : Below w.heap.size w w') => RdN.at_ (RdN.below HA.out hb) hlt)
      clear hR hLL hW
      generalize hr : ls[i] = r at *
      obtain ⟨wo, rfl⟩ : ∃ wo : World, wo = wr := ⟨_, rfl⟩
      have HRo : Hid (∀ w', Below w.heap.size w w' → RdI w' A2 r) := Lib.hid fun w' hb => by
        obtain ⟨b3, off3, A3, cap3, e3, _, c3, hR3⟩ := HR0.out w' hb
        injection e3 with e3; injection e3 with e3a e3b
        subst e3a e3b
        obtain ⟨b4, off4, A4, cap4, e4, hb4, c4, _⟩ := HR0.out w (Below.refl _ _)
        injection e4 with e4; injection e4 with e4a e4b
        subst e4a e4b
        have k1 := (hb.cell (p := ⟨b2, off2 + i, none⟩) hb4).symm.trans c3
        have k2 := (HW.out.cell (p := ⟨b2, off2 + i, none⟩) hb4).symm.trans c2
        rw [k1] at k2
        injection k2 with k2; injection k2 with k2
        subst k2
        exact hR3
      clear HR0
      go_wp2
      go_loopw [20] (fun j wr => ∃ (t : Nat) (vals : List Value) (g : List (List Int)), t ≤ r.length ∧ j = .int .i64 t ∧ OwnLL wr w.heap.size (w.heap.size + 1) vals g ∧ Hid (TF ls i t g) ∧ Below w.heap.size w wr) (fun j _ => r.length - (intOf j).toNat)
      case atStart => exact ⟨0, _, _, Nat.zero_le _, rfl, HLL.out, hT, HW.out⟩
      case round =>
        clear HLL HW hT c2
        obtain ⟨t, vals, g, ht, rfl, hLL, hT, hW⟩ := hrel
        by_cases hltt : t < r.length
        · obtain ⟨b6, off6, rfl, hb6, c6⟩ := RdI.at1 (HRo.out _ hW) hltt
          obtain ⟨x0, x1⟩ := Hin.out _ (List.getElem_mem hltt)
          obtain ⟨j, hj⟩ := Int.eq_ofNat_of_zero_le x0
          rw [hj] at c6 x1
          have hjl : j < ls.length := by omega
          obtain ⟨l, hl'⟩ : ∃ l, g[j]? = some l := ⟨_, List.getElem?_eq_getElem (by rw [hT.out.len]; exact hjl)⟩
          have Hp := Lib.hid (hT.out.push hl.out hltt hj hl')
          have Hll : Hid (l.length ≤ 1000) := Lib.hid (by have := hT.out.short j l hl'; omega)
          obtain ⟨v, hv⟩ : ∃ v, vals[j]? = some v := ⟨_, List.getElem?_eq_getElem (by rw [hLL.len, hT.out.len]; exact hjl)⟩
          have Hv := Lib.hid hv
          have Hl := Lib.hid hl'
          have hgl := hT.out.len
          obtain ⟨g3, eg3, _, hg3, hfz3, hcell3⟩ := OwnV.at2 hLL.own (by rw [hLL.len, hgl]; omega)
          injection eg3 with eg3; injection eg3 with eg3
          subst eg3
          have c0 := hcell3 _ (List.getElem?_eq_some_iff.1 hv).1
          rw [(List.getElem?_eq_some_iff.1 hv).2] at c0
          have qj : ((j : Nat) : Int) < ((ls.length : Nat) : Int) := by omega
          have HLL1 := Lib.hid (hLL.alloc (.cells #[.int .i64 (i : Nat)] 3))
          have HW1 := Lib.hid (hW.alloc hW.size (.cells #[.int .i64 (i : Nat)] 3))
          have HS1 : Hid (∀ j, j < 1 → (wr.alloc (.cells #[.int .i64 (i : Nat)] 3)).cell? ⟨wr.heap.size, j, none⟩ = (intCells (i : Nat))[j]?) := Lib.hid (fun j hj => by (obtain rfl : j = 0 := by omega); exact cell_new wr #[.int .i64 (i : Nat)] 3 wr.heap.size rfl 0)
          have hws := hW.size
          obtain ⟨v3, w3, hrun, hown, hgrow, hat⟩ := run_app1 (P := Try.prog) (w := wr.alloc (.cells #[.int .i64 (i : Nat)] 3)) 32 32 intCells 1 8 3 (.int .i64 0) Try.underlying32 infoInt rfl (by decide) intCells_len intCells_one (w.heap.size + 1) v l (i : Int) (HLL1.out.row j v l Hv.out Hl.out) wr.heap.size 1 HS1.out (by have := Hll.out; unfold maxLen; omega) (by have := Hll.out; omega) (by simp; omega)
          have hP := HLL1.out.grown Hv.out Hl.out hown hgrow hat
          obtain ⟨g4, eg4, _, hg4, hfz4, hcell4⟩ := OwnV.at2 hP.1 (by rw [hLL.len, hgl]; omega)
          injection eg4 with eg4; injection eg4 with eg4
          subst eg4
          have c4 := hcell4 j (List.getElem?_eq_some_iff.1 Hv.out).1
          have f4 := hfz4 j
          have HLL3 := Lib.hid hP.2
          have HW3 := Lib.hid ((HW1.out.grown hgrow HW1.out.size (fun k hk => by have := (own_lt (HLL1.out.row j v l Hv.out Hl.out) k hk).1; omega)).setCell (p := ⟨w.heap.size, j, none⟩) (Nat.le_refl _) v3)
          obtain ⟨B3, d3, rfl, _⟩ := OwnI.rd hown
          simp only [List.length_append, List.length_singleton] at HLL3 HW3 hrun
          have Hrun := Lib.hid hrun
          have HGl := Lib.hid hgl
          clear hrun hown hgrow hat hP hcell3 hfz3 hcell4 hfz4 hl' hv hj hLL hT hW hgl HLL1 HW1 HS1 x0 x1
          go_wp2_with (at_builtin; refine wpList_app_run rfl 32 _ _ rfl rfl rfl Hrun.out ?_)
          go_roundw
          case rel => exact ⟨t + 1, _, _, by omega, by go_num, HLL3.out, Hp, HW3.out⟩
          case measure => simp [intOf]; omega
        · have : t = r.length := by omega
          subst this
          have Hn := Lib.hid (hT.out.next hl.out hl3)
          go_wp2
          go_roundw
          case rel => exact ⟨i + 1, vals, g, by omega, by go_num, hLL, Hn, hW⟩
          case measure => simp [intOf]; omega
    · have : i = ls.length := by omega
      subst this
      have Hd := Lib.hid (hT.out.done h8)
      clear hT
      go_wp2
      go_ret
      exact ⟨_, g, rfl, HLL.out.rd, Hd.out, HW.out⟩
end Go.Proofs.Ytljmignfbagomaa
