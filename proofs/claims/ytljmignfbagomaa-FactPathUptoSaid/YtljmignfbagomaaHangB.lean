/- hang.comes walked. -/
import Derived.Test.YtljmignfbagomaaHangA
namespace Go.Proofs.Ytljmignfbagomaa
open Go.RowKit

/-- The world in which the box has the word s. -/
def box (w : World) (s nq : Nat) : World := (w.alloc (.cells #[.int .u32 (s : Nat)] 29)).drewN nq
theorem box_cell (w : World) (s nq : Nat) : (box w s nq).cell? ⟨w.heap.size, 0, none⟩ = some (.int .u32 (s : Nat)) := cell_new w _ _ _ rfl 0
theorem box_frozen (w : World) (s nq : Nat) : (box w s nq).frozen? ⟨w.heap.size, 0, none⟩ = false := by
  have h : (box w s nq).heap[w.heap.size]? = some (.cells #[.int .u32 (s : Nat)] 29 (0, 0)) := by
    unfold box
    show (w.heap.push _)[w.heap.size]? = _
    simp
  simp [World.frozen?, h]
theorem box_set (w : World) (s t nq : Nat) : (box w s nq).setCell ⟨w.heap.size, 0, none⟩ (.int .u32 (t : Nat)) = box w t nq := by
  unfold box World.setCell World.alloc World.drewN
  simp
  apply Array.ext
  · simp
  · intro i h1 h2
    rw [Array.getElem_modify]
    by_cases e : w.heap.size = i
    · subst e; simp
    · have : i < w.heap.size := by simp at h2; omega
      simp [e, Array.getElem_push, this]
theorem box_drew (w : World) (s nq : Nat) : (box w s nq).drew = box w s (nq + 1) := rfl
theorem box_below (w : World) (s nq : Nat) : Below w.heap.size w (box w s nq) := below_dN ((Below.refl _ _).alloc (Nat.le_refl _) _) nq

set_option maxRecDepth 100000 in
set_option maxHeartbeats 4000000 in
theorem comes_calls (A : Option Addr) (ls : List (List Int)) (cap : Nat) (w : World) (wo : Int) (hA : RdN w A ls) (h0 : wayErr ls = 0) :
    Calls Try.prog 62 #[.slice A ls.length cap, .int .i64 wo] w fun e w' => e = .returned (.int .u32 (endS ls wo : Nat)) ∧ Below w.heap.size w w' := by
  obtain ⟨h1, h8, hv⟩ := valid_of h0
  have HA := Lib.hid hA; clear hA
  have HV := Lib.hid hv
  have H0 := Lib.hid (show ∀ l ∈ ls, ∀ x ∈ l, 0 ≤ x from fun l hl x hx => ((hv l hl).2 x hx).1)
  clear hv h0
  go_enter Try.func62, Try.ntmps62
  go_wp2
  go_loopw [11] (fun i wr => ∃ (p s nq : Nat), p ≤ ls.length ∧ i = .int .i64 p ∧ Hid (Eo ls wo p s) ∧ wr = box w s nq) (fun i _ => ls.length - (intOf i).toNat)
  case atStart => exact ⟨0, 0, 0, Nat.zero_le _, rfl, Eo.first ls wo, rfl⟩
  case round =>
    obtain ⟨p, s0, nq0, hp, rfl, hE, hwr⟩ := hrel
    by_cases hlt : p < ls.length
    · have Hwr := Lib.hid hwr
      clear hwr
      go_wp2
      go_loopw [15] (fun i wr => ∃ (k s nq : Nat), k ≤ ls.length ∧ i = .int .i64 k ∧ Hid (Ei ls wo s0 s k) ∧ wr = box w s nq) (fun i _ => ls.length - (intOf i).toNat)
      case atStart => exact ⟨0, s0, nq0, Nat.zero_le _, rfl, hE.out.start, Hwr.out⟩
      case round =>
        clear Hwr
        obtain ⟨k, s, nq, hk, rfl, hI, hwr⟩ := hrel
        have c9 : wr.cell? ⟨w.heap.size, 0, none⟩ = some (.int .u32 (s : Nat)) := by rw [hwr]; exact box_cell w s nq
        have f9 : wr.frozen? ⟨w.heap.size, 0, none⟩ = false := by rw [hwr]; exact box_frozen w s nq
        have hW : Below w.heap.size w wr := by rw [hwr]; exact box_below w s nq
        have hs := hI.out.fits h8
        have Hwr := Lib.hid hwr
        clear hwr
        by_cases hltk : k < ls.length
        · obtain ⟨b, off, A', cap', rfl, hb, c0, hR⟩ := RdN.at_ (RdN.below HA.out hW) hltk
          have hl := Lib.hid (List.getElem?_eq_getElem hltk)
          have hl3 := (HV.out _ (List.getElem_mem hltk)).1
          have Hin := Lib.hid (show ∀ x ∈ ls[k], 0 ≤ x ∧ x < 8 from fun x hx => by have := (HV.out _ (List.getElem_mem hltk)).2 x hx; omega)
          have HR := Lib.hid hR
          have Hc9 := Lib.hid c9
          clear hR hW
          generalize ls[k] = l at *
          have Hsk := Lib.hid (fun h => hI.out.skip hl.out h)
          have Hpu := Lib.hid (fun h => hI.out.push hl.out (fun x hx => (Hin.out x hx).1) h)
          have hk32 : k < 32 := by omega
          have pk : 2 ^ k < 2 ^ 8 := Nat.pow_lt_pow_right (by decide) (by omega)
          have r1 := pow_u32 k hk32
          have r2 := or_u32 s (2 ^ k) (by omega) (by omega)
          rw [Int.natCast_pow, show ((2 : Nat) : Int) = 2 from rfl] at r1 r2
          have Hset := Lib.hid (box_set w s (s ||| 2 ^ k) nq)
          clear pk
          generalize s ||| 2 ^ k = y at *
          have Hcl := Lib.hid (setContains_calls w.heap.size s A' l cap' wr Hc9.out hs Hin.out HR.out (by omega))
          by_cases hne : (k : Int) = wo
          · have q1 : ((k : Int) != wo) = false := by rw [bne_eq_false_iff_eq]; exact hne
            have Hn := Lib.hid (Hsk.out (Or.inl hne))
            clear hne r1 r2
            go_wp2_with (go_at_call 60; refine Hcl.out.mono ?_; rintro e w2 ⟨rfl, rfl⟩)
            go_roundw
            case rel => exact ⟨k + 1, s, nq, by omega, by go_num, Lib.hid Hn.out, Hwr.out⟩
            case measure => simp [intOf]; omega
          · have q1 : ((k : Int) != wo) = true := by rw [bne_iff_ne]; exact hne
            cases hm : mayEnd l s
            · have Hn := Lib.hid (Hsk.out (Or.inr hm))
              unfold mayEnd at hm
              rw [Bool.or_eq_false_iff] at hm
              obtain ⟨m1, m2⟩ := hm
              have q2 : ((l.length : Int) == 0) = false := by rw [beq_eq_false_iff_ne] at m1 ⊢; omega
              rw [m2] at Hcl
              clear hne r1 r2 m1 m2
              go_wp2_with (go_at_call 60; refine Hcl.out.mono ?_; rintro e w2 ⟨rfl, rfl⟩)
              go_roundw
              case rel => exact ⟨k + 1, s, nq, by omega, by go_num, Lib.hid Hn.out, Hwr.out⟩
              case measure => simp [intOf]; omega
            · have Hn := Lib.hid (Hpu.out hne hm)
              unfold mayEnd at hm
              rw [Bool.or_eq_true] at hm
              have q2 : ((l.length : Int) == 0) = true ∨ (((l.length : Int) == 0) = false ∧ anyIn s l = true) := by
                by_cases hz : l.length = 0
                · left; rw [hz]; rfl
                · right
                  refine ⟨by rw [beq_eq_false_iff_ne]; omega, ?_⟩
                  rcases hm with h | h
                  · rw [beq_iff_eq] at h; exact absurd h hz
                  · exact h
              clear hm hne
              rcases q2 with q2 | ⟨q2, q3⟩
              · go_wp2_with (go_at_call 60; refine Hcl.out.mono ?_; rintro e w2 ⟨rfl, rfl⟩)
                go_still_tail 4, (by kernel_rfl)
                go_wp2
                refine ⟨⟨k + 1, y, nq + 1, by omega, by go_num, Lib.hid Hn.out, by rw [Hwr.out, Hset.out, box_drew]⟩, by simp [intOf]; omega⟩
              · rw [q3] at Hcl
                clear q3
                go_wp2_with (go_at_call 60; refine Hcl.out.mono ?_; rintro e w2 ⟨rfl, rfl⟩)
                go_still_tail 4, (by kernel_rfl)
                go_wp2
                refine ⟨⟨k + 1, y, nq + 1, by omega, by go_num, Lib.hid Hn.out, by rw [Hwr.out, Hset.out, box_drew]⟩, by simp [intOf]; omega⟩
        · have : k = ls.length := by omega
          subst this
          have Hn := Lib.hid (hI.out.next H0.out h8 hE.out)
          clear c9 f9
          go_wp2
          go_roundw
          case rel => exact ⟨p + 1, s, nq, by omega, by go_num, Lib.hid Hn.out, Hwr.out⟩
          case measure => simp [intOf]; omega
    · have : p = ls.length := by omega
      subst this
      have c9 : wr.cell? ⟨w.heap.size, 0, none⟩ = some (.int .u32 (s0 : Nat)) := by rw [hwr]; exact box_cell w s0 nq0
      have hW : Below w.heap.size w wr := by rw [hwr]; exact box_below w s0 nq0
      have Hf := Lib.hid (hE.out.finish H0.out h8)
      clear hwr
      go_wp2
      go_ret
      exact ⟨by rw [← Hf.out]; rfl, hW⟩
end Go.Proofs.Ytljmignfbagomaa
