/- jump.Lay: what it answers. -/
import Derived.Test.YtiphhadhbokgmaaJumpC
import Derived.BigQuiet
import Derived.Deep.QuietTactic
import Derived.Deep.LoopGhost
namespace Go.Proofs.Ytiphhadhbokgmaa
open Go.RowKit

theorem tuple3 {a b c a' b' c' : Value} (h1 : a = a') (h2 : b = b') (h3 : c = c') : Ending.returned (.tuple #[a, b, c]) = .returned (.tuple #[a', b', c']) := by rw [h1, h2, h3]

set_option maxHeartbeats 400000 in
theorem lay_bad (A : Option Addr) (l : List Piece) (cap : Nat) (w : World) (hA : RdP w A l) (hm : l.length ≤ maxLen) (h0 : pErr l ≠ 0) :
    Calls Try.prog 9 #[.slice A l.length cap] w fun e w' => e = .returned (.tuple #[.slice none 0 0, .slice none 0 0, .int .i64 (pErr l)]) ∧ Below w.heap.size w w' := by
  have hb : ((pErr l) != 0) = true := by simpa using h0
  go_enter Try.func9, Try.ntmps9
  go_wp2_with (go_at_call 27; refine (wrong_calls _ _ _ _ hA hm).mono ?_; rintro e w' ⟨rfl, hW⟩)
  go_ret3
  exact ⟨rfl, hW⟩

def LayOk (l : List Piece) (w : World) (e : Ending) (w' : World) : Prop :=
  ∃ va vs s, e = .returned (.tuple #[va, vs, .int .i64 0]) ∧ OwnI w' w.heap.size 3 va (begs s) ∧ OwnI w' w.heap.size 3 vs s ∧ Inv l s ∧ Near l s l.length ∧ Below w.heap.size w w'

def sizeOf1 (p : Piece) : Int := if p.jump then 2 else p.bytes
theorem first_take_succ {l : List Piece} {k : Nat} (hk : k < l.length) : (first0 (l.take (k + 1))) = first0 (l.take k) ++ [sizeOf1 l[k]] := by
  unfold first0; rw [List.take_succ_eq_append_getElem hk, List.map_append]; rfl

theorem jl_lt {l : List Piece} {s s' s1 : List Int} {more : Bool} {N : Prop} (h1 : pot l s1 < pot l s') (ht : more = true → pot l s' < pot l s) (hf : more = false → s' = s ∧ N) : pot l s1 < pot l s := by
  cases more with
  | true => exact Nat.lt_trans h1 (ht rfl)
  | false => rw [(hf rfl).1] at h1; exact h1
theorem jl_meas {l : List Piece} {s s' : List Int} {more : Bool} {N : Prop} (hf : more = false → s' = s ∧ N) (ht : more = true → pot l s' < pot l s) : 2 * pot l s' + more.toNat < 2 * pot l s + true.toNat := by
  cases more with
  | true => have := ht rfl; simp; omega
  | false => rw [(hf rfl).1]; simp
theorem near_next {l : List Piece} {s s' : List Int} {k : Nat} {more : Bool} (hk : k < l.length) (hks : k < s.length) (hks' : k < s'.length) (hf : more = false → s' = s ∧ Near l s k)
    (h : l[k].jump = false ∨ s'[k] = 4 ∨ (far s k l[k] ≤ 50 ∧ -50 ≤ far s k l[k])) : more = false → s' = s ∧ Near l s (k + 1) := by
  intro hm
  obtain ⟨rfl, hN⟩ := hf hm
  refine ⟨rfl, fun i h1 h2 h3 hj => ?_⟩
  rcases Nat.lt_or_ge i k with hlt | hge
  · exact hN i h1 h2 hlt hj
  · have : i = k := by omega
    subst this
    rcases h with h | h | h
    · rw [h] at hj; cases hj
    · exact .inl h
    · exact .inr h

set_option maxHeartbeats 1000000 in
theorem lay_ok (A : Option Addr) (l : List Piece) (cap : Nat) (w : World) (hA : RdP w A l) (h0 : pErr l = 0) :
    Calls Try.prog 9 #[.slice A l.length cap] w (LayOk l w) := by
  have hok := pErr_ok h0
  have hn : l.length ≤ 10 := hok.1
  have H0 := Lib.hid h0; clear h0
  have Hok := Lib.hid hok.2; clear hok
  have HA := Lib.hid hA; clear hA
  go_enter Try.func9, Try.ntmps9
  go_wp2_with (go_at_call 27; refine (wrong_calls _ _ _ _ HA.out (by unfold maxLen; omega)).mono ?_; rintro e w1 ⟨rfl, hW1⟩; rw [H0.out])
  go_loopw [6, 22] (fun v i wr => ∃ k : Nat, k ≤ l.length ∧ i = .int .i64 k ∧ OwnI wr w.heap.size 3 v (first0 (l.take k)) ∧ Below w.heap.size w wr) (fun _ i _ => l.length - (intOf i).toNat)
  case atStart => exact ⟨0, Nat.zero_le _, rfl, Own.nil_ _ _ _, hW1⟩
  case round =>
    obtain ⟨k, hk, rfl, hown, hW⟩ := hrel
    have hw1 := hW.size
    by_cases hlt : k < l.length
    · obtain ⟨b, off, rfl, hb, c0, c1, c2⟩ := RdP.at3 (Rd.below HA.out hW) hlt
      have Hown := Lib.hid hown; clear hown
      have hfs := first_take_succ hlt
      have Hlen := Lib.hid (show (first0 (l.take k)).length = k by simp [first0]; omega)
      have Hfs := Lib.hid hfs; clear hfs
      generalize l[k] = p at *
      obtain ⟨pb, pj, pt⟩ := p
      dsimp only at c0 c1 c2
      cases pj
      all_goals
        go_wp2_with (at_builtin; refine wpList_appI rfl _ _ rfl w.heap.size _ _ _ rfl ((Hown.out.alloc _).alloc _) _ _ rfl (cell_new _ _ _ _ (by simp) _) (by rw [Hlen.out]; omega) (by simp; omega) ?_; intro v' w1 hown' hgrow)
        go_roundw
        case rel =>
          refine ⟨k + 1, by omega, by go_num, ?_, below_own ((hW.alloc hw1 _).alloc (by simp; omega) _) hgrow ((Hown.out.alloc _).alloc _) (Nat.le_refl _) (by simp; omega)⟩
          rw [Hfs.out]; exact hown'
        case measure => simp [intOf]; omega
    · have : k = l.length := by omega
      subst this
      rw [List.take_length] at hown
      clear hlt hk
      go_wp2
      go_loopg [10] (2 * pot l (first0 l) + 1) (fun g m wr => ∃ (s : List Int) (more : Bool), m = .bool more ∧ Inv l s ∧ OwnI wr w.heap.size 3 u6 s ∧ g = 2 * pot l s + more.toNat ∧ Below w.heap.size w wr ∧ (more = false → Near l s l.length))
      case atStart => exact ⟨first0 l, true, rfl, inv_first l, hown, rfl, hW, by simp⟩
      case round =>
        obtain ⟨s, more, rfl, hI, hown, rfl, hW, hnear⟩ := hrel
        have hw1 := hW.size
        have hsm := small_of_inv H0.out hI
        have hlen := hI.len
        obtain ⟨As, cs, rfl, hRs⟩ := OwnI.rd hown
        have Hown := Lib.hid hown
        have HI := Lib.hid hI
        have Hnear := Lib.hid hnear
        clear hown hI hnear
        have hbg := begins_calls As s cs wr hRs (by omega) hsm
        have Hbg := Lib.hid hbg
        have Hsm := Lib.hid hsm
        have Hlen := Lib.hid hlen
        clear hbg hsm hRs hlen
        cases more
        · go_wp2_with (go_at_call 28; refine Hbg.out.mono ?_; rintro e w2 ⟨va, rfl, hva, hW2⟩)
          go_ret3
          exact ⟨va, _, s, rfl, hva.base_ hw1, Hown.out.below hW2, HI.out, Hnear.out trivial, hW.trans (hW2.mono hw1)⟩
        · go_wp2_with (go_at_call 28; refine Hbg.out.mono ?_; rintro e w2 ⟨va, rfl, hva, hW2⟩)
          have Hva := Lib.hid hva; clear hva
          have HW2 := Lib.hid hW2; clear hW2
          obtain ⟨wo, rfl⟩ : ∃ wo : World, wo = wr := ⟨_, rfl⟩
          go_loopw [10, 40] (fun m i wx => ∃ (k : Nat) (s' : List Int) (more : Bool), k ≤ l.length ∧ i = .int .i64 k ∧ m = .bool more ∧ Inv l s' ∧ le_ s s' ∧ OwnI wx w.heap.size 3 (.slice As s.length cs) s' ∧ OwnI wx wo.heap.size 3 va (begs s) ∧ Below w.heap.size w wx ∧
            (more = false → s' = s ∧ Near l s k) ∧ (more = true → pot l s' < pot l s) ∧ w2.heap.size ≤ wx.heap.size) (fun _ i _ => l.length - (intOf i).toNat)
          case atStart => exact ⟨0, s, false, Nat.zero_le _, rfl, rfl, HI.out, le_refl_ s, Hown.out.below HW2.out, Hva.out, hW.trans (HW2.out.mono hw1), fun _ => ⟨rfl, fun i _ _ h => absurd h (by omega)⟩, (fun h => absurd h (by decide)), Nat.le_refl _⟩
          case round =>
            obtain ⟨k, s', more, hk, rfl, rfl, hI', hle, hown', hva', hWx, hf, ht, hsz⟩ := hrel
            by_cases hlt : k < l.length
            · have hlen' : s'.length = s.length := hle.1.symm
              have hls : s.length = l.length := Hlen.out
              have hks : k < s.length := by omega
              have hks' : k < s'.length := by omega
              obtain ⟨gs, rfl, hgs1, hgs2, _, _, _⟩ := OwnI.at2 Hown.out (by omega)
              obtain ⟨ga, ca, rfl, hga1, hga2, hga3, hga4, hga5⟩ := OwnI.at_ hva' (by simp [begs])
              obtain ⟨b, off, rfl, hb, c0, c1, c2⟩ := RdP.at3 (Rd.below HA.out hWx) hlt
              obtain ⟨g3, hgs, _, hgs2', _, hgs4, hgs5⟩ := OwnI.at2 hown' (by omega)
              cases hgs
              have c3 := hgs5 k hks'
              have c5 := hgs4 k
              have hp := Hok.out _ (List.getElem_mem hlt)
              have hfar : far s k l[k] = psum s l[k].to.toNat - psum s (k + 1) := rfl
              have hx2 := hI'.jump k hlt hks'
              have hx2s := HI.out.jump k hlt hks
              have hle2 := hle.2 k hks hks'
              have hset := fun hj => inv_set (s0 := s) hI' Hsm.out hlt hks' hks hj
              have hpot := pot_set (l := l) (s := s') hlt hks'
              have hnear : (l[k].jump = false ∨ s'[k] = 4 ∨ (far s k l[k] ≤ 50 ∧ -50 ≤ far s k l[k])) → more = false → s' = s ∧ Near l s (k + 1) := near_next hlt hks hks' hf
              have hown4 := OwnI.set_ hown' hks' 4
              have hga5' : ∀ j, j ≤ l.length → wr.cell? ⟨ga, j, none⟩ = some (.int .i64 (psum s j)) := fun j hj => by
                rw [hga5 j (by simp [begs]; omega)]; simp [begs]
              have hpb := psum_bd Hsm.out
              have Hset := Lib.hid hset
              have Hpot := Lib.hid hpot
              have Hnx := Lib.hid hnear
              have Hown' := Lib.hid hown'
              have Hown4 := Lib.hid hown4
              have Hva' := Lib.hid hva'
              have HI' := Lib.hid hI'
              have Hle := Lib.hid hle
              have Hfar := Lib.hid hfar
              have Hx2 := Lib.hid hx2
              have Hx2s := Lib.hid hx2s
              have Hf := Lib.hid hf
              have Ht := Lib.hid ht
              have Hp := Lib.hid hp
              have Hga := Lib.hid hga5'
              have Hpb := Lib.hid hpb
              have hwx := hWx.size
              have Hlen' := Lib.hid hlen'
              clear hset hpot hnear hown' hown4 hva' hI' hle hfar hx2 hx2s hf ht hp hga5 hga5' hpb hgs4 hgs5 hga4 hlen' hls
              have c1' := c1
              clear c1
              cases hj : l[k].jump
              · rw [hj] at c1'
                generalize l[k] = p at *
                generalize s'[k] = x at *
                go_wp2
                go_roundw
                case rel => exact ⟨k + 1, s', more, by omega, by go_num, rfl, HI'.out, Hle.out, Hown'.out.alloc _, Hva'.out.alloc _, hWx.alloc hwx _, Hnx.out (.inl hj), Ht.out, by simp; omega⟩
                case measure => simp [intOf]; omega
              · rw [hj] at c1'
                by_cases h4 : s'[k] = 4
                · have Hnx4 := Lib.hid (Hnx.out (.inr (.inl h4)))
                  rw [h4] at c3
                  clear h4 hj
                  generalize l[k] = p at *
                  go_wp2
                  go_roundw
                  case rel => exact ⟨k + 1, s', more, by omega, by go_num, rfl, HI'.out, Hle.out, Hown'.out.alloc _, Hva'.out.alloc _, hWx.alloc hwx _, Hnx4.out, Ht.out, by simp; omega⟩
                  case measure => simp [intOf]; omega
                · have h2 : s'[k] = 2 := by rcases Hx2.out hj with e | ⟨e, _⟩
                                            · exact e
                                            · exact absurd e h4
                  have h2s : s[k] = 2 := by rcases Hx2s.out hj with e | ⟨e, _⟩
                                            · exact e
                                            · omega
                  have hset2 := Hset.out hj h2 h2s Hle.out
                  have hpot2 := Hpot.out hj h2
                  obtain ⟨hp0, hpl⟩ := (Hp.out).2 hj
                  obtain ⟨n, hn⟩ := Int.eq_ofNat_of_zero_le hp0
                  have hfr := Hfar.out
                  have hnx2 := fun h => Hnx.out (.inr (.inr h))
                  rw [hn] at c2 hfr hpl
                  rw [Int.toNat_natCast] at hfr
                  have e1 := Hga.out n (by omega)
                  have e2 := Hga.out (k + 1) (by omega)
                  have b1 := Hpb.out n
                  have b2 := Hpb.out (k + 1)
                  rw [h2] at c3
                  rw [hfr] at hset2 hnx2
                  have Hset2 := Lib.hid hset2
                  have Hpot2 := Lib.hid hpot2
                  have Hnx2 := Lib.hid hnx2
                  clear h4 h2 h2s hset2 hpot2 hnx2 hn hfr hp0 hj Hfar Hset Hpot Hnx Hx2 Hx2s
                  have q1 : (n : Int) < ((begs s).length : Int) := by have := Hlen.out; simp [begs]; omega
                  have q2 : (k : Int) + 1 < ((begs s).length : Int) := by have := Hlen.out; simp [begs]; omega
                  have q3 : IntKind.i64.wrap ((k : Int) + 1) = (k : Int) + 1 := IntWalk.i64_in _ (by omega)
                  have q4 : ((k : Int) + 1).toNat = k + 1 := by omega
                  have q5 : (0 : Int) ≤ (k : Int) + 1 := by omega
                  have q6 : IntKind.i64.wrap (psum s n - psum s (k + 1)) = psum s n - psum s (k + 1) := IntWalk.i64_in _ (by omega)
                  generalize l[k] = p at *
                  generalize psum s n = x at *
                  generalize psum s (k + 1) = y at *
                  go_wp2
                  go_quiet (fail)
                  clear q3 q4 q5 q6
                  go_wp2
                  · go_roundw
                    case rel => exact ⟨k + 1, s'.set k 4, true, by omega, by go_num, rfl, (Hset2.out (by omega)).1, le_trans_ Hle.out (Hset2.out (by omega)).2, OwnI.set_ ((Hown'.out.alloc _).drewN _) hks' 4, (((Hva'.out.alloc _).drewN _).far (by simp [Value.ownBlock]; omega) _), (below_dN (hWx.alloc hwx _) _).setCell hgs1 _, (fun h => by cases h), (fun _ => by have h1 := Hpot2.out; exact jl_lt h1 Ht.out (Hf.out) ), by simp [World.setCell]; omega⟩
                    case measure => simp [intOf]; omega
                  · go_roundw
                    case rel => exact ⟨k + 1, s'.set k 4, true, by omega, by go_num, rfl, (Hset2.out (by omega)).1, le_trans_ Hle.out (Hset2.out (by omega)).2, OwnI.set_ ((Hown'.out.alloc _).drewN _) hks' 4, (((Hva'.out.alloc _).drewN _).far (by simp [Value.ownBlock]; omega) _), (below_dN (hWx.alloc hwx _) _).setCell hgs1 _, (fun h => by cases h), (fun _ => by have h1 := Hpot2.out; exact jl_lt h1 Ht.out (Hf.out) ), by simp [World.setCell]; omega⟩
                    case measure => simp [intOf]; omega
                  · go_roundw
                    case rel => exact ⟨k + 1, s', more, by omega, by go_num, rfl, HI'.out, Hle.out, (Hown'.out.alloc _).drewN _, (Hva'.out.alloc _).drewN _, below_dN (hWx.alloc hwx _) _, Hnx2.out (by omega), Ht.out, by simp; omega⟩
                    case measure => simp [intOf]; omega
            · go_wp2
              go_roundg (2 * pot l s' + more.toNat)
              case measure => exact jl_meas (Lib.hid hf).out ht
              case rel => exact ⟨s', more, rfl, hI', hown', rfl, hWx, fun h => by obtain ⟨rfl, hN⟩ := hf h; have : k = l.length := by omega
                                                                                  subst this; exact hN⟩
end Go.Proofs.Ytiphhadhbokgmaa
