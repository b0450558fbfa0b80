/- point.Within. -/
import Derived.Test.YtdkkmmljaijomaaPtB
import Derived.Test.YtdkkmmljaijomaaPtC
import Derived.Test.YtdkkmmljaijomaaEqualU
import Derived.Test.YtdkkmmljaijomaaBits1
import Derived.Deep.LoopGhost
import Derived.StillTailTactics
namespace Go.Proofs.Ytdkkmmljaijomaa
open Go.RowKit

/-- The rows r at g, and those that were, in the world wr. -/
structure Rows2 (w : World) (g n : Nat) (vw : Value) (r was : List Nat) (wr : World) : Prop where
  own : OwnU wr w.heap.size 50 (.slice (some ⟨g, 0, none⟩) n n) r
  was : OwnU wr (g + 1) 50 vw was
  bel : Below w.heap.size w wr
  ge : w.heap.size ≤ g
  lt : g < wr.heap.size
section
variable {w wr : World} {g n : Nat} {vw : Value} {r was : List Nat}
theorem Rows2.alloc (h : Rows2 w g n vw r was wr) (o : Obj) : Rows2 w g n vw r was (wr.alloc o) := ⟨h.own.alloc o, h.was.alloc o, h.bel.alloc (by have := h.lt; have := h.ge; omega) o, h.ge, by have := h.lt; simp; omega⟩
theorem Rows2.drewN (h : Rows2 w g n vw r was wr) (k : Nat) : Rows2 w g n vw r was (wr.drewN k) := ⟨h.own.drewN k, h.was.drewN k, below_dN h.bel k, h.ge, h.lt⟩
theorem Rows2.store (h : Rows2 w g n vw r was wr) {k : Nat} (hk : k < r.length) (y : Nat) : Rows2 w g n vw (r.set k y) was (wr.setCell ⟨g, k, none⟩ (.int .u32 y)) :=
  ⟨OwnU.set_ h.own hk y, own_farB h.was (Nat.lt_succ_self g) _, h.bel.setCell h.ge _, h.ge, by have := h.lt; simpa using this⟩
theorem Rows2.cell (h : Rows2 w g n vw r was wr) {k : Nat} (hk : k < r.length) : wr.cell? ⟨g, k, none⟩ = some (.int .u32 (r[k] : Nat)) ∧ wr.frozen? ⟨g, k, none⟩ = false := by
  obtain ⟨g', e, _, _, _, hf, hc⟩ := OwnU.at2 h.own (by omega)
  injection e with e; injection e with e
  subst e
  exact ⟨hc k hk, hf k⟩
end
def LoadTo (was r : List Nat) (p : Pt) (t : Nat) : Prop := ∀ i, i < t → ∀ j, bitR was p.from_.toNat i = true → bitR was i j = true → bitR r p.to.toNat j = true
def StoreTo (was r : List Nat) (p : Pt) (t : Nat) : Prop := ∀ i, i < t → ∀ j, bitR was p.to.toNat i = true → bitR was p.from_.toNat j = true → bitR r i j = true
theorem bitR_len {r : List Nat} {i j : Nat} (h : bitR r i j = true) : i < r.length := by
  rcases Nat.lt_or_ge i r.length with h1 | h1
  · exact h1
  · unfold bitR at h; rw [List.getD_eq_getElem?_getD, List.getElem?_eq_none h1] at h; simp at h
theorem bitR_up {r : List Nat} {a : Nat} (ha : a < r.length) (x : Nat) : ∀ i j, bitR r i j = true → bitR (r.set a (r[a] ||| x)) i j = true := fun i j hb => by rw [bitR_set ha, hb]; rfl
theorem bitR_new {r : List Nat} {a : Nat} (ha : a < r.length) {x j : Nat} (hx : x.testBit j = true) : bitR (r.set a (r[a] ||| x)) a j = true := by rw [bitR_set ha, hx]; simp
def WithinEnd (n : Int) (l : List Pt) (w : World) (e : Ending) (w' : World) : Prop :=
  Below w.heap.size w w' ∧ ((ptErr n l [] ≠ 0 ∧ e = .returned (.tuple #[.slice none 0 0, .int .i64 (ptErr n l [])])) ∨
    (∃ m : Nat, n = m ∧ PtOk m l ∧ ∃ v, e = .returned (.tuple #[v, .int .i64 0]) ∧ OwnU w' w.heap.size 50 v (ptL m l)))

set_option maxRecDepth 100000 in
set_option maxHeartbeats 16000000 in
theorem within_calls (n : Int) (A : Option Addr) (l : List Pt) (cap : Nat) (w : World) (hA : RdPt w A l) (hm : l.length ≤ maxLen) :
    Calls Try.prog 26 #[.int .i64 n, .slice A l.length cap] w (WithinEnd n l w) := by
  have HA := Lib.hid hA; clear hA
  by_cases he : ptErr n l [] = 0
  case neg =>
    have q : (ptErr n l [] != 0) = true := by rw [bne_iff_ne]; exact he
    have He := Lib.hid he
    clear he
    go_enter Try.func26, Try.ntmps26
    go_wp2_with (go_at_call 43; refine (ptWrong_calls n _ none l [] _ 0 _ HA.out hm Rd.nil_ (by simp)).mono ?_; rintro e w1 ⟨rfl, hB⟩; have HB := Lib.hid hB; clear hB)
    go_ret2
    exact ⟨HB.out, .inl ⟨He.out, rfl⟩⟩
  obtain ⟨m, rfl, ok, _, _⟩ := ptErr_ok he
  have Hok := Lib.hid ok
  have He := Lib.hid he
  have h1 := ok.n1
  have h8 := ok.n8
  have h12 := ok.len
  have Hfirst := Lib.hid (Wp.first m l)
  clear he ok
  go_enter Try.func26, Try.ntmps26
  go_wp2_with (first
    | (go_at_call 43; refine (ptWrong_calls m _ none l [] _ 0 _ HA.out hm Rd.nil_ (by simp)).mono ?_; rintro e w1 ⟨rfl, hB⟩; have HB1 := Lib.hid hB; have hw1 := hB.size; rw [He.out]; clear hB)
    | (at_make; refine wpList_makeU rfl _ _ rfl w.heap.size m rfl rfl (by omega) hw1 ?_; intro w2 hown2 hgrow2))
  have HB2 := Lib.hid (HB1.out.grown hgrow2 hw1 (fun k hk => by cases hk))
  have hg2 : w1.heap.size < w2.heap.size := by
    obtain ⟨g, eg, _, hg, _⟩ := OwnU.at2 hown2 (by simp; omega)
    injection eg with eg; injection eg with eg
    omega
  have Hown2 := Lib.hid hown2
  clear hown2 hgrow2
  obtain ⟨g, hg⟩ : ∃ g, g = w1.heap.size := ⟨_, rfl⟩
  rw [← hg] at Hown2 hg2 hw1 ⊢
  clear HB1
  go_loopg [8] 65 (fun G b wr => ∃ (r : List Nat) (b' : Bool), b = .bool b' ∧ OwnU wr w.heap.size 50 (.slice (some ⟨g, 0, none⟩) m m) r ∧ Hid (Wp m l r r 0) ∧ Hid (b' = false → r = ptL m l) ∧ Below w.heap.size w wr ∧ g < wr.heap.size ∧ (b' = true → 64 - wtP r < G))
  case atStart => exact ⟨_, true, rfl, Hown2.out, Hfirst, (fun h => by cases h), HB2.out, hg2, fun _ => by omega⟩
  case round =>
    clear HB2 Hown2 hg2 Hfirst hg
    obtain ⟨r, b, rfl, hown, hWp, hfin, hW, hgl, hlt⟩ := hrel
    have Hown := Lib.hid hown
    have HW := Lib.hid hW
    have Hlt := Lib.hid hlt
    clear hlt hW
    cases b
    · clear hown
      go_wp2
      go_ret2
      exact ⟨HW.out, .inr ⟨m, rfl, Hok.out, _, rfl, by rw [← hfin.out (by first | rfl | trivial)]; exact Hown.out⟩⟩
    · obtain ⟨A1, c1, e1, hR, _⟩ := hown.form u32Cells_len
      have hrl := hWp.out.len
      rw [hrl] at e1
      injection e1 with e1 _ e3
      subst e1 e3
      have HR := Lib.hid hR
      have Hrl := Lib.hid hrl
      have Hcl := Lib.hid (cloneU_calls (some ⟨g, 0, none⟩) r m wr hR (by omega) (by omega))
      rw [hrl] at Hcl
      clear hown hR hrl
      go_wp2_with fail
      refine Hcl.out.mono ?_
      rintro e w3 ⟨vw, rfl, hown3, hB3⟩
      have HR0 : Hid (Rows2 w g m vw r r w3) := ⟨Own.below Hown.out hB3, hown3.base_ hgl, HW.out.trans (hB3.mono HW.out.size), by omega, by have := hB3.size; omega⟩
      clear hown3 hB3 Hown HW hgl HR Hcl
      go_wp2
      go_loopw [26] (fun i wr => ∃ (k : Nat) (r' : List Nat), k ≤ l.length ∧ i = .int .i64 k ∧ Hid (Wp m l r r' k) ∧ Hid (Rows2 w g m vw r' r wr)) (fun i _ => l.length - (intOf i).toNat)
      case atStart => exact ⟨0, r, Nat.zero_le _, rfl, hWp, HR0⟩
      case round =>
        clear HR0
        obtain ⟨k, r', hk, rfl, hP, hRows⟩ := hrel
        by_cases hltk : k < l.length
        · obtain ⟨b0, off0, rfl, hb0, c0, c1, c2⟩ := RdPt.at3 (Rd.below HA.out hRows.out.bel) hltk
          have hki := Hok.out.kind _ (List.getElem_mem hltk)
          have hin := Hok.out.ins _ (List.getElem_mem hltk)
          have Hmem := Lib.hid (List.getElem_mem hltk)
          have Hnext := Lib.hid (fun r' (h : Wp m l r r' k) => h.next hltk)
          generalize l[k] = p at *
          obtain ⟨kd, a, b⟩ := p
          dsimp only at c0 c1 c2 hki hin
          obtain ⟨a1, a2, a3, a4⟩ := hin
          obtain ⟨a, rfl⟩ := Int.eq_ofNat_of_zero_le a1
          obtain ⟨b, rfl⟩ := Int.eq_ofNat_of_zero_le a3
          have am : a < m := by omega
          have bm : b < m := by omega
          have hrl := hP.out.len
          have ar : a < r'.length := by omega
          have br : b < r'.length := by omega
          obtain ⟨w2, hw2e⟩ : ∃ w2, w2 = wr.alloc (.cells #[.int .i64 kd, .int .i64 a, .int .i64 b] 43) := ⟨_, rfl⟩
          have hR2 : Rows2 w g m vw r' r w2 := by rw [hw2e]; exact hRows.out.alloc _
          have HR2 := Lib.hid hR2
          have e0 : w2.cell? ⟨wr.heap.size, 0, none⟩ = some (.int .i64 kd) := by rw [hw2e]; exact cell_new _ _ _ _ rfl 0
          have e1 : w2.cell? ⟨wr.heap.size, 1, none⟩ = some (.int .i64 a) := by rw [hw2e]; exact cell_new _ _ _ _ rfl 1
          have e2 : w2.cell? ⟨wr.heap.size, 2, none⟩ = some (.int .i64 b) := by rw [hw2e]; exact cell_new _ _ _ _ rfl 2
          have hgp : g < wr.heap.size := hRows.out.lt
          have Hra := Lib.hid (hP.out.lt Hok.out ar)
          have Hrb := Lib.hid (hP.out.lt Hok.out br)
          rcases (show kd = 1 ∨ kd = 2 ∨ kd = 3 ∨ kd = 4 by omega) with rfl | rfl | rfl | rfl
          · obtain ⟨d1, d2⟩ := hR2.cell ar
            have b32 : b < 32 := by omega
            have pb : 2 ^ b < 2 ^ 8 := Nat.pow_lt_pow_right (by decide) (by omega)
            have hra := Hra.out
            have r1 := pow_u32 b b32
            have r2 := or_u32 r'[a] (2 ^ b) (by omega) (by omega)
            rw [Int.natCast_pow, show ((2 : Nat) : Int) = 2 from rfl] at r1 r2
            have HP2 := Lib.hid (Hnext.out _ (hP.out.up ar (x := 2 ^ b) (fun j hj => by
              rw [testBit_pow, decide_eq_true_eq] at hj; subst hj; exact .addr Hmem.out)) ⟨fun _ => bitR_new ar (by rw [testBit_pow]; simp), (fun h => by cases h), (fun h => by cases h), (fun h => by cases h)⟩)
            have HR3 := Lib.hid ((HR2.out.store ar (r'[a] ||| 2 ^ b)).drewN 1)
            clear hR2 pb hra hP hRows
            generalize r'[a] ||| 2 ^ b = y at *
            generalize r'[a] = x at *
            go_wp2
            rw [← hw2e]
            clear hw2e c0 c1 c2
            go_still_tail 10, (by kernel_rfl)
            go_wp2
            refine ⟨⟨k + 1, _, by omega, by go_num, HP2, HR3⟩, by simp [intOf]; omega⟩
          · obtain ⟨d1, d2⟩ := hR2.cell ar
            obtain ⟨d3, _⟩ := hR2.cell br
            have hra := Hra.out
            have hrb := Hrb.out
            have r2 := or_u32 r'[a] r'[b] (by omega) (by omega)
            have HP2 := Lib.hid (Hnext.out _ (hP.out.up ar (x := r'[b]) (fun j hj => .copy Hmem.out (hP.out.sound b j (by rw [bitR_of br]; exact hj)))) ⟨(fun h => by cases h), fun _ j hj => bitR_new ar (by rw [← bitR_of br]; exact hP.out.sup _ _ hj), (fun h => by cases h), (fun h => by cases h)⟩)
            have HR3 := Lib.hid ((HR2.out.store ar (r'[a] ||| r'[b])).drewN 1)
            clear hR2 hra hrb hP hRows
            generalize r'[a] ||| r'[b] = y at *
            generalize r'[a] = x at *
            generalize r'[b] = x' at *
            go_wp2
            rw [← hw2e]
            clear hw2e c0 c1 c2
            go_still_tail 12, (by kernel_rfl)
            go_wp2
            refine ⟨⟨k + 1, _, by omega, by go_num, HP2, HR3⟩, by simp [intOf]; omega⟩
          · have HTo0 : Hid (LoadTo r r' ⟨3, a, b⟩ 0) := fun i h => by omega
            have HE := Lib.hid (show w2.cell? ⟨wr.heap.size, 0, none⟩ = some (.int .i64 3) ∧ w2.cell? ⟨wr.heap.size, 1, none⟩ = some (.int .i64 a) ∧ w2.cell? ⟨wr.heap.size, 2, none⟩ = some (.int .i64 b) from ⟨e0, e1, e2⟩)
            obtain ⟨pb, hpb⟩ : ∃ pb, pb = wr.heap.size := ⟨_, rfl⟩
            rw [← hpb] at HE hgp
            clear hR2 hRows e0 e1 e2
            go_wp2
            rw [← hw2e, ← hpb]
            clear hw2e c0 c1 c2 hpb
            go_loopw [34] (fun i wr => ∃ (t : Nat) (r2 : List Nat), t ≤ m ∧ i = .int .i64 t ∧ Hid (Wp m l r r2 k) ∧ Hid (LoadTo r r2 ⟨3, a, b⟩ t) ∧ Hid (Rows2 w g m vw r2 r wr) ∧
              Hid (wr.cell? ⟨pb, 0, none⟩ = some (.int .i64 3) ∧ wr.cell? ⟨pb, 1, none⟩ = some (.int .i64 a) ∧ wr.cell? ⟨pb, 2, none⟩ = some (.int .i64 b))) (fun i _ => m - (intOf i).toNat)
            case atStart => exact ⟨0, r', Nat.zero_le _, rfl, hP, HTo0, HR2, HE⟩
            case round =>
              clear HR2 HE hP HTo0 hrl ar br Hra Hrb
              obtain ⟨t, r2, ht, rfl, hP, hTo, hRows, hE⟩ := hrel
              have hrl := hP.out.len
              by_cases hltt : t < m
              · have ar : a < r2.length := by omega
                have br : b < r2.length := by omega
                have tr : t < r2.length := by omega
                obtain ⟨e0, e1, e2⟩ := hE.out
                obtain ⟨d1, f1⟩ := hRows.out.cell ar
                obtain ⟨d2, _⟩ := hRows.out.cell br
                obtain ⟨d3, f3⟩ := hRows.out.cell tr
                have hra := hP.out.lt Hok.out ar
                have hrb := hP.out.lt Hok.out br
                have hrt := hP.out.lt Hok.out tr
                have t32 : t < 32 := by omega
                have p1 := test1_u32 r2[b] t (by omega)
                cases hbit : (r2[b]).testBit t
                · have HTo2 : Hid (LoadTo r r2 ⟨3, a, b⟩ (t + 1)) := fun i hi j h1 h2 => by
                    rcases Nat.lt_or_ge i t with h3 | h3
                    · exact hTo.out i h3 j h1 h2
                    · have : i = t := by omega
                      subst this
                      have h4 := hP.out.sup _ _ h1
                      dsimp only [Int.toNat_natCast] at h4
                      rw [bitR_of br, hbit] at h4; cases h4
                  rw [hbit] at p1
                  clear hbit hTo
                  generalize r2[a] = x at *
                  generalize r2[b] = x' at *
                  generalize r2[t] = x'' at *
                  go_wp2
                  go_roundw
                  case rel => exact ⟨t + 1, r2, by omega, by go_num, hP, HTo2, hRows, hE⟩
                  case measure => simp [intOf]; omega
                · have r2' := or_u32 r2[a] r2[t] (by omega) (by omega)
                  have hup := hP.out.up ar (x := r2[t]) (fun j hj => .load Hmem.out (hP.out.sound b t (by rw [bitR_of br]; exact hbit)) (hP.out.sound t j (by rw [bitR_of tr]; exact hj)))
                  have HTo2 : Hid (LoadTo r (r2.set a (r2[a] ||| r2[t])) ⟨3, a, b⟩ (t + 1)) := fun i hi j h1 h2 => by
                    rcases Nat.lt_or_ge i t with h3 | h3
                    · exact bitR_up ar _ _ _ (hTo.out i h3 j h1 h2)
                    · have : i = t := by omega
                      subst this
                      exact bitR_new ar (by rw [← bitR_of tr]; exact hP.out.sup _ _ h2)
                  have HP2 := Lib.hid hup
                  have hst := hRows.out.store ar (r2[a] ||| r2[t])
                  have HR3 := Lib.hid (hst.drewN 1)
                  have HE3 : Hid (((wr.setCell ⟨g, a, none⟩ (.int .u32 (r2[a] ||| r2[t] : Nat))).drewN 1).cell? ⟨pb, 0, none⟩ = some (.int .i64 3) ∧ ((wr.setCell ⟨g, a, none⟩ (.int .u32 (r2[a] ||| r2[t] : Nat))).drewN 1).cell? ⟨pb, 1, none⟩ = some (.int .i64 a) ∧ ((wr.setCell ⟨g, a, none⟩ (.int .u32 (r2[a] ||| r2[t] : Nat))).drewN 1).cell? ⟨pb, 2, none⟩ = some (.int .i64 b)) :=
                    ⟨(World.cell?_setCell_other wr _ _ _ (by intro h; injection h; omega)).trans e0, (World.cell?_setCell_other wr _ _ _ (by intro h; injection h; omega)).trans e1, (World.cell?_setCell_other wr _ _ _ (by intro h; injection h; omega)).trans e2⟩
                  rw [hbit] at p1
                  have q3 : ((t : Nat) : Int) < ((m : Nat) : Int) := by omega
                  clear hbit hTo hup hst hP hRows hE
                  generalize r2[a] ||| r2[t] = y at *
                  generalize r2[a] = x at *
                  generalize r2[b] = x' at *
                  generalize r2[t] = x'' at *
                  go_wp2
                  go_still_tail 11, (by kernel_rfl)
                  go_wp2
                  refine ⟨⟨t + 1, _, by omega, by go_num, HP2, HTo2, HR3, HE3⟩, by simp [intOf]; omega⟩
              · have : t = m := by omega
                subst this
                have HP2 := Lib.hid (Hnext.out _ hP.out ⟨(fun h => by cases h), (fun h => by cases h), fun _ i j h1 h2 => hTo.out i (by have h3 := hP.out.sup _ _ h2; have := bitR_len h3; omega) j h1 h2, (fun h => by cases h)⟩)
                clear hP hTo hE
                go_wp2
                go_roundw
                case rel => exact ⟨k + 1, r2, by omega, by go_num, HP2, hRows⟩
                case measure => simp [intOf]; omega
          · have HTo0 : Hid (StoreTo r r' ⟨4, a, b⟩ 0) := fun i h => by omega
            have HE := Lib.hid (show w2.cell? ⟨wr.heap.size, 0, none⟩ = some (.int .i64 4) ∧ w2.cell? ⟨wr.heap.size, 1, none⟩ = some (.int .i64 a) ∧ w2.cell? ⟨wr.heap.size, 2, none⟩ = some (.int .i64 b) from ⟨e0, e1, e2⟩)
            obtain ⟨pb, hpb⟩ : ∃ pb, pb = wr.heap.size := ⟨_, rfl⟩
            rw [← hpb] at HE hgp
            clear hR2 hRows e0 e1 e2
            go_wp2
            rw [← hw2e, ← hpb]
            clear hw2e c0 c1 c2 hpb
            go_loopw [34] (fun i wr => ∃ (t : Nat) (r2 : List Nat), t ≤ m ∧ i = .int .i64 t ∧ Hid (Wp m l r r2 k) ∧ Hid (StoreTo r r2 ⟨4, a, b⟩ t) ∧ Hid (Rows2 w g m vw r2 r wr) ∧
              Hid (wr.cell? ⟨pb, 0, none⟩ = some (.int .i64 4) ∧ wr.cell? ⟨pb, 1, none⟩ = some (.int .i64 a) ∧ wr.cell? ⟨pb, 2, none⟩ = some (.int .i64 b))) (fun i _ => m - (intOf i).toNat)
            case atStart => exact ⟨0, r', Nat.zero_le _, rfl, hP, HTo0, HR2, HE⟩
            case round =>
              clear HR2 HE hP HTo0 hrl ar br Hra Hrb
              obtain ⟨t, r2, ht, rfl, hP, hTo, hRows, hE⟩ := hrel
              have hrl := hP.out.len
              by_cases hltt : t < m
              · have ar : a < r2.length := by omega
                have br : b < r2.length := by omega
                have tr : t < r2.length := by omega
                obtain ⟨e0, e1, e2⟩ := hE.out
                obtain ⟨d1, f1⟩ := hRows.out.cell ar
                obtain ⟨d2, _⟩ := hRows.out.cell br
                obtain ⟨d3, f3⟩ := hRows.out.cell tr
                have hra := hP.out.lt Hok.out ar
                have hrb := hP.out.lt Hok.out br
                have hrt := hP.out.lt Hok.out tr
                have t32 : t < 32 := by omega
                have p1 := test1_u32 r2[a] t (by omega)
                cases hbit : (r2[a]).testBit t
                · have HTo2 : Hid (StoreTo r r2 ⟨4, a, b⟩ (t + 1)) := fun i hi j h1 h2 => by
                    rcases Nat.lt_or_ge i t with h3 | h3
                    · exact hTo.out i h3 j h1 h2
                    · have : i = t := by omega
                      subst this
                      have h4 := hP.out.sup _ _ h1
                      dsimp only [Int.toNat_natCast] at h4
                      rw [bitR_of ar, hbit] at h4; cases h4
                  rw [hbit] at p1
                  clear hbit hTo
                  generalize r2[a] = x at *
                  generalize r2[b] = x' at *
                  generalize r2[t] = x'' at *
                  go_wp2
                  go_roundw
                  case rel => exact ⟨t + 1, r2, by omega, by go_num, hP, HTo2, hRows, hE⟩
                  case measure => simp [intOf]; omega
                · have r2' := or_u32 r2[t] r2[b] (by omega) (by omega)
                  have hup := hP.out.up tr (x := r2[b]) (fun j hj => .store Hmem.out (hP.out.sound a t (by rw [bitR_of ar]; exact hbit)) (hP.out.sound b j (by rw [bitR_of br]; exact hj)))
                  have HTo2 : Hid (StoreTo r (r2.set t (r2[t] ||| r2[b])) ⟨4, a, b⟩ (t + 1)) := fun i hi j h1 h2 => by
                    rcases Nat.lt_or_ge i t with h3 | h3
                    · exact bitR_up tr _ _ _ (hTo.out i h3 j h1 h2)
                    · have : i = t := by omega
                      subst this
                      exact bitR_new tr (by rw [← bitR_of br]; exact hP.out.sup _ _ h2)
                  have HP2 := Lib.hid hup
                  have hst := hRows.out.store tr (r2[t] ||| r2[b])
                  have HR3 := Lib.hid (hst.drewN 1)
                  have HE3 : Hid (((wr.setCell ⟨g, t, none⟩ (.int .u32 (r2[t] ||| r2[b] : Nat))).drewN 1).cell? ⟨pb, 0, none⟩ = some (.int .i64 4) ∧ ((wr.setCell ⟨g, t, none⟩ (.int .u32 (r2[t] ||| r2[b] : Nat))).drewN 1).cell? ⟨pb, 1, none⟩ = some (.int .i64 a) ∧ ((wr.setCell ⟨g, t, none⟩ (.int .u32 (r2[t] ||| r2[b] : Nat))).drewN 1).cell? ⟨pb, 2, none⟩ = some (.int .i64 b)) :=
                    ⟨(World.cell?_setCell_other wr _ _ _ (by intro h; injection h; omega)).trans e0, (World.cell?_setCell_other wr _ _ _ (by intro h; injection h; omega)).trans e1, (World.cell?_setCell_other wr _ _ _ (by intro h; injection h; omega)).trans e2⟩
                  rw [hbit] at p1
                  have q3 : ((t : Nat) : Int) < ((m : Nat) : Int) := by omega
                  clear hbit hTo hup hst hP hRows hE
                  generalize r2[t] ||| r2[b] = y at *
                  generalize r2[a] = x at *
                  generalize r2[b] = x' at *
                  generalize r2[t] = x'' at *
                  go_wp2
                  go_still_tail 11, (by kernel_rfl)
                  go_wp2
                  refine ⟨⟨t + 1, _, by omega, by go_num, HP2, HTo2, HR3, HE3⟩, by simp [intOf]; omega⟩
              · have : t = m := by omega
                subst this
                have HP2 := Lib.hid (Hnext.out _ hP.out ⟨(fun h => by cases h), (fun h => by cases h), (fun h => by cases h), fun _ i j h1 h2 => hTo.out i (by have h3 := hP.out.sound _ _ (hP.out.sup _ _ h1); exact (h3.lt Hok.out).2) j h1 h2⟩)
                clear hP hTo hE
                go_wp2
                go_roundw
                case rel => exact ⟨k + 1, r2, by omega, by go_num, HP2, hRows⟩
                case measure => simp [intOf]; omega
        · have : k = l.length := by omega
          subst this
          have hrows := hRows.out
          obtain ⟨A1, c1, e1, hR1, _⟩ := hrows.own.form u32Cells_len
          obtain ⟨A2, c2, rfl, hR2, _⟩ := hrows.was.form u32Cells_len
          have hrl := hP.out.len
          rw [hrl] at e1
          injection e1 with e1 _ e3
          subst e1 e3
          have hrl0 := Hrl.out
          have Heq := Lib.hid (equalU_calls A2 (some ⟨g, 0, none⟩) r r' c2 m wr hR2 hR1 (by omega))
          rw [hrl, hrl0] at Heq
          have hmono := wtP_mono (r := r) (s := r') (by omega) (fun i hi => hP.out.lt Hok.out hi) hP.out.sup
          have hbd := wtP_le r'
          rw [hrl] at hbd
          have HRows := Lib.hid hrows
          rw [hrl0]
          clear hR1 hR2 hrows hRows hltk hk
          by_cases hs : r = r'
          · have Hd := Lib.hid (decide_eq_true hs)
            have Hfin := Lib.hid (show r' = ptL m l from Wp.all Hok.out (by have := hP.out; rwa [hs] at this))
            have Hst := Lib.hid hP.out.start
            clear hs hmono
            go_wp2_with (go_at_call 45; refine Heq.out.mono ?_; rintro e w9 ⟨rfl, nq, rfl⟩; rw [Hd.out])
            go_roundg 0
            case measure => have := Hlt.out trivial; omega
            case rel => exact ⟨r', false, rfl, (HRows.out.drewN _).own, Hst, Lib.hid fun _ => Hfin.out, (HRows.out.drewN _).bel, HRows.out.lt, (fun h => by cases h)⟩
          · have Hd := Lib.hid (decide_eq_false hs)
            have hlt2 := hmono.2 hs
            have Hst := Lib.hid hP.out.start
            clear hs hmono
            go_wp2_with (go_at_call 45; refine Heq.out.mono ?_; rintro e w9 ⟨rfl, nq, rfl⟩; rw [Hd.out])
            go_roundg (64 - wtP r)
            case measure => have := Hlt.out trivial; omega
            case rel => exact ⟨r', true, rfl, (HRows.out.drewN _).own, Hst, Lib.hid (fun h => by cases h), (HRows.out.drewN _).bel, HRows.out.lt, fun _ => by omega⟩
end Go.Proofs.Ytdkkmmljaijomaa
