/- shape.shapes, shape.Check walked. -/
import Derived.Test.YtmgejacndhnikaaShpB
namespace Go.Proofs.Ytmgejacndhnikaa
set_option maxRecDepth 100000
open Go.RowKit

theorem OkS_nil (vars : Int) (d : Nat) : OkS vars d [] := by cases d <;> rw [OkS] <;> trivial
def OkX (vars : Int) (d : Nat) (x : Shp) : Prop := (1 ≤ x.kind ∧ x.kind ≤ 3) ∧ (x.kind = 1 → ∀ s ∈ x.code, SOk vars s) ∧ (x.kind ≠ 1 → 0 ≤ x.test ∧ x.test < vars) ∧ OkS vars d x.thn ∧ OkS vars d x.els
theorem OkS_cons {vars : Int} {d : Nat} (x : Shp) (r : List Shp) : OkS vars (d + 1) (x :: r) ↔ OkX vars d x ∧ OkS vars (d + 1) r := by
  conv => lhs; rw [OkS]
  unfold OkX
  constructor
  · rintro ⟨a, b, c, e, f, g⟩; exact ⟨⟨a, b, c, e, f⟩, g⟩
  · rintro ⟨⟨a, b, c, e, f⟩, g⟩; exact ⟨a, b, c, e, f, g⟩
theorem OkS_app {vars : Int} {d : Nat} {y : Shp} (hy : OkX vars d y) : ∀ {l : List Shp}, OkS vars (d + 1) l → OkS vars (d + 1) (l ++ [y])
  | [], _ => by rw [List.nil_append, OkS_cons]; exact ⟨hy, OkS_nil _ _⟩
  | x :: l, h => by
    rw [List.cons_append, OkS_cons]
    rw [OkS_cons] at h
    exact ⟨h.1, OkS_app hy h.2⟩
theorem OkS_take {vars : Int} {d : Nat} {l : List Shp} {k : Nat} (hk : k < l.length) (h : OkS vars (d + 1) (l.take k)) (hx : OkX vars d l[k]) : OkS vars (d + 1) (l.take (k + 1)) := by
  rw [List.take_succ_eq_append_getElem hk]; exact OkS_app hx h
theorem OkS_get {vars : Int} {d : Nat} : ∀ {l : List Shp} {k : Nat} (hk : k < l.length), OkS vars (d + 1) l → OkX vars d l[k]
  | [], _, hk, _ => by simp at hk
  | x :: l, 0, _, h => ((OkS_cons x l).1 h).1
  | x :: l, k + 1, hk, h => OkS_get (l := l) (k := k) (by simpa using hk) ((OkS_cons x l).1 h).2
theorem rdBk_1 {w : World} {A : Option Addr} {c : List Step} (cap s : Nat) (hs : w.heap.size = s) (hR : RdSt w A c) : RdBk (w.alloc (.cells #[.slice A c.length cap, .int .i64 (-1), .int .i64 (-1), .int .i64 0] 85)) (some ⟨s, 0, none⟩) [⟨c, -1, -1, 0⟩] := by
  intro _
  refine ⟨s, 0, rfl, by simp [hs], fun k x hk => ?_⟩
  match k, hk with
  | 0, hk =>
    simp at hk
    subst hk
    have hR2 : RdSt (w.alloc (.cells #[.slice A c.length cap, .int .i64 (-1), .int .i64 (-1), .int .i64 0] 85)) A c := Rd.below hR ((Below.refl _ _).alloc (Nat.le_refl _) _)
    refine ⟨A, cap, ?_, ?_, ?_, ?_, hR2⟩
    · rw [show 0 + 0 * 4 = 0 from rfl, cell_new w _ _ s hs]; rfl
    · rw [show 0 + 0 * 4 + 1 = 1 from rfl, cell_new w _ _ s hs]; rfl
    · rw [show 0 + 0 * 4 + 2 = 2 from rfl, cell_new w _ _ s hs]; rfl
    · rw [show 0 + 0 * 4 + 3 = 3 from rfl, cell_new w _ _ s hs]; rfl
  | k + 1, hk => simp at hk
theorem small_one {c : List Step} (h : c.length ≤ 140737488355328) : smallB [⟨c, -1, -1, 0⟩] := fun b hb => by
  have e : b = ⟨c, -1, -1, 0⟩ := by simpa using hb
  subst e
  exact h
def ShapesE (vars : Int) (d : Nat) (l : List Shp) (w : World) (e : Ending) (w' : World) : Prop := Below w.heap.size w w' ∧ ∃ x : Int, e = .returned (.int .i64 x) ∧ (x = 0 → OkS vars d l)
set_option maxHeartbeats 16000000 in
theorem shapes_calls (vars : Int) : ∀ (n d : Nat), d < n → ∀ (A : Option Addr) (l : List Shp) (cap : Nat) (w : World), RdSh w d A l → l.length ≤ 2199023255552 →
    Calls Try.prog 112 #[.int .i64 vars, .slice A l.length cap] w (ShapesE vars d l w) := by
  intro n
  induction n with
  | zero => intro d h; omega
  | succ n ih =>
    intro d hn A l cap w hA hl
    have HA := Lib.hid hA
    have IH := Lib.hid ih
    clear hA ih
    go_enter Try.func112, Try.ntmps112
    go_wp2
    go_loopw [13] (fun i wr => ∃ j : Nat, j ≤ l.length ∧ i = .int .i64 (j : Nat) ∧ Hid (OkS vars d (l.take j)) ∧ Hid (Below w.heap.size w wr)) (fun i _ => l.length - (intOf i).toNat)
    case atStart => exact ⟨0, Nat.zero_le _, rfl, Lib.hid (by rw [List.take_zero]; exact OkS_nil _ _), Lib.hid (Below.refl _ _)⟩
    case round =>
      obtain ⟨j, hj, rfl, HJo, HW⟩ := hrel
      by_cases hlt : j < l.length
      · obtain ⟨d', hd, b, off, A1, c1, A2, c2, A3, c3, rfl, hb, e0, e1, e2, e3, e4, r1, r2, r3, bc, bt, be⟩ := RdSh.at_ HA.out hlt
        have HS0 : Hid ((1 ≤ l[j].kind ∧ l[j].kind ≤ 3) → (l[j].kind = 1 → ∀ s ∈ l[j].code, SOk vars s) → (l[j].kind ≠ 1 → 0 ≤ l[j].test ∧ l[j].test < vars) → OkS vars d' l[j].thn → OkS vars d' l[j].els → OkS vars d (l.take (j + 1))) := Lib.hid (fun a1 a2 a3 a4 a5 => by
          have := HJo.out
          rw [hd] at this ⊢
          exact OkS_take hlt this ⟨a1, a2, a3, a4, a5⟩)
        have hdn : d' < n := by omega
        rw [← HW.out.cell hb] at e0 e1 e2 e3 e4
        have hbl : b < wr.heap.size := by have := HW.out.size; omega
        have R1 := Lib.hid (Rd.below r1 HW.out)
        have R2 := Lib.hid r2
        have R3 := Lib.hid r3
        have q3 : ((j : Nat) : Int) < ((l.length : Nat) : Int) := by omega
        clear hd r1 r2 r3 HJo
        generalize l[j] = x at *
        obtain ⟨kind, test, code, thn, els⟩ := x
        dsimp only [Shp.kind, Shp.test, Shp.code, Shp.thn, Shp.els] at *
        have HT1 := Lib.hid (heap_alloc_new wr (.cells #[.int .i64 kind, .int .i64 test, .slice A1 code.length c1, .slice A2 thn.length c2, .slice A3 els.length c3] 59))
        have HW1 := Lib.hid (HW.out.alloc HW.out.size (.cells #[.int .i64 kind, .int .i64 test, .slice A1 code.length c1, .slice A2 thn.length c2, .slice A3 els.length c3] 59))
        have R11 := Lib.hid (show RdSt (wr.alloc (.cells #[.int .i64 kind, .int .i64 test, .slice A1 code.length c1, .slice A2 thn.length c2, .slice A3 els.length c3] 59)) A1 code from Rd.below R1.out ((Below.refl _ _).alloc (Nat.le_refl _) _))
        by_cases hk0 : kind < 1
        · have p1 : decide (kind < 1) = true := decide_eq_true hk0
          go_wp2
          go_ret
          exact ⟨HW1.out, 6, rfl, fun h => by omega⟩
        by_cases hk3 : 3 < kind
        · have p1 : decide (kind < 1) = false := decide_eq_false hk0
          have p2 : decide (3 < kind) = true := decide_eq_true hk3
          clear hk0
          go_wp2
          go_ret
          exact ⟨HW1.out, 6, rfl, fun h => by omega⟩
        have p1 : decide (kind < 1) = false := decide_eq_false hk0
        have p2 : decide (3 < kind) = false := decide_eq_false hk3
        have hk13 : Hid (1 ≤ kind ∧ kind ≤ 3) := Lib.hid ⟨by omega, by omega⟩
        clear hk0 hk3
        by_cases hk1 : kind = 1
        · subst hk1
          have HCk : Hid (Calls Try.prog 41 #[.int .i64 vars, .slice (some ⟨wr.heap.size + 1, 0, none⟩) 1 1] ((wr.alloc (.cells #[.int .i64 1, .int .i64 test, .slice A1 code.length c1, .slice A2 thn.length c2, .slice A3 els.length c3] 59)).alloc (.cells #[.slice A1 code.length c1, .int .i64 (-1), .int .i64 (-1), .int .i64 0] 85)) fun e w' => e = .returned (.int .i64 (pkErr vars [⟨code, -1, -1, 0⟩])) ∧ Below ((wr.alloc (.cells #[.int .i64 1, .int .i64 test, .slice A1 code.length c1, .slice A2 thn.length c2, .slice A3 els.length c3] 59)).alloc (.cells #[.slice A1 code.length c1, .int .i64 (-1), .int .i64 (-1), .int .i64 0] 85)).heap.size ((wr.alloc (.cells #[.int .i64 1, .int .i64 test, .slice A1 code.length c1, .slice A2 thn.length c2, .slice A3 els.length c3] 59)).alloc (.cells #[.slice A1 code.length c1, .int .i64 (-1), .int .i64 (-1), .int .i64 0] 85)) w') := Lib.hid (blkCheck_calls vars (some ⟨wr.heap.size + 1, 0, none⟩) [⟨code, -1, -1, 0⟩] 1 _ (rdBk_1 c1 (wr.heap.size + 1) (by simp) R11.out) (by unfold maxLen; simp) (small_one (by omega)))
          have HWb := Lib.hid (HW1.out.alloc HW1.out.size (.cells #[.slice A1 code.length c1, .int .i64 (-1), .int .i64 (-1), .int .i64 0] 85))
          have HTb := Lib.hid ((Below.heap_alloc _ (.cells #[.slice A1 code.length c1, .int .i64 (-1), .int .i64 (-1), .int .i64 0] 85) _ (lt_h HT1.out)).trans HT1.out)
          go_wp2_with fail
          (with_reducible refine HCk.out.mono ?_)
          rintro e w5 ⟨rfl, hb5⟩
          have HW5 := Lib.hid (HWb.out.trans (hb5.mono HWb.out.size))
          have HT5 := Lib.hid ((hb5.block wr.heap.size (lt_h HTb.out)).trans HTb.out)
          have hc0 : pkErr vars [⟨code, -1, -1, 0⟩] = 0 → ∀ s ∈ code, SOk vars s := fun h s hs => ((pok_of h).bs _ (List.mem_singleton.2 rfl)).code s hs
          have Hc0 := Lib.hid hc0
          generalize pkErr vars [⟨code, -1, -1, 0⟩] = x at *
          clear hb5 HCk hc0 HWb HTb HW1 HT1 R11 R1 e0 e1 e2 e3 e4 HW
          by_cases h0 : x = 0
          · subst h0
            have HS : Hid (OkS vars d' thn → OkS vars d' els → OkS vars d (l.take (j + 1))) := Lib.hid (HS0.out hk13.out (fun _ => Hc0.out rfl) (fun h => absurd rfl h))
            have f3 : w5.cell? ⟨wr.heap.size, 3, none⟩ = some (.slice A2 thn.length c2) := cell_h HT5.out 3
            have f4 : w5.cell? ⟨wr.heap.size, 4, none⟩ = some (.slice A3 els.length c3) := cell_h HT5.out 4
            have hTl := lt_h HT5.out
            have HZ1 := Lib.hid (heap_alloc_new w5 (.cells #[.slice A2 thn.length c2, .slice A3 els.length c3] 57))
            have HW2 := Lib.hid (HW5.out.alloc HW5.out.size (.cells #[.slice A2 thn.length c2, .slice A3 els.length c3] 57))
            go_wp2_with fail
            obtain ⟨Z, hZ⟩ : ∃ Z, Z = w5.heap.size := ⟨_, rfl⟩
            rw [← hZ] at HZ1 ⊢
            clear hZ f3 f4 hTl HW5 HT5 HS0
            go_loopw [55] (fun i wr => ∃ i' : Nat, i' ≤ 2 ∧ i = .int .i64 (i' : Nat) ∧ Hid (if i' = 0 then True else if i' = 1 then OkS vars d' thn else (OkS vars d' thn ∧ OkS vars d' els)) ∧ Hid (Below w.heap.size w wr) ∧ Hid (wr.heap[Z]? = some (.cells #[.slice A2 thn.length c2, .slice A3 els.length c3] 57 (0, 0)))) (fun i _ => 2 - (intOf i).toNat)
            case atStart => exact ⟨0, by omega, rfl, Lib.hid trivial, HW2, HZ1⟩
            case round =>
              clear HW2 HZ1
              obtain ⟨i', hi, rfl, HJ, HW, HZ⟩ := hrel
              have hi3 : i' = 0 ∨ i' = 1 ∨ i' = 2 := by omega
              rcases hi3 with rfl | rfl | rfl
              · have z0 : wr.cell? ⟨Z, 0, none⟩ = some (.slice A2 thn.length c2) := cell_h HZ.out 0
                have hZl := lt_h HZ.out
                have HC := Lib.hid (IH.out d' (by omega) A2 thn c2 wr (RdSh.below HW.out R2.out) bt)
                go_wp2_with fail
                (with_reducible refine HC.out.mono ?_)
                rintro e w9 ⟨hb9, x, rfl, hx⟩
                have HW9 := Lib.hid (HW.out.trans (hb9.mono HW.out.size))
                have HZ9 := Lib.hid ((hb9.block Z hZl).trans HZ.out)
                have Hx := Lib.hid hx
                clear hb9 HC HW HZ hx
                by_cases h0 : x = 0
                · subst h0
                  have HJ2 : Hid (OkS vars d' thn) := Lib.hid (Hx.out rfl)
                  go_wp2_with fail
                  go_roundw
                  case rel => exact ⟨1, by omega, by go_num, Lib.hid (by simpa using HJ2.out), HW9, HZ9⟩
                  case measure => simp [intOf]
                · have q7 : (x != 0) = true := by rw [bne_iff_ne]; exact h0
                  have h00 := Lib.hid h0
                  clear h0
                  go_wp2_with fail
                  go_ret
                  exact ⟨HW9.out, x, rfl, fun h => absurd h h00.out⟩
              · have z1 : wr.cell? ⟨Z, 1, none⟩ = some (.slice A3 els.length c3) := cell_h HZ.out 1
                have hZl := lt_h HZ.out
                have HC := Lib.hid (IH.out d' (by omega) A3 els c3 wr (RdSh.below HW.out R3.out) be)
                go_wp2_with fail
                (with_reducible refine HC.out.mono ?_)
                rintro e w9 ⟨hb9, x, rfl, hx⟩
                have HW9 := Lib.hid (HW.out.trans (hb9.mono HW.out.size))
                have HZ9 := Lib.hid ((hb9.block Z hZl).trans HZ.out)
                have Hx := Lib.hid hx
                clear hb9 HC HW HZ hx
                by_cases h0 : x = 0
                · subst h0
                  have HJ2 : Hid (OkS vars d' thn ∧ OkS vars d' els) := Lib.hid (⟨by simpa using HJ.out, Hx.out rfl⟩)
                  go_wp2_with fail
                  go_roundw
                  case rel => exact ⟨2, by omega, by go_num, Lib.hid (by simpa using HJ2.out), HW9, HZ9⟩
                  case measure => simp [intOf]
                · have q7 : (x != 0) = true := by rw [bne_iff_ne]; exact h0
                  have h00 := Lib.hid h0
                  clear h0
                  go_wp2_with fail
                  go_ret
                  exact ⟨HW9.out, x, rfl, fun h => absurd h h00.out⟩
              · have HN : Hid (OkS vars d (l.take (j + 1))) := Lib.hid (by
                  have := HJ.out
                  simp at this
                  exact HS.out this.1 this.2)
                go_wp2
                go_roundw
                case rel => exact ⟨j + 1, by omega, by go_num, HN, HW⟩
                case measure => simp [intOf]; omega
          · have q7 : (x != 0) = true := by rw [bne_iff_ne]; exact h0
            have h00 := Lib.hid h0
            clear h0
            go_wp2_with fail
            go_ret
            exact ⟨HW5.out, x, rfl, fun h => absurd h h00.out⟩
        · have p3 : (kind == 1) = false := by rw [beq_eq_false_iff_ne]; exact hk1
          by_cases ht0 : test < 0
          · have p4 : decide (test < 0) = true := decide_eq_true ht0
            clear ht0 hk1
            go_wp2
            go_ret
            exact ⟨HW1.out, 2, rfl, fun h => by omega⟩
          have p4 : decide (test < 0) = false := decide_eq_false ht0
          by_cases htv : vars ≤ test
          · have p5 : decide (vars ≤ test) = true := decide_eq_true htv
            clear ht0 htv hk1
            go_wp2
            go_ret
            exact ⟨HW1.out, 2, rfl, fun h => by omega⟩
          have p5 : decide (vars ≤ test) = false := decide_eq_false htv
          have HS : Hid (OkS vars d' thn → OkS vars d' els → OkS vars d (l.take (j + 1))) := Lib.hid (HS0.out hk13.out (fun h => absurd h hk1) (fun _ => ⟨by omega, by omega⟩))
          have HZ1 := Lib.hid (heap_alloc_new (wr.alloc (.cells #[.int .i64 kind, .int .i64 test, .slice A1 code.length c1, .slice A2 thn.length c2, .slice A3 els.length c3] 59)) (.cells #[.slice A2 thn.length c2, .slice A3 els.length c3] 57))
          have hszz : (wr.alloc (.cells #[.int .i64 kind, .int .i64 test, .slice A1 code.length c1, .slice A2 thn.length c2, .slice A3 els.length c3] 59)).heap.size = wr.heap.size + 1 := by simp
          rw [hszz] at HZ1
          have HW2 := Lib.hid (HW1.out.alloc HW1.out.size (.cells #[.slice A2 thn.length c2, .slice A3 els.length c3] 57))
          clear hszz ht0 htv hk1 hk13
          go_wp2
          obtain ⟨Z, hZ⟩ : ∃ Z, Z = wr.heap.size + 1 := ⟨_, rfl⟩
          rw [← hZ] at HZ1 ⊢
          clear hZ e0 e1 e2 e3 e4 HW HW1 HS0 HT1 R1 R11
          go_loopw [55] (fun i wr => ∃ i' : Nat, i' ≤ 2 ∧ i = .int .i64 (i' : Nat) ∧ Hid (if i' = 0 then True else if i' = 1 then OkS vars d' thn else (OkS vars d' thn ∧ OkS vars d' els)) ∧ Hid (Below w.heap.size w wr) ∧ Hid (wr.heap[Z]? = some (.cells #[.slice A2 thn.length c2, .slice A3 els.length c3] 57 (0, 0)))) (fun i _ => 2 - (intOf i).toNat)
          case atStart => exact ⟨0, by omega, rfl, Lib.hid trivial, HW2, HZ1⟩
          case round =>
            clear HW2 HZ1
            obtain ⟨i', hi, rfl, HJ, HW, HZ⟩ := hrel
            have hi3 : i' = 0 ∨ i' = 1 ∨ i' = 2 := by omega
            rcases hi3 with rfl | rfl | rfl
            · have z0 : wr.cell? ⟨Z, 0, none⟩ = some (.slice A2 thn.length c2) := cell_h HZ.out 0
              have hZl := lt_h HZ.out
              have HC := Lib.hid (IH.out d' (by omega) A2 thn c2 wr (RdSh.below HW.out R2.out) bt)
              go_wp2_with fail
              (with_reducible refine HC.out.mono ?_)
              rintro e w9 ⟨hb9, x, rfl, hx⟩
              have HW9 := Lib.hid (HW.out.trans (hb9.mono HW.out.size))
              have HZ9 := Lib.hid ((hb9.block Z hZl).trans HZ.out)
              have Hx := Lib.hid hx
              clear hb9 HC HW HZ hx
              by_cases h0 : x = 0
              · subst h0
                have HJ2 : Hid (OkS vars d' thn) := Lib.hid (Hx.out rfl)
                go_wp2_with fail
                go_roundw
                case rel => exact ⟨1, by omega, by go_num, Lib.hid (by simpa using HJ2.out), HW9, HZ9⟩
                case measure => simp [intOf]
              · have q7 : (x != 0) = true := by rw [bne_iff_ne]; exact h0
                have h00 := Lib.hid h0
                clear h0
                go_wp2_with fail
                go_ret
                exact ⟨HW9.out, x, rfl, fun h => absurd h h00.out⟩
            · have z1 : wr.cell? ⟨Z, 1, none⟩ = some (.slice A3 els.length c3) := cell_h HZ.out 1
              have hZl := lt_h HZ.out
              have HC := Lib.hid (IH.out d' (by omega) A3 els c3 wr (RdSh.below HW.out R3.out) be)
              go_wp2_with fail
              (with_reducible refine HC.out.mono ?_)
              rintro e w9 ⟨hb9, x, rfl, hx⟩
              have HW9 := Lib.hid (HW.out.trans (hb9.mono HW.out.size))
              have HZ9 := Lib.hid ((hb9.block Z hZl).trans HZ.out)
              have Hx := Lib.hid hx
              clear hb9 HC HW HZ hx
              by_cases h0 : x = 0
              · subst h0
                have HJ2 : Hid (OkS vars d' thn ∧ OkS vars d' els) := Lib.hid (⟨by simpa using HJ.out, Hx.out rfl⟩)
                go_wp2_with fail
                go_roundw
                case rel => exact ⟨2, by omega, by go_num, Lib.hid (by simpa using HJ2.out), HW9, HZ9⟩
                case measure => simp [intOf]
              · have q7 : (x != 0) = true := by rw [bne_iff_ne]; exact h0
                have h00 := Lib.hid h0
                clear h0
                go_wp2_with fail
                go_ret
                exact ⟨HW9.out, x, rfl, fun h => absurd h h00.out⟩
            · have HN : Hid (OkS vars d (l.take (j + 1))) := Lib.hid (by
                have := HJ.out
                simp at this
                exact HS.out this.1 this.2)
              go_wp2
              go_roundw
              case rel => exact ⟨j + 1, by omega, by go_num, HN, HW⟩
              case measure => simp [intOf]; omega
      · have hje : j = l.length := by omega
        subst hje
        have HN : Hid (OkS vars d l) := Lib.hid (by have := HJo.out; rwa [List.take_length] at this)
        clear hlt HJo
        go_wp2
        go_ret
        exact ⟨HW.out, 0, rfl, fun _ => HN.out⟩
def CheckE (vars : Int) (d : Nat) (l : List Shp) (w : World) (e : Ending) (w' : World) : Prop := Below w.heap.size w w' ∧ ∃ x : Int, e = .returned (.int .i64 x) ∧ (x = 0 → 1 ≤ vars ∧ vars ≤ 6 ∧ stepsL d l ≤ 20 ∧ OkS vars d l ∧ cntL d l ≤ 8)
set_option maxHeartbeats 8000000 in
theorem shpCheck_calls (vars : Int) (d : Nat) (A : Option Addr) (l : List Shp) (cap : Nat) (w : World) (hA : RdSh w d A l) (hl : l.length ≤ 2199023255552) :
    Calls Try.prog 77 #[.int .i64 vars, .slice A l.length cap] w (CheckE vars d l w) := by
  have HS := Lib.hid (size_calls (d + 1) d 1 (Nat.lt_succ_self d) (Nat.le_refl 1) (by decide) A l cap w hA hl)
  rw [show ((1 : Nat) : Int) = 1 from rfl] at HS
  have HA := Lib.hid hA
  clear hA
  go_enter Try.func77, Try.ntmps77
  go_wp2_with fail
  (with_reducible refine HS.out.mono ?_)
  rintro e w1 ⟨hb1, m, s, t, rfl, -, -, -, -, -, hst⟩
  have HW := Lib.hid hb1
  have Hst := Lib.hid hst
  have HC := Lib.hid (shapes_calls vars (d + 1) d (Nat.lt_succ_self d) A l cap w1 (RdSh.below hb1 HA.out) hl)
  clear hb1 hst HS
  by_cases h : vars < 1 ∨ 6 < vars ∨ 8 < m ∨ 20 < s ∨ 5 < t
  · have key : ∀ c1 c2 c3 c4 c5 : Bool, decide (vars < 1) = c1 → decide (6 < vars) = c2 → decide ((8 : Int) < (m : Int)) = c3 → decide ((20 : Int) < (s : Int)) = c4 → decide ((5 : Int) < (t : Int)) = c5 → (c1 || c2 || c3 || c4 || c5) = true := by
      intro c1 c2 c3 c4 c5 h1 h2 h3 h4 h5
      subst h1 h2 h3 h4 h5
      simp only [Bool.or_eq_true, decide_eq_true_eq]
      omega
    clear h
    generalize hc1 : decide (vars < 1) = x1 at *
    generalize hc2 : decide (6 < vars) = x2 at *
    generalize hc3 : decide ((8 : Int) < (m : Int)) = x3 at *
    generalize hc4 : decide ((20 : Int) < (s : Int)) = x4 at *
    generalize hc5 : decide ((5 : Int) < (t : Int)) = x5 at *
    have hor := key x1 x2 x3 x4 x5 rfl rfl rfl rfl rfl
    clear key
    rcases x1 with _ | _ <;> rcases x2 with _ | _ <;> rcases x3 with _ | _ <;> rcases x4 with _ | _ <;> rcases x5 with _ | _ <;> first | (cases hor; done) | (go_wp2_with fail; go_ret; exact ⟨HW.out, 1, rfl, fun h => by omega⟩)
  · have c1 : decide (vars < 1) = false := decide_eq_false (by omega)
    have c2 : decide (6 < vars) = false := decide_eq_false (by omega)
    have c3 : decide ((8 : Int) < (m : Int)) = false := decide_eq_false (by omega)
    have c4 : decide ((20 : Int) < (s : Int)) = false := decide_eq_false (by omega)
    have c5 : decide ((5 : Int) < (t : Int)) = false := decide_eq_false (by omega)
    have Hn : Hid (1 ≤ vars ∧ vars ≤ 6 ∧ stepsL d l ≤ 20 ∧ cntL d l ≤ 8) := Lib.hid ⟨by omega, by omega, by have := Hst.out (by omega) (by omega); omega, by have := Hst.out (by omega) (by omega); omega⟩
    clear h
    go_wp2_with fail
    (with_reducible refine HC.out.mono ?_)
    rintro e w2 ⟨hb2, x, rfl, hx⟩
    have HW2 := Lib.hid (HW.out.trans (hb2.mono HW.out.size))
    have Hx := Lib.hid hx
    clear hb2 hx
    go_wp2_with fail
    go_ret
    exact ⟨HW2.out, x, rfl, fun h => ⟨Hn.out.1, Hn.out.2.1, Hn.out.2.2.1, Hx.out h, Hn.out.2.2.2⟩⟩
end Go.Proofs.Ytmgejacndhnikaa
