/- known.behind walked (written by knbeh.py). -/
import Derived.Test.YtmgejacndhnikaaKnA
import Derived.Test.YtmgejacndhnikaaTurnG
import Derived.Deep.RegionHeld3
namespace Go.Proofs.Ytmgejacndhnikaa
open Go.RowKit
theorem Bel1.of_below {g : Nat} {w w' : World} (h : Below w.heap.size w w') : Bel1 g w w' := ⟨h.os, h.tape, h.output, h.size, fun k hk _ => h.block k hk⟩
theorem kn1_bd {vars : Int} {a : List Int} {s : Step} (ha : ∀ x ∈ a, -1 ≤ x ∧ x ≤ 255) (hs : SOk vars s) : ∀ x ∈ kn1 a s, -1 ≤ x ∧ x ≤ 255 := by
  obtain ⟨o1, o6, on, ov, _, _⟩ := hs
  intro x hx
  unfold kn1 at hx
  rcases List.mem_or_eq_of_mem_set hx with h | h
  · exact ha x h
  · subst h
    unfold mkK
    split
    · rename_i h1; have := on h1; omega
    · split
      · exact getK_bd ha _
      · split
        · omega
        · split
          · omega
          · have := doF_bd s.op (a.getD s.a.toNat 0) (a.getD s.b.toNat 0); omega
theorem knR_bd {vars : Int} {c : List Step} (hs : ∀ s ∈ c, SOk vars s) : ∀ {a : List Int}, (∀ x ∈ a, -1 ≤ x ∧ x ≤ 255) → ∀ x ∈ knR a c, -1 ≤ x ∧ x ≤ 255 := by
  induction c with
  | nil => intro a ha; exact ha
  | cons s c ih => intro a ha; exact ih (fun t ht => hs t (by simp [ht])) (kn1_bd ha (hs s (by simp)))
/-- What known.behind gives: the values behind the steps, and where one may go. -/
def BehEnd (b : Blk) (v : List Int) (w : World) (e : Ending) (w' : World) : Prop :=
  Below w.heap.size w w' ∧ ∃ x y, e = .returned (.tuple #[x, y]) ∧ OwnI w' w.heap.size 3 x (knR v b.code) ∧ OwnI w' w.heap.size 3 y (goK b (knR v b.code))

set_option maxRecDepth 100000 in
set_option maxHeartbeats 8000000 in
theorem behind_calls (vars : Int) (b : Blk) (A B : Option Addr) (v : List Int) (cap capB : Nat) (w : World) (hA : RdSt w A b.code) (hB : RdI w B v) (hl : (v.length : Int) = vars) (h1 : 1 ≤ v.length) (h8 : v.length ≤ 8) (hc : b.code.length ≤ 1000000) (hs : ∀ s ∈ b.code, SOk vars s) (hv : ∀ x ∈ v, -1 ≤ x ∧ x ≤ 255) (ht : b.test < vars) :
    Calls Try.prog 88 #[.agg #[.slice A b.code.length cap, .int .i64 b.test, .int .i64 b.thn, .int .i64 b.els], .slice B v.length capB] w (BehEnd b v w) := by
  subst hl
  obtain ⟨code, test, thn, els⟩ := b
  dsimp only at hA hc hs ht ⊢
  have HA := Lib.hid hA
  have HB := Lib.hid hB
  have HS := Lib.hid hs
  have Hv := Lib.hid hv
  have Hwa := Lib.hid ((Below.refl w.heap.size w).alloc (Nat.le_refl _) (.cells #[.slice A code.length cap, .int .i64 test, .int .i64 thn, .int .i64 els] 85))
  have HTa := Lib.hid (heap_alloc_new w (.cells #[.slice A code.length cap, .int .i64 test, .int .i64 thn, .int .i64 els] 85))
  have hza : (w.alloc (.cells #[.slice A code.length cap, .int .i64 test, .int .i64 thn, .int .i64 els] 85)).heap.size = w.heap.size + 1 := by simp
  clear hA hB hs hv
  go_enter Try.func88, Try.ntmps88
  go_wp2_with (go_at_call 59; refine (cloneI_calls B v capB _ (Rd.below HB.out Hwa.out) h1 (by omega)).mono ?_; rintro e w2 ⟨u, rfl, hO, hW⟩
               obtain ⟨g, vc, rfl, hgb, hgl, -⟩ := OwnI.at_ hO (by omega)
               have HO2 := Lib.hid (Own.base_ hO (show w.heap.size ≤ _ by simp))
               have HW2 := Lib.hid (Hwa.out.trans (hW.mono (by simp)))
               have hz2 : w.heap.size < w2.heap.size := by have := hW.size; omega
               have HT2 := Lib.hid ((hW.block _ (by simp)).trans HTa.out)
               have p0 := cell_h HT2.out 0
               have p1 := cell_h HT2.out 1
               have p2 := cell_h HT2.out 2
               have p3 := cell_h HT2.out 3
               have hgw : w.heap.size < g := by omega
               clear hO hW)
  go_loopw [13] (fun i wr => ∃ (k : Nat) (r : List Int), k ≤ code.length ∧ i = .int .i64 k ∧ OwnI wr w.heap.size 3 (.slice (some ⟨g, 0, none⟩) v.length vc) r ∧ Hid (r = knR v (code.take k) ∧ r.length = v.length ∧ ∀ x ∈ r, -1 ≤ x ∧ x ≤ 255) ∧ Bel1 g w2 wr) (fun i _ => code.length - (intOf i).toNat)
  case atStart => exact ⟨0, _, Nat.zero_le _, rfl, HO2.out, Lib.hid ⟨rfl, rfl, Hv.out⟩, Bel1.refl _ _⟩
  case round =>
    clear HO2 Hv Hwa HTa hza
    obtain ⟨k, r, hk, rfl, hO, hE, hB⟩ := hrel
    have hws := hB.size
    have HO := Lib.hid hO
    have HB' := Lib.hid hB
    have HW := Lib.hid (HW2.out.trans (hB.below (B := w.heap.size) (by omega) (by omega)))
    have HTr := Lib.hid ((hB.block _ (by omega) (by omega)).trans HT2.out)
    have p0 := cell_h HTr.out 0
    have p1 := cell_h HTr.out 1
    have p2 := cell_h HTr.out 2
    have p3 := cell_h HTr.out 3
    by_cases hlt : k < code.length
    · obtain ⟨b, off, rfl, hb, k0, k1, k2, k3, k4⟩ := RdSt.at5 (Rd.below HA.out HW.out) hlt
      have q1 : ((k : Nat) : Int) < ((code.length : Nat) : Int) := by omega
      have hok := HS.out code[k] (List.getElem_mem hlt)
      have hst : kn1 r code[k] = knR v (code.take (k + 1)) ∧ (kn1 r code[k]).length = v.length ∧ ∀ x ∈ kn1 r code[k], -1 ≤ x ∧ x ≤ 255 := by
        refine ⟨?_, by rw [kn1_len]; exact hE.out.2.1, kn1_bd hE.out.2.2 hok⟩
        rw [List.take_succ_eq_append_getElem hlt, knR_append, ← hE.out.1]; rfl
      have Hst := Lib.hid hst
      have Hok := Lib.hid hok
      have hrl := hE.out.2.1
      have Hbd := Lib.hid hE.out.2.2
      obtain ⟨-, -, -, -, ⟨t0, t1⟩, -⟩ := hok
      clear hst hE p0 p1 p2 p3
      generalize code[k] = s at *
      obtain ⟨op, sto, sa, sb, sv⟩ := s
      dsimp only at t0 t1 k0 k1 k2 k3 k4
      obtain ⟨d, rfl⟩ := Int.eq_ofNat_of_zero_le t0
      have hd : d < v.length := by omega
      have qd : ((d : Nat) : Int) < ((v.length : Nat) : Int) := t1
      have hdr : d < r.length := by omega
      obtain ⟨g', eg, -, hgr, -, hfz, hcell⟩ := OwnI.at2 hO (by omega)
      injection eg with eg; injection eg with eg
      subst eg
      have e1 : kn1 r ⟨op, (d : Nat), sa, sb, sv⟩ = r.set d (mkK r ⟨op, (d : Nat), sa, sb, sv⟩) := by unfold kn1; dsimp only; rw [Int.toNat_natCast]
      rw [e1] at Hst
      have HO0 := Lib.hid ((HO.out.alloc (.cells #[.int .i64 op, .int .i64 (d : Nat), .int .i64 sa, .int .i64 sb, .int .i64 sv] 87)).drew)
      have HB0 := Lib.hid ((HB'.out.alloc (.cells #[.int .i64 op, .int .i64 (d : Nat), .int .i64 sa, .int .i64 sb, .int .i64 sv] 87)).drew)
      have HT0 : Hid (wr.heap.size < (wr.alloc (.cells #[.int .i64 op, .int .i64 (d : Nat), .int .i64 sa, .int .i64 sb, .int .i64 sv] 87)).drew.heap.size) := Lib.hid (by show wr.heap.size < (wr.alloc (.cells #[.int .i64 op, .int .i64 (d : Nat), .int .i64 sa, .int .i64 sb, .int .i64 sv] 87)).heap.size; simp)
      have Hcl : Hid (Calls Try.prog 90 #[(⟨op, (d : Nat), sa, sb, sv⟩ : Step).agg, .slice (some ⟨g, 0, none⟩) r.length vc] (wr.alloc (.cells #[.int .i64 op, .int .i64 (d : Nat), .int .i64 sa, .int .i64 sb, .int .i64 sv] 87)).drew _) := Lib.hid (makes_calls v.length ⟨op, (d : Nat), sa, sb, sv⟩ (some ⟨g, 0, none⟩) r vc (wr.alloc (.cells #[.int .i64 op, .int .i64 (d : Nat), .int .i64 sa, .int .i64 sb, .int .i64 sv] 87)).drew (by obtain ⟨A9, c9, e9, h9⟩ := OwnI.rd HO0.out; injection e9 with e9; subst e9; exact h9) (by omega) Hok.out Hbd.out)
      have HSs : Hid (∀ (w' : World) (u : Value), (w'.cell? ⟨wr.heap.size, 0, none⟩ = some (.int .i64 op) ∧ w'.cell? ⟨wr.heap.size, 1, none⟩ = some (.int .i64 (d : Nat)) ∧ w'.cell? ⟨wr.heap.size, 2, none⟩ = some (.int .i64 sa) ∧ w'.cell? ⟨wr.heap.size, 3, none⟩ = some (.int .i64 sb) ∧ w'.cell? ⟨wr.heap.size, 4, none⟩ = some (.int .i64 sv)) → ((w'.setCell ⟨g, d, none⟩ u).cell? ⟨wr.heap.size, 0, none⟩ = some (.int .i64 op) ∧ (w'.setCell ⟨g, d, none⟩ u).cell? ⟨wr.heap.size, 1, none⟩ = some (.int .i64 (d : Nat)) ∧ (w'.setCell ⟨g, d, none⟩ u).cell? ⟨wr.heap.size, 2, none⟩ = some (.int .i64 sa) ∧ (w'.setCell ⟨g, d, none⟩ u).cell? ⟨wr.heap.size, 3, none⟩ = some (.int .i64 sb) ∧ (w'.setCell ⟨g, d, none⟩ u).cell? ⟨wr.heap.size, 4, none⟩ = some (.int .i64 sv))) := Lib.hid fun w' u h => by
        obtain ⟨p0, p1, p2, p3, p4⟩ := h
        exact ⟨(World.cell?_setCell_far _ _ _ _ (by show g ≠ wr.heap.size; omega)).trans p0, (World.cell?_setCell_far _ _ _ _ (by show g ≠ wr.heap.size; omega)).trans p1, (World.cell?_setCell_far _ _ _ _ (by show g ≠ wr.heap.size; omega)).trans p2, (World.cell?_setCell_far _ _ _ _ (by show g ≠ wr.heap.size; omega)).trans p3, (World.cell?_setCell_far _ _ _ _ (by show g ≠ wr.heap.size; omega)).trans p4⟩
      have hS0 : (wr.alloc (.cells #[.int .i64 op, .int .i64 (d : Nat), .int .i64 sa, .int .i64 sb, .int .i64 sv] 87)).drew.cell? ⟨wr.heap.size, 0, none⟩ = some (.int .i64 op) ∧ (wr.alloc (.cells #[.int .i64 op, .int .i64 (d : Nat), .int .i64 sa, .int .i64 sb, .int .i64 sv] 87)).drew.cell? ⟨wr.heap.size, 1, none⟩ = some (.int .i64 (d : Nat)) ∧ (wr.alloc (.cells #[.int .i64 op, .int .i64 (d : Nat), .int .i64 sa, .int .i64 sb, .int .i64 sv] 87)).drew.cell? ⟨wr.heap.size, 2, none⟩ = some (.int .i64 sa) ∧ (wr.alloc (.cells #[.int .i64 op, .int .i64 (d : Nat), .int .i64 sa, .int .i64 sb, .int .i64 sv] 87)).drew.cell? ⟨wr.heap.size, 3, none⟩ = some (.int .i64 sb) ∧ (wr.alloc (.cells #[.int .i64 op, .int .i64 (d : Nat), .int .i64 sa, .int .i64 sb, .int .i64 sv] 87)).drew.cell? ⟨wr.heap.size, 4, none⟩ = some (.int .i64 sv) := ⟨cell_new wr _ _ wr.heap.size rfl 0, cell_new wr _ _ wr.heap.size rfl 1, cell_new wr _ _ wr.heap.size rfl 2, cell_new wr _ _ wr.heap.size rfl 3, cell_new wr _ _ wr.heap.size rfl 4⟩
      rw [hrl] at Hcl
      unfold Step.agg at Hcl
      dsimp only at Hcl
      clear e1 hfz hcell hO hB Hok Hbd HO HB' HTr
      generalize mkK r ⟨op, (d : Nat), sa, sb, sv⟩ = z at *
      go_wp2
      refine wp_region_held_drew (S := fun w' => w'.cell? ⟨wr.heap.size, 0, none⟩ = some (.int .i64 op) ∧ w'.cell? ⟨wr.heap.size, 1, none⟩ = some (.int .i64 (d : Nat)) ∧ w'.cell? ⟨wr.heap.size, 2, none⟩ = some (.int .i64 sa) ∧ w'.cell? ⟨wr.heap.size, 3, none⟩ = some (.int .i64 sb) ∧ w'.cell? ⟨wr.heap.size, 4, none⟩ = some (.int .i64 sv)) (by kernel_rfl) hS0 (fun hH0 => ?_)
      clear hS0
      generalize (wr.alloc (.cells #[.int .i64 op, .int .i64 (d : Nat), .int .i64 sa, .int .i64 sb, .int .i64 sv] 87)).drew = w0 at *
      refine wpAnyH_take (i := 0) (oi := { dst := some 17, op := Go.Op.move (Go.Operand.tmp 1), type := 23, pos := "known.go:51", after := #[], guard := none }) rfl (by kernel_rfl) (by kernel_rfl) (by kernel_rfl) (fun _ _ _ h => h) (Or.inl ⟨by rfl, fun w hw => by (go_simp; try with_reducible rfl)⟩) (by assumption) ?_
      try simp only [Act.put, List.setIfInBounds_toArray, List.set_cons_zero, List.set_cons_succ]
      refine wpAnyH_take (i := 1) (oi := { dst := some 18, op := Go.Op.fieldAddr 87 (Go.Operand.tmp 7) 1, type := 0, pos := "known.go:51", after := #[], guard := none }) rfl (by kernel_rfl) (by kernel_rfl) (by kernel_rfl) (fun _ _ _ h => h) (Or.inl ⟨by rfl, fun w hw => by (go_simp; try with_reducible rfl)⟩) (by assumption) ?_
      try simp only [Act.put, List.setIfInBounds_toArray, List.set_cons_zero, List.set_cons_succ]
      refine wpAnyH_take (i := 2) (oi := { dst := some 19, op := Go.Op.load 3 (Go.Operand.tmp 18), type := 3, pos := "known.go:51", after := #[{ on := 1, ground := Go.Ground.data }], guard := none }) rfl (by kernel_rfl) (by kernel_rfl) (by kernel_rfl) (fun _ _ _ h => h) (Or.inl ⟨by rfl, fun w hw => by (obtain ⟨p0, p1, p2, p3, p4⟩ := hw; go_simp; try with_reducible rfl)⟩) (by assumption) ?_
      try simp only [Act.put, List.setIfInBounds_toArray, List.set_cons_zero, List.set_cons_succ]
      refine wpAnyH_take (i := 3) (oi := { dst := some 20, op := Go.Op.load 87 (Go.Operand.tmp 7), type := 87, pos := "known.go:51", after := #[], guard := none }) rfl (by kernel_rfl) (by kernel_rfl) (by kernel_rfl) (fun _ _ _ h => h) (Or.inl ⟨by rfl, fun w hw => by (obtain ⟨p0, p1, p2, p3, p4⟩ := hw; go_simp; try with_reducible rfl)⟩) (by assumption) ?_
      try simp only [Act.put, List.setIfInBounds_toArray, List.set_cons_zero, List.set_cons_succ]
      refine wpAnyH_take (i := 4) (oi := { dst := some 21, op := Go.Op.move (Go.Operand.tmp 1), type := 23, pos := "known.go:51", after := #[], guard := none }) rfl (by kernel_rfl) (by kernel_rfl) (by kernel_rfl) (fun _ _ _ h => h) (Or.inl ⟨by rfl, fun w hw => by (go_simp; try with_reducible rfl)⟩) (by assumption) ?_
      try simp only [Act.put, List.setIfInBounds_toArray, List.set_cons_zero, List.set_cons_succ]
      refine wpAnyH_ready (rs := [5]) (by kernel_rfl) (by simp) ?_
      refine AllReadyH.cons (o := { dst := some 22, op := Go.Op.call { callee := Go.Callee.value (Go.Operand.func 90), args := #[Go.Operand.tmp 20, Go.Operand.tmp 21], argTypes := #[87, 23] }, type := 3, pos := "known.go:51", after := #[{ on := 3, ground := Go.Ground.data }, { on := 4, ground := Go.Ground.data }], guard := none }) rfl (fun K hK => ?_) AllReadyH.nil
      go_simp
      go_at_call 90
      refine Hcl.out.mono ?_
      rintro e w9 ⟨rfl, hW9⟩
      have hS9 : w9.cell? ⟨wr.heap.size, 0, none⟩ = some (.int .i64 op) ∧ w9.cell? ⟨wr.heap.size, 1, none⟩ = some (.int .i64 (d : Nat)) ∧ w9.cell? ⟨wr.heap.size, 2, none⟩ = some (.int .i64 sa) ∧ w9.cell? ⟨wr.heap.size, 3, none⟩ = some (.int .i64 sb) ∧ w9.cell? ⟨wr.heap.size, 4, none⟩ = some (.int .i64 sv) := by obtain ⟨p0, p1, p2, p3, p4⟩ := hH0; exact ⟨(hW9.cell (p := ⟨_, 0, none⟩) HT0.out).trans p0, (hW9.cell (p := ⟨_, 1, none⟩) HT0.out).trans p1, (hW9.cell (p := ⟨_, 2, none⟩) HT0.out).trans p2, (hW9.cell (p := ⟨_, 3, none⟩) HT0.out).trans p3, (hW9.cell (p := ⟨_, 4, none⟩) HT0.out).trans p4⟩
      have HO9 := Lib.hid (Own.below HO0.out hW9)
      have HB9 := Lib.hid (HB0.out.trans (Bel1.of_below hW9))
      obtain ⟨g9, eg9, _, hg9, _, hfz9, hcell9⟩ := OwnI.at2 HO9.out (by omega)
      injection eg9 with eg9; injection eg9 with eg9
      subst eg9
      have c9 := hcell9 d (by omega)
      have f9 := hfz9 d
      clear hcell9 hfz9 hW9
      refine hK.out _ _ hS9 (fun hH1 => ?_)
      clear hS9
      clear hK hH0
      have hH0 := hH1
      clear hH1
      try simp only [Act.put, List.setIfInBounds_toArray, List.set_cons_zero, List.set_cons_succ]
      refine wpAnyH_take (i := 6) (oi := { dst := some 23, op := Go.Op.indexAddr 23 (Go.Operand.tmp 17) (Go.Operand.tmp 19), type := 0, pos := "known.go:51", after := #[{ on := 0, ground := Go.Ground.data }, { on := 2, ground := Go.Ground.data }, { on := 0, ground := Go.Ground.phase }, { on := 1, ground := Go.Ground.phase }, { on := 2, ground := Go.Ground.phase }, { on := 3, ground := Go.Ground.phase }, { on := 4, ground := Go.Ground.phase }, { on := 5, ground := Go.Ground.phase }], guard := none }) rfl (by kernel_rfl) (by kernel_rfl) (by kernel_rfl) (fun _ _ _ h => h) (Or.inl ⟨by rfl, fun w hw => by (go_simp; try with_reducible rfl)⟩) (by assumption) ?_
      try simp only [Act.put, List.setIfInBounds_toArray, List.set_cons_zero, List.set_cons_succ]
      refine wpAnyH_ready (rs := [7]) (by kernel_rfl) (by simp) ?_
      refine AllReadyH.cons (o := { dst := none, op := Go.Op.store 3 (Go.Operand.tmp 23) (Go.Operand.tmp 22), type := 0, pos := "known.go:51", after := #[{ on := 6, ground := Go.Ground.data }, { on := 5, ground := Go.Ground.data }, { on := 5, ground := Go.Ground.chain }, { on := 0, ground := Go.Ground.phase }, { on := 1, ground := Go.Ground.phase }, { on := 2, ground := Go.Ground.phase }, { on := 3, ground := Go.Ground.phase }, { on := 4, ground := Go.Ground.phase }, { on := 5, ground := Go.Ground.phase }], guard := none }) rfl (fun K hK => ?_) AllReadyH.nil
      go_simp
      refine hK.out _ _ (HSs.out _ _ hH0) (fun hH1 => ?_)
      clear hK hH0 hH1
      try simp only [Act.put, List.setIfInBounds_toArray, List.set_cons_zero, List.set_cons_succ]
      refine wpAnyH_done (by kernel_rfl) ?_ _
      have HOf := Lib.hid (OwnI.set_ HO9.out (k := d) (by omega) z)
      have HBf := Lib.hid (HB9.out.set_ (p := ⟨g, d, none⟩) rfl (.int .i64 z))
      go_wp2
      go_roundw
      case rel => exact ⟨k + 1, _, by omega, by go_num, HOf.out, Hst, HBf.out⟩
      case measure => simp [intOf]; omega
    · have : k = code.length := by omega
      subst this
      obtain ⟨hf, hrl, hbd⟩ := hE.out
      rw [List.take_length] at hf
      subst hf
      have HF := Lib.hid hO
      obtain ⟨g', eg, -, hgr, -, hfz, hcell⟩ := OwnI.at2 hO (by omega)
      injection eg with eg; injection eg with eg
      subst eg
      have hwr : w.heap.size < wr.heap.size := by omega
      clear hO hB hbd hE HB' HS hfz HO
      have HG := Lib.hid (show goK ⟨code, test, thn, els⟩ (knR v code) = _ from by unfold goK; rfl)
      dsimp only at HG
      unfold BehEnd
      dsimp only
      by_cases ht0 : test < 0
      · by_cases hn0 : thn < 0
        · rw [if_pos ⟨ht0, hn0⟩] at HG
          clear hcell
          go_wp2
          go_ret2
          exact ⟨HW.out, .slice (some ⟨g, 0, none⟩) v.length vc, .slice none 0 0, rfl, HF.out, by dsimp only; rw [HG.out]; exact Own.nil_ _ _ _⟩
        · rw [if_neg (fun h => hn0 h.2), if_pos (.inl ht0)] at HG
          clear hcell
          go_wp2
          have HF0 := Lib.hid HF.out.drew
          have HW0 := Lib.hid (below_dN HW.out 1)
          have HW0 : Hid (Below w.heap.size w wr.drew) := HW0
          have HSb : Hid (∀ (w' : World) (o : Obj), (w'.cell? ⟨w.heap.size, 2, none⟩ = some (.int .i64 thn) ∧ w'.cell? ⟨w.heap.size, 3, none⟩ = some (.int .i64 els)) ∧ w.heap.size < w'.heap.size → ((w'.alloc o).cell? ⟨w.heap.size, 2, none⟩ = some (.int .i64 thn) ∧ (w'.alloc o).cell? ⟨w.heap.size, 3, none⟩ = some (.int .i64 els)) ∧ w.heap.size < (w'.alloc o).heap.size) := Lib.hid (fun w' o h => ⟨⟨(cellB_grown (World.grownBy_alloc w' o none) _ 2 h.2 (by simp)).trans h.1.1, (cellB_grown (World.grownBy_alloc w' o none) _ 3 h.2 (by simp)).trans h.1.2⟩, by have := h.2; simp; omega⟩)
          refine wp_region_held_drew (S := fun w' => (w'.cell? ⟨w.heap.size, 2, none⟩ = some (.int .i64 thn) ∧ w'.cell? ⟨w.heap.size, 3, none⟩ = some (.int .i64 els)) ∧ w.heap.size < w'.heap.size) (by kernel_rfl) ⟨⟨p2, p3⟩, hwr⟩ (fun hH0 => ?_)
          generalize wr.drew = w0 at *
          refine wpAnyH_take (i := 0) (oi := { dst := some 47, op := Go.Op.move (Go.Operand.tmp 1), type := 23, pos := "known.go:57", after := #[], guard := none }) rfl (by kernel_rfl) (by kernel_rfl) (by kernel_rfl) (fun _ _ _ h => h) (Or.inl ⟨by rfl, fun w hw => by (go_simp; try with_reducible rfl)⟩) (by assumption) ?_
          try simp only [Act.put, List.setIfInBounds_toArray, List.set_cons_zero, List.set_cons_succ]
          refine wpAnyH_take (i := 1) (oi := { dst := some 48, op := Go.Op.fieldAddr 85 (Go.Operand.tmp 2) 2, type := 0, pos := "known.go:57", after := #[{ on := 4, ground := Go.Ground.gcOnly Go.Departure.lateStores }], guard := none }) rfl (by kernel_rfl) (by kernel_rfl) (by kernel_rfl) (fun _ _ _ h => h) (Or.inl ⟨by rfl, fun w hw => by (go_simp; try with_reducible rfl)⟩) (by assumption) ?_
          try simp only [Act.put, List.setIfInBounds_toArray, List.set_cons_zero, List.set_cons_succ]
          refine wpAnyH_take (i := 2) (oi := { dst := some 49, op := Go.Op.load 3 (Go.Operand.tmp 48), type := 3, pos := "known.go:57", after := #[{ on := 1, ground := Go.Ground.data }, { on := 4, ground := Go.Ground.gcOnly Go.Departure.lateStores }], guard := none }) rfl (by kernel_rfl) (by kernel_rfl) (by kernel_rfl) (fun _ _ _ h => h) (Or.inl ⟨by rfl, fun w hw => by (obtain ⟨⟨p2, p3⟩, p4⟩ := hw; go_simp; try with_reducible rfl)⟩) (by assumption) ?_
          try simp only [Act.put, List.setIfInBounds_toArray, List.set_cons_zero, List.set_cons_succ]
          refine wpAnyH_take (i := 4) (oi := { dst := some 4, op := Go.Op.assign (Go.Operand.tmp 47), type := 23, pos := "known.go:57", after := #[{ on := 0, ground := Go.Ground.data }, { on := 0, ground := Go.Ground.phase }, { on := 1, ground := Go.Ground.textOnly Go.Departure.lateStores }, { on := 2, ground := Go.Ground.textOnly Go.Departure.lateStores }, { on := 3, ground := Go.Ground.textOnly Go.Departure.lateStores }], guard := none }) rfl (by kernel_rfl) (by kernel_rfl) (by kernel_rfl) (fun _ _ _ h => h) (Or.inl ⟨by rfl, fun w hw => by (go_simp; try with_reducible rfl)⟩) (by assumption) ?_
          try simp only [Act.put, List.setIfInBounds_toArray, List.set_cons_zero, List.set_cons_succ]
          refine wpAnyH_ready (rs := [3]) (by kernel_rfl) (by simp) ?_
          refine AllReadyH.cons (o := { dst := some 50, op := Go.Op.buildSlice 23 1 #[(0, Go.Operand.tmp 49)], type := 23, pos := "known.go:57", after := #[{ on := 2, ground := Go.Ground.data }, { on := 4, ground := Go.Ground.gcOnly Go.Departure.lateStores }], guard := none }) rfl (fun K hK => ?_) AllReadyH.nil
          go_simp
          refine hK.out _ _ (HSb.out _ _ hH0) (fun hH1 => ?_)
          clear hK hH0
          have hH0 := hH1
          clear hH1
          try simp only [Act.put, List.setIfInBounds_toArray, List.set_cons_zero, List.set_cons_succ]
          refine wpAnyH_take (i := 5) (oi := { dst := some 5, op := Go.Op.assign (Go.Operand.tmp 50), type := 23, pos := "known.go:57", after := #[{ on := 3, ground := Go.Ground.data }, { on := 4, ground := Go.Ground.chain }, { on := 0, ground := Go.Ground.phase }, { on := 1, ground := Go.Ground.phase }, { on := 2, ground := Go.Ground.phase }, { on := 3, ground := Go.Ground.phase }, { on := 4, ground := Go.Ground.phase }], guard := none }) rfl (by kernel_rfl) (by kernel_rfl) (by kernel_rfl) (fun _ _ _ h => h) (Or.inl ⟨by rfl, fun w hw => by (go_simp; try with_reducible rfl)⟩) (by assumption) ?_
          try simp only [Act.put, List.setIfInBounds_toArray, List.set_cons_zero, List.set_cons_succ]
          refine wpAnyH_done (by kernel_rfl) ?_ _
          go_wp2
          go_ret2
          exact ⟨HW0.out.alloc HW0.out.size _, .slice (some ⟨g, 0, none⟩) v.length vc, .slice (some ⟨w0.heap.size, 0, none⟩) 1 1, rfl, HF0.out.alloc _, by dsimp only; rw [HG.out]; exact OwnI.lit w0 [thn] w.heap.size HW0.out.size (by simp [maxLen])⟩
      · obtain ⟨t, rfl⟩ := Int.eq_ofNat_of_zero_le (show 0 ≤ test by omega)
        have htl : t < (knR v code).length := by omega
        have c9 := hcell t htl
        rw [← getI_get htl] at c9
        rw [if_neg (fun h => ht0 h.1), Int.toNat_natCast] at HG
        have q0 : decide ((t : Int) < 0) = false := decide_eq_false (by omega)
        have q7 : ((t : Nat) : Int) < ((v.length : Nat) : Int) := ht
        generalize (knR v code).getD t 0 = x at *
        clear hcell
        by_cases hx0 : 0 < x
        · rw [if_pos (.inr hx0)] at HG
          go_wp2
          have HF0 := Lib.hid HF.out.drew
          have HW0 := Lib.hid (below_dN HW.out 1)
          have HW0 : Hid (Below w.heap.size w wr.drew) := HW0
          have HSb : Hid (∀ (w' : World) (o : Obj), (w'.cell? ⟨w.heap.size, 2, none⟩ = some (.int .i64 thn) ∧ w'.cell? ⟨w.heap.size, 3, none⟩ = some (.int .i64 els)) ∧ w.heap.size < w'.heap.size → ((w'.alloc o).cell? ⟨w.heap.size, 2, none⟩ = some (.int .i64 thn) ∧ (w'.alloc o).cell? ⟨w.heap.size, 3, none⟩ = some (.int .i64 els)) ∧ w.heap.size < (w'.alloc o).heap.size) := Lib.hid (fun w' o h => ⟨⟨(cellB_grown (World.grownBy_alloc w' o none) _ 2 h.2 (by simp)).trans h.1.1, (cellB_grown (World.grownBy_alloc w' o none) _ 3 h.2 (by simp)).trans h.1.2⟩, by have := h.2; simp; omega⟩)
          refine wp_region_held_drew (S := fun w' => (w'.cell? ⟨w.heap.size, 2, none⟩ = some (.int .i64 thn) ∧ w'.cell? ⟨w.heap.size, 3, none⟩ = some (.int .i64 els)) ∧ w.heap.size < w'.heap.size) (by kernel_rfl) ⟨⟨p2, p3⟩, hwr⟩ (fun hH0 => ?_)
          generalize wr.drew = w0 at *
          refine wpAnyH_take (i := 0) (oi := { dst := some 47, op := Go.Op.move (Go.Operand.tmp 1), type := 23, pos := "known.go:57", after := #[], guard := none }) rfl (by kernel_rfl) (by kernel_rfl) (by kernel_rfl) (fun _ _ _ h => h) (Or.inl ⟨by rfl, fun w hw => by (go_simp; try with_reducible rfl)⟩) (by assumption) ?_
          try simp only [Act.put, List.setIfInBounds_toArray, List.set_cons_zero, List.set_cons_succ]
          refine wpAnyH_take (i := 1) (oi := { dst := some 48, op := Go.Op.fieldAddr 85 (Go.Operand.tmp 2) 2, type := 0, pos := "known.go:57", after := #[{ on := 4, ground := Go.Ground.gcOnly Go.Departure.lateStores }], guard := none }) rfl (by kernel_rfl) (by kernel_rfl) (by kernel_rfl) (fun _ _ _ h => h) (Or.inl ⟨by rfl, fun w hw => by (go_simp; try with_reducible rfl)⟩) (by assumption) ?_
          try simp only [Act.put, List.setIfInBounds_toArray, List.set_cons_zero, List.set_cons_succ]
          refine wpAnyH_take (i := 2) (oi := { dst := some 49, op := Go.Op.load 3 (Go.Operand.tmp 48), type := 3, pos := "known.go:57", after := #[{ on := 1, ground := Go.Ground.data }, { on := 4, ground := Go.Ground.gcOnly Go.Departure.lateStores }], guard := none }) rfl (by kernel_rfl) (by kernel_rfl) (by kernel_rfl) (fun _ _ _ h => h) (Or.inl ⟨by rfl, fun w hw => by (obtain ⟨⟨p2, p3⟩, p4⟩ := hw; go_simp; try with_reducible rfl)⟩) (by assumption) ?_
          try simp only [Act.put, List.setIfInBounds_toArray, List.set_cons_zero, List.set_cons_succ]
          refine wpAnyH_take (i := 4) (oi := { dst := some 4, op := Go.Op.assign (Go.Operand.tmp 47), type := 23, pos := "known.go:57", after := #[{ on := 0, ground := Go.Ground.data }, { on := 0, ground := Go.Ground.phase }, { on := 1, ground := Go.Ground.textOnly Go.Departure.lateStores }, { on := 2, ground := Go.Ground.textOnly Go.Departure.lateStores }, { on := 3, ground := Go.Ground.textOnly Go.Departure.lateStores }], guard := none }) rfl (by kernel_rfl) (by kernel_rfl) (by kernel_rfl) (fun _ _ _ h => h) (Or.inl ⟨by rfl, fun w hw => by (go_simp; try with_reducible rfl)⟩) (by assumption) ?_
          try simp only [Act.put, List.setIfInBounds_toArray, List.set_cons_zero, List.set_cons_succ]
          refine wpAnyH_ready (rs := [3]) (by kernel_rfl) (by simp) ?_
          refine AllReadyH.cons (o := { dst := some 50, op := Go.Op.buildSlice 23 1 #[(0, Go.Operand.tmp 49)], type := 23, pos := "known.go:57", after := #[{ on := 2, ground := Go.Ground.data }, { on := 4, ground := Go.Ground.gcOnly Go.Departure.lateStores }], guard := none }) rfl (fun K hK => ?_) AllReadyH.nil
          go_simp
          refine hK.out _ _ (HSb.out _ _ hH0) (fun hH1 => ?_)
          clear hK hH0
          have hH0 := hH1
          clear hH1
          try simp only [Act.put, List.setIfInBounds_toArray, List.set_cons_zero, List.set_cons_succ]
          refine wpAnyH_take (i := 5) (oi := { dst := some 5, op := Go.Op.assign (Go.Operand.tmp 50), type := 23, pos := "known.go:57", after := #[{ on := 3, ground := Go.Ground.data }, { on := 4, ground := Go.Ground.chain }, { on := 0, ground := Go.Ground.phase }, { on := 1, ground := Go.Ground.phase }, { on := 2, ground := Go.Ground.phase }, { on := 3, ground := Go.Ground.phase }, { on := 4, ground := Go.Ground.phase }], guard := none }) rfl (by kernel_rfl) (by kernel_rfl) (by kernel_rfl) (fun _ _ _ h => h) (Or.inl ⟨by rfl, fun w hw => by (go_simp; try with_reducible rfl)⟩) (by assumption) ?_
          try simp only [Act.put, List.setIfInBounds_toArray, List.set_cons_zero, List.set_cons_succ]
          refine wpAnyH_done (by kernel_rfl) ?_ _
          go_wp2
          go_ret2
          exact ⟨HW0.out.alloc HW0.out.size _, .slice (some ⟨g, 0, none⟩) v.length vc, .slice (some ⟨w0.heap.size, 0, none⟩) 1 1, rfl, HF0.out.alloc _, by dsimp only; rw [HG.out]; exact OwnI.lit w0 [thn] w.heap.size HW0.out.size (by simp [maxLen])⟩
        · rw [if_neg (by omega)] at HG
          have q8 : decide (0 < x) = false := decide_eq_false hx0
          by_cases hx : x = 0
          · subst hx
            rw [if_pos rfl] at HG
            go_wp2
            have HF0 := Lib.hid HF.out.drew
            have HW0 := Lib.hid (below_dN HW.out 1)
            have HW0 : Hid (Below w.heap.size w wr.drew) := HW0
            have HSb : Hid (∀ (w' : World) (o : Obj), (w'.cell? ⟨w.heap.size, 2, none⟩ = some (.int .i64 thn) ∧ w'.cell? ⟨w.heap.size, 3, none⟩ = some (.int .i64 els)) ∧ w.heap.size < w'.heap.size → ((w'.alloc o).cell? ⟨w.heap.size, 2, none⟩ = some (.int .i64 thn) ∧ (w'.alloc o).cell? ⟨w.heap.size, 3, none⟩ = some (.int .i64 els)) ∧ w.heap.size < (w'.alloc o).heap.size) := Lib.hid (fun w' o h => ⟨⟨(cellB_grown (World.grownBy_alloc w' o none) _ 2 h.2 (by simp)).trans h.1.1, (cellB_grown (World.grownBy_alloc w' o none) _ 3 h.2 (by simp)).trans h.1.2⟩, by have := h.2; simp; omega⟩)
            refine wp_region_held_drew (S := fun w' => (w'.cell? ⟨w.heap.size, 2, none⟩ = some (.int .i64 thn) ∧ w'.cell? ⟨w.heap.size, 3, none⟩ = some (.int .i64 els)) ∧ w.heap.size < w'.heap.size) (by kernel_rfl) ⟨⟨p2, p3⟩, hwr⟩ (fun hH0 => ?_)
            generalize wr.drew = w0 at *
            refine wpAnyH_take (i := 0) (oi := { dst := some 58, op := Go.Op.move (Go.Operand.tmp 1), type := 23, pos := "known.go:59", after := #[], guard := none }) rfl (by kernel_rfl) (by kernel_rfl) (by kernel_rfl) (fun _ _ _ h => h) (Or.inl ⟨by rfl, fun w hw => by (go_simp; try with_reducible rfl)⟩) (by assumption) ?_
            try simp only [Act.put, List.setIfInBounds_toArray, List.set_cons_zero, List.set_cons_succ]
            refine wpAnyH_take (i := 1) (oi := { dst := some 59, op := Go.Op.fieldAddr 85 (Go.Operand.tmp 2) 3, type := 0, pos := "known.go:59", after := #[{ on := 4, ground := Go.Ground.gcOnly Go.Departure.lateStores }], guard := none }) rfl (by kernel_rfl) (by kernel_rfl) (by kernel_rfl) (fun _ _ _ h => h) (Or.inl ⟨by rfl, fun w hw => by (go_simp; try with_reducible rfl)⟩) (by assumption) ?_
            try simp only [Act.put, List.setIfInBounds_toArray, List.set_cons_zero, List.set_cons_succ]
            refine wpAnyH_take (i := 2) (oi := { dst := some 60, op := Go.Op.load 3 (Go.Operand.tmp 59), type := 3, pos := "known.go:59", after := #[{ on := 1, ground := Go.Ground.data }, { on := 4, ground := Go.Ground.gcOnly Go.Departure.lateStores }], guard := none }) rfl (by kernel_rfl) (by kernel_rfl) (by kernel_rfl) (fun _ _ _ h => h) (Or.inl ⟨by rfl, fun w hw => by (obtain ⟨⟨p2, p3⟩, p4⟩ := hw; go_simp; try with_reducible rfl)⟩) (by assumption) ?_
            try simp only [Act.put, List.setIfInBounds_toArray, List.set_cons_zero, List.set_cons_succ]
            refine wpAnyH_take (i := 4) (oi := { dst := some 4, op := Go.Op.assign (Go.Operand.tmp 58), type := 23, pos := "known.go:59", after := #[{ on := 0, ground := Go.Ground.data }, { on := 0, ground := Go.Ground.phase }, { on := 1, ground := Go.Ground.textOnly Go.Departure.lateStores }, { on := 2, ground := Go.Ground.textOnly Go.Departure.lateStores }, { on := 3, ground := Go.Ground.textOnly Go.Departure.lateStores }], guard := none }) rfl (by kernel_rfl) (by kernel_rfl) (by kernel_rfl) (fun _ _ _ h => h) (Or.inl ⟨by rfl, fun w hw => by (go_simp; try with_reducible rfl)⟩) (by assumption) ?_
            try simp only [Act.put, List.setIfInBounds_toArray, List.set_cons_zero, List.set_cons_succ]
            refine wpAnyH_ready (rs := [3]) (by kernel_rfl) (by simp) ?_
            refine AllReadyH.cons (o := { dst := some 61, op := Go.Op.buildSlice 23 1 #[(0, Go.Operand.tmp 60)], type := 23, pos := "known.go:59", after := #[{ on := 2, ground := Go.Ground.data }, { on := 4, ground := Go.Ground.gcOnly Go.Departure.lateStores }], guard := none }) rfl (fun K hK => ?_) AllReadyH.nil
            go_simp
            refine hK.out _ _ (HSb.out _ _ hH0) (fun hH1 => ?_)
            clear hK hH0
            have hH0 := hH1
            clear hH1
            try simp only [Act.put, List.setIfInBounds_toArray, List.set_cons_zero, List.set_cons_succ]
            refine wpAnyH_take (i := 5) (oi := { dst := some 5, op := Go.Op.assign (Go.Operand.tmp 61), type := 23, pos := "known.go:59", after := #[{ on := 3, ground := Go.Ground.data }, { on := 4, ground := Go.Ground.chain }, { on := 0, ground := Go.Ground.phase }, { on := 1, ground := Go.Ground.phase }, { on := 2, ground := Go.Ground.phase }, { on := 3, ground := Go.Ground.phase }, { on := 4, ground := Go.Ground.phase }], guard := none }) rfl (by kernel_rfl) (by kernel_rfl) (by kernel_rfl) (fun _ _ _ h => h) (Or.inl ⟨by rfl, fun w hw => by (go_simp; try with_reducible rfl)⟩) (by assumption) ?_
            try simp only [Act.put, List.setIfInBounds_toArray, List.set_cons_zero, List.set_cons_succ]
            refine wpAnyH_done (by kernel_rfl) ?_ _
            go_wp2
            go_ret2
            exact ⟨HW0.out.alloc HW0.out.size _, .slice (some ⟨g, 0, none⟩) v.length vc, .slice (some ⟨w0.heap.size, 0, none⟩) 1 1, rfl, HF0.out.alloc _, by dsimp only; rw [HG.out]; exact OwnI.lit w0 [els] w.heap.size HW0.out.size (by simp [maxLen])⟩
          · rw [if_neg hx] at HG
            have q9 : (x == 0) = false := by rw [beq_eq_false_iff_ne]; exact hx
            go_wp2
            have HF0 := Lib.hid HF.out.drew
            have HW0 := Lib.hid (below_dN HW.out 1)
            have HW0 : Hid (Below w.heap.size w wr.drew) := HW0
            have HSb : Hid (∀ (w' : World) (o : Obj), (w'.cell? ⟨w.heap.size, 2, none⟩ = some (.int .i64 thn) ∧ w'.cell? ⟨w.heap.size, 3, none⟩ = some (.int .i64 els)) ∧ w.heap.size < w'.heap.size → ((w'.alloc o).cell? ⟨w.heap.size, 2, none⟩ = some (.int .i64 thn) ∧ (w'.alloc o).cell? ⟨w.heap.size, 3, none⟩ = some (.int .i64 els)) ∧ w.heap.size < (w'.alloc o).heap.size) := Lib.hid (fun w' o h => ⟨⟨(cellB_grown (World.grownBy_alloc w' o none) _ 2 h.2 (by simp)).trans h.1.1, (cellB_grown (World.grownBy_alloc w' o none) _ 3 h.2 (by simp)).trans h.1.2⟩, by have := h.2; simp; omega⟩)
            refine wp_region_held_drew (S := fun w' => (w'.cell? ⟨w.heap.size, 2, none⟩ = some (.int .i64 thn) ∧ w'.cell? ⟨w.heap.size, 3, none⟩ = some (.int .i64 els)) ∧ w.heap.size < w'.heap.size) (by kernel_rfl) ⟨⟨p2, p3⟩, hwr⟩ (fun hH0 => ?_)
            generalize wr.drew = w0 at *
            refine wpAnyH_take (i := 0) (oi := { dst := some 62, op := Go.Op.move (Go.Operand.tmp 1), type := 23, pos := "known.go:61", after := #[], guard := none }) rfl (by kernel_rfl) (by kernel_rfl) (by kernel_rfl) (fun _ _ _ h => h) (Or.inl ⟨by rfl, fun w hw => by (go_simp; try with_reducible rfl)⟩) (by assumption) ?_
            try simp only [Act.put, List.setIfInBounds_toArray, List.set_cons_zero, List.set_cons_succ]
            refine wpAnyH_take (i := 1) (oi := { dst := some 63, op := Go.Op.fieldAddr 85 (Go.Operand.tmp 2) 2, type := 0, pos := "known.go:61", after := #[{ on := 6, ground := Go.Ground.gcOnly Go.Departure.lateStores }], guard := none }) rfl (by kernel_rfl) (by kernel_rfl) (by kernel_rfl) (fun _ _ _ h => h) (Or.inl ⟨by rfl, fun w hw => by (go_simp; try with_reducible rfl)⟩) (by assumption) ?_
            try simp only [Act.put, List.setIfInBounds_toArray, List.set_cons_zero, List.set_cons_succ]
            refine wpAnyH_take (i := 2) (oi := { dst := some 64, op := Go.Op.load 3 (Go.Operand.tmp 63), type := 3, pos := "known.go:61", after := #[{ on := 1, ground := Go.Ground.data }, { on := 6, ground := Go.Ground.gcOnly Go.Departure.lateStores }], guard := none }) rfl (by kernel_rfl) (by kernel_rfl) (by kernel_rfl) (fun _ _ _ h => h) (Or.inl ⟨by rfl, fun w hw => by (obtain ⟨⟨p2, p3⟩, p4⟩ := hw; go_simp; try with_reducible rfl)⟩) (by assumption) ?_
            try simp only [Act.put, List.setIfInBounds_toArray, List.set_cons_zero, List.set_cons_succ]
            refine wpAnyH_take (i := 3) (oi := { dst := some 65, op := Go.Op.fieldAddr 85 (Go.Operand.tmp 2) 3, type := 0, pos := "known.go:61", after := #[{ on := 6, ground := Go.Ground.gcOnly Go.Departure.lateStores }], guard := none }) rfl (by kernel_rfl) (by kernel_rfl) (by kernel_rfl) (fun _ _ _ h => h) (Or.inl ⟨by rfl, fun w hw => by (go_simp; try with_reducible rfl)⟩) (by assumption) ?_
            try simp only [Act.put, List.setIfInBounds_toArray, List.set_cons_zero, List.set_cons_succ]
            refine wpAnyH_take (i := 4) (oi := { dst := some 66, op := Go.Op.load 3 (Go.Operand.tmp 65), type := 3, pos := "known.go:61", after := #[{ on := 3, ground := Go.Ground.data }, { on := 6, ground := Go.Ground.gcOnly Go.Departure.lateStores }], guard := none }) rfl (by kernel_rfl) (by kernel_rfl) (by kernel_rfl) (fun _ _ _ h => h) (Or.inl ⟨by rfl, fun w hw => by (obtain ⟨⟨p2, p3⟩, p4⟩ := hw; go_simp; try with_reducible rfl)⟩) (by assumption) ?_
            try simp only [Act.put, List.setIfInBounds_toArray, List.set_cons_zero, List.set_cons_succ]
            refine wpAnyH_take (i := 6) (oi := { dst := some 4, op := Go.Op.assign (Go.Operand.tmp 62), type := 23, pos := "known.go:61", after := #[{ on := 0, ground := Go.Ground.data }, { on := 0, ground := Go.Ground.phase }, { on := 1, ground := Go.Ground.textOnly Go.Departure.lateStores }, { on := 2, ground := Go.Ground.textOnly Go.Departure.lateStores }, { on := 3, ground := Go.Ground.textOnly Go.Departure.lateStores }, { on := 4, ground := Go.Ground.textOnly Go.Departure.lateStores }, { on := 5, ground := Go.Ground.textOnly Go.Departure.lateStores }], guard := none }) rfl (by kernel_rfl) (by kernel_rfl) (by kernel_rfl) (fun _ _ _ h => h) (Or.inl ⟨by rfl, fun w hw => by (go_simp; try with_reducible rfl)⟩) (by assumption) ?_
            try simp only [Act.put, List.setIfInBounds_toArray, List.set_cons_zero, List.set_cons_succ]
            refine wpAnyH_ready (rs := [5]) (by kernel_rfl) (by simp) ?_
            refine AllReadyH.cons (o := { dst := some 67, op := Go.Op.buildSlice 23 2 #[(0, Go.Operand.tmp 64), (1, Go.Operand.tmp 66)], type := 23, pos := "known.go:61", after := #[{ on := 2, ground := Go.Ground.data }, { on := 4, ground := Go.Ground.data }, { on := 6, ground := Go.Ground.gcOnly Go.Departure.lateStores }], guard := none }) rfl (fun K hK => ?_) AllReadyH.nil
            go_simp
            refine hK.out _ _ (HSb.out _ _ hH0) (fun hH1 => ?_)
            clear hK hH0
            have hH0 := hH1
            clear hH1
            try simp only [Act.put, List.setIfInBounds_toArray, List.set_cons_zero, List.set_cons_succ]
            refine wpAnyH_take (i := 7) (oi := { dst := some 5, op := Go.Op.assign (Go.Operand.tmp 67), type := 23, pos := "known.go:61", after := #[{ on := 5, ground := Go.Ground.data }, { on := 6, ground := Go.Ground.chain }, { on := 0, ground := Go.Ground.phase }, { on := 1, ground := Go.Ground.phase }, { on := 2, ground := Go.Ground.phase }, { on := 3, ground := Go.Ground.phase }, { on := 4, ground := Go.Ground.phase }, { on := 5, ground := Go.Ground.phase }, { on := 6, ground := Go.Ground.phase }], guard := none }) rfl (by kernel_rfl) (by kernel_rfl) (by kernel_rfl) (fun _ _ _ h => h) (Or.inl ⟨by rfl, fun w hw => by (go_simp; try with_reducible rfl)⟩) (by assumption) ?_
            try simp only [Act.put, List.setIfInBounds_toArray, List.set_cons_zero, List.set_cons_succ]
            refine wpAnyH_done (by kernel_rfl) ?_ _
            go_wp2
            go_ret2
            exact ⟨HW0.out.alloc HW0.out.size _, .slice (some ⟨g, 0, none⟩) v.length vc, .slice (some ⟨w0.heap.size, 0, none⟩) 2 2, rfl, HF0.out.alloc _, by dsimp only; rw [HG.out]; exact OwnI.lit w0 [thn, els] w.heap.size HW0.out.size (by simp [maxLen])⟩
end Go.Proofs.Ytmgejacndhnikaa
