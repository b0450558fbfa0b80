/- known.solve walked (written by knsolve.py). -/
import Derived.Test.YtmgejacndhnikaaKnX
import Derived.Test.YtmgejacndhnikaaLLn
import Derived.Deep.RegionHeld3
import Derived.Deep.LoopGhost
import Derived.BigGuardPart
namespace Go.Proofs.Ytmgejacndhnikaa
open Go.RowKit

def SolEnd (vars : Int) (p : List Blk) (h0 : List Int) (w : World) (e : Ending) (w' : World) : Prop :=
  ∃ F vals B', e = .returned (.slice (some ⟨w.heap.size, 0, none⟩) p.length p.length) ∧ SolK vars p h0 F ∧ LLn w' w.heap.size B' vals F ∧ Below w.heap.size w w'
theorem rd_ownI {w : World} {base n c : Nat} {A : Option Addr} {l : List Int} (h : OwnI w base 3 (.slice A n c) l) : RdI w A l := by
  obtain ⟨A9, c9, e9, h9⟩ := OwnI.rd h
  injection e9 with e9
  subst e9
  exact h9
set_option maxRecDepth 100000 in
set_option maxHeartbeats 8000000 in
theorem solve_calls (vars : Int) (A B : Option Addr) (p : List Blk) (h0 : List Int) (cap capB : Nat) (w : World) (hA : RdBk w A p) (hB : RdI w B h0) (hp : POk vars p) (hl : (h0.length : Int) = vars) (hbd : ∀ x ∈ h0, -1 ≤ x ∧ x ≤ 255) :
    Calls Try.prog 87 #[.slice A p.length cap, .slice B h0.length capB] w (SolEnd vars p h0 w) := by
  have hn1 := hp.n1
  have hn8 := hp.n8
  have hv1 := hp.v1
  have hv6 := hp.v6
  have HA := Lib.hid hA
  have HB := Lib.hid hB
  have HP := Lib.hid hp
  have H0 := Lib.hid (InvK.begin_ hp hl hbd)
  have h0ne : h0 ≠ [] := by intro e; rw [e] at hl; simp at hl; omega
  have H0n := Lib.hid h0ne
  have hl1 : 1 ≤ h0.length := by omega
  have hl6 : h0.length ≤ 1000 := by omega
  clear hA hB hp hbd h0ne
  have q22 : ∀ (w : World) (a : Option Addr) (n c n' c' : Nat), (binOp .eql 23 (.slice a n c) (.slice none n' c')).run Try.prog w = .ok (.bool a.isNone) w := fun w a n c n' c' => Lib.run_eql_slice_nil w _ _ a n c n' c' Try.underlying23
  go_enter Try.func87, Try.ntmps87
  go_wp2_with (first
    | (at_make; refine wpList_makeN rfl _ _ rfl w.heap.size p.length rfl rfl (by omega) (Nat.le_refl _) ?_; intro wm hown hgrow
       have hbm : w.heap.size < wm.heap.size := by
         obtain ⟨g, eg, _, hlt, _⟩ := OwnV.at2 hown (by simp; omega)
         injection eg with eg; injection eg with eg
         omega
       have HL := Lib.hid (LLn.made (B := wm.heap.size) hown hbm hbm)
       have HWm := Lib.hid ((Below.refl w.heap.size w).grown hgrow (Nat.le_refl _) (fun k hk => by cases hk))
       clear hown hgrow)
    | (go_at_call 59; refine (cloneI_calls B h0 capB _ (Rd.below HB.out HWm.out) hl1 hl6).mono ?_; rintro e w2 ⟨u0, rfl, hO, hW2⟩
       obtain ⟨g0, cc0, rfl, -⟩ := OwnI.at_ hO hl1
       have HL2 := Lib.hid (LLn.put HL.out (k := 0) (by simp; omega) hW2 hO (Nat.le_refl _) H0n.out)
       have HW2 := Lib.hid (HWm.out.trans (hW2.mono (by omega)))
       obtain ⟨uu, huu, c0, f0, -⟩ := (HL.out.below hW2).at_ (k := 0) (r := []) (by rw [List.getElem?_replicate, if_pos (by omega)])
       have f00 := f0 0; clear f0
       have hz2 : wm.heap.size ≤ w2.heap.size := hW2.size
       have q0 : (0 : Int) < ((p.length : Nat) : Int) := by omega
       clear hO hW2 huu))
  have HW3 := Lib.hid (HW2.out.setCell (p := ⟨w.heap.size, 0, none⟩) (Nat.le_refl _) (.slice (some ⟨g0, 0, none⟩) h0.length cc0))
  go_loopg [6] (2 * potF ((List.replicate p.length []).set 0 h0) + 2) (fun G ag wr => ∃ (F : List (List Int)) (vals : List Value) (a : Bool), ag = .bool a ∧ LLn wr w.heap.size wm.heap.size vals F ∧ Below w.heap.size w wr ∧ wm.heap.size ≤ wr.heap.size ∧ Hid (InvK vars p h0 F) ∧ Hid (a = false → ∀ i, i < p.length → closedK p F i) ∧ 2 * potF F + a.toNat < G)
  case atStart => exact ⟨_, _, true, rfl, HL2.out, HW3.out, by simpa [World.setCell] using hz2, Lib.hid H0.out, Lib.hid (fun e => by cases e), by simp⟩
  case round =>
    clear HL HWm HL2 HW2 HW3 H0 c0 hz2 q0 HB
    obtain ⟨F0, vals0, a, rfl, hL0, hW0, hz0, hI0, hC0, hG0⟩ := hrel
    have HL0 := Lib.hid hL0
    have HW0 := Lib.hid hW0
    have HG0 := Lib.hid hG0
    have hI0 := Lib.hid hI0.out
    have hC0 := Lib.hid hC0.out
    clear hL0 hW0 hG0
    cases a
    · go_wp2
      go_ret
      exact ⟨F0, vals0, _, rfl, ⟨hI0.out, hI0.out.post (hC0.out (by trivial))⟩, HL0.out, HW0.out⟩
    · obtain ⟨wo, rfl⟩ : ∃ wo : World, wo = wr := ⟨_, rfl⟩
      go_wp2
      go_loopw [6, 25] (fun ag i wr => ∃ (F : List (List Int)) (vals : List Value) (a : Bool) (k : Nat), k ≤ p.length ∧ ag = .bool a ∧ i = .int .i64 k ∧ LLn wr w.heap.size wm.heap.size vals F ∧ Below w.heap.size w wr ∧ wm.heap.size ≤ wr.heap.size ∧ Hid (Ps vars p h0 F0 F a k)) (fun _ i _ => p.length - (intOf i).toNat)
      case atStart => exact ⟨F0, vals0, false, 0, Nat.zero_le _, rfl, rfl, HL0.out, HW0.out, hz0, Lib.hid (Ps.start hI0.out)⟩
      case round =>
        clear HL0 HW0 hz0 hI0 hC0
        obtain ⟨F, vals, a, k, hk, rfl, rfl, hL, hW, hz, hP⟩ := hrel
        have HL := Lib.hid hL
        have HW := Lib.hid hW
        have hws := hW.size
        have hP := Lib.hid hP.out
        by_cases hlt : k < p.length
        · obtain ⟨pb, off, A', cap', rfl, hpb, c0, c1, c2, c3, hS⟩ := RdBk.at_ (HA.out.below hW) hlt
          have Hr := Lib.hid (rowF_get? (F := F) (i := k) (by rw [hP.out.inv.len]; exact hlt))
          obtain ⟨u, hu, cu, -, hun, hus⟩ := hL.at_ Hr.out
          have hbw := hL.ll.lt
          have Hk := Lib.hid hlt
          have hlt : ((k : Nat) : Int) < ((p.length : Nat) : Int) := by omega
          have HS := Lib.hid hS
          have hbo := HP.out.bs _ (List.getElem_mem Hk.out)
          have Hbo := Lib.hid hbo
          have hmb := manyB_mem (List.getElem_mem Hk.out)
          have hm20 := HP.out.many
          have Hbg := Lib.hid (bget Hk.out)
          clear hS hL hW hu
          generalize hrr : rowF F k = r at *
          have Hrr := Lib.hid hrr
          clear hrr
          by_cases hr0 : r = []
          · obtain rfl := hun hr0
            have Hr0 := Lib.hid hr0
            have HLa := Lib.hid (HL.out.alloc (.cells #[.slice A' p[k].code.length cap', .int .i64 p[k].test, .int .i64 p[k].thn, .int .i64 p[k].els] 85))
            have HWa := Lib.hid (HW.out.alloc hws (.cells #[.slice A' p[k].code.length cap', .int .i64 p[k].test, .int .i64 p[k].thn, .int .i64 p[k].els] 85))
            clear hr0 hun hus hbo
            go_wp2
            go_roundw
            case rel => exact ⟨F, vals, a, k + 1, by have := Hk.out; omega, rfl, by go_num, HLa.out, HWa.out, by simp; omega, Lib.hid (hP.out.skip (by rw [Hrr.out, Hr0.out]))⟩
            case measure => simp [intOf]; omega
          obtain ⟨g, c, rfl, hgB, hgw, hfz, hRr, -⟩ := hus hr0
          have hrn := HL.out.ll.lt
          have hrl := hP.out.inv.wid k (by rw [Hrr.out]; exact hr0)
          rw [Hrr.out] at hrl
          have Hrb := Lib.hid (hP.out.inv.bd k)
          rw [Hrr.out] at Hrb
          have Hpk := Lib.hid (show p[k] = p[k] from rfl)
          have Hvl := Lib.hid (knR_len p[k].code r)
          have HvB := Lib.hid (knR_bd hbo.code Hrb.out)
          have Hiu : Hid (∀ (F2 : List (List Int)), InvK vars p h0 F2 → ∀ j : Nat, (j : Int) ∈ goK p[k] (knR r p[k].code) → j < p.length → InvK vars p h0 (updF F2 j (knR r p[k].code))) := Lib.hid (fun F2 h2 j hj hjl => by
            have := InvK.upd HP.out h2 hP.out.inv Hk.out (by rw [Hrr.out]; exact hr0) (j := j) (by rw [Hrr.out]; exact hj) hjl
            rwa [Hrr.out] at this)
          have Hnx : Hid (∀ (F2 : List (List Int)) (a2 : Bool), Pt vars p h0 F0 F2 a2 k (knR r p[k].code) (goK p[k] (knR r p[k].code)) (goK p[k] (knR r p[k].code)).length → (a2 = false → F2 = F) → Ps vars p h0 F0 F2 a2 (k + 1)) := Lib.hid (fun F2 a2 h2 h3 => by
            refine Pt.next (F1 := F) ?_ h3
            rw [Hbg.out, Hrr.out]; exact h2)
          have hgoin : ∀ j ∈ goK p[k] (knR r p[k].code), 0 ≤ j ∧ j < p.length := fun j hj => by
            have h1 := hbo.two
            have h2 := hbo.one
            have h3 := hbo.lo
            unfold goK at hj
            generalize (knR r p[k].code).getD p[k].test.toNat 0 = x at hj
            split at hj
            · cases hj
            · split at hj
              · simp at hj; subst hj; omega
              · split at hj
                · simp at hj; subst hj; omega
                · simp at hj; rcases hj with rfl | rfl <;> omega
          have Hgo := Lib.hid hgoin
          have hgl : (goK p[k] (knR r p[k].code)).length ≤ 2 := by unfold goK; split; decide; split; simp; split <;> simp
          have Hgl := Lib.hid hgl
          have HBE := Lib.hid (fun (W : World) (hS : RdSt W A' (p[k]'Hk.out).code) (hR : RdI W (some ⟨g, 0, none⟩) r) => behind_calls vars (p[k]'Hk.out) A' (some ⟨g, 0, none⟩) r cap' c W hS hR hrl (by omega) (by omega) (by omega) hbo.code Hrb.out hbo.hi)
          clear hun hus hgoin hgl hbo Hpk Hbg hmb
          generalize hbk : p[k] = bk at *
          clear hbk
          obtain ⟨code, test, thn, els⟩ := bk
          dsimp only at c0 c1 c2 c3 HS HBE Hvl HvB Hiu Hnx Hgo Hgl
          have HL1 := Lib.hid ((HL.out.alloc (.cells #[.slice A' code.length cap', .int .i64 test, .int .i64 thn, .int .i64 els] 85)).drew)
          have HW1 := Lib.hid ((HW.out.alloc hws (.cells #[.slice A' code.length cap', .int .i64 test, .int .i64 thn, .int .i64 els] 85)).drew)
          have HT0 : Hid (wr.heap.size < (wr.alloc (.cells #[.slice A' code.length cap', .int .i64 test, .int .i64 thn, .int .i64 els] 85)).drew.heap.size) := Lib.hid (by show wr.heap.size < (wr.alloc (.cells #[.slice A' code.length cap', .int .i64 test, .int .i64 thn, .int .i64 els] 85)).heap.size; simp)
          have hS0 : ((wr.alloc (.cells #[.slice A' code.length cap', .int .i64 test, .int .i64 thn, .int .i64 els] 85)).drew.cell? ⟨wr.heap.size, 0, none⟩ = some (.slice A' code.length cap') ∧ (wr.alloc (.cells #[.slice A' code.length cap', .int .i64 test, .int .i64 thn, .int .i64 els] 85)).drew.cell? ⟨wr.heap.size, 1, none⟩ = some (.int .i64 test) ∧ (wr.alloc (.cells #[.slice A' code.length cap', .int .i64 test, .int .i64 thn, .int .i64 els] 85)).drew.cell? ⟨wr.heap.size, 2, none⟩ = some (.int .i64 thn) ∧ (wr.alloc (.cells #[.slice A' code.length cap', .int .i64 test, .int .i64 thn, .int .i64 els] 85)).drew.cell? ⟨wr.heap.size, 3, none⟩ = some (.int .i64 els) ∧ (wr.alloc (.cells #[.slice A' code.length cap', .int .i64 test, .int .i64 thn, .int .i64 els] 85)).drew.cell? ⟨w.heap.size, k, none⟩ = some (.slice (some ⟨g, 0, none⟩) r.length c)) := ⟨cell_new wr _ _ wr.heap.size rfl 0, cell_new wr _ _ wr.heap.size rfl 1, cell_new wr _ _ wr.heap.size rfl 2, cell_new wr _ _ wr.heap.size rfl 3, (cellB_grown (World.grownBy_alloc wr _ none) _ k hbw (by simp)).trans cu⟩
          have Hcl := Lib.hid (HBE.out (wr.alloc (.cells #[.slice A' code.length cap', .int .i64 test, .int .i64 thn, .int .i64 els] 85)).drew (show RdSt (wr.alloc (.cells #[.slice A' code.length cap', .int .i64 test, .int .i64 thn, .int .i64 els] 85)).drew A' code from (Rd.below HS.out ((Below.refl wr.heap.size wr).alloc (Nat.le_refl _) (.cells #[.slice A' code.length cap', .int .i64 test, .int .i64 thn, .int .i64 els] 85)) : RdSt (wr.alloc (.cells #[.slice A' code.length cap', .int .i64 test, .int .i64 thn, .int .i64 els] 85)) A' code)) (show RdI (wr.alloc (.cells #[.slice A' code.length cap', .int .i64 test, .int .i64 thn, .int .i64 els] 85)).drew (some ⟨g, 0, none⟩) r from (Rd.below hRr ((Below.refl wr.heap.size wr).alloc (Nat.le_refl _) (.cells #[.slice A' code.length cap', .int .i64 test, .int .i64 thn, .int .i64 els] 85)) : RdI (wr.alloc (.cells #[.slice A' code.length cap', .int .i64 test, .int .i64 thn, .int .i64 els] 85)) (some ⟨g, 0, none⟩) r)))
          clear HBE hRr hgw hfz
          go_wp2
          refine wp_region_held_drew (S := fun w' => (w'.cell? ⟨wr.heap.size, 0, none⟩ = some (.slice A' code.length cap') ∧ w'.cell? ⟨wr.heap.size, 1, none⟩ = some (.int .i64 test) ∧ w'.cell? ⟨wr.heap.size, 2, none⟩ = some (.int .i64 thn) ∧ w'.cell? ⟨wr.heap.size, 3, none⟩ = some (.int .i64 els) ∧ w'.cell? ⟨w.heap.size, k, none⟩ = some (.slice (some ⟨g, 0, none⟩) r.length c))) (by kernel_rfl) hS0 (fun hH0 => ?_)
          clear hS0 HL HW
          generalize (wr.alloc (.cells #[.slice A' code.length cap', .int .i64 test, .int .i64 thn, .int .i64 els] 85)).drew = w0 at *
          refine wpAnyH_take (i := 0) (oi := { dst := some 36, op := Go.Op.load 85 (Go.Operand.tmp 8), type := 85, pos := "known.go:74", after := #[], guard := none }) rfl (by kernel_rfl) (by kernel_rfl) (by kernel_rfl) (fun _ _ _ h => h) (Or.inl ⟨by rfl, fun w hw => by (obtain ⟨p0, p1, p2, p3, p4⟩ := hw; go_simp; try with_reducible rfl)⟩) (by assumption) ?_
          try simp only [Act.put, List.setIfInBounds_toArray, List.set_cons_zero, List.set_cons_succ]
          refine wpAnyH_take (i := 1) (oi := { dst := some 37, op := Go.Op.move (Go.Operand.tmp 5), type := 97, pos := "known.go:74", after := #[], guard := none }) rfl (by kernel_rfl) (by kernel_rfl) (by kernel_rfl) (fun _ _ _ h => h) (Or.inl ⟨by rfl, fun w hw => by (go_simp; try with_reducible rfl)⟩) (by assumption) ?_
          try simp only [Act.put, List.setIfInBounds_toArray, List.set_cons_zero, List.set_cons_succ]
          refine wpAnyH_take (i := 2) (oi := { dst := some 38, op := Go.Op.move (Go.Operand.tmp 7), type := 3, pos := "known.go:74", after := #[], guard := none }) rfl (by kernel_rfl) (by kernel_rfl) (by kernel_rfl) (fun _ _ _ h => h) (Or.inl ⟨by rfl, fun w hw => by (go_simp; try with_reducible rfl)⟩) (by assumption) ?_
          try simp only [Act.put, List.setIfInBounds_toArray, List.set_cons_zero, List.set_cons_succ]
          refine wpAnyH_take (i := 3) (oi := { dst := some 39, op := Go.Op.indexAddr 97 (Go.Operand.tmp 37) (Go.Operand.tmp 38), type := 0, pos := "known.go:74", after := #[{ on := 1, ground := Go.Ground.data }, { on := 2, ground := Go.Ground.data }], guard := none }) rfl (by kernel_rfl) (by kernel_rfl) (by kernel_rfl) (fun _ _ _ h => h) (Or.inl ⟨by rfl, fun w hw => by (go_simp; try with_reducible rfl)⟩) (by assumption) ?_
          try simp only [Act.put, List.setIfInBounds_toArray, List.set_cons_zero, List.set_cons_succ]
          refine wpAnyH_take (i := 4) (oi := { dst := some 40, op := Go.Op.load 23 (Go.Operand.tmp 39), type := 23, pos := "known.go:74", after := #[{ on := 3, ground := Go.Ground.data }], guard := none }) rfl (by kernel_rfl) (by kernel_rfl) (by kernel_rfl) (fun _ _ _ h => h) (Or.inl ⟨by rfl, fun w hw => by (obtain ⟨p0, p1, p2, p3, p4⟩ := hw; go_simp; try with_reducible rfl)⟩) (by assumption) ?_
          try simp only [Act.put, List.setIfInBounds_toArray, List.set_cons_zero, List.set_cons_succ]
          refine wpAnyH_ready (rs := [5]) (by kernel_rfl) (by simp) ?_
          refine AllReadyH.cons (o := { dst := some 41, op := Go.Op.call { callee := Go.Callee.value (Go.Operand.func 88), args := #[Go.Operand.tmp 36, Go.Operand.tmp 40], argTypes := #[85, 23] }, type := 147, pos := "known.go:74", after := #[{ on := 0, ground := Go.Ground.data }, { on := 4, ground := Go.Ground.data }], guard := none }) rfl (fun K hK => ?_) AllReadyH.nil
          go_simp
          go_at_call 88
          refine Hcl.out.mono ?_
          intro e w9 h9
          obtain ⟨hW9, x, y, rfl, hX9, hY9⟩ := h9
          have hS9 : (w9.cell? ⟨wr.heap.size, 0, none⟩ = some (.slice A' code.length cap') ∧ w9.cell? ⟨wr.heap.size, 1, none⟩ = some (.int .i64 test) ∧ w9.cell? ⟨wr.heap.size, 2, none⟩ = some (.int .i64 thn) ∧ w9.cell? ⟨wr.heap.size, 3, none⟩ = some (.int .i64 els) ∧ w9.cell? ⟨w.heap.size, k, none⟩ = some (.slice (some ⟨g, 0, none⟩) r.length c)) := by obtain ⟨p0, p1, p2, p3, p4⟩ := hH0; exact ⟨(hW9.cell (p := ⟨_, 0, none⟩) HT0.out).trans p0, (hW9.cell (p := ⟨_, 1, none⟩) HT0.out).trans p1, (hW9.cell (p := ⟨_, 2, none⟩) HT0.out).trans p2, (hW9.cell (p := ⟨_, 3, none⟩) HT0.out).trans p3, (hW9.cell (p := ⟨_, k, none⟩) (Nat.lt_trans hbw HT0.out)).trans p4⟩
          refine hK.out _ _ hS9 (fun hH1 => ?_)
          clear hS9 hK hH0
          have hH0 := hH1
          clear hH1
          try simp only [Act.put, List.setIfInBounds_toArray, List.set_cons_zero, List.set_cons_succ]
          refine wpAnyH_take (i := 6) (oi := { dst := some 35, op := Go.Op.move (Go.Operand.tmp 41), type := 147, pos := "known.go:74", after := #[{ on := 5, ground := Go.Ground.data }], guard := none }) rfl (by kernel_rfl) (by kernel_rfl) (by kernel_rfl) (fun _ _ _ h => h) (Or.inl ⟨by rfl, fun w hw => by (go_simp; try with_reducible rfl)⟩) (by assumption) ?_
          try simp only [Act.put, List.setIfInBounds_toArray, List.set_cons_zero, List.set_cons_succ]
          refine wpAnyH_take (i := 7) (oi := { dst := some 42, op := Go.Op.extract (Go.Operand.tmp 35) 0, type := 23, pos := "known.go:74", after := #[{ on := 6, ground := Go.Ground.data }], guard := none }) rfl (by kernel_rfl) (by kernel_rfl) (by kernel_rfl) (fun _ _ _ h => h) (Or.inl ⟨by rfl, fun w hw => by (go_simp; try with_reducible rfl)⟩) (by assumption) ?_
          try simp only [Act.put, List.setIfInBounds_toArray, List.set_cons_zero, List.set_cons_succ]
          refine wpAnyH_take (i := 8) (oi := { dst := some 43, op := Go.Op.extract (Go.Operand.tmp 35) 1, type := 23, pos := "known.go:74", after := #[{ on := 6, ground := Go.Ground.data }, { on := 9, ground := Go.Ground.gcOnly Go.Departure.lateStores }], guard := none }) rfl (by kernel_rfl) (by kernel_rfl) (by kernel_rfl) (fun _ _ _ h => h) (Or.inl ⟨by rfl, fun w hw => by (go_simp; try with_reducible rfl)⟩) (by assumption) ?_
          try simp only [Act.put, List.setIfInBounds_toArray, List.set_cons_zero, List.set_cons_succ]
          refine wpAnyH_take (i := 9) (oi := { dst := some 9, op := Go.Op.assign (Go.Operand.tmp 42), type := 23, pos := "known.go:74", after := #[{ on := 7, ground := Go.Ground.data }, { on := 5, ground := Go.Ground.chain }, { on := 0, ground := Go.Ground.phase }, { on := 1, ground := Go.Ground.phase }, { on := 2, ground := Go.Ground.phase }, { on := 3, ground := Go.Ground.phase }, { on := 4, ground := Go.Ground.phase }, { on := 5, ground := Go.Ground.phase }, { on := 6, ground := Go.Ground.phase }, { on := 7, ground := Go.Ground.phase }, { on := 8, ground := Go.Ground.textOnly Go.Departure.lateStores }], guard := none }) rfl (by kernel_rfl) (by kernel_rfl) (by kernel_rfl) (fun _ _ _ h => h) (Or.inl ⟨by rfl, fun w hw => by (go_simp; try with_reducible rfl)⟩) (by assumption) ?_
          try simp only [Act.put, List.setIfInBounds_toArray, List.set_cons_zero, List.set_cons_succ]
          refine wpAnyH_take (i := 10) (oi := { dst := some 10, op := Go.Op.assign (Go.Operand.tmp 43), type := 23, pos := "known.go:74", after := #[{ on := 8, ground := Go.Ground.data }, { on := 9, ground := Go.Ground.chain }, { on := 0, ground := Go.Ground.phase }, { on := 1, ground := Go.Ground.phase }, { on := 2, ground := Go.Ground.phase }, { on := 3, ground := Go.Ground.phase }, { on := 4, ground := Go.Ground.phase }, { on := 5, ground := Go.Ground.phase }, { on := 6, ground := Go.Ground.phase }, { on := 7, ground := Go.Ground.phase }, { on := 8, ground := Go.Ground.phase }, { on := 9, ground := Go.Ground.phase }], guard := none }) rfl (by kernel_rfl) (by kernel_rfl) (by kernel_rfl) (fun _ _ _ h => h) (Or.inl ⟨by rfl, fun w hw => by (go_simp; try with_reducible rfl)⟩) (by assumption) ?_
          try simp only [Act.put, List.setIfInBounds_toArray, List.set_cons_zero, List.set_cons_succ]
          refine wpAnyH_done (by kernel_rfl) ?_ _
          clear hH0
          generalize hvv : knR r code = v at *
          clear hvv
          generalize hts : goK ⟨code, test, thn, els⟩ v = ts at *
          clear hts
          have hvv1 : ((v.length : Nat) : Int) ≤ vars := by have := Hvl.out; omega
          have hvv2 : vars ≤ ((v.length : Nat) : Int) := by have := Hvl.out; omega
          have hvne : v ≠ [] := by intro e; rw [e] at hvv2; simp at hvv2; omega
          clear hrl
          have hX0 := Lib.hid hX9
          have hY0 := Lib.hid hY9
          have hvb := Lib.hid (show -1 ≤ vars from by omega)
          have HL9 := Lib.hid (HL1.out.below hW9)
          have HW9 := Lib.hid (HW1.out.trans (hW9.mono HW1.out.size))
          have hz9 : wm.heap.size ≤ w9.heap.size := by have := hW9.size; have := HT0.out; omega
          obtain ⟨gx, cx, rfl, hxb, hxw, -⟩ := OwnI.at_ hX0.out (by omega)
          obtain ⟨Y, cy, rfl, -⟩ := OwnI.rd hY0.out
          have HFx : Hid (FarV vals (.slice (some ⟨gx, 0, none⟩) v.length cx)) := Lib.hid (fun u hu g hg e => by
            have := (HL1.out.blk hu g hg).2
            have e : some gx = some g := e
            injection e with e
            omega)
          have HFy : Hid (FarV vals (.slice Y ts.length cy)) := Lib.hid (fun u hu g hg e => by
            have := (HL1.out.blk hu g hg).2
            have := (own_lt hY0.out g e).1
            omega)
          have hsz : wm.heap.size ≤ w0.heap.size := by have := HT0.out; omega
          clear hX9 hY9 hW9 HL1 HW1
          go_wp2
          go_loopw [6, 46] (fun ag ix wr => ∃ (F2 : List (List Int)) (vals2 : List Value) (a2 : Bool) (t : Nat), t ≤ ts.length ∧ ag = .bool a2 ∧ ix = .int .i64 t ∧ LLn wr w.heap.size wm.heap.size vals2 F2 ∧ OwnI wr w0.heap.size 3 (.slice (some ⟨gx, 0, none⟩) v.length cx) v ∧ OwnI wr w0.heap.size 3 (.slice Y ts.length cy) ts ∧ Hid (FarV vals2 (.slice (some ⟨gx, 0, none⟩) v.length cx) ∧ FarV vals2 (.slice Y ts.length cy)) ∧ Below w.heap.size w wr ∧ w0.heap.size ≤ wr.heap.size ∧ Hid (Pt vars p h0 F0 F2 a2 k v ts t ∧ (a2 = false → F2 = F))) (fun _ i _ => ts.length - (intOf i).toNat)
          case atStart => exact ⟨F, vals, a, 0, Nat.zero_le _, rfl, rfl, HL9.out, hX0.out, hY0.out, Lib.hid ⟨HFx.out, HFy.out⟩, HW9.out, by omega, Lib.hid ⟨Pt.start hP.out, fun _ => rfl⟩⟩
          case round =>
            clear HL9 HW9 hX0 hY0 HFx HFy hz9 hxw
            obtain ⟨F2, vals2, a2, t, ht, rfl, rfl, hL, hX, hY, hF, hW, hz2, hP2⟩ := hrel
            have HL := Lib.hid hL
            have HX := Lib.hid hX
            have HY := Lib.hid hY
            have HF := Lib.hid hF.out
            have HW := Lib.hid hW
            have hP2 := Lib.hid hP2.out
            have hws2 := hW.size
            have htl2 : ts.length ≤ 2 := Hgl.out
            by_cases hlt2 : t < ts.length
            · have Hgt := Lib.hid (Hgo.out ts[t] (List.getElem_mem hlt2))
              have Htt := Lib.hid (List.getElem?_eq_getElem hlt2)
              have Htm := Lib.hid (List.getElem_mem hlt2)
              obtain ⟨gy, egy, -, -, -, -, hcy⟩ := OwnI.at2 hY (by omega)
              subst egy
              have cy9 := hcy t hlt2
              have Ht := Lib.hid hlt2
              have hlt2 : ((t : Nat) : Int) < ((ts.length : Nat) : Int) := by omega
              have hgt := Hgt.out
              generalize ts[t] = jj at *
              obtain ⟨j, rfl⟩ := Int.eq_ofNat_of_zero_le hgt.1
              have hjl : j < p.length := by omega
              have hjF : j < F2.length := by rw [hP2.out.1.ps.inv.len]; exact hjl
              have qj : ((j : Nat) : Int) < ((p.length : Nat) : Int) := by omega
              have Hrj := Lib.hid (rowF_get? (F := F2) (i := j) hjF)
              obtain ⟨uj, huj, cuj, fzj, hunj, husj⟩ := hL.at_ Hrj.out
              have fzj := fzj j
              have Huj := Lib.hid huj
              have Hiuj := Lib.hid (Hiu.out F2 hP2.out.1.ps.inv j Htm.out hjl)
              have Hwj := Lib.hid (fun h => hP2.out.1.ps.inv.wid j h)
              have hbwr := hL.ll.lt
              have hunj := Lib.hid hunj
              have husj := Lib.hid husj
              clear hcy hgt Hgt Htm hX hY hF hW hL huj
              by_cases hrj : rowF F2 j = []
              · have huj := hunj.out hrj
                subst huj
                have HFl := Lib.hid (FlagK.new a2 hjF hvne hrj)
                have hvl8 : v.length ≤ 1000 := by omega
                have hvl1 : 1 ≤ v.length := by omega
                have Hrd := Lib.hid (rd_ownI HX.out)
                clear hrj hunj husj
                go_wp2_with (go_at_call 59; refine (cloneI_calls (some ⟨gx, 0, none⟩) v cx _ Hrd.out hvl1 hvl8).mono ?_; rintro e w3 ⟨u3, rfl, hO3, hW3⟩
                             obtain ⟨g3, c3, rfl, hg3, -⟩ := OwnI.at_ hO3 hvl1
                             have hbX := own_lt HX.out
                             have hbY := own_lt HY.out
                             have HL1 := Lib.hid (LLn.put HL.out (k := j) hjF hW3 hO3 (by omega) hvne)
                             have HX1 := Lib.hid (Own.far (Own.below HX.out hW3) (p := ⟨w.heap.size, j, none⟩) (fun e => by have := (hbX _ e).1; show False; dsimp only at this; omega) (.slice (some ⟨g3, 0, none⟩) v.length c3))
                             have HY1 := Lib.hid (Own.far (Own.below HY.out hW3) (p := ⟨w.heap.size, j, none⟩) (fun e => by have := (hbY _ e).1; show False; dsimp only at this; omega) (.slice (some ⟨g3, 0, none⟩) v.length c3))
                             have HF1 := Lib.hid (And.intro (HF.out.1.put j (v' := .slice (some ⟨g3, 0, none⟩) v.length c3) (fun g e e2 => by have e : some g3 = some g := e; injection e with e; have := (hbX g e2).2; omega)) (HF.out.2.put j (v' := .slice (some ⟨g3, 0, none⟩) v.length c3) (fun g e e2 => by have e : some g3 = some g := e; injection e with e; have := (hbY g e2).2; omega)))
                             have HW1 := Lib.hid ((HW.out.trans (hW3.mono hws2)).setCell (p := ⟨w.heap.size, j, none⟩) (Nat.le_refl _) (.slice (some ⟨g3, 0, none⟩) v.length c3))
                             have hz1 : w0.heap.size ≤ (w3.setCell ⟨w.heap.size, j, none⟩ (.slice (some ⟨g3, 0, none⟩) v.length c3)).heap.size := by have := hW3.size; simp [World.setCell]; omega
                             have cuj3 := (hW3.cell (p := ⟨w.heap.size, j, none⟩) hbwr).trans cuj
                             have fzj3 := (hW3.frozen (p := ⟨w.heap.size, j, none⟩) hbwr).trans fzj
                             clear hO3 hW3 hbX hbY)
                obtain ⟨r0, hr0e⟩ : ∃ r0 : List Int, r0 = v := ⟨v, rfl⟩
                obtain ⟨a1, ha1⟩ : ∃ a1 : Bool, a1 = true := ⟨true, rfl⟩
                have HFl : Hid (FlagK F2 j v r0 a2 a1) := Lib.hid (by rw [hr0e, ha1]; exact HFl.out)
                have HL1 : Hid (LLn _ w.heap.size wm.heap.size (vals2.set j (.slice (some ⟨g3, 0, none⟩) v.length c3)) (F2.set j r0)) := Lib.hid (by rw [hr0e]; exact HL1.out)
                have Hvb : Hid (∀ x ∈ r0, -1 ≤ x) := Lib.hid (by rw [hr0e]; exact fun x hx => (HvB.out x hx).1)
                have hll2 : r0.length ≤ v.length ∧ v.length ≤ r0.length := by rw [hr0e]; omega
                have Ha1 : Hid (Value.bool true = Value.bool a1) := Lib.hid (by rw [ha1])
                clear hr0e ha1
                go_loopw [6, 62] (fun ag ix wr => ∃ (a3 : Bool) (s : Nat), s ≤ v.length ∧ ag = .bool a3 ∧ ix = .int .i64 s ∧ LLn wr w.heap.size wm.heap.size (vals2.set j (.slice (some ⟨g3, 0, none⟩) v.length c3)) (F2.set j (joinTo v r0 s)) ∧ OwnI wr w0.heap.size 3 (.slice (some ⟨gx, 0, none⟩) v.length cx) v ∧ OwnI wr w0.heap.size 3 (.slice (some ⟨gy, 0, none⟩) ts.length cy) ts ∧ Below w.heap.size w wr ∧ w0.heap.size ≤ wr.heap.size ∧ Hid ((a3 = true → a1 = true ∨ joinTo v r0 s ≠ r0) ∧ (a3 = false → a1 = false ∧ joinTo v r0 s = r0))) (fun _ i _ => v.length - (intOf i).toNat)
                case atStart => exact ⟨a1, 0, Nat.zero_le _, (by first | rfl | exact Ha1.out), rfl, by rw [joinTo_zero]; exact HL1.out, HX1.out, HY1.out, HW1.out, hz1, Lib.hid ⟨fun e => .inl e, fun e => ⟨e, joinTo_zero _ _⟩⟩⟩
                case round =>
                  clear HL1 HX1 HY1 HW1 hz1 cuj3 fzj3 cuj fzj HL HX HY HW
                  obtain ⟨a3, s, hs, rfl, rfl, hL, hX, hY, hW, hz3, hA3⟩ := hrel
                  have HL3 := Lib.hid hL
                  have HX3 := Lib.hid hX
                  have HY3 := Lib.hid hY
                  have HW3 := Lib.hid hW
                  have HA3 := Lib.hid hA3.out
                  by_cases hls : s < v.length
                  · have hls0 : s < (r0).length := by omega
                    have hjn := joinTo_len (v := v) (r := r0) (by omega) (Nat.le_of_lt hls0)
                    obtain ⟨u5, hu5, cu5, -, -, hus5⟩ := hL.at_ (k := j) (r := joinTo v r0 s) (by rw [List.getElem?_set, if_pos rfl, if_pos hjF])
                    obtain ⟨g5, c5, rfl, hgB5, hgw5, hfz5, -, hc5⟩ := hus5 (fun e => by rw [e] at hjn; simp at hjn; omega)
                    have d1 := hc5 s (by omega)
                    rw [← getI_get (by omega), joinTo_at (by omega) hls0] at d1
                    obtain ⟨gx', egx, -, -, -, -, hcx⟩ := OwnI.at2 hX (by omega)
                    injection egx with egx; injection egx with egx
                    subst egx
                    have d2 := hcx s hls
                    rw [← getI_get hls] at d2
                    have hfz5 := hfz5 s
                    have Hst := Lib.hid (joinTo_turn (v := v) (r := r0) (by omega) hls0 (by rw [getI_get hls0]; exact Hvb.out _ (List.getElem_mem _)))
                    have Hsn := Lib.hid (joinTo_ne (v := v) (r := r0) (by omega) hls0)
                    have Hmem := Lib.hid (List.mem_of_getElem? hu5)
                    have Hu5 := Lib.hid hu5
                    have Hjs : Hid ((F2.set j (joinTo v r0 s))[j]? = some (joinTo v r0 s)) := Lib.hid (by rw [List.getElem?_set, if_pos rfl, if_pos hjF])
                    have hjn2 : s < (joinTo v r0 s).length := by omega
                    have hls : ((s : Nat) : Int) < ((v.length : Nat) : Int) := by omega
                    have hls1 : ((s : Nat) : Int) < (((joinTo v r0 s).length : Nat) : Int) := by omega
                    clear hL hX hY hW hA3 hus5 hc5 hcx hu5
                    generalize hzz : (r0).getD s 0 = z at *
                    generalize hyy : v.getD s 0 = y9 at *
                    clear hzz hyy
                    by_cases hzy : z = y9
                    · have Hq := Lib.hid (Hst.out.2 (fun h => h.1 hzy))
                      subst hzy
                      go_wp2
                      go_roundw
                      case rel => exact ⟨a3, s + 1, by omega, rfl, by go_num, by rw [Hq.out]; exact HL3.out, HX3.out, HY3.out, HW3.out, hz3, Lib.hid (by rw [Hq.out]; exact HA3.out)⟩
                      case measure => simp [intOf]; omega
                    · have qn : (z != y9) = true := by rw [bne_iff_ne]; exact hzy
                      by_cases hzm : z = -1
                      · have Hq := Lib.hid (Hst.out.2 (fun h => h.2 hzm))
                        subst hzm
                        clear hzy
                        go_wp2
                        go_roundw
                        case rel => exact ⟨a3, s + 1, by omega, rfl, by go_num, by rw [Hq.out]; exact HL3.out, HX3.out, HY3.out, HW3.out, hz3, Lib.hid (by rw [Hq.out]; exact HA3.out)⟩
                        case measure => simp [intOf]; omega
                      · have qm : (z != -1) = true := by rw [bne_iff_ne]; exact hzm
                        have Hq := Lib.hid (Hst.out.1 ⟨hzy, hzm⟩)
                        have HL5 := Lib.hid (LLn.cell HL3.out Hu5.out Hjs.out hjn2 (-1))
                        have HX5 := Lib.hid (Own.far HX3.out (p := ⟨g5, s, none⟩) (HF1.out.1 _ Hmem.out g5 rfl) (.int .i64 (-1)))
                        have HY5 := Lib.hid (Own.far HY3.out (p := ⟨g5, s, none⟩) (HF1.out.2 _ Hmem.out g5 rfl) (.int .i64 (-1)))
                        have HW5 := Lib.hid (HW3.out.setCell (p := ⟨g5, s, none⟩) (by show w.heap.size ≤ g5; omega) (.int .i64 (-1)))
                        clear hzy hzm
                        go_wp2
                        go_roundw
                        case rel => exact ⟨true, s + 1, by omega, rfl, by go_num, by rw [Hq.out.1]; have h := HL5.out; rw [List.set_set] at h; exact h, HX5.out, HY5.out, HW5.out, by simp [World.setCell]; omega, Lib.hid ⟨fun _ => .inr Hq.out.2, fun e => by cases e⟩⟩
                        case measure => simp [intOf]; omega
                  · have hse : s = v.length := by omega
                    have hj9 : joinTo v r0 s = joinK v r0 := by rw [hse, show v.length = (r0).length by omega]; exact joinTo_all (by omega)
                    have HLe : Hid (LLn wr w.heap.size wm.heap.size (vals2.set j (.slice (some ⟨g3, 0, none⟩) v.length c3)) (updF F2 j v)) := Lib.hid (by rw [HFl.out.1, ← hj9]; exact hL)
                    have HAe : Hid ((a3 = true → a1 = true ∨ joinK v r0 ≠ r0) ∧ (a3 = false → a1 = false ∧ joinK v r0 = r0)) := Lib.hid (by rw [← hj9]; exact HA3.out)
                    clear hL hX hY hW hA3 hj9
                    subst hse
                    go_wp2
                    go_roundw
                    case rel =>
                      have k1 : a3 = true → a2 = true ∨ updF F2 j v ≠ F2 := fun e => by
                        rcases HAe.out.1 e with h | h
                        · exact HFl.out.2.1 h
                        · exact .inr (HFl.out.2.2.2.1 h)
                      have k2 : a3 = false → a2 = false ∧ updF F2 j v = F2 := fun e => by
                        obtain ⟨h1, h2⟩ := HAe.out.2 e
                        exact ⟨HFl.out.2.2.1 h1, HFl.out.2.2.2.2 h1 h2⟩
                      exact ⟨updF F2 j v, (vals2.set j (.slice (some ⟨g3, 0, none⟩) v.length c3)), a3, t + 1, by have := Ht.out; omega, rfl, by go_num, HLe.out, HX3.out, HY3.out, Lib.hid HF1.out, HW3.out, hz3, Lib.hid ⟨Pt.step hP2.out.1 Htt.out hjF hvne (by omega) (fun h => by have := Hwj.out h; omega) Hiuj.out k1 k2, fun e => ((k2 e).2).trans (hP2.out.2 (k2 e).1)⟩⟩
                    case measure => simp [intOf]; omega
              · obtain ⟨g4, c4, rfl, -⟩ := husj.out hrj
                have HFl := Lib.hid (FlagK.old (v := v) a2 hjF hrj)
                have hll2 : (rowF F2 j).length ≤ v.length ∧ v.length ≤ (rowF F2 j).length := by have := Hwj.out hrj; omega
                have Ha1 : Hid (Value.bool a2 = Value.bool a2) := Lib.hid rfl
                have HL1 : Hid (LLn wr w.heap.size wm.heap.size vals2 (F2.set j (rowF F2 j))) := Lib.hid (by rw [show F2.set j (rowF F2 j) = F2 from by rw [rowF_get hjF]; exact List.set_getElem_self _]; exact HL.out)
                have Hvb := Lib.hid (fun x hx => (hP2.out.1.ps.inv.bd j x hx).1)
                have HX1 := HX
                have HY1 := HY
                have HF1 := HF
                have HW1 := HW
                have hz1 := hz2
                clear hrj hunj husj
                generalize hr0e : rowF F2 j = r0 at *
                have Hr0e := Lib.hid hr0e
                clear hr0e
                go_wp2
                go_loopw [6, 62] (fun ag ix wr => ∃ (a3 : Bool) (s : Nat), s ≤ v.length ∧ ag = .bool a3 ∧ ix = .int .i64 s ∧ LLn wr w.heap.size wm.heap.size vals2 (F2.set j (joinTo v r0 s)) ∧ OwnI wr w0.heap.size 3 (.slice (some ⟨gx, 0, none⟩) v.length cx) v ∧ OwnI wr w0.heap.size 3 (.slice (some ⟨gy, 0, none⟩) ts.length cy) ts ∧ Below w.heap.size w wr ∧ w0.heap.size ≤ wr.heap.size ∧ Hid ((a3 = true → a2 = true ∨ joinTo v r0 s ≠ r0) ∧ (a3 = false → a2 = false ∧ joinTo v r0 s = r0))) (fun _ i _ => v.length - (intOf i).toNat)
                case atStart => exact ⟨a2, 0, Nat.zero_le _, (by first | rfl | exact Ha1.out), rfl, by rw [joinTo_zero]; exact HL1.out, HX1.out, HY1.out, HW1.out, hz1, Lib.hid ⟨fun e => .inl e, fun e => ⟨e, joinTo_zero _ _⟩⟩⟩
                case round =>
                  clear HL1 HX1 HY1 HW1 hz1 cuj fzj HL HX HY HW
                  obtain ⟨a3, s, hs, rfl, rfl, hL, hX, hY, hW, hz3, hA3⟩ := hrel
                  have HL3 := Lib.hid hL
                  have HX3 := Lib.hid hX
                  have HY3 := Lib.hid hY
                  have HW3 := Lib.hid hW
                  have HA3 := Lib.hid hA3.out
                  by_cases hls : s < v.length
                  · have hls0 : s < (r0).length := by omega
                    have hjn := joinTo_len (v := v) (r := r0) (by omega) (Nat.le_of_lt hls0)
                    obtain ⟨u5, hu5, cu5, -, -, hus5⟩ := hL.at_ (k := j) (r := joinTo v r0 s) (by rw [List.getElem?_set, if_pos rfl, if_pos hjF])
                    obtain ⟨g5, c5, rfl, hgB5, hgw5, hfz5, -, hc5⟩ := hus5 (fun e => by rw [e] at hjn; simp at hjn; omega)
                    have d1 := hc5 s (by omega)
                    rw [← getI_get (by omega), joinTo_at (by omega) hls0] at d1
                    obtain ⟨gx', egx, -, -, -, -, hcx⟩ := OwnI.at2 hX (by omega)
                    injection egx with egx; injection egx with egx
                    subst egx
                    have d2 := hcx s hls
                    rw [← getI_get hls] at d2
                    have hfz5 := hfz5 s
                    have Hst := Lib.hid (joinTo_turn (v := v) (r := r0) (by omega) hls0 (by rw [getI_get hls0]; exact Hvb.out _ (List.getElem_mem _)))
                    have Hsn := Lib.hid (joinTo_ne (v := v) (r := r0) (by omega) hls0)
                    have Hmem := Lib.hid (List.mem_of_getElem? hu5)
                    have Hu5 := Lib.hid hu5
                    have Hjs : Hid ((F2.set j (joinTo v r0 s))[j]? = some (joinTo v r0 s)) := Lib.hid (by rw [List.getElem?_set, if_pos rfl, if_pos hjF])
                    have hjn2 : s < (joinTo v r0 s).length := by omega
                    have hls : ((s : Nat) : Int) < ((v.length : Nat) : Int) := by omega
                    have hls1 : ((s : Nat) : Int) < (((joinTo v r0 s).length : Nat) : Int) := by omega
                    clear hL hX hY hW hA3 hus5 hc5 hcx hu5
                    generalize hzz : (r0).getD s 0 = z at *
                    generalize hyy : v.getD s 0 = y9 at *
                    clear hzz hyy
                    by_cases hzy : z = y9
                    · have Hq := Lib.hid (Hst.out.2 (fun h => h.1 hzy))
                      subst hzy
                      go_wp2
                      go_roundw
                      case rel => exact ⟨a3, s + 1, by omega, rfl, by go_num, by rw [Hq.out]; exact HL3.out, HX3.out, HY3.out, HW3.out, hz3, Lib.hid (by rw [Hq.out]; exact HA3.out)⟩
                      case measure => simp [intOf]; omega
                    · have qn : (z != y9) = true := by rw [bne_iff_ne]; exact hzy
                      by_cases hzm : z = -1
                      · have Hq := Lib.hid (Hst.out.2 (fun h => h.2 hzm))
                        subst hzm
                        clear hzy
                        go_wp2
                        go_roundw
                        case rel => exact ⟨a3, s + 1, by omega, rfl, by go_num, by rw [Hq.out]; exact HL3.out, HX3.out, HY3.out, HW3.out, hz3, Lib.hid (by rw [Hq.out]; exact HA3.out)⟩
                        case measure => simp [intOf]; omega
                      · have qm : (z != -1) = true := by rw [bne_iff_ne]; exact hzm
                        have Hq := Lib.hid (Hst.out.1 ⟨hzy, hzm⟩)
                        have HL5 := Lib.hid (LLn.cell HL3.out Hu5.out Hjs.out hjn2 (-1))
                        have HX5 := Lib.hid (Own.far HX3.out (p := ⟨g5, s, none⟩) (HF1.out.1 _ Hmem.out g5 rfl) (.int .i64 (-1)))
                        have HY5 := Lib.hid (Own.far HY3.out (p := ⟨g5, s, none⟩) (HF1.out.2 _ Hmem.out g5 rfl) (.int .i64 (-1)))
                        have HW5 := Lib.hid (HW3.out.setCell (p := ⟨g5, s, none⟩) (by show w.heap.size ≤ g5; omega) (.int .i64 (-1)))
                        clear hzy hzm
                        go_wp2
                        go_roundw
                        case rel => exact ⟨true, s + 1, by omega, rfl, by go_num, by rw [Hq.out.1]; have h := HL5.out; rw [List.set_set] at h; exact h, HX5.out, HY5.out, HW5.out, by simp [World.setCell]; omega, Lib.hid ⟨fun _ => .inr Hq.out.2, fun e => by cases e⟩⟩
                        case measure => simp [intOf]; omega
                  · have hse : s = v.length := by omega
                    have hj9 : joinTo v r0 s = joinK v r0 := by rw [hse, show v.length = (r0).length by omega]; exact joinTo_all (by omega)
                    have HLe : Hid (LLn wr w.heap.size wm.heap.size vals2 (updF F2 j v)) := Lib.hid (by rw [HFl.out.1, ← hj9]; exact hL)
                    have HAe : Hid ((a3 = true → a2 = true ∨ joinK v r0 ≠ r0) ∧ (a3 = false → a2 = false ∧ joinK v r0 = r0)) := Lib.hid (by rw [← hj9]; exact HA3.out)
                    clear hL hX hY hW hA3 hj9
                    subst hse
                    go_wp2
                    go_roundw
                    case rel =>
                      have k1 : a3 = true → a2 = true ∨ updF F2 j v ≠ F2 := fun e => by
                        rcases HAe.out.1 e with h | h
                        · exact HFl.out.2.1 h
                        · exact .inr (HFl.out.2.2.2.1 h)
                      have k2 : a3 = false → a2 = false ∧ updF F2 j v = F2 := fun e => by
                        obtain ⟨h1, h2⟩ := HAe.out.2 e
                        exact ⟨HFl.out.2.2.1 h1, HFl.out.2.2.2.2 h1 h2⟩
                      exact ⟨updF F2 j v, vals2, a3, t + 1, by have := Ht.out; omega, rfl, by go_num, HLe.out, HX3.out, HY3.out, Lib.hid HF1.out, HW3.out, hz3, Lib.hid ⟨Pt.step hP2.out.1 Htt.out hjF hvne (by omega) (by rw [Hr0e.out]; intro h; omega) Hiuj.out k1 k2, fun e => ((k2 e).2).trans (hP2.out.2 (k2 e).1)⟩⟩
                    case measure => simp [intOf]; omega
            · have hte : t = ts.length := by omega
              subst hte
              clear hL hX hY hF hW
              go_wp2
              go_roundw
              case rel => exact ⟨F2, vals2, a2, k + 1, by have := Hk.out; omega, rfl, by go_num, HL.out, HW.out, by omega, Lib.hid (Hnx.out _ _ hP2.out.1 hP2.out.2)⟩
              case measure => simp [intOf]; omega
        · have hke : k = p.length := by omega
          subst hke
          have hlt2 : 2 * potF F + a.toNat < 2 * potF F0 + 1 := by
            cases a with
            | false => have := hP.out.le; simp; omega
            | true => have := hP.out.less rfl; simp; omega
          have Hlt2 := Lib.hid hlt2
          clear hL hW hlt2
          go_wp2
          go_roundg (2 * potF F + a.toNat + 1)
          case measure => have := HG0.out; have := Hlt2.out; simp at *; omega
          case rel => exact ⟨F, vals, a, rfl, HL.out, HW.out, hz, Lib.hid hP.out.inv, Lib.hid (fun e i hi => hP.out.done e i hi), by omega⟩
end Go.Proofs.Ytmgejacndhnikaa
