/- shape.run, shape.Run walked. -/
import Derived.Test.YtmgejacndhnikaaShpC
import Derived.Deep.LoopGhost
namespace Go.Proofs.Ytmgejacndhnikaa
set_option maxRecDepth 100000
open Go.RowKit

/-- The variables' row and the box of the turns. -/
structure RunS (w0 w : World) (g c n T : Nat) (v : List Int) (t : Int) : Prop where
  bel : Below w0.heap.size w0 w
  row : OwnI w w0.heap.size 3 (.slice (some ⟨g, 0, none⟩) n c) v
  tc : w.heap[T]? = some (.cells #[.int .i64 t] 3 (0, 0))
  ne : g ≠ T ∧ w0.heap.size ≤ g ∧ w0.heap.size ≤ T
  len : v.length = n
  bd : ∀ x ∈ v, 0 ≤ x ∧ x ≤ 255
structure FrR (g T : Nat) (w w' : World) : Prop where
  size : w.heap.size ≤ w'.heap.size
  block : ∀ k, k < w.heap.size → k ≠ g → k ≠ T → w'.heap[k]? = w.heap[k]?
theorem FrR.refl (g T : Nat) (w : World) : FrR g T w w := ⟨Nat.le_refl _, fun _ _ _ _ => rfl⟩
theorem FrR.trans {g T : Nat} {a w w' : World} (h : FrR g T a w) (k : FrR g T w w') : FrR g T a w' := ⟨Nat.le_trans h.size k.size, fun i hi h1 h2 => (k.block i (Nat.lt_of_lt_of_le hi h.size) h1 h2).trans (h.block i hi h1 h2)⟩
theorem FrR.alloc {g T : Nat} {a w : World} (h : FrR g T a w) (o : Obj) : FrR g T a (w.alloc o) := h.trans ⟨by simp, fun _ hk _ _ => Below.heap_alloc _ _ _ hk⟩
theorem FrR.bel1 {g T : Nat} {w w' : World} (h : Bel1 g w w') : FrR g T w w' := ⟨h.size, fun k hk h1 _ => h.block k hk h1⟩
theorem FrR.setT {g T : Nat} {a w : World} (h : FrR g T a w) (u : Value) : FrR g T a (w.setCell ⟨T, 0, none⟩ u) := h.trans ⟨by simp [World.setCell], fun k _ _ h2 => Below.heap_setCell w ⟨T, 0, none⟩ u k h2⟩
section
variable {w0 w w' : World} {g c n T : Nat} {v : List Int} {t : Int}
theorem own_block {v : List Int} {base : Nat} (h : OwnI w base 3 (.slice (some ⟨g, 0, none⟩) n c) v) : g < w.heap.size := (own_lt' h g rfl).2
theorem RunS.alloc (h : RunS w0 w g c n T v t) (o : Obj) : RunS w0 (w.alloc o) g c n T v t :=
  ⟨h.bel.alloc h.bel.size o, h.row.alloc o, (Below.heap_alloc _ _ _ (lt_h h.tc)).trans h.tc, h.ne, h.len, h.bd⟩
theorem RunS.do_ (h : RunS w0 w g c n T v t) {v' : List Int} (hb : Bel1 g w w') (hO : OwnI w' w0.heap.size 3 (.slice (some ⟨g, 0, none⟩) n c) v') (hl : v'.length = n) (hbd : ∀ x ∈ v', 0 ≤ x ∧ x ≤ 255) : RunS w0 w' g c n T v' t :=
  ⟨h.bel.trans (hb.below h.ne.2.1 h.bel.size), hO, (hb.block T (lt_h h.tc) (fun e => h.ne.1 e.symm)).trans h.tc, h.ne, hl, hbd⟩
theorem RunS.setT (h : RunS w0 w g c n T v t) (t' : Int) : RunS w0 (w.setCell ⟨T, 0, none⟩ (.int .i64 t')) g c n T v t' := by
  refine ⟨h.bel.setCell (p := ⟨T, 0, none⟩) h.ne.2.2 _, h.row.far (p := ⟨T, 0, none⟩) (fun e => h.ne.1 (by injection e)) _, ?_, h.ne, h.len, h.bd⟩
  have := h.tc
  obtain ⟨hlt, hv⟩ := Array.getElem?_eq_some_iff.1 this
  unfold World.setCell
  rw [Array.getElem?_eq_getElem (by simpa using hlt), Array.getElem_modify]
  simp [hv]
end
theorem stepsL_get {d : Nat} : ∀ {l : List Shp} {k : Nat} (hk : k < l.length), l[k].code.length + stepsL d l[k].thn + stepsL d l[k].els ≤ stepsL (d + 1) l
  | [], _, hk => by simp at hk
  | x :: l, 0, _ => by
    rw [stepsL_cons]
    show x.code.length + stepsL d x.thn + stepsL d x.els ≤ _
    omega
  | x :: l, k + 1, hk => by
    have hk' : k < l.length := by simpa using hk
    have := stepsL_get (d := d) (l := l) (k := k) hk'
    rw [stepsL_cons]
    show l[k].code.length + stepsL d l[k].thn + stepsL d l[k].els ≤ _
    omega
def RunShE (w0 : World) (g c n T : Nat) (l : List Shp) (v : List Int) (t : Int) (w : World) (e : Ending) (w' : World) : Prop :=
  ∃ (b : Bool) (v' : List Int) (t' : Int), e = .returned (.bool b) ∧ RunS w0 w' g c n T v' t' ∧ FrR g T w w' ∧ t' ≤ t ∧ (b = true → 0 ≤ t' ∧ Ex l v v')
set_option maxHeartbeats 16000000 in
theorem shpRun_calls (w0 : World) (g c n T : Nat) (hn1 : 1 ≤ n) (hn8 : n ≤ 6) : ∀ (N d : Nat), d < N → ∀ (A : Option Addr) (l : List Shp) (cap : Nat) (w : World) (v : List Int) (t : Int), RdSh w0 d A l → stepsL d l ≤ 20 → OkS n d l → l.length ≤ 2199023255552 → RunS w0 w g c n T v t → 0 ≤ t → t ≤ 200 →
    Calls Try.prog 79 #[.slice A l.length cap, .slice (some ⟨g, 0, none⟩) n c, .pointer (some ⟨T, 0, none⟩)] w (RunShE w0 g c n T l v t w) := by
  intro N
  induction N with
  | zero => intro d h; omega
  | succ N ih =>
    intro d hd A l cap w v t hA hst hok hl hS ht0 ht2
    have HA := Lib.hid hA
    have HS := Lib.hid hS
    have Hok := Lib.hid hok
    have Hst := Lib.hid hst
    have IH := Lib.hid ih
    clear hA ih hS hok hst
    go_enter Try.func79, Try.ntmps79
    go_wp2
    go_loopw [12] (fun i wr => ∃ (j : Nat) (v' : List Int) (t' : Int), j ≤ l.length ∧ i = .int .i64 (j : Nat) ∧ 0 ≤ t' ∧ t' ≤ t ∧ Hid (RunS w0 wr g c n T v' t') ∧ Hid (FrR g T w wr) ∧ Hid (∀ z, Ex (l.drop j) v' z → Ex l v z)) (fun i _ => l.length - (intOf i).toNat)
    case atStart => exact ⟨0, v, t, Nat.zero_le _, rfl, ht0, Int.le_refl _, HS, Lib.hid (FrR.refl _ _ _), Lib.hid (fun z h => h)⟩
    case round =>
      clear HS
      obtain ⟨j, v1, t1, hj, rfl, ht10, ht11, HS, HF, HJ⟩ := hrel
      by_cases hlt : j < l.length
      · obtain ⟨d', hdd, b, off, A1, c1, A2, c2, A3, c3, rfl, hb, e0, e1, e2, e3, e4, r1, r2, r3, bc, bt, be⟩ := RdSh.at_ HA.out hlt
        have hX : OkX n d' l[j] := by have := Hok.out; rw [hdd] at this; exact OkS_get hlt this
        have hdn : d' < N := by omega
        have hsl : l[j].code.length + stepsL d' l[j].thn + stepsL d' l[j].els ≤ 20 := by
          have h1 := Hst.out
          rw [hdd] at h1
          exact Nat.le_trans (stepsL_get hlt) h1
        have HD : Hid (l.drop j = l[j] :: l.drop (j + 1)) := Lib.hid (List.drop_eq_getElem_cons hlt)
        rw [← HS.out.bel.cell hb] at e0 e1 e2 e3 e4
        have hbl : b < wr.heap.size := by have := HS.out.bel.size; omega
        have q3 : ((j : Nat) : Int) < ((l.length : Nat) : Int) := by omega
        have R1 := Lib.hid r1
        have R2 := Lib.hid r2
        have R3 := Lib.hid r3
        clear r1 r2 r3 hdd
        obtain ⟨r, hr⟩ : ∃ r, r = l.drop (j + 1) := ⟨_, rfl⟩
        rw [← hr] at HD
        have Hr := Lib.hid hr
        clear hr
        generalize l[j] = x at *
        obtain ⟨kind, test, code, thn, els⟩ := x
        obtain ⟨hk13, hcode, htest, hok1, hok2⟩ := hX
        dsimp only [Shp.kind, Shp.test, Shp.code, Shp.thn, Shp.els] at *
        have okt := Lib.hid hok1
        have oke := Lib.hid hok2
        have Hcode : Hid (kind = 1 → ∀ s ∈ code, SOk n s) := Lib.hid hcode
        clear hok1 hok2 hcode
        have HSa := Lib.hid (HS.out.alloc (.cells #[.int .i64 kind, .int .i64 test, .slice A1 code.length c1, .slice A2 thn.length c2, .slice A3 els.length c3] 59))
        have HFa := Lib.hid (HF.out.alloc (.cells #[.int .i64 kind, .int .i64 test, .slice A1 code.length c1, .slice A2 thn.length c2, .slice A3 els.length c3] 59))
        have HN := Lib.hid (heap_alloc_new wr (.cells #[.int .i64 kind, .int .i64 test, .slice A1 code.length c1, .slice A2 thn.length c2, .slice A3 els.length c3] 59))
        have hv1 := HS.out.len
        have hvb := HS.out.bd
        have Hvb := Lib.hid hvb
        clear hvb
        have hk : kind = 1 ∨ kind = 2 ∨ kind = 3 := by omega
        rcases hk with rfl | rfl | rfl
        · have Hc1 := Lib.hid (Hcode.out rfl)
          have HDo := Lib.hid (blkDo_calls A1 code c1 w0.heap.size g n c v1 w0 (wr.alloc (.cells #[.int .i64 1, .int .i64 test, .slice A1 code.length c1, .slice A2 thn.length c2, .slice A3 els.length c3] 59)) R1.out HSa.out.bel (Nat.le_refl _) HSa.out.row hn1 (by omega) (by omega) Hc1.out Hvb.out hv1)
          go_wp2_with fail
          (with_reducible refine HDo.out.mono ?_)
          rintro e w9 ⟨⟨u9, rfl⟩, hO, hB⟩
          have HS9 := Lib.hid (HSa.out.do_ hB hO (by rw [dgR_len]; exact hv1) (dgR_bd Hc1.out Hvb.out))
          have HF9 := Lib.hid (HFa.out.trans (FrR.bel1 hB))
          have HE9 : Hid (∀ z, Ex r (dgR v1 code) z → Ex l v z) := Lib.hid (fun z h => HJ.out z (by rw [HD.out]; exact Ex.code rfl h))
          clear hO hB HDo
          go_wp2_with fail
          go_roundw
          case rel => exact ⟨j + 1, _, t1, by omega, by go_num, ht10, ht11, HS9, HF9, Lib.hid (by rw [← Hr.out]; exact HE9.out)⟩
          case measure => simp [intOf]; omega
        · obtain ⟨t0, t6⟩ := htest (by decide)
          obtain ⟨tt, rfl⟩ := Int.eq_ofNat_of_zero_le t0
          have htl : tt < v1.length := by omega
          have htn : ((tt : Nat) : Int) < ((n : Nat) : Int) := by omega
          obtain ⟨_, eg, -, hgl, -, -, hce⟩ := OwnI.at2 HS.out.row (by omega)
          injection eg with eg; injection eg with eg; subst eg
          have ct := hce tt htl
          have eg2 : v1.getD ((tt : Nat) : Int).toNat 0 = v1[tt] := by rw [Int.toNat_natCast]; exact getI_get htl
          by_cases hz : v1[tt] = 0
          · have qz : (v1[tt] == 0) = true := by rw [beq_iff_eq]; exact hz
            have HZ : Hid (v1.getD ((tt : Nat) : Int).toNat 0 = 0) := Lib.hid (by rw [eg2]; exact hz)
            rw [hz] at ct
            clear hce eg2 qz hz
            have HC := Lib.hid (IH.out d' hdn A3 els c3 (wr.alloc (.cells #[.int .i64 2, .int .i64 (tt : Nat), .slice A1 code.length c1, .slice A2 thn.length c2, .slice A3 els.length c3] 59)) v1 t1 R3.out (by omega) oke.out be HSa.out ht10 (by omega))
            go_wp2_with fail
            (with_reducible refine HC.out.mono ?_)
            rintro e w9 ⟨bb, v9, t9, rfl, hS9, hF9, hle, hex⟩
            have HS9 := Lib.hid hS9
            have HF9 := Lib.hid (HFa.out.trans hF9)
            have Hex := Lib.hid hex
            clear hS9 hF9 hex HC
            cases bb
            · go_wp2_with fail
              go_ret
              exact ⟨false, v9, t9, rfl, HS9.out, HF9.out, by omega, fun h => by cases h⟩
            · have h9 := (Hex.out rfl).1
              have HE9 : Hid (∀ z, Ex r v9 z → Ex l v z) := Lib.hid (fun z h => HJ.out z (by rw [HD.out]; exact Ex.no rfl (HZ.out) (Hex.out rfl).2 h))
              go_wp2_with fail
              go_roundw
              case rel => exact ⟨j + 1, v9, t9, by omega, by go_num, h9, by omega, HS9, HF9, Lib.hid (by rw [← Hr.out]; exact HE9.out)⟩
              case measure => simp [intOf]; omega
          · have qz : (v1[tt] == 0) = false := by rw [beq_eq_false_iff_ne]; exact hz
            have HZ : Hid (v1.getD ((tt : Nat) : Int).toNat 0 ≠ 0) := Lib.hid (by rw [eg2]; exact hz)
            clear hce eg2 hz
            generalize v1[tt] = xx at *
            have HC := Lib.hid (IH.out d' hdn A2 thn c2 (wr.alloc (.cells #[.int .i64 2, .int .i64 (tt : Nat), .slice A1 code.length c1, .slice A2 thn.length c2, .slice A3 els.length c3] 59)) v1 t1 R2.out (by omega) okt.out bt HSa.out ht10 (by omega))
            go_wp2_with fail
            (with_reducible refine HC.out.mono ?_)
            rintro e w9 ⟨bb, v9, t9, rfl, hS9, hF9, hle, hex⟩
            have HS9 := Lib.hid hS9
            have HF9 := Lib.hid (HFa.out.trans hF9)
            have Hex := Lib.hid hex
            clear hS9 hF9 hex HC
            cases bb
            · go_wp2_with fail
              go_ret
              exact ⟨false, v9, t9, rfl, HS9.out, HF9.out, by omega, fun h => by cases h⟩
            · have h9 := (Hex.out rfl).1
              have HE9 : Hid (∀ z, Ex r v9 z → Ex l v z) := Lib.hid (fun z h => HJ.out z (by rw [HD.out]; exact Ex.yes rfl (HZ.out) (Hex.out rfl).2 h))
              go_wp2_with fail
              go_roundw
              case rel => exact ⟨j + 1, v9, t9, by omega, by go_num, h9, by omega, HS9, HF9, Lib.hid (by rw [← Hr.out]; exact HE9.out)⟩
              case measure => simp [intOf]; omega
        · obtain ⟨t0, t6⟩ := htest (by decide)
          obtain ⟨tt, rfl⟩ := Int.eq_ofNat_of_zero_le t0
          have htn : ((tt : Nat) : Int) < ((n : Nat) : Int) := by omega
          have hgl := own_block HS.out.row
          have hTl := lt_h HS.out.tc
          go_wp2_with fail
          obtain ⟨S, hSz⟩ : ∃ S, S = wr.heap.size := ⟨_, rfl⟩
          rw [← hSz] at HN ⊢
          have hSg : S ≠ g := by omega
          have hST : S ≠ T := by omega
          have HJ2 : Hid (∀ z, Ex (.mk 3 (tt : Nat) code thn els :: r) v1 z → Ex l v z) := Lib.hid (fun z h => HJ.out z (by rw [HD.out]; exact h))
          clear hSz HS HF e0 e1 e2 e3 e4 HJ hgl hTl hbl Hvb hv1
          go_loopg [43] (t1.toNat) (fun G _ wr => ∃ (v' : List Int) (t' : Int), 0 ≤ t' ∧ t' ≤ t ∧ t'.toNat = G ∧ Hid (RunS w0 wr g c n T v' t') ∧ Hid (FrR g T w wr) ∧ Hid (wr.heap[S]? = some (.cells #[.int .i64 3, .int .i64 (tt : Nat), .slice A1 code.length c1, .slice A2 thn.length c2, .slice A3 els.length c3] 59 (0, 0))) ∧ Hid (∀ z, Ex (.mk 3 (tt : Nat) code thn els :: r) v' z → Ex l v z))
          case atStart => exact ⟨v1, t1, ht10, ht11, rfl, HSa, HFa, HN, HJ2⟩
          case round =>
            clear HSa HFa HN HJ2
            obtain ⟨v2, t2, ht20, ht21, hG, HS, HF, HN, HJ⟩ := hrel
            have hv2 := HS.out.len
            have htl : tt < v2.length := by omega
            obtain ⟨_, eg, -, hgl, -, -, hce⟩ := OwnI.at2 HS.out.row (by omega)
            injection eg with eg; injection eg with eg; subst eg
            have ct := hce tt htl
            have f1 : wr.cell? ⟨S, 1, none⟩ = some (.int .i64 (tt : Nat)) := cell_h HN.out 1
            have f3 : wr.cell? ⟨S, 3, none⟩ = some (.slice A2 thn.length c2) := cell_h HN.out 3
            have hSl := lt_h HN.out
            have HZe : Hid (v2.getD ((tt : Nat) : Int).toNat 0 = v2[tt]) := Lib.hid (by rw [Int.toNat_natCast]; exact getI_get htl)
            clear hce
            by_cases hz : v2[tt] = 0
            · have qz : (v2[tt] != 0) = false := by rw [bne_eq_false_iff_eq]; exact hz
              have HE9 : Hid (∀ z, Ex r v2 z → Ex l v z) := Lib.hid (fun z h => HJ.out z (Ex.stop rfl (by show v2.getD ((tt : Nat) : Int).toNat 0 = 0; rw [HZe.out]; exact hz) h))
              rw [hz] at ct
              clear qz hz HZe
              go_wp2
              go_roundw
              case rel => exact ⟨j + 1, v2, t2, by omega, by go_num, ht20, ht21, HS, HF, Lib.hid (by rw [← Hr.out]; exact HE9.out)⟩
              case measure => simp [intOf]; omega
            · have qz : (v2[tt] != 0) = true := by rw [bne_iff_ne]; exact hz
              have HZ : Hid (v2.getD ((tt : Nat) : Int).toNat 0 ≠ 0) := Lib.hid (by rw [HZe.out]; exact hz)
              have tcl : wr.cell? ⟨T, 0, none⟩ = some (.int .i64 t2) := cell_h HS.out.tc 0
              have tfz : wr.frozen? ⟨T, 0, none⟩ = false := fz_h HS.out.tc 0
              have hTl := lt_h HS.out.tc
              have u1 : IntKind.i64.wrap (t2 - 1) = t2 - 1 := IntWalk.i64_in _ (by omega)
              have HSs := Lib.hid (HS.out.setT (t2 - 1))
              have HFs := Lib.hid (HF.out.setT (.int .i64 (t2 - 1)))
              have HNs := Lib.hid ((Below.heap_setCell wr ⟨T, 0, none⟩ (.int .i64 (t2 - 1)) S hST).trans HN.out)
              have HFn : Hid (FrR g T wr wr) := Lib.hid (FrR.refl _ _ _)
              have hTS : T ≠ S := fun e => hST e.symm
              clear hz HZe
              generalize v2[tt] = xx at *
              by_cases hneg : t2 - 1 < 0
              · have dn : decide (t2 - 1 < 0) = true := decide_eq_true hneg
                clear hneg
                go_wp2
                go_ret
                exact ⟨false, v2, t2 - 1, rfl, HSs.out, HFs.out, by omega, fun h => by cases h⟩
              · have dn : decide (t2 - 1 < 0) = false := decide_eq_false hneg
                have HC := Lib.hid (IH.out d' hdn A2 thn c2 _ v2 (t2 - 1) R2.out (by omega) okt.out bt HSs.out (by omega) (by omega))
                go_wp2_with fail
                (with_reducible refine HC.out.mono ?_)
                rintro e w9 ⟨bb, v9, t9, rfl, hS9, hF9, hle, hex⟩
                have HS9 := Lib.hid hS9
                have HF9 := Lib.hid (HFs.out.trans hF9)
                have HN9 := Lib.hid ((hF9.block S (lt_h HNs.out) hSg hST).trans HNs.out)
                have Hex := Lib.hid hex
                clear hS9 hF9 hex HC
                cases bb
                · go_wp2_with fail
                  go_ret
                  exact ⟨false, v9, t9, rfl, HS9.out, HF9.out, by omega, fun h => by cases h⟩
                · have h9 := (Hex.out rfl).1
                  have HE9 : Hid (∀ z, Ex (.mk 3 (tt : Nat) code thn els :: r) v9 z → Ex l v z) := Lib.hid (fun z h => HJ.out z (Ex.go rfl HZ.out (Hex.out rfl).2 h))
                  go_wp2_with fail
                  go_roundg (t9.toNat)
                  case measure => omega
                  case rel => exact ⟨v9, t9, h9, by omega, rfl, HS9, HF9, HN9, HE9⟩
      · have hje : j = l.length := by omega
        subst hje
        have HE : Hid (Ex l v v1) := Lib.hid (HJ.out v1 (by rw [List.drop_length]; exact Ex.nil v1))
        clear hlt
        go_wp2
        go_ret
        exact ⟨true, v1, t1, rfl, HS.out, HF.out, ht11, fun _ => ⟨ht10, HE.out⟩⟩
end Go.Proofs.Ytmgejacndhnikaa
