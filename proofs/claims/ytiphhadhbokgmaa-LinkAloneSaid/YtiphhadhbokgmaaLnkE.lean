/- link.Link walked. -/
import Derived.Test.YtiphhadhbokgmaaLnkD
namespace Go.Proofs.Ytiphhadhbokgmaa
set_option maxRecDepth 100000
open Go.RowKit Go.Maps

abbrev OwnB (w : World) (base : Nat) (v : Value) (l : List Int) : Prop := Own byteCells 1 w base 5 v l
theorem infoB : (Try.prog.info? 5).map (fun i => (i.zero, i.size, i.bytes)) = some (some (.int .u8 0), 1, 1) := by kernel_rfl
theorem byteCells_len (x : Int) : (byteCells x).length = 1 := rfl
theorem byteCells_one (x : Int) : ∀ u ∈ byteCells x, u.oneCell' = true := by intro u hu; simp [byteCells] at hu; subst hu; rfl
theorem OwnB.at2 {w : World} {base n c : Nat} {A : Option Addr} {l : List Int} (h : OwnB w base (.slice A n c) l) (hl : 0 < l.length) :
    ∃ g, A = some ⟨g, 0, none⟩ ∧ base ≤ g ∧ g < w.heap.size ∧ l.length ≤ c ∧ (∀ j, w.frozen? ⟨g, j, none⟩ = false) ∧ ∀ k (_hk : k < l.length), w.cell? ⟨g, k, none⟩ = some (.int .u8 l[k]) := by
  obtain ⟨g, cap, e, h1, h2, h3, h4⟩ := Own.some_ h hl
  injection e with e1 e2 e3
  subst e1 e2 e3
  refine ⟨g, rfl, h1, h2, h3, h4, fun k hk => ?_⟩
  have := Own.cell_ byteCells_len h hk (j := 0) (by decide)
  simpa [byteCells] using this
theorem OwnB.set_ {w : World} {base g cap n : Nat} {l : List Int} (h : OwnB w base (.slice (some ⟨g, 0, none⟩) n cap) l) {k : Nat} (_hk : k < l.length) (y : Int) :
    OwnB (w.setCell ⟨g, k, none⟩ (.int .u8 y)) base (.slice (some ⟨g, 0, none⟩) n cap) (l.set k y) := by
  have hn : n = l.length := by
    rcases h.2 with ⟨h0, _⟩ | ⟨_, _, _, h0, _⟩
    · cases h0
    · injection h0
  subst hn
  have e : ∀ l : List Int, l.flatMap byteCells = l.map (Value.int .u8) := fun l => by
    induction l with
    | nil => rfl
    | cons x r ih => rw [List.flatMap_cons, ih]; rfl
  have h1 := World.ownsRow.stored (w := w) (base := base) (e := 5) (size := 1) (g := g) (cap := cap) (n := l.length) (xs := l.flatMap byteCells) h k (.int .u8 y)
  unfold OwnB Own
  rw [e] at h1 ⊢
  rw [List.length_set, List.map_set]
  exact h1.1
def bytesF (l : List Ob) (k : Nat) : List Int := ((l.take k).map Ob.bytes).flatten
theorem bytesF_succ {l : List Ob} {k : Nat} (h : k < l.length) : bytesF l (k + 1) = bytesF l k ++ l[k].bytes := by
  unfold bytesF
  rw [List.take_succ_eq_append_getElem h, List.map_append, List.flatten_append]
  simp
theorem bytesF_len (l : List Ob) (k : Nat) : (bytesF l k).length = offs l k := by unfold bytesF offs; rw [List.length_flatten, List.map_map]; rfl
def missW (l : List Ob) (p : Int × Int) : Bool := (lk (entsL l) p.1).isNone
def missO (l : List Ob) (o : Ob) : Bool := o.wants.any (missW l)
theorem all_iff {l : List Ob} : AllL l ↔ ∀ o ∈ l, missO l o = false := by
  unfold AllL missO missW
  constructor
  · intro h o ho
    rw [List.any_eq_false]
    intro p hp
    have := h o ho p hp
    rcases e : lk (entsL l) p.1 with _ | v
    · exact absurd e this
    · simp
  · intro h o ho p hp e
    have := List.any_eq_false.1 (h o ho) p hp
    rw [e] at this
    exact this rfl
def LinkE (l : List Ob) (w : World) (e : Ending) (w' : World) : Prop :=
  Below w.heap.size w w' ∧ ((obErr l ≠ 0 ∧ e = .returned (.tuple #[.slice none 0 0, .int .i64 (obErr l)])) ∨
    (OkL l ∧ ((¬ AllL l ∧ e = .returned (.tuple #[.slice none 0 0, .int .i64 5])) ∨ (AllL l ∧ ∃ v b, e = .returned (.tuple #[v, .int .i64 0]) ∧ OwnB w' w.heap.size v b ∧ PatL l b l.length 0))))
theorem TabL.atc {w : World} {M : Nat} {V : Value} {L : List EntL} {l : List Ob} (h : TabL w M V L (atsL l l.length)) {i : Nat} (hi : i < l.length) : ∃ g cV, V = .slice (some ⟨g, 0, none⟩) l.length cV ∧ g < w.heap.size ∧ w.cell? ⟨g, i, none⟩ = some (.int .i64 ((offs l i : Nat) : Int)) := by
  have hl : (atsL l l.length).length = l.length := by unfold atsL; rw [List.length_map, List.length_range]
  obtain ⟨A, cV, e, -⟩ := Own.form intCells_len h.at_
  rw [hl] at e
  have h2 := h.at_
  rw [e] at h2
  obtain ⟨g, rfl, h3, h4, -, -, h5⟩ := OwnI.at2 h2 (by omega)
  refine ⟨g, cV, e, h4, ?_⟩
  rw [h5 i (by omega)]
  unfold atsL
  simp
set_option maxHeartbeats 8000000 in
theorem link_calls (A : Option Addr) (l : List Ob) (cap : Nat) (w : World) (hA : RdOb w A l) (hm : l.length ≤ maxLen) (hwf : WfL l) (hml : ∀ o ∈ l, o.bytes.length ≤ maxLen ∧ o.has.length ≤ maxLen ∧ o.wants.length ≤ maxLen) :
    Calls Try.prog 21 #[.slice A l.length cap] w (LinkE l w) := by
  have HC := Lib.hid (build_calls A l cap w hA hm hwf hml)
  have HA := Lib.hid hA
  have Hwf := Lib.hid hwf
  clear hA hm hwf hml
  by_cases h0 : obErr l = 0
  · have H0 := Lib.hid h0
    have h5 := (obErr_iff.1 h0).n5
    clear h0
    go_enter Try.func21, Try.ntmps21
    go_wp2_with (go_at_call 35; (with_reducible refine HC.out.mono ?_); rintro e w5 ⟨hb, h⟩; obtain ⟨hok, M, V, rfl, hM, hT⟩ := h.resolve_left (fun h => h.1 H0.out); have HT := Lib.hid hT; have HB := Lib.hid hb; have HOk := Lib.hid hok; clear h hT hb hok)
    go_loopw [6, 26] (fun v i wr => ∃ (k : Nat), k ≤ l.length ∧ i = .int .i64 k ∧ Hid (OwnB wr w5.heap.size v (bytesF l k)) ∧ Hid (Below w5.heap.size w5 wr)) (fun _ i _ => l.length - (intOf i).toNat)
    case atStart => exact ⟨0, Nat.zero_le _, rfl, Lib.hid (Own.nil_ _ _ _), Lib.hid (Below.refl _ _)⟩
    case round =>
      obtain ⟨k, hk, rfl, HO, HW⟩ := hrel
      by_cases hlt : k < l.length
      · obtain ⟨b, off, A1, c1, A2, c2, A3, c3, rfl, hb, d0, d1, d2, hR1, -, -⟩ := RdOb.at_ ((HA.out.below HB.out).below HW.out) hlt
        have hlt1 : ((k : Nat) : Int) < ((l.length : Nat) : Int) := by omega
        obtain ⟨z1, -, -⟩ := HOk.out.small _ (List.getElem_mem hlt)
        have HS := Lib.hid (bytesF_succ hlt)
        have hof : offs l k ≤ 1000 := by
          have := lenO_le (l.take k) (fun o ho => (HOk.out.small o (List.mem_of_mem_take ho)).1)
          rw [List.length_take] at this
          unfold offs
          omega
        have hbl := bytesF_len l k
        generalize l[k] = o at *
        have hws := HW.out.size
        have HWa := Lib.hid (HW.out.alloc hws (.cells #[.slice A1 o.bytes.length c1, .slice A2 o.has.length c2, .slice A3 o.wants.length c3] 64))
        have HOa := HO.out.alloc (.cells #[.slice A1 o.bytes.length c1, .slice A2 o.has.length c2, .slice A3 o.wants.length c3] 64)
        have hR := Rd.below hR1 ((Below.refl _ wr).alloc (Nat.le_refl _) (.cells #[.slice A1 o.bytes.length c1, .slice A2 o.has.length c2, .slice A3 o.wants.length c3] 64))
        obtain ⟨v', w', hrun, hown, hgrow, -⟩ := run_appN (P := Try.prog) 31 31 byteCells 1 1 5 (.int .u8 0) Try.underlying31 infoB rfl (by decide) byteCells_len byteCells_one w5.heap.size _ _ HOa A1 o.bytes c1 hR (by unfold maxLen; omega) (by omega) (HWa.out.size)
        have HW2 := Lib.hid (HWa.out.grown hgrow HWa.out.size (fun j hj => (own_ltE HOa j hj).1))
        have HO2 : Hid (OwnB w' w5.heap.size v' (bytesF l (k + 1))) := Lib.hid (by rw [HS.out]; exact hown)
        have Hrun := Lib.hid hrun
        clear hrun hown hgrow hR HOa HO HW hws hR1 HWa hbl hof z1 HS
        go_wp2_with (at_builtin; refine wpList_app_run rfl 31 _ _ rfl rfl rfl Hrun.out ?_)
        go_roundw
        case rel => exact ⟨k + 1, by omega, by go_num, HO2, HW2⟩
        case measure => simp [intOf]; omega
      · have hke : k = l.length := by omega
        subst hke
        have HPa := Lib.hid (PatL.start (l := l) (b := bytesF l l.length) (by unfold bytesF; rw [List.take_length]) (fun o ho => (Hwf.out o ho).2.2))
        obtain ⟨Ab, cb, rfl, -⟩ := Own.form byteCells_len HO.out
        have hbl := HPa.out.len
        generalize (bytesF l l.length).length = n at HO hbl ⊢
        subst hbl
        have HO1 := HO
        have HW1 := HW
        clear HO HW
        go_wp2
        go_loopw [37] (fun i wr => ∃ (k : Nat) (b : List Int), k ≤ l.length ∧ i = .int .i64 k ∧ Hid (OwnB wr w5.heap.size (.slice Ab (lenO l) cb) b) ∧ Hid (PatL l b k 0) ∧ Hid (∀ o ∈ l.take k, missO l o = false) ∧ Hid (Below w5.heap.size w5 wr)) (fun i _ => l.length - (intOf i).toNat)
        case atStart => exact ⟨0, _, Nat.zero_le _, rfl, HO1, HPa, Lib.hid (fun o ho => by simp at ho), HW1⟩
        case round =>
          clear HO1 HW1 HPa
          obtain ⟨k, b, hk, rfl, HO, HP, HM, HW⟩ := hrel
          by_cases hlt : k < l.length
          · obtain ⟨bb, off, A1, c1, A2, c2, A3, c3, rfl, hb, d0, d1, d2, -, -, hR3⟩ := RdOb.at_ (HA.out.below HB.out) hlt
            rw [← HW.out.cell hb] at d0 d1 d2
            have hlt1 : ((k : Nat) : Int) < ((l.length : Nat) : Int) := by omega
            have HOb := Lib.hid (obAt_get hlt)
            have HMn := Lib.hid (any_take hlt HM.out)
            have hmem := List.getElem_mem hlt
            have Hww := Lib.hid (HOk.out.wants _ hmem)
            have hw12 := (HOk.out.small _ hmem).2.2
            have hof : offs l k + l[k].bytes.length ≤ lenO l := by have := offs_end hlt; rwa [obAt_get hlt] at this
            have HAl := Lib.hid (fun h : missO l l[k] = true => show ¬ AllL l from fun h2 => by rw [all_iff.1 h2 _ hmem] at h; cases h)
            have hMo : Hid (missO l l[k] = l[k].wants.any (missW l)) := Lib.hid rfl
            have Hwf1 := Lib.hid (Hwf.out _ hmem).2.1
            have hlO : lenO l ≤ 1000 := by have := lenO_le l (fun o ho => (HOk.out.small o ho).1); omega
            have HRp := Lib.hid hR3
            clear hmem HM hR3
            generalize l[k] = o at *
            have hws := HW.out.size
            have HWa := Lib.hid (HW.out.alloc hws (.cells #[.slice A1 o.bytes.length c1, .slice A2 o.has.length c2, .slice A3 o.wants.length c3] 64))
            have HOa := Lib.hid (HO.out.alloc (.cells #[.slice A1 o.bytes.length c1, .slice A2 o.has.length c2, .slice A3 o.wants.length c3] 64))
            go_wp2
            clear HW HO hws d0 d1 d2
            go_loopw [45] (fun i wr => ∃ (j : Nat) (b : List Int), j ≤ o.wants.length ∧ i = .int .i64 j ∧ Hid (OwnB wr w5.heap.size (.slice Ab (lenO l) cb) b) ∧ Hid (PatL l b k j) ∧ Hid (∀ p ∈ o.wants.take j, missW l p = false) ∧ Hid (Below w5.heap.size w5 wr)) (fun i _ => o.wants.length - (intOf i).toNat)
            case atStart => exact ⟨0, _, Nat.zero_le _, rfl, HOa, HP, Lib.hid (fun o ho => by simp at ho), HWa⟩
            case round =>
              clear HOa HP HWa
              obtain ⟨j, b, hj, rfl, HO, HP, HM, HW⟩ := hrel
              by_cases hlj : j < o.wants.length
              · obtain ⟨b2, o2, e2, hb2, e0, e1⟩ := RdP.at2 (Rd.below HRp.out HW.out) hlj
                subst e2
                have hlj1 : ((j : Nat) : Int) < ((o.wants.length : Nat) : Int) := by omega
                have hpm := List.getElem_mem hlj
                obtain ⟨p0, p1⟩ := Hww.out _ hpm
                have hwx := Hwf1.out _ hpm
                have HMj := Lib.hid (any_take hlj HM.out)
                have Hget : Hid ((obAt l k).wants[j]? = some o.wants[j]) := Lib.hid (by rw [HOb.out]; exact List.getElem?_eq_getElem hlj)
                have Hmis := Lib.hid (fun h : missW l o.wants[j] = true => HAl.out (by rw [hMo.out]; exact List.any_eq_true.2 ⟨_, hpm, h⟩))
                clear hpm HM
                generalize o.wants[j] = h at *
                obtain ⟨x, y⟩ := h
                dsimp only at e0 e1 p0 p1 hwx
                obtain ⟨yn, rfl⟩ : ∃ yn : Nat, y = yn := ⟨y.toNat, by omega⟩
                have hws := HW.out.size
                obtain ⟨P, hP⟩ : ∃ P, P = wr.heap.size := ⟨_, rfl⟩
                obtain ⟨w0, hw0⟩ : ∃ w0, w0 = wr.alloc (.cells #[.int .i64 x, .int .i64 (yn : Nat)] 65) := ⟨_, rfl⟩
                have HW0 : Hid (Below w5.heap.size w5 w0) := Lib.hid (by rw [hw0]; exact HW.out.alloc hws _)
                have HO0 : Hid (OwnB w0 w5.heap.size (.slice Ab (lenO l) cb) b) := Lib.hid (by rw [hw0]; exact HO.out.alloc _)
                have HP0 : Hid (w0.heap[P]? = some (.cells #[.int .i64 x, .int .i64 (yn : Nat)] 65 (0, 0))) := Lib.hid (by rw [hw0, hP]; exact heap_alloc_new wr _)
                have Hw0 := Lib.hid hw0
                have HPe := Lib.hid hP
                clear hw0 hP HO HW
                go_wp2
                rw [← HPe.out, ← Hw0.out]
                clear Hw0 HPe e0 e1 hws
                have f0 : w0.cell? ⟨P, 0, none⟩ = some (.int .i64 x) := by rw [cell_of_row w0 P 0 _ _ _ HP0.out]; rfl
                have HT0 := Lib.hid (HT.out.below HW0.out)
                have t2 : w0.cell? ⟨M + 2, 2, none⟩ = some (.map (some (M + 1))) := HT0.out.cells.2.2.1
                have hlk := fun nq => ((HT0.out.drewN nq).look hwx).2
                cases hv : lk (entsL l) x with
                | none =>
                  have Hv := Lib.hid (Hmis.out (by unfold missW; rw [hv]; rfl))
                  unfold fE at hlk
                  rw [hv] at hlk
                  change ∀ nq, (Instr.lookup 89 (.map (some (M + 1))) (.int .i64 x) true).run Try.prog (w0.drewN nq) = .ok (.tuple #[.int .i64 0, .bool false]) (w0.drewN nq) at hlk
                  clear hv
                  go_quiet (fail)
                  have HW2 := Lib.hid (HB.out.trans ((below_dN HW0.out nq).mono HB.out.size))
                  clear hlk f0 t2 HT0 HP0 HO0 HW0
                  go_wp2
                  go_ret2
                  exact ⟨HW2.out, .inr ⟨HOk.out, .inl ⟨Hv.out, rfl⟩⟩⟩
                | some q =>
                  obtain ⟨i, a⟩ := q
                  obtain ⟨hi, p, hp, -, ha⟩ := lk_at hv
                  have ha1 : 0 ≤ a ∧ a ≤ 1200 := by
                    have h1 := HOk.out.has _ (List.getElem_mem hi) p hp
                    have h2 := HOk.out.small _ (List.getElem_mem hi)
                    have h3 := offs_end hi
                    omega
                  have HNx := Lib.hid (HP.out.next HOk.out hlt Hget.out hv)
                  have HMs := Lib.hid (HMj.out (by unfold missW; rw [hv]; rfl))
                  unfold fE at hlk
                  rw [hv] at hlk
                  change ∀ nq, (Instr.lookup 89 (.map (some (M + 1))) (.int .i64 x) true).run Try.prog (w0.drewN nq) = .ok (.tuple #[.int .i64 a, .bool true]) (w0.drewN nq) at hlk
                  clear hv hp ha hi Hmis HMj
                  go_quiet (fail)
                  have HWb : Hid (Below w5.heap.size w5 (w0.drewN nq)) := Lib.hid (below_dN HW0.out nq)
                  have HOb2 : Hid (OwnB (w0.drewN nq) w5.heap.size (.slice Ab (lenO l) cb) b) := HO0
                  have HPb : Hid ((w0.drewN nq).heap[P]? = some (.cells #[.int .i64 x, .int .i64 (yn : Nat)] 65 (0, 0))) := HP0
                  have HTb := Lib.hid (HT0.out.drewN nq)
                  clear hlk f0 t2 HT0 HP0 HO0 HW0
                  generalize w0.drewN nq = wd at *
                  have f1 : wd.cell? ⟨P, 1, none⟩ = some (.int .i64 (yn : Nat)) := by rw [cell_of_row wd P 1 _ _ _ HPb.out]; rfl
                  have t0 : wd.cell? ⟨M + 2, 0, none⟩ = some V := HTb.out.cells.1
                  obtain ⟨gv, cV, hV, hgv, v0⟩ := HTb.out.atc hlt
                  rw [hV] at t0
                  obtain ⟨K, hK⟩ : ∃ K, K = offs l k + yn := ⟨_, rfl⟩
                  have u1 : IntKind.i64.wrap (((offs l k : Nat) : Int) + ((yn : Nat) : Int)) = ((K : Nat) : Int) := by rw [IntWalk.i64_in _ (by omega)]; omega
                  have hyb : yn + 2 ≤ o.bytes.length := by omega
                  have HK := Lib.hid hK
                  have hK1 : K + 1 < lenO l := by omega
                  clear hK p0 p1
                  go_wp2
                  go_quiet (fail)
                  have HWc : Hid (Below w5.heap.size w5 (wd.drewN nq)) := Lib.hid (below_dN HWb.out nq)
                  have HOc : Hid (OwnB (wd.drewN nq) w5.heap.size (.slice Ab (lenO l) cb) b) := HOb2
                  clear HWb HOb2 HPb HTb f1 t0 v0 u1
                  generalize wd.drewN nq = wf at *
                  have hbn := HP.out.len
                  obtain ⟨g, rfl, hg1, hg2, -, hfz, hce⟩ := OwnB.at2 HOc.out (by omega)
                  have c1' := hce K (by omega)
                  have c2' := hce (K + 1) (by omega)
                  have z1 := hfz K
                  have z2 := hfz (K + 1)
                  have u2 : IntKind.i64.wrap (((K : Nat) : Int) + 1) = ((K + 1 : Nat) : Int) := by rw [IntWalk.i64_in _ (by omega)]; omega
                  have u3 : IntKind.u8.wrap a = a % 256 := IntKind.wrap_u8 a
                  have u4 : IntKind.u8.wrap (a / 256) = a / 256 % 256 := IntKind.wrap_u8 _
                  have l1 : ((K : Nat) : Int) < ((lenO l : Nat) : Int) := by omega
                  have l2 : ((K + 1 : Nat) : Int) < ((lenO l : Nat) : Int) := by omega
                  clear hce hfz
                  have HKn : Hid (PatL l ((b.set K (a % 256)).set (K + 1) (a / 256 % 256)) k (j + 1)) := Lib.hid (by
                    have := HNx.out
                    rw [Int.toNat_natCast, ← HK.out] at this
                    exact this)
                  have HOd : Hid (OwnB ((wf.setCell ⟨g, K, none⟩ (.int .u8 (a % 256))).setCell ⟨g, K + 1, none⟩ (.int .u8 (a / 256 % 256))) w5.heap.size (.slice (some ⟨g, 0, none⟩) (lenO l) cb) ((b.set K (a % 256)).set (K + 1) (a / 256 % 256))) := Lib.hid ((HOc.out.set_ (by omega) _).set_ (by rw [List.length_set]; omega) _)
                  have HWd : Hid (Below w5.heap.size w5 ((wf.setCell ⟨g, K, none⟩ (.int .u8 (a % 256))).setCell ⟨g, K + 1, none⟩ (.int .u8 (a / 256 % 256)))) := Lib.hid ((HWc.out.setCell (p := ⟨g, K, none⟩) hg1 _).setCell (p := ⟨g, K + 1, none⟩) hg1 _)
                  clear HOc HWc HNx
                  go_wp2
                  go_roundw
                  case rel => exact ⟨j + 1, _, by omega, by go_num, HOd, HKn, HMs, HWd⟩
                  case measure => simp [intOf]; omega
              · have hje : j = o.wants.length := by omega
                subst hje
                have HM2 := Lib.hid (HMn.out (by rw [hMo.out, List.any_eq_false]; intro p hp; rw [HM.out p (by rw [List.take_length]; exact hp)]; decide))
                have HPt := Lib.hid (PatL.turn (by have := HP.out; rw [← HOb.out] at this; exact this))
                go_wp2
                go_roundw
                case rel => exact ⟨k + 1, _, by omega, by go_num, HO, HPt, HM2, HW⟩
                case measure => simp [intOf]; omega
          · have hke : k = l.length := by omega
            subst hke
            have HAl := Lib.hid (all_iff.2 (by have := HM.out; rwa [List.take_length] at this))
            have HO9 := Lib.hid (show OwnB wr w.heap.size _ b from Own.base_ HO.out HB.out.size)
            have HW9 := Lib.hid (HB.out.trans (HW.out.mono HB.out.size))
            go_wp2
            go_ret2
            exact ⟨HW9.out, .inr ⟨HOk.out, .inr ⟨HAl.out, _, b, rfl, HO9.out, HP.out⟩⟩⟩
  · have H0 := Lib.hid h0
    obtain ⟨E, hE⟩ : ∃ E, E = obErr l := ⟨_, rfl⟩
    have q2 : (E != 0) = true := by rw [bne_iff_ne, hE]; exact h0
    have HE := Lib.hid hE
    clear hE
    go_enter Try.func21, Try.ntmps21
    go_wp2_with (go_at_call 35; (with_reducible refine HC.out.mono ?_); rintro e w5 ⟨hb, h⟩; obtain ⟨-, rfl⟩ := h.resolve_right (fun h => H0.out (obErr_iff.2 h.1)); rw [← HE.out]; have HB := Lib.hid hb; clear h hb)
    go_ret2
    exact ⟨HB.out, .inl ⟨H0.out, by rw [← HE.out]; rfl⟩⟩
end Go.Proofs.Ytiphhadhbokgmaa
