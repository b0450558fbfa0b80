/- way.walk and way.Order walked. -/
import Derived.Test.YtljmignfbagomaaWalkA
import Derived.Test.YtljmignfbagomaaRevI
import Derived.Lib.OwnBridge
namespace Go.Proofs.Ytljmignfbagomaa
open Go.RowKit Go.Shelf

/-- slices.Reverse of a row of the call's own. -/
theorem reverse_calls (g cap base : Nat) (l : List Int) (w : World) (h : OwnI w base 3 (.slice (some ⟨g, 0, none⟩) l.length cap) l) :
    Calls Try.prog 52 #[.slice (some ⟨g, 0, none⟩) l.length cap] w fun e w' => (∃ u, e = .returned u) ∧ OwnI w' base 3 (.slice (some ⟨g, 0, none⟩) l.length cap) l.reverse ∧ ∀ B w0, B ≤ base → Below B w0 w → Below B w0 w' := by
  have ei : ∀ l : List Int, l.flatMap intCells = l.map (Value.int .i64) := fun l => by
    induction l with
    | nil => rfl
    | cons x r ih => rw [List.flatMap_cons, ih]; rfl
  have h0 : w.ownsRow base 3 1 (.slice (some ⟨g, 0, none⟩) l.length cap) l.length (l.map (Value.int .i64)) := by rw [← ei]; exact h
  obtain ⟨g', cap', e', hb, hg, hn, hm, _, hH⟩ := Lib.holds_of_ownsRow h0 (by intro e; cases e)
  injection e' with e1 e2 e3
  injection e1 with e1
  injection e1 with e1
  subst e1 e3
  refine (Try.slices_Reverse_int g 0 cap l w hH (by unfold maxLen at hm; omega)).mono ?_
  rintro e w' ⟨rfl, q, rfl⟩
  refine ⟨⟨_, rfl⟩, ?_, fun B w0 hB hBw => Lib.below_putRow hBw (by omega)⟩
  have h2 := Lib.ownsRow_putRow (q := q) (k := l.length) (ys := l.reverse) h0 (by simp) (Nat.le_refl _)
  unfold OwnI Own
  rw [ei, List.length_reverse]
  rw [List.take_of_length_le (by simp)] at h2
  exact h2
def walkL (ls : List (List Int)) : List Nat := visF ls 100 (List.replicate ls.length false) 0
set_option maxRecDepth 100000 in
set_option maxHeartbeats 4000000 in
theorem walk_calls (A : Option Addr) (ls : List (List Int)) (cap : Nat) (w : World) (hA : RdN w A ls) (h1 : 1 ≤ ls.length) (h8 : ls.length ≤ 8) (hv : Valid ls) :
    Calls Try.prog 51 #[.slice A ls.length cap] w fun e w' => ∃ v, e = .returned v ∧ OwnI w' w.heap.size 3 v (natI (walkL ls)) ∧ Left (EdW ls) ls.length (walkL ls) ∧ Below w.heap.size w w' := by
  unfold walkL
  have HA := Lib.hid hA
  have HV := Lib.hid hv
  clear hA hv
  obtain ⟨n, hn⟩ : ∃ n, ls.length = n := ⟨_, rfl⟩
  have Hn := Lib.hid hn
  rw [hn] at h1 h8 ⊢
  clear hn
  have hT1 : (w.alloc (.cells #[.slice A n cap] 22)).heap.size = w.heap.size + 1 := by simp
  obtain ⟨w2, hw2⟩ : ∃ w2, w2 = (w.alloc (.cells #[.slice A n cap] 22)).alloc (.cells #[.slice none 0 0] 32) := ⟨_, rfl⟩
  have hs2 : w2.heap.size = w.heap.size + 2 := by rw [hw2]; simp
  have hT2 : w2.heap[w.heap.size]? = some (.cells #[.slice A n cap] 22 (0, 0)) := by rw [hw2]; exact (Below.heap_alloc _ _ _ (by simp)).trans (heap_alloc_new w _)
  have hC2 : w2.heap[w.heap.size + 1]? = some (.cells #[.slice none 0 0] 32 (0, 0)) := by rw [hw2, ← hT1]; exact heap_alloc_new _ _
  have hB2 : Below w.heap.size w w2 := by rw [hw2]; exact ((Below.refl _ _).alloc (Nat.le_refl _) _).alloc (by simp) _
  have HW2 := Lib.hid (And.intro hw2 (And.intro hT2 (And.intro hC2 hB2)))
  clear hw2 hT2 hC2 hB2 hT1
  go_enter Try.func51, Try.ntmps51
  go_wp2_with (first
    | (at_make
       rw [← HW2.out.1]
       refine wpList_makeBo rfl _ _ rfl w2.heap.size n rfl rfl (by omega) (Nat.le_refl _) ?_
       intro w3 hO hg
       have hlt3 : w2.heap.size < w3.heap.size := (World.ownsRow.lt hO _ rfl).2
       rw [hs2] at hO
       have HO := Lib.hid hO
       have HT3 := Lib.hid ((hg.block w.heap.size (by omega) (by simp)).trans HW2.out.2.1)
       have HC3 := Lib.hid ((hg.block (w.heap.size + 1) (by omega) (by simp)).trans HW2.out.2.2.1)
       have HB3 := Lib.hid (HW2.out.2.2.2.grown hg (by omega) (fun k hk => by cases hk))
       clear hO hg)
    | fail)
  obtain ⟨s3, hs3⟩ : ∃ s3, s3 = w3.heap.size := ⟨_, rfl⟩
  have HVS : Hid (VS w ((w3.alloc (.cells #[.slice (some ⟨w.heap.size + 2, 0, none⟩) n n] 75)).alloc (.cells #[.func (.func 64) #[] #[.pointer (some ⟨w3.heap.size, 0, none⟩), .pointer (some ⟨w.heap.size, 0, none⟩), .pointer (some ⟨w3.heap.size + 1, 0, none⟩), .pointer (some ⟨w.heap.size + 1, 0, none⟩)]] 76)) w3.heap.size w.heap.size (w3.heap.size + 1) (w.heap.size + 1) (w.heap.size + 2) (w3.heap.size + 2) n A cap (List.replicate n false) (.slice none 0 0) []) := Lib.hid (by
    have z4 : (w3.alloc (.cells #[.slice (some ⟨w.heap.size + 2, 0, none⟩) n n] 75)).heap.size = w3.heap.size + 1 := by simp
    refine ⟨(HB3.out.alloc HB3.out.size _).alloc (by rw [z4]; have := HB3.out.size; omega) _, (Below.heap_alloc _ _ _ (by omega)).trans (heap_alloc_new w3 _), (Below.heap_alloc _ _ _ (by omega)).trans ((Below.heap_alloc _ _ _ (by omega)).trans HT3.out), ?_, (Below.heap_alloc _ _ _ (by omega)).trans ((Below.heap_alloc _ _ _ (by omega)).trans HC3.out), ?_, Own.nil_ _ _ _, ?_, ?_⟩
    · rw [← z4]; exact heap_alloc_new _ _
    · exact ((HO.out.alloc _).alloc _).base_ (by omega)
    · rw [World.size_alloc, z4]; omega
    · omega)
  have hun : (unL n (List.replicate n false)).length ≤ n := by
    have := List.length_filter_le (fun x => !((List.replicate n false).getD x false)) (List.range n)
    simpa [unL] using this
  have hno : ∀ x, ¬ snP n (List.replicate n false) x := fun x hx => by
    have := hx.2
    rw [List.getD_eq_getElem?_getD, List.getElem?_replicate, if_pos hx.1] at this
    cases this
  have Hno := Lib.hid hno
  have Hvis := Lib.hid (visit_calls HA.out Hn.out HV.out 100 0 _ (List.replicate n false) (.slice none 0 0) [] (by omega) (by omega) (hno 0) (by simp) (by simp; omega) HVS.out)
  rw [show ((0 : Nat) : Int) = 0 from rfl] at Hvis
  clear hun hno HVS hs3
  refine Hvis.out.mono ?_
  rintro e w6 ⟨⟨u, rfl⟩, v', sn', l, hS6, hV, -, -, hL6⟩
  have HL6 := Lib.hid hL6
  clear hL6
  have HS6 := Lib.hid hS6
  have HL := Lib.hid (hV.all Hno.out)
  have cC := (cell_h hS6.hC 0).trans (show _ = some v' from rfl)
  have hO6 := hS6.out
  rw [List.nil_append] at hO6
  obtain ⟨Av, cv, rfl, -⟩ := Own.form intCells_len hO6
  have HO6 := Lib.hid hO6
  have hbb := hS6.lt
  obtain ⟨ll, hll⟩ : ∃ ll, ll = (natI l).length := ⟨_, rfl⟩
  rw [← hll] at cC HO6
  clear hS6 hV hO6 Hvis hll
  go_wp2
  go_ret
  exact ⟨_, rfl, by rw [← HL6.out]; exact HO6.out.base_ (by omega), by rw [← HL6.out]; exact HL.out, HS6.out.bel⟩
/-- way.Order -/
def OrdW (ls : List (List Int)) (w : World) (e : Ending) (w' : World) : Prop :=
  (wayErr ls ≠ 0 ∧ (∃ v, e = .returned (.tuple #[v, .int .i64 (wayErr ls)])) ∧ Below w.heap.size w w') ∨
  (wayErr ls = 0 ∧ ∃ v, e = .returned (.tuple #[v, .int .i64 0]) ∧ OwnI w' w.heap.size 3 v (natI (walkL ls)).reverse ∧ Left (EdW ls) ls.length (walkL ls) ∧ Below w.heap.size w w')
set_option maxHeartbeats 2000000 in
theorem orderW_calls (A : Option Addr) (ls : List (List Int)) (cap : Nat) (w : World) (hA : RdN w A ls) (hm : ls.length ≤ maxLen) :
    Calls Try.prog 31 #[.slice A ls.length cap] w (OrdW ls w) := by
  have Hc := Lib.hid (check_calls A ls cap w hA hm)
  have HA := Lib.hid hA
  clear hA hm
  by_cases h0 : wayErr ls = 0
  · rw [h0] at Hc
    obtain ⟨h1, h8, hv⟩ := wayErr_ok h0
    have H0 := Lib.hid h0
    have Hw := Lib.hid (fun w' (h : Below w.heap.size w w') => walk_calls A ls cap w' (HA.out.below h) h1 h8 hv)
    clear h0 hv
    go_enter Try.func31, Try.ntmps31
    go_wp2_with fail
    refine Hc.out.mono ?_
    rintro e w1 ⟨rfl, hW⟩
    have HW := Lib.hid hW
    have Hw1 := Lib.hid (Hw.out _ hW)
    clear hW Hw
    go_wp2_with fail
    refine Hw1.out.mono ?_
    rintro e w2 ⟨v, rfl, hO, hL, hW2⟩
    obtain ⟨l, hl⟩ : ∃ l, l = walkL ls := ⟨_, rfl⟩
    rw [← hl] at hO hL
    have Hl := Lib.hid hl
    clear hl
    have HW2 := Lib.hid (HW.out.trans (hW2.mono HW.out.size))
    have HL := Lib.hid hL
    have hpos : 0 < (natI l).length := by
      have := List.length_pos_of_mem hL.mem0
      simpa [natI] using this
    obtain ⟨g, c, rfl, hgb, hg2, -⟩ := OwnI.at_ hO hpos
    have hrv := reverse_calls g c w1.heap.size (natI l) w2 hO
    obtain ⟨nl, hnl⟩ : ∃ nl, nl = (natI l).length := ⟨_, rfl⟩
    rw [← hnl] at hrv ⊢
    have Hrv := Lib.hid hrv
    clear hO hL hW2 hrv hnl Hw1 hpos
    go_wp2_with fail
    refine Hrv.out.mono ?_
    rintro e w3 ⟨⟨u, rfl⟩, hO3, hB3⟩
    have HO3 := Lib.hid (hO3.base_ HW.out.size)
    have HW3 := Lib.hid (hB3 w.heap.size w HW.out.size HW2.out)
    clear hO3 hB3
    go_wp2
    go_ret2
    exact .inr ⟨H0.out, _, rfl, by rw [← Hl.out]; exact HO3.out, by rw [← Hl.out]; exact HL.out, HW3.out⟩
  · have H0 := Lib.hid h0
    have q : (wayErr ls != 0) = true := by rw [bne_iff_ne]; exact h0
    obtain ⟨x, hx⟩ : ∃ x, x = wayErr ls := ⟨_, rfl⟩
    rw [← hx] at q Hc
    have Hx := Lib.hid hx
    clear h0 hx
    go_enter Try.func31, Try.ntmps31
    go_wp2_with fail
    refine Hc.out.mono ?_
    rintro e w1 ⟨rfl, hW⟩
    have HW := Lib.hid hW
    clear hW
    go_wp2
    go_ret2
    exact .inl ⟨H0.out, ⟨_, by rw [← Hx.out]; rfl⟩, HW.out⟩
end Go.Proofs.Ytljmignfbagomaa
