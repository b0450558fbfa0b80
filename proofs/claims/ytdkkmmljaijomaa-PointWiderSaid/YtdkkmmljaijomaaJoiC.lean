/- point.Joined. -/
import Derived.Test.YtdkkmmljaijomaaJoiB
import Derived.Test.YtdkkmmljaijomaaJoiL
import Derived.Test.YtdkkmmljaijomaaPtD
import Derived.Test.YtdkkmmljaijomaaPtE
import Derived.Deep.RegionHeld3
import Derived.Deep.CutRange
namespace Go.Proofs.Ytdkkmmljaijomaa
set_option maxRecDepth 100000
open Go.RowKit

theorem flatMap_iv (l : List Int) : l.flatMap intCells = l.map iv := by
  induction l with
  | nil => rfl
  | cons x r ih => rw [List.flatMap_cons, ih]; rfl
theorem own_zs {w : World} {base n cap : Nat} {A : Option Addr} {l : List Int} (h : OwnI w base 3 (.slice A n cap) l) (hl : 0 < l.length) :
    ∃ g, A = some ⟨g, 0, none⟩ ∧ n = l.length ∧ base ≤ g ∧ g < w.heap.size ∧ ∃ zs : List Value, w.heap[g]? = some (.cells (l.map iv ++ zs).toArray 3 (0, 0)) := by
  rcases h.2 with ⟨_, h0⟩ | ⟨g, c, cur, e, hb, hh, hn, hm, hs, ht⟩
  · omega
  · injection e with e1 e2 e3
    refine ⟨g, e1, e2, hb, lt_J hh, cur.toList.drop (l.length * 1), ?_⟩
    rw [hh]
    congr 2
    rw [← flatMap_iv, ← ht, List.take_append_drop]
theorem own_ltJ {α : Type} {f : α → List Value} {size base E : Nat} {w : World} {v : Value} {l : List α} (h : Own f size w base E v l) : ∀ g, v.ownBlock = some g → base ≤ g ∧ g < w.heap.size := fun _ hg => World.ownsRow.lt h _ hg
/-- Ahead of the first pass: k classes. -/
structure AJ (w0 wr : World) (T TB cT m k : Nat) (v : Value) : Prop where
  hT : wr.heap[T]? = some (.cells #[v, .slice (some ⟨TB, 0, none⟩) m cT] 71 (0, 0))
  own : OwnI wr (T + 1) 3 v ((List.range k).map fun x : Nat => (x : Int))
  hU : ∃ zs : List Value, wr.heap[TB]? = some (.cells ((List.replicate m (-1 : Int)).map iv ++ zs).toArray 3 (0, 0))
  bel : Below w0.heap.size w0 wr
  lt : w0.heap.size ≤ TB ∧ TB < T ∧ T < wr.heap.size
section
variable {w0 wr w' : World} {T TB cT m k : Nat} {v v' : Value}
theorem AJ.alloc (h : AJ w0 wr T TB cT m k v) (o : Obj) : AJ w0 (wr.alloc o) T TB cT m k v :=
  ⟨(Below.heap_alloc _ _ _ (lt_J h.hT)).trans h.hT, h.own.alloc o, h.hU.imp fun _ hz => (Below.heap_alloc _ _ _ (lt_J hz)).trans hz, h.bel.alloc h.bel.size o, by have := h.lt; rw [World.size_alloc]; omega⟩
theorem AJ.put (h : AJ w0 wr T TB cT m k v) (hown : OwnI w' (T + 1) 3 v' ((List.range k).map (fun x : Nat => (x : Int)) ++ [(k : Int)])) (hg : wr.grownBy w' v.ownBlock) : AJ w0 (w'.setCell ⟨T, 0, none⟩ v') T TB cT m (k + 1) v' := by
  have hl := h.lt
  have hb : ∀ j, v.ownBlock = some j → T + 1 ≤ j := fun j hj => (own_ltJ h.own j hj).1
  have hk : ∀ (j : Nat) (o : Obj), wr.heap[j]? = some o → j ≤ T → w'.heap[j]? = some o := fun j o ho hj => (hg.block j (lt_J ho) (fun e => by have := hb j e.symm; omega)).trans ho
  have hsz := hg.size
  refine ⟨?_, ?_, ?_, (h.bel.grown hg h.bel.size (fun j hj => by have := hb j hj; omega)).setCell (p := ⟨T, 0, none⟩) (by show _ ≤ T; omega) _, ?_⟩
  · rw [heap_setJ _ T 0 _ _ _ (hk _ _ h.hT (Nat.le_refl _))]; rfl
  · rw [List.range_succ, List.map_append]
    exact hown.far (p := ⟨T, 0, none⟩) (fun e => by have := (own_ltJ hown T e).1; omega) _
  · obtain ⟨zs, hz⟩ := h.hU
    exact ⟨zs, (Below.heap_setCell _ _ _ _ (by show TB ≠ T; omega)).trans (hk _ _ hz (by omega))⟩
  · simp [World.setCell]; omega
theorem AJ.tAt (h : AJ w0 wr T TB cT m k v) (hg : wr.grownBy w' v.ownBlock) : w'.cell? ⟨T, 0, none⟩ = some v ∧ w'.frozen? ⟨T, 0, none⟩ = false := by
  have h1 := (hg.block T (lt_J h.hT) (fun e => by have := (own_ltJ h.own _ e.symm).1; omega)).trans h.hT
  exact ⟨by rw [cell_of_row _ T _ _ _ _ h1]; rfl, by simp [World.frozen?, h1]⟩
theorem AJ.jt (h : AJ w0 wr T TB cT m m v) (hm : 0 < m) : ∃ OB cO, v = .slice (some ⟨OB, 0, none⟩) m cO ∧ T < OB ∧ JT wr T OB TB cO cT m ((List.range m).map fun x : Nat => (x : Int)) (List.replicate m (-1)) := by
  obtain ⟨g, cap, rfl, _⟩ := OwnI.at_ h.own (by simp; exact hm)
  obtain ⟨g', e, e2, hb, hlt, hz⟩ := own_zs h.own (by simp; exact hm)
  injection e with e; injection e with e; subst e
  rw [List.length_map, List.length_range] at *
  have hl := h.lt
  exact ⟨g, cap, rfl, by omega, h.hT, hz, h.hU, by omega, by simp, by simp⟩
end
theorem cls_start (m : Nat) : Cls m ((List.range m).map fun x : Nat => (x : Int)) (List.replicate m (-1)) := by
  have h1 : ∀ i : Nat, i < m → gI ((List.range m).map fun x : Nat => (x : Int)) i = i := fun i hi => by rw [gI_get (by simpa using hi)]; simp
  refine ⟨by simp, by simp, fun i hi => ?_, fun i hi => .inl ?_⟩
  · rw [h1 i hi, h1 i hi]; omega
  · rw [gI_get (by simpa using hi)]; simp
/-- A row in a block from lo on. -/
def CpR (w : World) (A : Option Addr) (l : List Int) (lo : Nat) : Prop := RdI w A l ∧ ∀ a, A = some a → lo ≤ a.block
theorem CpR.two {w w' : World} {A : Option Addr} {l : List Int} {lo a b : Nat} (h : CpR w A l lo) (ht : Two a b w w') (ha : a < lo) (hb : b < lo) : CpR w' A l lo :=
  ⟨fun hn => by
    obtain ⟨g, off, e, hg, hc⟩ := h.1 hn
    have hlo : lo ≤ g := h.2 _ e
    refine ⟨g, off, e, Nat.lt_of_lt_of_le hg ht.size, fun k x hx j hj => ?_⟩
    rw [← hc k x hx j hj]
    exact World.cell?_of_block (ht.block g hg (by omega) (by omega)), h.2⟩
theorem CpR.below {w w' : World} {A : Option Addr} {l : List Int} {lo : Nat} (h : CpR w A l lo) (hb : Below w.heap.size w w') : CpR w' A l lo := ⟨Rd.below h.1 hb, h.2⟩
/-- The rows of the answer, as far as made. -/
def RelO (m : Nat) (o t : List Int) (r : List Nat) (i j : Nat) : Prop := r.length = m ∧ ∀ x b, x < m → (bitR r x b = true ↔ ((x < i ∨ (x = i ∧ b < j)) ∧ (b < m ∧ 0 ≤ gI t (gI o x) ∧ gI o b = gI t (gI o x))))
section
variable {m : Nat} {o t : List Int} {r : List Nat} {i j : Nat}
theorem RelO.start : RelO m o t (List.replicate m 0) 0 0 := ⟨by simp, fun x b hx => by
  rw [bitR_of (by simpa using hx)]
  simp⟩
theorem RelO.skip (h : RelO m o t r i j) (hn : ¬ (0 ≤ gI t (gI o i) ∧ gI o j = gI t (gI o i))) : RelO m o t r i (j + 1) := ⟨h.1, fun x b hx => by
  rw [h.2 x b hx]
  refine ⟨fun ⟨h1, h2⟩ => ⟨by omega, h2⟩, fun ⟨h1, h2⟩ => ⟨?_, h2⟩⟩
  rcases h1 with h1 | ⟨rfl, h1⟩
  · exact .inl h1
  · refine .inr ⟨rfl, ?_⟩
    by_cases e : b = j
    · subst e; exact absurd h2.2 hn
    · omega⟩
theorem RelO.put (h : RelO m o t r i j) (hi : i < r.length) (hj : j < m) (hy : 0 ≤ gI t (gI o i) ∧ gI o j = gI t (gI o i)) : RelO m o t (r.set i (r[i] ||| 2 ^ j)) i (j + 1) := ⟨by rw [List.length_set]; exact h.1, fun x b hx => by
  rw [bitR_set hi, Bool.or_eq_true, Bool.and_eq_true, decide_eq_true_eq, testBit_pow, decide_eq_true_eq, h.2 x b hx]
  constructor
  · rintro (⟨h1, h2⟩ | ⟨rfl, rfl⟩)
    · exact ⟨by omega, h2⟩
    · exact ⟨by omega, hj, hy⟩
  · rintro ⟨h1, h2⟩
    by_cases e : x = i ∧ b = j
    · exact .inr ⟨e.1.symm, e.2.symm⟩
    · exact .inl ⟨by omega, h2⟩⟩
theorem RelO.next (h : RelO m o t r i m) : RelO m o t r (i + 1) 0 := ⟨h.1, fun x b hx => by
  rw [h.2 x b hx]
  exact ⟨fun ⟨h1, h2⟩ => ⟨by omega, h2⟩, fun ⟨h1, h2⟩ => ⟨by omega, h2⟩⟩⟩
theorem RelO.all (h : RelO m o t r m 0) (h8 : m ≤ 8) : r = joL m o t := by
  refine List.ext_getElem (by rw [h.1, joL_len]) fun x h1 h2 => ?_
  rw [joL_get]
  refine set_ext fun b => ?_
  have hx : x < m := by rw [← h.1]; exact h1
  rw [Bool.eq_iff_iff, joS_bit h8, ← bitR_of h1, h.2 x b hx]
  exact ⟨fun h => h.2, fun h => ⟨.inl hx, h⟩⟩
theorem RelO.lt (h : RelO m o t r i j) (h8 : m ≤ 8) {x : Nat} (hx : x < r.length) : r[x] < 256 := lt_pow_of_bits (n := 8) fun b hb => by
  rw [← bitR_of hx, h.2 x b (by rw [← h.1]; exact hx)] at hb
  omega
end
theorem JT.far {w : World} {T OB TB cO cT n : Nat} {o t : List Int} (h : JT w T OB TB cO cT n o t) {g : Nat} (hT : T < g) (hO : OB < g) (hB : TB < g) (i : Nat) (v : Value) : JT (w.setCell ⟨g, i, none⟩ v) T OB TB cO cT n o t :=
  have hk : ∀ k, k < g → (w.setCell ⟨g, i, none⟩ v).heap[k]? = w.heap[k]? := fun k hk => Below.heap_setCell _ _ _ _ (by show k ≠ g; omega)
  ⟨(hk _ hT).trans h.hT, h.hO.imp fun _ hz => (hk _ hO).trans hz, h.hU.imp fun _ hz => (hk _ hB).trans hz, h.ne, h.lo, h.lt⟩
def JoinedEnd (n : Int) (l : List Pt) (w : World) (e : Ending) (w' : World) : Prop :=
  Below w.heap.size w w' ∧ ((ptErr n l [] ≠ 0 ∧ e = .returned (.tuple #[.slice none 0 0, .int .i64 (ptErr n l [])])) ∨
    (∃ (m : Nat) (o t : List Int), n = m ∧ PtOk m l ∧ Cls m o t ∧ (∀ p ∈ l, ClosedJ o t p.kind p.to p.from_) ∧ ∃ v, e = .returned (.tuple #[v, .int .i64 0]) ∧ OwnU w' w.heap.size 50 v (joL m o t)))
set_option maxHeartbeats 16000000 in
theorem joined_calls (n : Int) (A : Option Addr) (l : List Pt) (cap : Nat) (w : World) (hA : RdPt w A l) (hm : l.length ≤ maxLen) :
    Calls Try.prog 32 #[.int .i64 n, .slice A l.length cap] w (JoinedEnd n l w) := by
  have HA := Lib.hid hA; clear hA
  by_cases he : ptErr n l [] = 0
  case neg =>
    have q : (ptErr n l [] != 0) = true := by rw [bne_iff_ne]; exact he
    have He := Lib.hid he
    clear he
    go_enter Try.func32, Try.ntmps32
    go_wp2_with (go_at_call 43; refine (ptWrong_calls n _ none l [] _ 0 _ HA.out hm Rd.nil_ (by simp)).mono ?_; rintro e w1 ⟨rfl, hB⟩; have HB := Lib.hid hB; clear hB)
    go_ret2
    exact ⟨HB.out, .inl ⟨He.out, rfl⟩⟩
  obtain ⟨m, rfl, ok, _, _⟩ := ptErr_ok he
  have Hok := Lib.hid ok
  have He := Lib.hid he
  have h1 := ok.n1
  have h8 := ok.n8
  have h12 := ok.len
  clear he ok
  go_enter Try.func32, Try.ntmps32
  go_wp2_with (go_at_call 43; refine (ptWrong_calls m _ none l [] _ 0 _ HA.out hm Rd.nil_ (by simp)).mono ?_; rintro e w1 ⟨rfl, hB⟩; have HB1 := Lib.hid hB; have hw1 := hB.size; rw [He.out]; clear hB)
  refine (repeat_calls mul_small w1.heap.size (-1) m _ (cell_new _ _ _ _ rfl 0) (by simp) h1 (by omega)).mono ?_
  rintro e w2 ⟨v, rfl, hown2, hB2⟩
  obtain ⟨TB, cT, e, hg1, hg2, -⟩ := OwnI.at_ hown2 (by simp; omega)
  rw [List.length_replicate] at e
  subst e
  obtain ⟨TB', e, -, -, -, hzT⟩ := own_zs hown2 (by simp; omega)
  injection e with e; injection e with e; subst e
  have hbel : Below w.heap.size w w2 := (HB1.out.alloc hw1 _).trans (hB2.mono (by simp; omega))
  have Hbel2 := Lib.hid hbel
  have HzT := Lib.hid hzT
  have hg3 : w.heap.size ≤ TB := by simp at hg1; omega
  obtain ⟨w3, hw3⟩ : ∃ w3, w3 = w2.alloc (.cells #[.slice none 0 0, .slice (some ⟨TB, 0, none⟩) m cT] 71) := ⟨_, rfl⟩
  obtain ⟨T, hT⟩ : ∃ T, T = w2.heap.size := ⟨_, rfl⟩
  have HA0 : Hid (AJ w w3 T TB cT m 0 (.slice none 0 0)) := Lib.hid (by
    rw [hw3, hT]
    refine ⟨heap_alloc_new _ _, Own.nil_ _ _ _, hzT.imp fun _ hz => (Below.heap_alloc _ _ _ (lt_J hz)).trans hz, hbel.alloc hbel.size _, hg3, hg2, by rw [World.size_alloc]; omega⟩)
  have Hw3 := Lib.hid hw3
  have HT := Lib.hid hT
  clear hown2 hB2 hzT hg1 HB1 hbel HzT Hbel2 hw3 hT hg2 hg3
  go_upto_region 5 with fail
  rw [← Hw3.out, ← HT.out]
  clear Hw3 HT hw1
  go_wp2
  go_loopw [31] (fun i wr => ∃ (k : Nat) (v : Value), k ≤ m ∧ i = .int .i64 k ∧ Hid (AJ w wr T TB cT m k v)) (fun i _ => m - (intOf i).toNat)
  case atStart => exact ⟨0, _, Nat.zero_le _, rfl, HA0⟩
  case round =>
    clear HA0
    obtain ⟨k, v, hk, rfl, HJ⟩ := hrel
    have c0 : wr.cell? ⟨T, 0, none⟩ = some v := by rw [cell_of_row _ T _ _ _ _ HJ.out.hT]; rfl
    have hlt := HJ.out.lt
    by_cases hkm : k < m
    · have q6 : (k : Int) < (m : Int) := by omega
      have HJ1 := Lib.hid (HJ.out.alloc (.cells #[.int .i64 k] 3))
      clear HJ
      go_wp2_with (at_builtin; refine wpList_appI rfl _ _ rfl (T + 1) _ _ (k : Int) rfl HJ1.out.own _ _ rfl (cell_new _ _ _ _ rfl _) (by simp; omega) (by simp; omega) ?_; intro v5 w5 hown5 hgrow5; obtain ⟨d5, f5⟩ := HJ1.out.tAt hgrow5; obtain ⟨A5, c5, e5, -, -, -⟩ := Own.form intCells_len hown5; rw [List.length_append, List.length_map, List.length_range, List.length_singleton] at e5; subst e5; have HJ2 := Lib.hid (HJ1.out.put hown5 hgrow5); clear hown5 hgrow5)
      go_roundw
      case rel => exact ⟨k + 1, _, by omega, by go_num, HJ2⟩
      case measure => simp [intOf]; omega
    · have : k = m := by omega
      subst this
      obtain ⟨OB, cO, rfl, hOB, hJ⟩ := HJ.out.jt (by omega)
      have HJ0 := Lib.hid hJ
      have HB0 := Lib.hid HJ.out.bel
      clear HJ c0 hJ
      obtain ⟨L, hL⟩ : ∃ L, L = w.heap.size := ⟨_, rfl⟩
      have hltL : L ≤ TB ∧ TB < OB := by omega
      have HL := Lib.hid hL
      clear hlt hL
      have HC0 := Lib.hid (cls_start k)
      generalize (List.range k).map (fun x : Nat => (x : Int)) = o0 at *
      generalize List.replicate k (-1 : Int) = t0 at *
      go_wp2
      go_loopg [9] (muC k o0 t0 + 1) (fun G b wr => ∃ (o t : List Int) (b' : Bool), b = .bool b' ∧ Hid (JT wr T OB TB cO cT k o t ∧ Cls k o t) ∧ Hid (Below L w wr) ∧ Hid (b' = false → ∀ p ∈ l, ClosedJ o t p.kind p.to p.from_) ∧ Hid (b' = true → muC k o t < G))
      case atStart => exact ⟨o0, t0, true, rfl, Lib.hid ⟨HJ0.out, HC0.out⟩, by rw [HL.out]; exact HB0, Lib.hid (fun h => by cases h), Lib.hid (fun _ => Nat.lt_succ_self _)⟩
      case round =>
        clear HJ0 HB0 HC0
        obtain ⟨o, t, b, rfl, HJ, HB, HF, HM⟩ := hrel
        cases b
        · have Hcl := Lib.hid (HF.out rfl)
          have HC := Lib.hid HJ.out.2
          have HJ0 := Lib.hid HJ.out.1
          have hsz : w.heap.size ≤ wr.heap.size := HB.out.size
          have hobg : OB < wr.heap.size := let ⟨_, hz⟩ := HJ.out.1.hO; lt_J hz
          clear HM HF HJ
          have c0 := HJ0.out.clO
          go_wp2_with (at_make; refine wpList_makeU rfl _ _ rfl w.heap.size k rfl rfl (by omega) hsz ?_
                       intro w5 hown5 hgrow5
                       have hB5 := (Below.refl wr.heap.size wr).grown hgrow5 (Nat.le_refl _) (fun k hk => by cases hk)
                       have HJ5 := Lib.hid (show JT w5 T OB TB cO cT k o t ∧ Below L w w5 ∧ OwnU w5 w.heap.size 50 (.slice (some ⟨wr.heap.size, 0, none⟩) k k) (List.replicate k 0) from ⟨HJ0.out.below hB5, HB.out.trans (hB5.mono (by rw [HL.out]; exact hsz)), hown5⟩)
                       have c5 := HJ5.out.1.clO
                       clear hown5 hgrow5 hB5)
          clear HJ0 HB c0
          obtain ⟨g, hg⟩ : ∃ g, g = wr.heap.size := ⟨_, rfl⟩
          rw [← hg] at HJ5 hobg ⊢
          have hgL : w.heap.size ≤ g := by rw [hg]; exact hsz
          clear hsz hg
          go_loopw [89] (fun ii wr => ∃ (i : Nat) (r : List Nat), i ≤ k ∧ ii = .int .i64 i ∧ Hid (JT wr T OB TB cO cT k o t ∧ Below L w wr ∧ OwnU wr w.heap.size 50 (.slice (some ⟨g, 0, none⟩) k k) r) ∧ Hid (RelO k o t r i 0)) (fun ii _ => k - (intOf ii).toNat)
          case atStart => exact ⟨0, _, Nat.zero_le _, rfl, HJ5, Lib.hid RelO.start⟩
          case round =>
            clear HJ5 c5
            obtain ⟨i, r, hi, rfl, HJ, HR⟩ := hrel
            by_cases hik : i < k
            · have c0 := HJ.out.1.clO
              have q6 : (i : Int) < (k : Int) := by omega
              obtain ⟨d1, -⟩ := HJ.out.1.atO hik
              obtain ⟨⟨o1, o2⟩, -⟩ := HC.out.of i hik
              obtain ⟨ki, hki⟩ := Int.eq_ofNat_of_zero_le o1
              rw [hki] at d1 o2
              have hkk : ki < k := by omega
              have q7 : (ki : Int) < (k : Int) := by omega
              have Hki := Lib.hid hki
              clear hki o1 o2
              go_wp2
              go_loopw [99] (fun jj wr => ∃ (j : Nat) (r : List Nat), j ≤ k ∧ jj = .int .i64 j ∧ Hid (JT wr T OB TB cO cT k o t ∧ Below L w wr ∧ OwnU wr w.heap.size 50 (.slice (some ⟨g, 0, none⟩) k k) r) ∧ Hid (RelO k o t r i j)) (fun jj _ => k - (intOf jj).toNat)
              case atStart => exact ⟨0, r, Nat.zero_le _, rfl, HJ, HR⟩
              case round =>
                clear HJ HR c0 d1
                obtain ⟨j, r, hj, rfl, HJ, HR⟩ := hrel
                by_cases hjk : j < k
                · have c0 := HJ.out.1.clO
                  have c1 := HJ.out.1.clT
                  have q8 : (j : Int) < (k : Int) := by omega
                  obtain ⟨d1, -⟩ := HJ.out.1.atO hjk
                  obtain ⟨d2, -⟩ := HJ.out.1.atT hkk
                  have hrl := HR.out.1
                  have hir : i < r.length := by omega
                  obtain ⟨gx, egx, _, _, _, hfx, hcx⟩ := OwnU.at2 HJ.out.2.2 (by omega)
                  injection egx with egx; injection egx with egx
                  subst egx
                  have d3 := hcx i hir
                  have f3 := hfx i
                  have hri := HR.out.lt h8 hir
                  have Hsk : Hid (¬ (0 ≤ gI t ki ∧ gI o j = gI t ki) → RelO k o t r i (j + 1)) := Lib.hid (fun h => HR.out.skip (by rw [Hki.out]; exact h))
                  have Hpu : Hid ((0 ≤ gI t ki ∧ gI o j = gI t ki) → RelO k o t (r.set i (r[i] ||| 2 ^ j)) i (j + 1)) := Lib.hid (fun h => HR.out.put hir hjk (by rw [Hki.out]; exact h))
                  have hTg : T < g := by omega
                  have hBg : TB < g := by omega
                  have HJs : Hid (∀ nq, JT ((wr.setCell ⟨g, i, none⟩ (.int .u32 (r[i] ||| 2 ^ j : Nat))).drewN nq) T OB TB cO cT k o t ∧ Below L w ((wr.setCell ⟨g, i, none⟩ (.int .u32 (r[i] ||| 2 ^ j : Nat))).drewN nq) ∧ OwnU ((wr.setCell ⟨g, i, none⟩ (.int .u32 (r[i] ||| 2 ^ j : Nat))).drewN nq) w.heap.size 50 (.slice (some ⟨g, 0, none⟩) k k) (r.set i (r[i] ||| 2 ^ j))) := Lib.hid (fun nq =>
                    ⟨(HJ.out.1.far hTg hobg hBg i _).drewN nq, below_dN (HJ.out.2.1.setCell (p := ⟨g, i, none⟩) (by rw [HL.out]; exact hgL) _) nq, (OwnU.set_ HJ.out.2.2 hir _).drewN nq⟩)
                  clear HR hfx hcx
                  generalize gI t ki = y at *
                  generalize gI o j = z at *
                  rcases Int.lt_or_le y 0 with hy | hy
                  · have HR2 := Lib.hid (Hsk.out (by omega))
                    clear Hsk Hpu HJs
                    go_wp2
                    go_roundw
                    case rel => exact ⟨j + 1, r, by omega, by go_num, HJ, HR2⟩
                    case measure => simp [intOf]; omega
                  · by_cases hz : z = y
                    · subst hz
                      have HR2 := Lib.hid (Hpu.out ⟨hy, rfl⟩)
                      have b32 : j < 32 := by omega
                      have pb : 2 ^ j < 2 ^ 8 := Nat.pow_lt_pow_right (by decide) (by omega)
                      have r1 := pow_u32 j b32
                      have r2 := or_u32 r[i] (2 ^ j) (by omega) (by omega)
                      rw [Int.natCast_pow, show ((2 : Nat) : Int) = 2 from rfl] at r1 r2
                      clear Hsk Hpu HJ pb hri
                      generalize r[i] ||| 2 ^ j = yy at *
                      generalize r[i] = xx at *
                      go_wp2
                      go_still_tail 8, (by kernel_rfl)
                      go_wp2
                      refine ⟨⟨j + 1, _, by omega, by go_num, Lib.hid (HJs.out 1), HR2⟩, by simp [intOf]; omega⟩
                    · have HR2 := Lib.hid (Hsk.out (by omega))
                      clear Hsk Hpu HJs
                      go_wp2
                      go_roundw
                      case rel => exact ⟨j + 1, r, by omega, by go_num, HJ, HR2⟩
                      case measure => simp [intOf]; omega
                · have : j = k := by omega
                  subst this
                  have HR2 := Lib.hid HR.out.next
                  clear HR
                  go_wp2
                  go_roundw
                  case rel => exact ⟨i + 1, r, by omega, by go_num, HJ, HR2⟩
                  case measure => simp [intOf]; omega
            · have : i = k := by omega
              subst this
              have hr := HR.out.all h8
              have Hend := Lib.hid (show Below w.heap.size w wr ∧ OwnU wr w.heap.size 50 (.slice (some ⟨g, 0, none⟩) i i) (joL i o t) from ⟨by rw [← HL.out]; exact HJ.out.2.1, by rw [← hr]; exact HJ.out.2.2⟩)
              clear hr HR HJ
              go_wp2
              go_ret2
              exact ⟨Hend.out.1, .inr ⟨i, o, t, rfl, Hok.out, HC.out, Hcl.out, _, rfl, Hend.out.2⟩⟩
        · have hpo : 0 < k := h1
          have hob : OB < wr.heap.size := let ⟨_, hz⟩ := HJ.out.1.hO; lt_J hz
          have htb : TB < wr.heap.size := by omega
          go_upto_region 12 with fail
          go_cut [10, 11] from 45 to 81 (fun v10 v11 wx => ∃ (A10 A11 : Option Addr) (c10 c11 : Nat), v10 = .slice A10 k c10 ∧ v11 = .slice A11 k c11 ∧ Hid (CpR wx A10 o wr.heap.size ∧ CpR wx A11 t wr.heap.size) ∧ Hid (Below wr.heap.size wr wx))
          case first =>
            have c0 := HJ.out.1.clO
            have c1 := HJ.out.1.clT
            have hlT : T < wr.heap.size := lt_J HJ.out.1.hT
            have Hk1 : Hid (∀ w', Below wr.heap.size wr w' → Calls Try.prog 48 #[.slice (some ⟨OB, 0, none⟩) k cO] w' fun e w'' => ∃ A' c', e = .returned (.slice A' k c') ∧ CpR w'' A' o wr.heap.size ∧ Below wr.heap.size wr w'' ∧ (∀ A2 l2, CpR w' A2 l2 wr.heap.size → CpR w'' A2 l2 wr.heap.size)) := Lib.hid (by
              intro w' hb
              have hlo := HJ.out.1.lo
              have := cloneI_calls (some ⟨OB, 0, none⟩) o cO w' (Rd.below HJ.out.1.rdO hb) (by omega) (by omega)
              rw [hlo] at this
              refine this.mono ?_
              rintro e w'' ⟨v, rfl, hown, hB⟩
              obtain ⟨A', c', rfl, hrd, hbl, -⟩ := Own.form intCells_len hown
              rw [hlo]
              exact ⟨A', c', rfl, ⟨hrd, fun a ha => Nat.le_trans hb.size (hbl a ha).1⟩, hb.trans (hB.mono hb.size), fun A2 l2 h2 => h2.below hB⟩)
            have Hk2 : Hid (∀ w', Below wr.heap.size wr w' → Calls Try.prog 48 #[.slice (some ⟨TB, 0, none⟩) k cT] w' fun e w'' => ∃ A' c', e = .returned (.slice A' k c') ∧ CpR w'' A' t wr.heap.size ∧ Below wr.heap.size wr w'' ∧ (∀ A2 l2, CpR w' A2 l2 wr.heap.size → CpR w'' A2 l2 wr.heap.size)) := Lib.hid (by
              intro w' hb
              have hlo := HJ.out.1.lt
              have := cloneI_calls (some ⟨TB, 0, none⟩) t cT w' (Rd.below HJ.out.1.rdT hb) (by omega) (by omega)
              rw [hlo] at this
              refine this.mono ?_
              rintro e w'' ⟨v, rfl, hown, hB⟩
              obtain ⟨A', c', rfl, hrd, hbl, -⟩ := Own.form intCells_len hown
              rw [hlo]
              exact ⟨A', c', rfl, ⟨hrd, fun a ha => Nat.le_trans hb.size (hbl a ha).1⟩, hb.trans (hB.mono hb.size), fun A2 l2 h2 => h2.below hB⟩)
            have Hs : Hid (∀ w', Below wr.heap.size wr w' → w'.cell? ⟨T, 0, none⟩ = some (.slice (some ⟨OB, 0, none⟩) k cO) ∧ w'.cell? ⟨T, 1, none⟩ = some (.slice (some ⟨TB, 0, none⟩) k cT) ∧ Below wr.heap.size wr w') := Lib.hid (fun w' hb => ⟨(hb.cell (p := ⟨T, 0, none⟩) hlT).trans c0, (hb.cell (p := ⟨T, 1, none⟩) hlT).trans c1, hb⟩)
            clear c0 c1
            go_region_held3 (fun w' => w'.cell? ⟨T, 0, none⟩ = some (.slice (some ⟨OB, 0, none⟩) k cO) ∧ w'.cell? ⟨T, 1, none⟩ = some (.slice (some ⟨TB, 0, none⟩) k cT) ∧ Below wr.heap.size wr w')
              (first | exact Hs.out _ (Below.refl _ _).drew | exact Hs.out _ Hb1.out | exact Hs.out _ Hb2.out)
              (first
                | (with_reducible refine (Hk1.out _ (by go_split_ands; assumption)).mono ?_
                   rintro e w5 ⟨A10, c10, rfl, h51, h52, h53⟩
                   have Hcp1 := Lib.hid h51
                   have Hb1 := Lib.hid h52
                   have Htr1 := Lib.hid h53
                   clear h51 h52 h53)
                | (with_reducible refine (Hk2.out _ (by go_split_ands; assumption)).mono ?_
                   rintro e w6 ⟨A11, c11, rfl, h51, h52, h53⟩
                   have Hcp2 := Lib.hid h51
                   have Hb2 := Lib.hid h52
                   have Htr2 := Lib.hid h53
                   clear h51 h52 h53))
            all_goals
              go_wp2
              go_meet
              case rel => first | exact ⟨A10, A11, c10, c11, rfl, rfl, Lib.hid ⟨Htr2.out _ _ Hcp1.out, Hcp2.out⟩, Lib.hid Hb2.out⟩ | exact ⟨A10, A11, c10, c11, rfl, rfl, Lib.hid ⟨Hcp1.out, Htr1.out _ _ Hcp2.out⟩, Lib.hid Hb1.out⟩
          case rest =>
          obtain ⟨A10, A11, c10, c11, rfl, rfl, HC, HBc⟩ := hcut
          obtain ⟨lo, hlo⟩ : ∃ lo, lo = wr.heap.size := ⟨_, rfl⟩
          rw [← hlo] at HC hob htb
          have HJ1 := Lib.hid (show JT wc T OB TB cO cT k o t from HJ.out.1.below HBc.out)
          have HB1 := Lib.hid (show Below L w wc from HB.out.trans (HBc.out.mono (by omega)))
          have HCl := Lib.hid HJ.out.2
          have HM1 := Lib.hid (HM.out rfl)
          clear HJ HB HF HBc HM hlo
          go_wp2
          go_loopw [58] (fun i wr => ∃ (j : Nat) (o' t' : List Int), j ≤ l.length ∧ i = .int .i64 j ∧ Hid (JT wr T OB TB cO cT k o' t' ∧ Below L w wr) ∧ Hid (CpR wr A10 o lo ∧ CpR wr A11 t lo) ∧ Hid (MuE k o t (∀ p ∈ l.take j, ClosedJ o t p.kind p.to p.from_) o' t')) (fun i _ => l.length - (intOf i).toNat)
          case atStart => exact ⟨0, o, t, Nat.zero_le _, rfl, Lib.hid ⟨HJ1.out, HB1.out⟩, HC, Lib.hid ⟨HCl.out, .inl ⟨rfl, rfl, fun p hp => by simp at hp⟩⟩⟩
          case round =>
            clear HJ1 HB1 HC
            obtain ⟨j, o', t', hj, rfl, HJ, HC, HE⟩ := hrel
            by_cases hjl : j < l.length
            · have hbel : Below w.heap.size w wr := by rw [← HL.out]; exact HJ.out.2
              obtain ⟨b0, off0, rfl, hb0, c0, c1, c2⟩ := RdPt.at3 (Rd.below HA.out hbel) hjl
              have hki := Hok.out.kind _ (List.getElem_mem hjl)
              have hin := Hok.out.ins _ (List.getElem_mem hjl)
              have Htk : Hid (∀ p ∈ l.take (j + 1), p ∈ l.take j ∨ p = l[j]) := Lib.hid (fun p hp => by
                rw [List.take_succ_eq_append_getElem hjl] at hp
                rcases List.mem_append.1 hp with h | h
                · exact .inl h
                · exact .inr (by simpa using h))
              generalize l[j] = p at *
              obtain ⟨kd, a, b⟩ := p
              dsimp only at c0 c1 c2 hki hin
              have q0 : ((j : Nat) : Int) < ((l.length : Nat) : Int) := by omega
              obtain ⟨w4, hw4⟩ : ∃ w4, w4 = wr.alloc (.cells #[.int .i64 kd, .int .i64 a, .int .i64 b] 43) := ⟨_, rfl⟩
              have hW : Below wr.heap.size wr w4 := by rw [hw4]; exact (Below.refl _ _).alloc (Nat.le_refl _) _
              have Hst := Lib.hid (stepJ_calls T OB TB cO cT k h8 kd a b (by omega) (by omega) (by omega) o' t' w4 (HJ.out.1.below hW) HE.out.1)
              have HB4 := Lib.hid (show Below L w w4 from HJ.out.2.trans (hW.mono (Nat.le_trans (by rw [HL.out]; exact Nat.le_refl _) hbel.size)))
              have HC4 := Lib.hid (show CpR w4 A10 o lo ∧ CpR w4 A11 t lo from ⟨HC.out.1.below hW, HC.out.2.below hW⟩)
              have e0 : w4.cell? ⟨wr.heap.size, 0, none⟩ = some (.int .i64 kd) := by rw [hw4]; exact cell_new _ _ _ _ rfl 0
              have e1 : w4.cell? ⟨wr.heap.size, 1, none⟩ = some (.int .i64 a) := by rw [hw4]; exact cell_new _ _ _ _ rfl 1
              have e2 : w4.cell? ⟨wr.heap.size, 2, none⟩ = some (.int .i64 b) := by rw [hw4]; exact cell_new _ _ _ _ rfl 2
              have Hw4 := Lib.hid hw4
              clear hw4 hbel hW HJ HC
              go_upto_region 16 with fail
              rw [← Hw4.out]
              clear Hw4
              go_wp2_with fail
              refine Hst.out.mono ?_
              rintro e w5 ⟨⟨v, rfl⟩, o2, t2, hJ2, hT2, hE2⟩
              have HJ5 := Lib.hid (show JT w5 T OB TB cO cT k o2 t2 ∧ Below L w w5 from ⟨hJ2, hT2.bel L w HB4.out (by omega) hltL.1⟩)
              have HC5 := Lib.hid (show CpR w5 A10 o lo ∧ CpR w5 A11 t lo from ⟨HC4.out.1.two hT2 hob htb, HC4.out.2.two hT2 hob htb⟩)
              have HE5 : Hid (MuE k o t (∀ p ∈ l.take (j + 1), ClosedJ o t p.kind p.to p.from_) o2 t2) := Lib.hid (by
                refine ⟨hE2.1, ?_⟩
                rcases HE.out.2 with ⟨rfl, rfl, h3⟩ | h3
                · rcases hE2.2 with ⟨h4, h5, h6⟩ | h4
                  · refine .inl ⟨h4, h5, fun p hp => ?_⟩
                    rcases Htk.out p hp with h7 | rfl
                    · exact h3 p h7
                    · exact h6
                  · exact .inr h4
                · rcases hE2.2 with ⟨rfl, rfl, _⟩ | h4
                  · exact .inr h3
                  · exact .inr (Nat.lt_trans h4 h3))
              clear hJ2 hT2 hE2 HB4 HC4 HE Htk Hst e0 e1 e2 c0 c1 c2
              go_wp2
              go_roundw
              case rel => exact ⟨j + 1, _, _, by omega, by go_num, HJ5, HC5, HE5⟩
              case measure => simp [intOf]; omega
            · have : j = l.length := by omega
              subst this
              have hlo := HCl.out.lo
              have hlt := HCl.out.lt
              have hlo' := HE.out.1.lo
              have hlt' := HE.out.1.lt
              have Hq1 : Hid (∀ w', JT w' T OB TB cO cT k o' t' → CpR w' A10 o lo → Calls Try.prog 50 #[.slice A10 k c10, .slice (some ⟨OB, 0, none⟩) k cO] w' fun e w'' => e = .returned (.bool (decide (o = o'))) ∧ ∃ nq, w'' = w'.drewN nq) := Lib.hid (fun w' h1 h2 => by
                have := equalI_calls A10 (some ⟨OB, 0, none⟩) o o' c10 cO w' h2.1 h1.rdO (by omega)
                rwa [hlo, hlo'] at this)
              have Hq2 : Hid (∀ w', JT w' T OB TB cO cT k o' t' → CpR w' A11 t lo → Calls Try.prog 50 #[.slice A11 k c11, .slice (some ⟨TB, 0, none⟩) k cT] w' fun e w'' => e = .returned (.bool (decide (t = t'))) ∧ ∃ nq, w'' = w'.drewN nq) := Lib.hid (fun w' h1 h2 => by
                have := equalI_calls A11 (some ⟨TB, 0, none⟩) t t' c11 cT w' h2.1 h1.rdT (by omega)
                rwa [hlt, hlt'] at this)
              have Hdr : Hid (∀ w' nq, JT w' T OB TB cO cT k o' t' ∧ CpR w' A11 t lo ∧ Below L w w' → JT (w'.drewN nq) T OB TB cO cT k o' t' ∧ CpR (w'.drewN nq) A11 t lo ∧ Below L w (w'.drewN nq)) := Lib.hid (fun w' nq h => ⟨h.1.drewN nq, h.2.1.below (below_dN (Below.refl _ _) nq), below_dN h.2.2 nq⟩)
              have c0 := HJ.out.1.clO
              have c1 := HJ.out.1.clT
              have HN := Lib.hid (show JT wr T OB TB cO cT k o' t' ∧ CpR wr A11 t lo ∧ Below L w wr from ⟨HJ.out.1, HC.out.2, HJ.out.2⟩)
              have HC10 := Lib.hid HC.out.1
              have HE2 := Lib.hid HE.out
              clear HJ HC HE hlo hlt hlo' hlt'
              by_cases e1 : o = o'
              · have Hd1 := Lib.hid (decide_eq_true e1)
                by_cases e2 : t = t'
                · have Hd2 := Lib.hid (decide_eq_true e2)
                  have Hfin : Hid (∀ p ∈ l, ClosedJ o' t' p.kind p.to p.from_) := Lib.hid (by
                    rcases HE2.out.2 with ⟨_, _, h3⟩ | h3
                    · rw [List.take_length] at h3
                      rw [← e1, ← e2]; exact h3
                    · rw [e1, e2] at h3; omega)
                  have HJf : Hid (∀ w', JT w' T OB TB cO cT k o' t' → JT w' T OB TB cO cT k o' t' ∧ Cls k o' t') := Lib.hid (fun w' h => ⟨h, HE2.out.1⟩)
                  clear e1 e2 HE2 HCl
                  go_wp2_with (first
                    | (with_reducible refine (Hq1.out _ HN.out.1 HC10.out).mono ?_; rintro e w8 ⟨rfl, nq, rfl⟩; have HN2 := Lib.hid (Hdr.out _ nq HN.out); rw [Hd1.out])
                    | (with_reducible refine (Hq2.out _ HN2.out.1 HN2.out.2.1).mono ?_; rintro e w9 ⟨rfl, nq2, rfl⟩; have HN3 := Lib.hid (Hdr.out _ (nq + nq2) HN.out); rw [Hd2.out]))
                  go_roundg 0
                  case measure => have := HM1.out; omega
                  case rel => exact ⟨o', t', false, rfl, Lib.hid (HJf.out _ HN3.out.1), Lib.hid HN3.out.2.2, Lib.hid (fun _ => Hfin.out), Lib.hid (fun h => by cases h)⟩
                · have Hd2 := Lib.hid (decide_eq_false e2)
                  have Hmu : Hid (muC k o' t' < muC k o t) := Lib.hid (by
                    rcases HE2.out.2 with ⟨_, h2, _⟩ | h3
                    · exact absurd h2.symm e2
                    · exact h3)
                  have HJf : Hid (∀ w', JT w' T OB TB cO cT k o' t' → JT w' T OB TB cO cT k o' t' ∧ Cls k o' t') := Lib.hid (fun w' h => ⟨h, HE2.out.1⟩)
                  clear e1 e2 HE2 HCl
                  go_wp2_with (first
                    | (with_reducible refine (Hq1.out _ HN.out.1 HC10.out).mono ?_; rintro e w8 ⟨rfl, nq, rfl⟩; have HN2 := Lib.hid (Hdr.out _ nq HN.out); rw [Hd1.out])
                    | (with_reducible refine (Hq2.out _ HN2.out.1 HN2.out.2.1).mono ?_; rintro e w9 ⟨rfl, nq2, rfl⟩; have HN3 := Lib.hid (Hdr.out _ (nq + nq2) HN.out); rw [Hd2.out]))
                  go_roundg (muC k o t)
                  case measure => have := HM1.out; omega
                  case rel => exact ⟨o', t', true, rfl, Lib.hid (HJf.out _ HN3.out.1), Lib.hid HN3.out.2.2, Lib.hid (fun h => by cases h), Lib.hid (fun _ => Hmu.out)⟩
              · have Hd1 := Lib.hid (decide_eq_false e1)
                have Hmu : Hid (muC k o' t' < muC k o t) := Lib.hid (by
                  rcases HE2.out.2 with ⟨h2, _, _⟩ | h3
                  · exact absurd h2.symm e1
                  · exact h3)
                have HJf : Hid (∀ w', JT w' T OB TB cO cT k o' t' → JT w' T OB TB cO cT k o' t' ∧ Cls k o' t') := Lib.hid (fun w' h => ⟨h, HE2.out.1⟩)
                clear e1 HE2 HCl
                go_wp2_with (with_reducible refine (Hq1.out _ HN.out.1 HC10.out).mono ?_; rintro e w8 ⟨rfl, nq, rfl⟩; have HN2 := Lib.hid (Hdr.out _ nq HN.out); rw [Hd1.out])
                go_roundg (muC k o t)
                case measure => have := HM1.out; omega
                case rel => exact ⟨o', t', true, rfl, Lib.hid (HJf.out _ HN2.out.1), Lib.hid HN2.out.2.2, Lib.hid (fun h => by cases h), Lib.hid (fun _ => Hmu.out)⟩
end Go.Proofs.Ytdkkmmljaijomaa
