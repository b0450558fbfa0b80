/- An argument of type []api.Block, as a list. -/
import Derived.Test.YtmgejacndhnikaaRow
import Derived.Test.YtmgejacndhnikaaBackS
import Derived.Test.YtmgejacndhnikaaBlkH
namespace Go.Proofs.Ytmgejacndhnikaa
set_option maxRecDepth 100000
open Go.ChangeShapes Go.WideShapes Go.ChangeAt Go.RowKit Go.Deep

section
variable {H : Type} {enc : TypeId × Value → H} {P : Program} {w : World} {base : Nat} {spare : Nat → Bool} {held : Bool}
theorem rd_at {t e : TypeId} {fs : Array Field} {fuel : Nat} {cs : List Value} {x0 : DataW H × List MemPlace} (ht : P.underlying t = some (.slice e)) (he : P.underlying e = some (.struct fs))
    (hone : oneCellFields P fs = true) (hC : P.cellsOf e = fs.size) (hpos : 0 < fs.size) {α : Type} (f : α → List Value) (px : α → Prop)
    (hel : ∀ (c : Nat → Option Value), (∀ (j : Nat) (fd : Field), fs[j]? = some fd → ∃ (v : Value) (y : DataW H × List MemPlace) (n : Nat), c j = some v ∧ DataW.trod enc P w base spare held n fd.type [v] = some y) → ∃ x, px x ∧ ∀ j, j < fs.size → c j = (f x)[j]?)
    (hx : ∀ x, (f x).length = fs.size)
    (hd : DataW.trod enc P w base spare held fuel t cs = some x0) :
    ∃ (A : Option Addr) (cap : Nat) (l : List α), cs = [.slice A l.length cap] ∧ Rd f fs.size w A l ∧ l.length ≤ maxLen ∧ (∀ x ∈ l, px x) ∧ ((x0.1 = .nil ∧ l = []) ∨ ∃ es sp, x0.1 = .slice es sp ∧ es.length = l.length) := by
  rcases open_slice ht hd with ⟨h0, h1⟩ | ⟨a, len0, cap0, m, n, D, Pl, hcs, hb, hl, hm, hmm, hxe, hi⟩
  · exact ⟨none, 0, [], h0, Rd.nil_, by simp, by simp, .inl ⟨by rw [h1], rfl⟩⟩
  · have hml : len0 ≤ m := by rw [hmm]; split <;> omega
    have key : ∀ i, i < len0 → ∃ x, px x ∧ ∀ j, j < fs.size → w.cell? (a.add (i * fs.size + j)) = (f x)[j]? := by
      intro i hilt
      obtain ⟨cs', hc, ht'⟩ := hi i (by omega)
      rw [hC] at hc
      obtain ⟨ys, n', hn', hy, hlen, hyl, hf⟩ := DataW.trod_struct he ht'
      obtain ⟨_, hcl, hat⟩ := World.cells?_some hc
      refine hel (fun j => w.cell? (a.add (i * fs.size + j))) fun j fd hj => ?_
      obtain ⟨ho, hk⟩ := hone_of hone j fd hj
      have hjl : j < fs.size := (Array.getElem?_eq_some_iff.1 hj).1
      have hcell := hat j hjl
      have hv : cs'[j]? = some (cs'[j]'(by omega)) := List.getElem?_eq_getElem (by omega)
      have h1 := hf j fd hj
      rw [ho, hk] at h1
      have hone' : (cs'.drop j).take 1 = [cs'[j]'(by omega)] := by
        rw [List.drop_eq_getElem_cons (by omega)]
        rfl
      rw [hone'] at h1
      have hys : ys[j]? = some (ys[j]'(by omega)) := List.getElem?_eq_getElem (by omega)
      refine ⟨_, _, n', ?_, h1.trans hys⟩
      show w.cell? (a.add (i * fs.size + j)) = _
      rw [← Go.Deep.add_add, hcell, hv]
    obtain ⟨l, hlen, hp⟩ := list_of len0 key
    refine ⟨some a, cap0, l, by rw [hlen, hcs], fun hn => ?_, by omega, fun x hx => ?_, .inr ⟨_, _, by rw [hxe], by simp [hlen]⟩⟩
    · obtain ⟨b, off, sp⟩ := a
      have hsp : sp = none ∧ b < w.heap.size := by
        have h0 := (hp 0 hn).2 0 hpos
        have hg : (f l[0])[0]? = some ((f l[0])[0]'(by rw [hx]; exact hpos)) := List.getElem?_eq_getElem _
        rw [hg] at h0
        simp [Addr.add] at h0
        unfold World.cell? at h0
        split at h0
        · rename_i hh
          refine ⟨?_, ?_⟩
          · cases sp with
            | none => rfl
            | some q => simp at h0
          · rcases Nat.lt_or_ge b w.heap.size with h | h
            · exact h
            · rw [Array.getElem?_eq_none h] at hh; cases hh
        · cases h0
      obtain ⟨rfl, hb'⟩ := hsp
      refine ⟨b, off, rfl, hb', fun k x hkx j hj => ?_⟩
      obtain ⟨hk, rfl⟩ := List.getElem?_eq_some_iff.1 hkx
      rw [← (hp k hk).2 j hj]
      congr 1
      unfold Addr.add
      split
      · rename_i h0; simp at h0 ⊢; try omega
      · simp [Nat.add_assoc]
    · obtain ⟨k, hk, rfl⟩ := List.getElem_of_mem hx
      exact (hp k hk).1
end
theorem plainB_of {w : World} {a : Addr} {v : Value} (h0 : w.cell? a = some v) : a.spot = none ∧ a.block < w.heap.size := by
  obtain ⟨b, off, sp⟩ := a
  unfold World.cell? at h0
  split at h0
  · rename_i hh
    refine ⟨?_, ?_⟩
    · cases sp with
      | none => rfl
      | some q => simp at h0
    · rcases Nat.lt_or_ge b w.heap.size with h | h
      · exact h
      · rw [Array.getElem?_eq_none h] at hh; cases hh
  · cases h0
theorem weightsB_mem {H : Type} {P : Program} {e : TypeId} : ∀ {l : List (DataW H)} {d : DataW H}, d ∈ l → ∀ n ∈ d.weights P e, n ∈ DataW.weightsAll P e l
  | [], _, hd, _, _ => by cases hd
  | x :: l, d, hd, n, hn => by
    simp only [DataW.weightsAll, List.mem_append]
    rcases List.mem_cons.1 hd with rfl | h
    · exact Or.inl hn
    · exact Or.inr (weightsB_mem h n hn)
theorem cellsStepS : Try.prog.cellsOf 48 = 1 := by kernel_rfl
theorem steps_at {H : Type} {enc : TypeId × Value → H} {w : World} {base : Nat} {spare : Nat → Bool} {held : Bool} {fuel : Nat} {cs : List Value} {x0 : DataW H × List MemPlace} (hd : DataW.trod enc Try.prog w base spare held fuel 48 cs = some x0) :
    ∃ (A : Option Addr) (cap : Nat) (l : List Step), cs = [.slice A l.length cap] ∧ RdSt w A l ∧ l.length ≤ maxLen ∧ (∀ x ∈ l, x.wf) ∧ ((x0.1 = .nil ∧ l = []) ∨ ∃ es sp, x0.1 = .slice es sp ∧ es.length = l.length) := by
  obtain ⟨fs, he, hone, hsz, hty⟩ := oneStep
  obtain ⟨A, cap, l, h1, h2, h3, h4, h5⟩ := rd_at (fs := fs) Try.underlying48 he hone (by rw [cellsStep, hsz]) (by omega) Step.cells Step.wf (fun c hc => stepEl hsz hty c hc) (fun _ => by rw [hsz]; rfl) hd
  rw [hsz] at h2
  exact ⟨A, cap, l, h1, h2, h3, h4, h5⟩
theorem onesBlk : ∃ fs : Array Field, Try.prog.underlying 85 = some (.struct fs) ∧ fs.size = 4 ∧ oneCellFields Try.prog fs = true ∧ fs[0]?.map (·.type) = some 48 ∧ fs[1]?.map (·.type) = some 3 ∧ fs[2]?.map (·.type) = some 3 ∧ fs[3]?.map (·.type) = some 3 :=
  ⟨_, Try.underlying85, rfl, by kernel_rfl, rfl, rfl, rfl, rfl⟩
theorem cellsBlk : Try.prog.cellsOf 85 = 4 := by kernel_rfl
theorem bytesStep : Try.prog.bytesOf 87 = 40 := by kernel_rfl
/-- A block, read: its cells, and its weight. -/
theorem blk_at {H : Type} {enc : TypeId × Value → H} {w : World} {base : Nat} {spare : Nat → Bool} {held : Bool} {fuel : Nat} {cs : List Value} {x0 : DataW H × List MemPlace} (hd : DataW.trod enc Try.prog w base spare held fuel 85 cs = some x0) :
    ∃ (A : Option Addr) (cap : Nat) (b : Blk), cs = [.slice A b.code.length cap, .int .i64 b.test, .int .i64 b.thn, .int .i64 b.els] ∧ RdSt w A b.code ∧ (b.code.length * 40 = 0 ∨ ∃ m, m ∈ x0.1.weights Try.prog 85 ∧ b.code.length * 40 ≤ m) := by
  obtain ⟨fs, hs, hsz, hone, t0, t1, t2, t3⟩ := onesBlk
  obtain ⟨xs, n, _, hx0, hl, hlen, hfs⟩ := DataW.trod_struct hs hd
  rw [cellsBlk] at hl
  match cs, hl with
  | [c0, c1, c2, c3], _ =>
    have key : ∀ (i : Nat) (t : TypeId) (c : Value), i < 4 → fs[i]?.map (·.type) = some t → [c0, c1, c2, c3][i]? = some c → ∃ y, xs[i]? = some y ∧ DataW.trod enc Try.prog w base spare held n t [c] = some y := by
      intro i t c hi ht hc
      obtain ⟨f, hfi, rfl⟩ := Option.map_eq_some_iff.1 ht
      obtain ⟨o, k⟩ := hone_of hone i f hfi
      have h := hfs i f hfi
      rw [o, k] at h
      have hx : (([c0, c1, c2, c3] : List Value).drop i).take 1 = [c] := by
        match i, hi, hc with
        | 0, _, hc => simp at hc; subst hc; rfl
        | 1, _, hc => simp at hc; subst hc; rfl
        | 2, _, hc => simp at hc; subst hc; rfl
        | 3, _, hc => simp at hc; subst hc; rfl
      obtain ⟨y, hy⟩ : ∃ y, xs[i]? = some y := ⟨_, List.getElem?_eq_getElem (by rw [hlen, hsz]; exact hi)⟩
      rw [hy] at h
      exact ⟨y, hy, by rw [← hx]; exact h⟩
    obtain ⟨y0, g0, h0⟩ := key 0 _ c0 (by decide) t0 rfl
    obtain ⟨y1, _, h1⟩ := key 1 _ c1 (by decide) t1 rfl
    obtain ⟨y2, _, h2⟩ := key 2 _ c2 (by decide) t2 rfl
    obtain ⟨y3, _, h3⟩ := key 3 _ c3 (by decide) t3 rfl
    obtain ⟨A, cap, l, e0, hR, _, _, hw⟩ := steps_at h0
    obtain ⟨z1, e1, _, _⟩ := DataW.trod_int Try.underlying3 h1
    obtain ⟨z2, e2, _, _⟩ := DataW.trod_int Try.underlying3 h2
    obtain ⟨z3, e3, _, _⟩ := DataW.trod_int Try.underlying3 h3
    simp at e0 e1 e2 e3
    subst e0 e1 e2 e3
    refine ⟨A, cap, ⟨l, z1, z2, z3⟩, rfl, hR, ?_⟩
    rcases hw with ⟨_, rfl⟩ | ⟨es, sp, he, hel⟩
    · exact .inl (by simp)
    · refine .inr ⟨(es.length + sp.length) * Try.prog.bytesOf 87, ?_, ?_⟩
      · rw [hx0]
        simp only [DataW.weights, hs]
        refine DataW.weights_mem_each (j := 0) (t := 48) (d := y0.1) ?_ ?_ _ ?_
        · rw [List.getElem?_map, Array.getElem?_toList]; exact t0
        · rw [List.getElem?_map, g0]; rfl
        · rw [he]; simp [DataW.weights, Try.underlying48]
      · rw [bytesStep, ← hel]
        exact Nat.mul_le_mul_right _ (Nat.le_add_right _ _)
theorem open_blocks {H : Type} {enc : TypeId × Value → H} {w : World} {base b0 : Nat} {spare : Nat → Bool} {held : Bool} {r : Reach} {v : Value} {d : DataW H} {ps : List MemPlace}
    (hval : Value.okWide Try.prog w r b0 22 v) (hd : DataW.Trod enc Try.prog w base spare held 22 v d ps) :
    ∃ (A : Option Addr) (cap : Nat) (l : List Blk), v = .slice A l.length cap ∧ RdBk w A l ∧ l.length ≤ maxLen ∧ ∀ b ∈ l, b.code.length * 40 = 0 ∨ ∃ m, m ∈ d.weights Try.prog 22 ∧ b.code.length * 40 ≤ m := by
  obtain ⟨a0, len0, cap0, rfl⟩ := okWide_slice Try.underlying22 hval
  obtain ⟨fuel, hd⟩ := hd
  rcases open_slice Try.underlying22 hd with ⟨h0, _⟩ | ⟨a, len, cap, m, n, D, Pl, hcs, hb, hl, hm, hmm, hxe, hi⟩
  · simp [Value.cells] at h0
    obtain ⟨rfl, rfl, rfl⟩ := h0
    exact ⟨none, 0, [], rfl, fun hn => absurd hn (by simp), by simp, by simp⟩
  · simp [Value.cells] at hcs
    obtain ⟨rfl, rfl, rfl⟩ := hcs
    have hml : len0 ≤ m := by rw [hmm]; split <;> omega
    have hde : d = .slice ((List.range len0).map D) ((List.range (m - len0)).map fun j => D (len0 + j)) := by
      have := congrArg Prod.fst hxe
      exact this
    have key : ∀ i, i < len0 → ∃ b : Blk, ∃ A' cap', (w.cell? (a.add (i * 4)) = some (.slice A' b.code.length cap') ∧ w.cell? ((a.add (i * 4)).add 1) = some (.int .i64 b.test) ∧ w.cell? ((a.add (i * 4)).add 2) = some (.int .i64 b.thn) ∧ w.cell? ((a.add (i * 4)).add 3) = some (.int .i64 b.els)) ∧ RdSt w A' b.code ∧ (b.code.length * 40 = 0 ∨ ∃ m, m ∈ d.weights Try.prog 22 ∧ b.code.length * 40 ≤ m) := by
      intro i hilt
      obtain ⟨cs', hc, ht'⟩ := hi i (by omega)
      rw [cellsBlk] at hc
      obtain ⟨A', cap', b, h1, h2, h3⟩ := blk_at ht'
      obtain ⟨_, hcl, hat⟩ := World.cells?_some hc
      subst h1
      have e0 := hat 0 (by decide)
      have e1 := hat 1 (by decide)
      have e2 := hat 2 (by decide)
      have e3 := hat 3 (by decide)
      refine ⟨b, A', cap', ⟨?_, e1, e2, e3⟩, h2, ?_⟩
      · rw [show a.add (i * 4) = (a.add (i * 4)).add 0 from by obtain ⟨b, off, sp⟩ := a; cases sp <;> simp [Addr.add]]; exact e0
      · rcases h3 with h3 | ⟨q, hq, hle⟩
        · exact .inl h3
        · refine .inr ⟨q, ?_, hle⟩
          rw [hde]
          simp only [DataW.weights, Try.underlying22, List.mem_cons, List.mem_append]
          exact Or.inr (Or.inl (weightsB_mem (List.mem_map.2 ⟨i, List.mem_range.2 hilt, rfl⟩) q hq))
    obtain ⟨l, hlen, hp⟩ := list_of len0 key
    refine ⟨some a, cap0, l, by rw [hlen], fun hn => ?_, by omega, fun x hx => ?_⟩
    · obtain ⟨b, off, sp⟩ := a
      obtain ⟨A', cap', ⟨h0, _⟩, _⟩ := hp 0 hn
      obtain ⟨hs, hb'⟩ := plainB_of h0
      have hs : sp = none := by cases sp with
        | none => rfl
        | some q => simp [Addr.add] at hs
      subst hs
      have hb' : b < w.heap.size := by simpa [Addr.add] using hb'
      refine ⟨b, off, rfl, hb', fun k x hkx => ?_⟩
      obtain ⟨hk, rfl⟩ := List.getElem?_eq_some_iff.1 hkx
      obtain ⟨A', cap', ⟨h0, h1, h2, h3⟩, h4, _⟩ := hp k hk
      have ea : ∀ j, (Addr.add ⟨b, off, none⟩ (k * 4)).add j = (⟨b, off + k * 4 + j, none⟩ : Addr) := fun j => by unfold Addr.add; split <;> split <;> simp_all
      have e0 : Addr.add ⟨b, off, none⟩ (k * 4) = (⟨b, off + k * 4, none⟩ : Addr) := by unfold Addr.add; split <;> simp_all
      rw [ea] at h1 h2 h3
      rw [e0] at h0
      exact ⟨A', cap', h0, h1, h2, h3, h4⟩
    · obtain ⟨k, hk, rfl⟩ := List.getElem_of_mem hx
      obtain ⟨_, _, _, _, h⟩ := hp k hk
      exact h
/-- No block has more steps than there is memory for. -/
theorem small_of {H : Type} {l : List Blk} {d : DataW H} {ts : List TypeId} {ds : List (DataW H)} {j : Nat} (hsz : (DataW.weightsEach Try.prog ts ds).all (· ≤ reachBytes) = true) (ht : ts[j]? = some 22) (hj : ds[j]? = some d)
    (h : ∀ b ∈ l, b.code.length * 40 = 0 ∨ ∃ m, m ∈ d.weights Try.prog 22 ∧ b.code.length * 40 ≤ m) : smallB l := fun b hb => by
  rcases h b hb with h | ⟨m, hm, hle⟩
  · omega
  · have := List.all_eq_true.1 hsz m (DataW.weights_mem_each ht hj m hm)
    have : m ≤ reachBytes := by simpa using this
    unfold reachBytes at this
    omega
end Go.Proofs.Ytmgejacndhnikaa
