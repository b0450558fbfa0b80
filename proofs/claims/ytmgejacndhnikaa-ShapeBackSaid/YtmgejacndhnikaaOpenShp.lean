/- An argument of type []api.Shape (a type that names itself), as a list of shapes. -/
import Derived.Test.YtmgejacndhnikaaRow
import Derived.Test.YtmgejacndhnikaaOpenBlk
import Derived.Test.YtmgejacndhnikaaShpA
namespace Go.Proofs.Ytmgejacndhnikaa
set_option maxRecDepth 100000
open Go.ChangeShapes Go.WideShapes Go.ChangeAt Go.RowKit Go.Deep

theorem RdSh.succ {w : World} : ∀ {d : Nat} {A : Option Addr} {l : List Shp}, RdSh w d A l → RdSh w (d + 1) A l
  | 0, _, _, h => fun hn => by
    have h : _ = [] := h
    subst h
    simp at hn
  | d + 1, A, l, h => fun hn => by
    obtain ⟨b, off, e, hlt, hc⟩ := h hn
    refine ⟨b, off, e, hlt, fun k x hk => ?_⟩
    obtain ⟨A1, c1, A2, c2, A3, c3, h0, h1, h2, h3, h4, r1, r2, r3, bs⟩ := hc k x hk
    exact ⟨A1, c1, A2, c2, A3, c3, h0, h1, h2, h3, h4, r1, r2.succ, r3.succ, bs⟩
theorem RdSh.nil_ (w : World) : ∀ d, RdSh w d none []
  | 0 => rfl
  | _ + 1 => fun hn => absurd hn (by simp)
theorem onesShp : ∃ fs : Array Field, Try.prog.underlying 59 = some (.struct fs) ∧ fs.size = 5 ∧ oneCellFields Try.prog fs = true ∧ fs[0]?.map (·.type) = some 3 ∧ fs[1]?.map (·.type) = some 3 ∧ fs[2]?.map (·.type) = some 48 ∧ fs[3]?.map (·.type) = some 57 ∧ fs[4]?.map (·.type) = some 57 :=
  ⟨_, Try.underlying59, rfl, by kernel_rfl, rfl, rfl, rfl, rfl, rfl⟩
theorem cellsShp : Try.prog.cellsOf 59 = 5 := by kernel_rfl
theorem bytesShp : Try.prog.bytesOf 59 = 88 := by kernel_rfl
section
variable {H : Type} {enc : TypeId × Value → H} {w : World} {base : Nat} {spare : Nat → Bool} {held : Bool}
def ShpsAt (enc : TypeId × Value → H) (w : World) (base : Nat) (spare : Nat → Bool) (held : Bool) (fuel : Nat) : Prop :=
  ∀ (cs : List Value) (x0 : DataW H × List MemPlace), DataW.trod enc Try.prog w base spare held fuel 57 cs = some x0 → (∀ m ∈ x0.1.weights Try.prog 57, m ≤ reachBytes) →
    ∃ (A : Option Addr) (cap : Nat) (l : List Shp), cs = [.slice A l.length cap] ∧ RdSh w fuel A l ∧ l.length ≤ 2199023255552 ∧ l.length ≤ maxLen
theorem shp_at {n : Nat} (ih : ∀ k, k < n → ShpsAt enc w base spare held k) {cs : List Value} {x0 : DataW H × List MemPlace} (hd : DataW.trod enc Try.prog w base spare held n 59 cs = some x0) (hw : ∀ m ∈ x0.1.weights Try.prog 59, m ≤ reachBytes) :
    ∃ (x : Shp) (A1 : Option Addr) (c1 : Nat) (A2 : Option Addr) (c2 : Nat) (A3 : Option Addr) (c3 : Nat), cs = [.int .i64 x.kind, .int .i64 x.test, .slice A1 x.code.length c1, .slice A2 x.thn.length c2, .slice A3 x.els.length c3] ∧ RdSt w A1 x.code ∧ RdSh w n A2 x.thn ∧ RdSh w n A3 x.els ∧
      x.code.length ≤ 4398046511104 ∧ x.thn.length ≤ 2199023255552 ∧ x.els.length ≤ 2199023255552 := by
  obtain ⟨fs, hs, hsz, hone, t0, t1, t2, t3, t4⟩ := onesShp
  obtain ⟨xs, n', rfl, hx0, hl, hlen, hfs⟩ := DataW.trod_struct hs hd
  rw [cellsShp] at hl
  match cs, hl with
  | [v0, v1, v2, v3, v4], _ =>
    have key : ∀ (i : Nat) (t : TypeId) (c : Value), i < 5 → fs[i]?.map (·.type) = some t → [v0, v1, v2, v3, v4][i]? = some c → ∃ y, DataW.trod enc Try.prog w base spare held n' t [c] = some y ∧ ∀ m ∈ y.1.weights Try.prog t, m ≤ reachBytes := by
      intro i t c hi ht hc
      have ht' := ht
      obtain ⟨f, hfi, rfl⟩ := Option.map_eq_some_iff.1 ht
      obtain ⟨o, k⟩ := hone_of hone i f hfi
      have h := hfs i f hfi
      rw [o, k] at h
      have hx : (([v0, v1, v2, v3, v4] : List Value).drop i).take 1 = [c] := by
        match i, hi, hc with
        | 0, _, hc => simp at hc; subst hc; rfl
        | 1, _, hc => simp at hc; subst hc; rfl
        | 2, _, hc => simp at hc; subst hc; rfl
        | 3, _, hc => simp at hc; subst hc; rfl
        | 4, _, hc => simp at hc; subst hc; rfl
      obtain ⟨y, hy⟩ : ∃ y, xs[i]? = some y := ⟨_, List.getElem?_eq_getElem (by rw [hlen, hsz]; exact hi)⟩
      rw [hy] at h
      refine ⟨y, by rw [← hx]; exact h, fun m hm => hw m ?_⟩
      rw [hx0]
      simp only [DataW.weights, hs]
      refine DataW.weights_mem_each (j := i) (t := f.type) (d := y.1) ?_ ?_ _ hm
      · rw [List.getElem?_map, Array.getElem?_toList]; exact ht'
      · rw [List.getElem?_map, hy]; rfl
    obtain ⟨y0, h0, _⟩ := key 0 _ v0 (by decide) t0 rfl
    obtain ⟨y1, h1, _⟩ := key 1 _ v1 (by decide) t1 rfl
    obtain ⟨y2, h2, w2⟩ := key 2 _ v2 (by decide) t2 rfl
    obtain ⟨y3, h3, w3⟩ := key 3 _ v3 (by decide) t3 rfl
    obtain ⟨y4, h4, w4⟩ := key 4 _ v4 (by decide) t4 rfl
    obtain ⟨z0, e0, _, _⟩ := DataW.trod_int Try.underlying3 h0
    obtain ⟨z1, e1, _, _⟩ := DataW.trod_int Try.underlying3 h1
    obtain ⟨A1, c1, l1, e2, hR1, _, _, hw2⟩ := steps_at h2
    obtain ⟨A2, c2, l2, e3, hR2, hl2, _⟩ := ih n' (Nat.lt_succ_self n') _ _ h3 w3
    obtain ⟨A3, c3, l3, e4, hR3, hl3, _⟩ := ih n' (Nat.lt_succ_self n') _ _ h4 w4
    simp at e0 e1 e2 e3 e4
    subst e0 e1 e2 e3 e4
    have hc1 : l1.length ≤ 4398046511104 := by
      rcases hw2 with ⟨_, rfl⟩ | ⟨es, sp, he, hel⟩
      · simp
      · have := w2 ((es.length + sp.length) * Try.prog.bytesOf 87) (by rw [he]; simp [DataW.weights, Try.underlying48])
        rw [bytesStep] at this
        unfold reachBytes at this
        omega
    exact ⟨.mk z0 z1 l1 l2 l3, A1, c1, A2, c2, A3, c3, rfl, hR1, hR2.succ, hR3.succ, hc1, hl2, hl3⟩
theorem shapes_at : ∀ (N fuel : Nat), fuel < N → ShpsAt enc w base spare held fuel := by
  intro N
  induction N with
  | zero => intro fuel h; omega
  | succ N ih =>
    intro fuel hN cs x0 hd hw
    rcases DataW.trod_slice Try.underlying57 hd with ⟨h0, _⟩ | ⟨a, len, cap, elems, rest, n, rfl, hcs, hx0, hb, hl, hm, hel, hi, _, _⟩
    · exact ⟨none, 0, [], h0, RdSh.nil_ _ _, by simp, by simp⟩
    · have key : ∀ i, i < len → ∃ (x : Shp) (A1 : Option Addr) (c1 : Nat) (A2 : Option Addr) (c2 : Nat) (A3 : Option Addr) (c3 : Nat), (w.cell? (a.add (i * 5)) = some (.int .i64 x.kind) ∧ w.cell? ((a.add (i * 5)).add 1) = some (.int .i64 x.test) ∧ w.cell? ((a.add (i * 5)).add 2) = some (.slice A1 x.code.length c1) ∧ w.cell? ((a.add (i * 5)).add 3) = some (.slice A2 x.thn.length c2) ∧ w.cell? ((a.add (i * 5)).add 4) = some (.slice A3 x.els.length c3)) ∧
          RdSt w A1 x.code ∧ RdSh w n A2 x.thn ∧ RdSh w n A3 x.els ∧ x.code.length ≤ 4398046511104 ∧ x.thn.length ≤ 2199023255552 ∧ x.els.length ≤ 2199023255552 := by
        intro i hilt
        have h1 := hi i hilt
        have hy : elems[i]? = some (elems[i]'(by omega)) := List.getElem?_eq_getElem _
        rw [hy, Option.bind_eq_some_iff] at h1
        obtain ⟨cs', hc, ht'⟩ := h1
        rw [cellsShp] at hc
        obtain ⟨x, A1, c1, A2, c2, A3, c3, e, hr⟩ := shp_at (fun k hk => ih k (by omega)) ht' (fun m hm => hw m (by
          rw [hx0]
          simp only [DataW.weights, Try.underlying57, List.mem_cons, List.mem_append]
          exact Or.inr (Or.inl (weightsB_mem (List.mem_map.2 ⟨_, List.getElem_mem _, rfl⟩) m hm))))
        obtain ⟨_, hcl, hat⟩ := World.cells?_some hc
        subst e
        have e0 := hat 0 (by decide)
        have e1 := hat 1 (by decide)
        have e2 := hat 2 (by decide)
        have e3 := hat 3 (by decide)
        have e4 := hat 4 (by decide)
        refine ⟨x, A1, c1, A2, c2, A3, c3, ⟨?_, e1, e2, e3, e4⟩, hr⟩
        rw [show a.add (i * 5) = (a.add (i * 5)).add 0 from by obtain ⟨b, off, sp⟩ := a; cases sp <;> simp [Addr.add]]; exact e0
      obtain ⟨l, hlen, hp⟩ := list_of len key
      have hw0 := hw ((elems.length + rest.length) * Try.prog.bytesOf 59) (by rw [hx0]; simp [DataW.weights, Try.underlying57])
      rw [bytesShp] at hw0
      unfold reachBytes at hw0
      refine ⟨some a, cap, l, by rw [hlen, hcs], fun hn => ?_, by omega, by omega⟩
      obtain ⟨b, off, sp⟩ := a
      obtain ⟨_, _, _, _, _, _, ⟨h0, _⟩, _⟩ := hp 0 hn
      obtain ⟨hs, hb'⟩ := plainB_of h0
      have hs : sp = none := by cases sp with
        | none => rfl
        | some q => simp [Addr.add] at hs
      subst hs
      have hb' : b < w.heap.size := by simpa [Addr.add] using hb'
      refine ⟨b, off, rfl, hb', fun k x hkx => ?_⟩
      obtain ⟨hk, rfl⟩ := List.getElem?_eq_some_iff.1 hkx
      obtain ⟨A1, c1, A2, c2, A3, c3, ⟨h0, h1, h2, h3, h4⟩, hr⟩ := hp k hk
      have ea : ∀ j, (Addr.add ⟨b, off, none⟩ (k * 5)).add j = (⟨b, off + k * 5 + j, none⟩ : Addr) := fun j => by unfold Addr.add; split <;> split <;> simp_all
      have e0 : Addr.add ⟨b, off, none⟩ (k * 5) = (⟨b, off + k * 5, none⟩ : Addr) := by unfold Addr.add; split <;> simp_all
      rw [ea] at h1 h2 h3 h4
      rw [e0] at h0
      exact ⟨A1, c1, A2, c2, A3, c3, h0, h1, h2, h3, h4, hr⟩
end
theorem open_shapes {H : Type} {enc : TypeId × Value → H} {w : World} {base b0 : Nat} {spare : Nat → Bool} {held : Bool} {r : Reach} {v : Value} {d : DataW H} {ps : List MemPlace} {ts : List TypeId} {ds : List (DataW H)} {j : Nat}
    (hval : Value.okWide Try.prog w r b0 57 v) (hd : DataW.Trod enc Try.prog w base spare held 57 v d ps) (hsz : (DataW.weightsEach Try.prog ts ds).all (· ≤ reachBytes) = true) (ht : ts[j]? = some 57) (hj : ds[j]? = some d) :
    ∃ (A : Option Addr) (cap : Nat) (l : List Shp) (n : Nat), v = .slice A l.length cap ∧ RdSh w n A l ∧ l.length ≤ 2199023255552 := by
  obtain ⟨a0, len0, cap0, rfl⟩ := okWide_slice Try.underlying57 hval
  obtain ⟨fuel, hd⟩ := hd
  obtain ⟨A, cap, l, e, hR, hl, _⟩ := shapes_at (fuel + 1) fuel (Nat.lt_succ_self fuel) _ _ hd (fun m hm => by
    have := List.all_eq_true.1 hsz m (DataW.weights_mem_each ht hj m hm)
    simpa using this)
  have e : (Value.slice a0 len0 cap0).cells.toList = [.slice A l.length cap] := e
  simp [Value.cells] at e
  obtain ⟨rfl, rfl, rfl⟩ := e
  exact ⟨_, _, l, fuel, rfl, hR, hl⟩
end Go.Proofs.Ytmgejacndhnikaa
