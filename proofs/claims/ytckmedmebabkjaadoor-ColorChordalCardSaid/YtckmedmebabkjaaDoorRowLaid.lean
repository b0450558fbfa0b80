/- A law's row where the table of math/bits.TrailingZeros32 is laid. -/
import Derived.Test.YtckmedmebabkjaaDoorRows
import Derived.Test.YtckmedmebabkjaaDoorRow
import Derived.Test.YtckmedmebabkjaaDoorGrdA
import Derived.ProofKit
import Derived.LaidMore
import Derived.OpenShut
import Derived.Stop.Joined
namespace Go.Proofs.YtckmedmebabkjaaDoor
set_option maxRecDepth 100000
open Go.ChangeShapes Go.WideShapes Go.ChangeAt Go.WideMaps Go.WideElems Go.RowKit Go.Deep

def laidT : List (String × DataW Unit) := [("math/bits.deBruijn32tab", Rows.laid_math_bits_deBruijn32tab)]
theorem gTab : Tryd.prog.globalNamed "math/bits.deBruijn32tab" = some 0 := by kernel_rfl
theorem tTab : (Tryd.prog.globals[0]?).map (·.type) = some 52 := by kernel_rfl
theorem cellsU8T : Tryd.prog.cellsOf 5 = 1 := by kernel_rfl
theorem door_met (os : Os) (args : Array Value) : laidMetH Tryd.prog laidT ((World.doorLaid Tryd.prog 400 os).forCall (fun _ _ => 0) ⟨#[], args, []⟩).memory :=
  laidMetH_of_parts3 (fuel := 8) (laidMet_of_run' 8 (by kernel_rfl) (by kernel_rfl)) (by kernel_rfl) (by kernel_rfl)
theorem tab_of_laid {W : World} (h : laidMetH Tryd.prog laidT W) : TabM W := by
  rw [MakeChecks.laidMetH_plain _ _ _ (by kernel_rfl)] at h
  obtain ⟨ps, ⟨g0, t0, cs0, f0, p0, q0, hg0, ht0, hv0, hd0, _, _⟩, _, _⟩ := h
  obtain rfl := Option.some.inj (gTab.symm.trans hg0)
  obtain rfl := Option.some.inj (tTab.symm.trans ht0)
  obtain ⟨xs, m1, rfl, hx1, hlen, hn3, hel⟩ := DataW.trod_array Tryd.underlying52 hd0
  intro i v hv
  have hi : i < 32 := (List.getElem?_eq_some_iff.1 hv).1
  have h0 := hel i hi
  rw [cellsU8T, Nat.mul_one] at h0
  have hc : cs0.toList.length = 32 := hlen.trans (by kernel_rfl)
  have hone : (cs0.toList.drop i).take 1 = [cs0.toList[i]'(by omega)] := by rw [List.drop_eq_getElem_cons (by omega)]; rfl
  have hxi : xs[i]? = some (xs[i]'(by omega)) := List.getElem?_eq_getElem (by omega)
  rw [hone, hxi] at h0
  obtain ⟨k, e1, e2, _⟩ := DataW.trod_int Tryd.underlying5 h0
  have hmap : xs.map (fun x => x.1) = tab32.map fun v => (DataW.lit (.int .u8 v) : DataW Unit) := by
    have h1 := congrArg Prod.fst hx1
    have h2 : (Rows.laid_math_bits_deBruijn32tab : DataW Unit) = DataW.agg (tab32.map fun v => (DataW.lit (.int .u8 v) : DataW Unit)) := rfl
    rw [h2] at h1
    injection h1 with h1
    exact h1.symm
  have hk : k = v := by
    have h1 := congrArg (fun l : List (DataW Unit) => l[i]?) hmap
    simp only [List.getElem?_map, hxi, hv, Option.map_some] at h1
    rw [e2] at h1
    simpa using h1
  subst hk
  rw [World.var?_cell hg0 hv0 i]
  have e3 : cs0.toList[i]'(by omega) = Value.int .u8 k := by simpa using e1
  rw [← Array.getElem?_toList, List.getElem?_eq_getElem (by omega), e3]
/-- The row's frame. -/
theorem law_lift_laid {n : FuncId} {f : Func} (s : ChangeSpec) (hf : Tryd.prog.funcs[n]? = some f) (hinit : Tryd.prog.inits.idxOf? n = none) (hvars : s.vars = []) (hrt : f.resultTypes = #[4])
    (hfn : ∀ (H : Type) (ds : List (DataW H)), ds.length = f.params.size → s.fn H ds = { results := [.lit (.bool true)], args := ds })
    (hread : (f.params.toList.all fun t => Tryd.prog.readableRec t && decide (t < Tryd.prog.types.size)) = true)
    (witness : ∀ (os : Os) (_ : os.Started) (H : Type) (enc : TypeId × Value → H), ∃ (w : World) (tape : Tape) (i : Input), w.os = os ∧ (w.forCall tape i).Shaped Tryd.checked.prog ∧ i.vars = [] ∧ Input.okWide Tryd.checked.prog (w.forCall tape i) .any w.heap.size n i ∧
      ((s.pre enc Tryd.checked.prog f [] false (w.forCall tape i).memory i.args ∧ laidMetH Tryd.prog laidT (w.forCall tape i).memory) ∧ sizedMet enc Tryd.checked.prog f (OpenSpec.ofChange s) false (w.forCall tape i).memory i.args) ∧ ({} : Assume).holds Tryd.checked.prog (lone (Frame.enter Tryd.checked.prog n i.args .normal) [] (w.forCall tape i)))
    (contract : ∀ (H : Type) (enc : TypeId × Value → H) (W : World) (base : Nat) (args : Array Value) (ds : List (DataW H)) (p : List MemPlace),
      (∀ (j : Nat) t v, f.params[j]? = some t → args[j]? = some v → Value.okWide Tryd.prog W .any base t v) →
      DataW.TrodAll enc Tryd.prog W 0 (fun _ => true) true f.params.toList args.toList ds p →
      (DataW.weightsEach Tryd.prog f.params.toList ds).all (· ≤ reachBytes) = true → TabM W →
      Calls Tryd.prog n args W fun e W' => e = .returned (.bool true) ∧ Below W.heap.size W W')
    (os : Os) (started : os.Started) (H : Type) (enc : TypeId × Value → H) :
    ReturnsInHanded {} Tryd.checked os n .any (fun w args => (s.pre enc Tryd.prog f [] false w args ∧ laidMetH Tryd.prog laidT w) ∧ sizedMet enc Tryd.prog f (OpenSpec.ofChange s) false w args) (s.post enc Tryd.prog f false true false false) := by
  refine returnsInHanded_of_change_and (C := Tryd.checked) (X := fun w _ => laidMetH Tryd.prog laidT w) (fun _ _ _ hh h => h.of_heap hh) Tryd.own started hinit hf (witness os started H enc) ?_
  intro W base args ds gs before hval0 hW _ hsz0 hL _
  have hT := tab_of_laid hL
  have hW' := hW
  obtain ⟨p, q, hA0, hV, rfl, hfz, hnd⟩ := hW
  rw [hvars] at hV
  obtain ⟨rfl, rfl⟩ := trodVars_none hV
  have hlt : ∀ x ∈ p, x.block < W.heap.size := fun x hx => hW'.lt x (by simp [hx])
  have hlen : ∀ {ts : List TypeId} {vs : List Value} {ds : List (DataW H)} {ps : List MemPlace}, DataW.TrodAll enc Tryd.prog W 0 (fun _ => true) true ts vs ds ps → ds.length = ts.length := by
    intro ts
    induction ts with
    | nil => intro vs ds ps h; obtain ⟨_, rfl, _⟩ := trodAll_nil h; rfl
    | cons t ts ih => intro vs ds ps h; obtain ⟨v, vs', d, ds', p, q, rfl, rfl, rfl, h0, h1⟩ := trodAll_cons h; simp [ih h1]
  have hf0 := hfn H (ds ++ []) (by rw [List.append_nil, hlen hA0]; simp)
  have hsz : (DataW.weightsEach Tryd.prog f.params.toList ds).all (· ≤ reachBytes) = true := by
    have h1 : (DataW.weightsEach Tryd.prog (f.params.toList ++ s.plain.varTypes Tryd.prog) (ds ++ [])).all (· ≤ reachBytes) = true := hsz0
    rw [show s.plain.varTypes Tryd.prog = [] from by simp [ChangeSpec.plain, hvars, DataSpec.varTypes], List.append_nil, List.append_nil] at h1
    exact h1
  refine (contract H enc W base args ds p hval0 hA0 hsz hT).mono fun e W' ⟨he, hb⟩ => ?_
  subst he
  refine ⟨_, rfl, post_below (pa := p) (pv := []) hW' ?_ ?_ ?_ rfl hb ?_⟩
  · intro b sp hd
    rw [hf0, hrt]
    exact trodAll_mk1 (shut_bool Tryd.underlying4 true)
  · intro sp hsp
    rw [hf0]
    have := trodAll_below (sp := sp) Tryd.laidOut hb (fun t ht => by simpa using List.all_eq_true.1 hread t ht) hA0 hlt (fun x hx => hsp x (by simp [hx]))
    rw [List.append_nil]
    exact this
  · intro sp _
    rw [hf0, hvars]
    rfl
  · intro j t r h1 h2
    rw [hrt] at h1 h2
    match j, h1, h2 with
    | 0, h1, h2 =>
      simp [Value.resultList] at h1 h2
      subst h1 h2
      exact okWide_bool_mk Tryd.underlying4 true
    | j + 1, h1, _ => simp at h1
theorem tab_lt {W : World} (h : TabM W) : 0 < W.heap.size := by
  have h0 := h 0 0 rfl
  unfold World.cell? at h0
  split at h0
  · rename_i hh
    rcases Nat.lt_or_ge 0 W.heap.size with h | h
    · exact h
    · rw [Array.getElem?_eq_none h] at hh; cases hh
  · cases h0
end Go.Proofs.YtckmedmebabkjaaDoor
