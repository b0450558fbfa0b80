/- A law's step for its second form ('Upto'). -/
import Derived.Test.YtmgejacndhnikaaRows
import Derived.Test.YtmgejacndhnikaaRow
import Derived.JoinedCond
namespace Go.Proofs.Ytmgejacndhnikaa
set_option maxRecDepth 100000
open Go.ChangeShapes Go.WideShapes Go.ChangeAt Go.RowKit Go.Deep

theorem upto_one {H : Type} (d : DataW H) : 1 ≤ Rows.uptoBulk d := by
  cases d with
  | lit l => cases l <;> simp [Rows.uptoBulk]
  | nil => simp [Rows.uptoBulk]
  | ptr d => simp [Rows.uptoBulk]
  | slice elems spare => simp [Rows.uptoBulk]
  | agg parts => simp [Rows.uptoBulk]
  | iface t d => simp [Rows.uptoBulk]
  | map entries => simp [Rows.uptoBulk]
  | held h => simp [Rows.uptoBulk]
theorem upto_part {H : Type} {d : DataW H} {l : List (DataW H)} (h : d ∈ l) : Rows.uptoBulk d ≤ Rows.uptoBulkAll l := by
  induction l with
  | nil => cases h
  | cons x r ih =>
    simp only [Rows.uptoBulkAll]
    rcases List.mem_cons.1 h with rfl | h
    · omega
    · have := ih h; omega
theorem upto_length {H : Type} (l : List (DataW H)) : l.length ≤ Rows.uptoBulkAll l := by
  induction l with
  | nil => simp [Rows.uptoBulkAll]
  | cons x r ih => have := upto_one x; simp only [Rows.uptoBulkAll, List.length_cons]; omega
/-- How long a slice that came in is, by the bound. -/
theorem upto_slice {H : Type} {enc : TypeId × Value → H} {P : Program} {w : World} {base : Nat} {spare : Nat → Bool} {held : Bool} {t e : TypeId} {A : Option Addr} {n cap : Nat} {d : DataW H} {ps : List MemPlace} {ds : List (DataW H)}
    (hu : P.underlying t = some (.slice e)) (hd : DataW.Trod enc P w base spare held t (.slice A n cap) d ps) (hk : Rows.uptoSmall H ds = true) (hj : d ∈ ds) : n ≤ 1048576 := by
  have hk : Rows.uptoBulkAll ds ≤ 1048576 := of_decide_eq_true hk
  have h1 := upto_part hj
  obtain ⟨fuel, hd⟩ := hd
  rcases open_slice hu hd with ⟨h0, _⟩ | ⟨a, len, cap', m, n', D, Pl, hcs, _, _, _, _, hx, _⟩
  · simp [Value.cells] at h0
    omega
  · simp [Value.cells] at hcs
    obtain ⟨rfl, rfl, rfl⟩ := hcs
    simp only [Prod.mk.injEq] at hx
    rw [hx.1] at h1
    simp only [Rows.uptoBulk] at h1
    have h2 := upto_length ((List.range n).map D)
    simp only [List.length_map, List.length_range] at h2
    omega
theorem law_lift_upto {n : FuncId} {f : Func} (s : ChangeSpec) (hf : Try.prog.funcs[n]? = some f) (hinit : Try.prog.inits.idxOf? n = none) (hvars : s.vars = []) (hrt : f.resultTypes = #[4])
    (hfn : ∀ (H : Type) (ds : List (DataW H)), ds.length = f.params.size → s.fn H ds = { results := [.lit (.bool true)], args := ds })
    (hread : (f.params.toList.all fun t => Try.prog.readableRec t && decide (t < Try.prog.types.size)) = true)
    (witness : ∀ (os : Os) (_ : os.Started) (H : Type) (enc : TypeId × Value → H), ∃ (w : World) (tape : Tape) (i : Input), w.os = os ∧ (w.forCall tape i).Shaped Try.checked.prog ∧ i.vars = [] ∧ Input.okWide Try.checked.prog (w.forCall tape i) .any w.heap.size n i ∧
      (Rows.OpenSpec.upto s).pre6 enc Try.checked.prog f [] false (w.forCall tape i).memory i.args ∧ ({} : Assume).holds Try.checked.prog (lone (Frame.enter Try.checked.prog n i.args .normal) [] (w.forCall tape i)))
    (contract : ∀ (H : Type) (enc : TypeId × Value → H) (W : World) (base : Nat) (args : Array Value) (ds : List (DataW H)) (p : List MemPlace),
      (∀ (j : Nat) t v, f.params[j]? = some t → args[j]? = some v → Value.okWide Try.prog W .any base t v) →
      DataW.TrodAll enc Try.prog W 0 (fun _ => true) true f.params.toList args.toList ds p →
      Rows.uptoSmall H ds = true →
      Calls Try.prog n args W fun e W' => e = .returned (.bool true) ∧ Below W.heap.size W W')
    (os : Os) (started : os.Started) (H : Type) (enc : TypeId × Value → H) (F : Stop.Interp) :
    ReturnsInHanded {} Try.checked os n .any ((Rows.OpenSpec.upto s).pre6 enc Try.prog f [] false) (((Rows.OpenSpec.upto s).at F).post enc Try.prog f false true false false) := by
  refine returnsInHanded_of_cond (C := Try.checked) (s := Rows.OpenSpec.upto s) (k := Rows.uptoSmall) rfl Try.own started hinit hf (witness os started H enc) ?_
  intro W base args ds gs before hval0 hW0 _ hk0 _
  have hW : DataW.Whole enc Try.prog f.params.toList s.vars false W args.toList ds gs before := hW0
  have hW' := hW
  obtain ⟨p, q, hA0, hV, rfl, hfz, hnd⟩ := hW
  rw [hvars] at hV
  obtain ⟨rfl, rfl⟩ := trodVars_none hV
  rw [List.append_nil] at hk0
  have hlt : ∀ x ∈ p, x.block < W.heap.size := fun x hx => hW'.lt x (by simp [hx])
  have hlen : ∀ {ts : List TypeId} {vs : List Value} {ds : List (DataW H)} {ps : List MemPlace}, DataW.TrodAll enc Try.prog W 0 (fun _ => true) true ts vs ds ps → ds.length = ts.length := by
    intro ts
    induction ts with
    | nil => intro vs ds ps h; obtain ⟨_, rfl, _⟩ := trodAll_nil h; rfl
    | cons t ts ih => intro vs ds ps h; obtain ⟨v, vs', d, ds', p, q, rfl, rfl, rfl, h0, h1⟩ := trodAll_cons h; simp [ih h1]
  have hf0 := hfn H (ds ++ []) (by rw [List.append_nil, hlen hA0]; simp)
  have key : Calls Try.prog n args W fun e W' => ∃ v, e = .returned v ∧ s.post enc Try.prog f false true false false W args v W' := by
    refine (contract H enc W base args ds p hval0 hA0 hk0).mono fun e W' ⟨he, hb⟩ => ?_
    subst he
    refine ⟨_, rfl, post_below (pa := p) (pv := []) hW' ?_ ?_ ?_ rfl hb ?_⟩
    · intro b sp hd
      rw [hf0, hrt]
      exact trodAll_mk1 (shut_bool Try.underlying4 true)
    · intro sp hsp
      rw [hf0]
      have := trodAll_below (sp := sp) Try.laidOut hb (fun t ht => by simpa using List.all_eq_true.1 hread t ht) hA0 hlt (fun x hx => hsp x (by simp [hx]))
      rw [List.append_nil]
      exact this
    · intro sp _
      rw [hf0, hvars]
      rfl
    · intro j t r h1 h2
      rw [hrt] at h1 h2
      match j, h1, h2 with
      | 0, h1, h2 =>
        simp [Value.resultList] at h1 h2
        subst h1 h2
        exact okWide_bool_mk Try.underlying4 true
      | j + 1, h1, _ => simp at h1
  exact key
end Go.Proofs.Ytmgejacndhnikaa
