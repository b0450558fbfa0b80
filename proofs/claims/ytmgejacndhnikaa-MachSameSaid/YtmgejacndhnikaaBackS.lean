/- api.Step: slices of steps, and append at them. -/
import Derived.Test.YtmgejacndhnikaaRows
import Derived.Test.YtmgejacndhnikaaLib
import Derived.Test.YtmgejacndhnikaaRow
import Derived.Test.YtmgejacndhnikaaRound
import Derived.Shelf.Abstract
import Derived.Shelf.RegionOpen
import Derived.OwnWalkIn
import Derived.TacticsInMore
import Derived.LoopNIn
import Derived.LoopIn
namespace Go.Proofs.Ytmgejacndhnikaa
open Go.RowKit

/-- api.Step -/
structure Step where
  op : Int
  to : Int
  a : Int
  b : Int
  val : Int
def Step.cells (s : Step) : List Value := [.int .i64 s.op, .int .i64 s.to, .int .i64 s.a, .int .i64 s.b, .int .i64 s.val]
def Step.agg (s : Step) : Value := .agg #[.int .i64 s.op, .int .i64 s.to, .int .i64 s.a, .int .i64 s.b, .int .i64 s.val]

abbrev RdSt (w : World) (A : Option Addr) (l : List Step) : Prop := Rd Step.cells 5 w A l
abbrev OwnSt (w : World) (base E : Nat) (v : Value) (l : List Step) : Prop := Own Step.cells 5 w base E v l
theorem RdSt.at5 {w : World} {A : Option Addr} {l : List Step} (h : RdSt w A l) {k : Nat} (hk : k < l.length) :
    ∃ b off, A = some ⟨b, off, none⟩ ∧ b < w.heap.size ∧ w.cell? ⟨b, off + k * 5, none⟩ = some (.int .i64 l[k].op) ∧ w.cell? ⟨b, off + k * 5 + 1, none⟩ = some (.int .i64 l[k].to) ∧
      w.cell? ⟨b, off + k * 5 + 2, none⟩ = some (.int .i64 l[k].a) ∧ w.cell? ⟨b, off + k * 5 + 3, none⟩ = some (.int .i64 l[k].b) ∧ w.cell? ⟨b, off + k * 5 + 4, none⟩ = some (.int .i64 l[k].val) := by
  obtain ⟨b, off, e, hb, hc⟩ := h.at_ hk
  exact ⟨b, off, e, hb, by simpa [Step.cells] using hc 0 (by omega), by simpa [Step.cells] using hc 1 (by omega), by simpa [Step.cells] using hc 2 (by omega), by simpa [Step.cells] using hc 3 (by omega), by simpa [Step.cells] using hc 4 (by omega)⟩
theorem stepCells_len (x : Step) : x.cells.length = 5 := rfl
theorem stepCells_one (x : Step) : ∀ u ∈ x.cells, u.oneCell' = true := by intro u hu; simp [Step.cells] at hu; rcases hu with rfl | rfl | rfl | rfl | rfl <;> rfl
theorem infoStep : (Try.prog.info? 87).map (fun i => (i.zero, i.size, i.bytes)) = some (some (Step.mk 0 0 0 0 0).agg, 5, 40) := by kernel_rfl

/-- 'out = append(out, s)' for steps. -/
theorem wpList_appSt {w : World} {ops : Array Oper} {rest : List Oper} {o : Oper} {a : Act} {Q : Exit → Act → World → Prop} (hgd : o.guard = none) (s x : Operand)
    (ho : o.op = .call { callee := .builtin .append, args := #[s, x], argTypes := #[48, 48] })
    (base : Nat) (v : Value) (l : List Step) (y : Step) (hs : a.eval s = v) (hown : OwnSt w base 87 v l) (S c : Nat) (hx : a.eval x = .slice (some ⟨S, 0, none⟩) 1 c)
    (hnew : ∀ j, w.cell? ⟨S, j, none⟩ = y.cells[j]?) (hlen : l.length < 1000000) (hbase : base ≤ w.heap.size)
    (h : ∀ v' w', OwnSt w' base 87 v' (l ++ [y]) → w.grownBy w' v.ownBlock → wpList Try.prog ops Q rest (a.put o.dst v') w') : wpList Try.prog ops Q (o :: rest) a w :=
  wpList_app1 hgd s x 48 ho Step.cells 5 40 87 (Step.mk 0 0 0 0 0).agg Try.underlying48 infoStep rfl (by decide) stepCells_len stepCells_one base v l y hs hown S c hx
    (fun j _ => hnew j) (by unfold maxLen; omega) (by omega) hbase h
theorem cellSt_new (w : World) (y : Step) (cs : Array Value) (e s : Nat) (hs : w.heap.size = s) (hy : y.cells.toArray = cs) (j : Nat) : (w.alloc (.cells cs e)).cell? ⟨s, j, none⟩ = y.cells[j]? := by
  rw [cell_new w cs e s hs, ← hy, List.getElem?_toArray]
end Go.Proofs.Ytmgejacndhnikaa
namespace Go.Proofs.Ytmgejacndhnikaa
def mSize (b : Int) : Int :=
  if 9 < b / 8 then 0 else if b / 8 = 0 then 1 else if b / 8 = 1 then 2 else if b / 8 = 8 then 3 else if 6 ≤ b % 8 then 0 else if b / 8 = 9 then 3 else 1
/-- The order that begins with byte b, x and y behind it. -/
def ordOf (b x y : Int) : Step :=
  { op := b / 8, to := if b / 8 = 0 ∨ b / 8 = 1 ∨ b / 8 = 8 then 0 else b % 8, a := 0, b := 0, val := if b / 8 = 1 then x else if b / 8 = 8 ∨ b / 8 = 9 then x + y * 256 else 0 }
/-- Is there an order at place k of l? -/
def ordIs (l : List Int) (k : Nat) : Prop := k < l.length ∧ mSize (l.getD k 0) ≠ 0 ∧ (k : Int) + mSize (l.getD k 0) ≤ l.length
end Go.Proofs.Ytmgejacndhnikaa
namespace Go.Proofs.Ytmgejacndhnikaa
set_option maxRecDepth 100000
open Go.ChangeShapes Go.WideShapes Go.ChangeAt Go.RowKit Go.Deep
theorem cellsStep : Try.prog.cellsOf 87 = 5 := by kernel_rfl
theorem oneStep : ∃ fs : Array Field, Try.prog.underlying 87 = some (.struct fs) ∧ oneCellFields Try.prog fs = true ∧ fs.size = 5 ∧ ∀ j, j < 5 → fs[j]?.map (·.type) = some 3 :=
  ⟨_, Try.underlying87, by kernel_rfl, rfl, fun j hj => by
    match j, hj with
    | 0, _ => rfl
    | 1, _ => rfl
    | 2, _ => rfl
    | 3, _ => rfl
    | 4, _ => rfl⟩
def Step.wf (t : Step) : Prop := i64In t.op ∧ i64In t.to ∧ i64In t.a ∧ i64In t.b ∧ i64In t.val
theorem stepEl {H : Type} {enc : TypeId × Value → H} {w : World} {base : Nat} {spare : Nat → Bool} {held : Bool} {fs : Array Field} (hsz : fs.size = 5) (hty : ∀ j, j < 5 → fs[j]?.map (·.type) = some 3)
    (c : Nat → Option Value) (hc : ∀ (j : Nat) (fd : Field), fs[j]? = some fd → ∃ (v : Value) (y : DataW H × List MemPlace) (n : Nat), c j = some v ∧ DataW.trod enc Try.prog w base spare held n fd.type [v] = some y) :
    ∃ x : Step, x.wf ∧ ∀ j, j < fs.size → c j = x.cells[j]? := by
  have key : ∀ j, j < 5 → ∃ x : Int, c j = some (.int .i64 x) ∧ i64In x := fun j hj => by
    obtain ⟨g, hg, e⟩ := Option.map_eq_some_iff.1 (hty j hj)
    obtain ⟨v, y, n, cv, tv⟩ := hc j g hg
    rw [e] at tv
    obtain ⟨x, q, _, wx⟩ := DataW.trod_int Try.underlying3 tv
    simp at q
    subst q
    exact ⟨x, cv, wf_i64 wx⟩
  obtain ⟨x0, c0, w0⟩ := key 0 (by omega)
  obtain ⟨x1, c1, w1⟩ := key 1 (by omega)
  obtain ⟨x2, c2, w2⟩ := key 2 (by omega)
  obtain ⟨x3, c3, w3⟩ := key 3 (by omega)
  obtain ⟨x4, c4, w4⟩ := key 4 (by omega)
  refine ⟨⟨x0, x1, x2, x3, x4⟩, ⟨w0, w1, w2, w3, w4⟩, fun j hj => ?_⟩
  rw [hsz] at hj
  match j, hj with
  | 0, _ => simpa [Step.cells] using c0
  | 1, _ => simpa [Step.cells] using c1
  | 2, _ => simpa [Step.cells] using c2
  | 3, _ => simpa [Step.cells] using c3
  | 4, _ => simpa [Step.cells] using c4
theorem open_steps {H : Type} {enc : TypeId × Value → H} {w : World} {base b0 : Nat} {spare : Nat → Bool} {held : Bool} {r : Reach} {v : Value} {d : DataW H} {ps : List MemPlace}
    (hval : Value.okWide Try.prog w r b0 48 v) (hd : DataW.Trod enc Try.prog w base spare held 48 v d ps) :
    ∃ (A : Option Addr) (cap : Nat) (l : List Step), v = .slice A l.length cap ∧ RdSt w A l ∧ l.length ≤ maxLen ∧ ∀ t ∈ l, t.wf := by
  obtain ⟨fs, he, hone, hsz, hty⟩ := oneStep
  obtain ⟨A, cap, l, h1, h2, h3, h4⟩ := open_rd (fs := fs) Try.underlying48 he hone (by rw [cellsStep, hsz]) (by omega) Step.cells Step.wf (fun c hc => stepEl hsz hty c hc) (fun _ => by rw [hsz]; rfl) hval hd
  rw [hsz] at h2
  exact ⟨A, cap, l, h1, h2, h3, h4⟩
end Go.Proofs.Ytmgejacndhnikaa
namespace Go.Proofs.Ytmgejacndhnikaa
open Go.RowKit Go.Shelf
attribute [local go_sem] Oper.semAt_some

set_option maxRecDepth 100000 in
set_option maxHeartbeats 2000000 in
theorem backS1_in (l Bs n₀ : Nat) (A : Option Addr) (cap : Nat) (zs : List Step) (hm : zs.length ≤ 1000000) (J Jx : List (Ix zs.length) → World → Prop)
    (hY : ∀ pre x W, J pre W → pre.length < zs.length → YieldAt Fence.wide 1 Try.prog l #[.int .i64 (x.1 : Int), (zs[x.1]'x.2).agg] W fun e W' =>
      (e = .returned (.bool true) ∧ J (pre ++ [x]) W' ∧ KpB n₀ Bs W W') ∨ (e = .returned (.bool false) ∧ Jx (pre ++ [x]) W'))
    (W : World) (hBs : W.cell? ⟨Bs, 0, none⟩ = some (.slice A zs.length cap)) (hR : RdB n₀ Step.cells 5 W A zs) (h0 : J [] W) :
    CallsIn Fence.wide 2 Try.prog 118 #[.func (.yield l) #[] #[], .pointer (some ⟨Bs, 0, none⟩)] W fun e W' => (∃ v, e = .returned v) ∧
      ((∃ ys, ys.map (·.1) = backN zs.length zs.length ∧ J ys W') ∨ (∃ pre, pre.map (·.1) = backN zs.length pre.length ∧ Jx pre W')) := by
  refine callsIn_of_wp Try.func118 rfl trivial ?_ rfl
  simp only [Try.ntmps118, List.size_toArray, List.length_cons, List.length_nil, Nat.reduceAdd, Nat.reduceSub, Array.replicate_succ, Array.replicate_zero, List.push_toArray, List.append_toArray, List.nil_append, List.cons_append]
  gi_wp2
  gi_loopw [3] (fun i wr => ∃ (t : Nat) (pre : List (Ix zs.length)), t ≤ zs.length ∧ i = .int .i64 ((t : Int) - 1) ∧ pre.map (·.1) = backN zs.length (zs.length - t) ∧ J pre wr ∧ KpB n₀ Bs W wr)
    (fun i _ => (intOf i + 1).toNat)
  case atStart => exact ⟨zs.length, [], Nat.le_refl _, by first | rfl | go_num, by rw [Nat.sub_self]; rfl, h0, Below.refl _ _, fun _ h => h⟩
  case round =>
    obtain ⟨t, pre, ht, rfl, hpre, hJs, hnx⟩ := hrel
    have hbs := hnx.2 _ hBs
    cases t with
    | zero =>
      have hq : ((0 : Nat) : Int) - 1 = -1 := rfl
      rw [hq]
      rw [Nat.sub_zero] at hpre
      gi_wp2
      go_end0
      exact ⟨⟨_, rfl⟩, .inl ⟨_, hpre, hJs⟩⟩
    | succ t =>
      have hq : ((t + 1 : Nat) : Int) - 1 = (t : Int) := by omega
      rw [hq]
      obtain ⟨b, off, rfl, hb, c0, c1, c2, c3, c4⟩ := RdSt.at5 (hR.below hnx.1).1 (show t < zs.length by omega)
      have ht1 : ((t : Nat) : Int) < ((zs.length : Nat) : Int) := by omega
      have hpl : pre.length = zs.length - (t + 1) := by rw [← List.length_map (f := fun x : Ix zs.length => x.1), hpre, backN_len]
      have htl : t < zs.length := by omega
      have hsn : (pre ++ [(⟨t, htl⟩ : Ix zs.length)]).map (·.1) = backN zs.length (zs.length - t) := by
        rw [show zs.length - t = (zs.length - (t + 1)) + 1 by omega, backN_succ, List.map_append, hpre]
        congr 1
        show [t] = _
        congr 1; omega
      have hsl : (pre ++ [(⟨t, htl⟩ : Ix zs.length)]).length = zs.length - t := by rw [List.length_append, hpl]; simp; omega
      obtain ⟨fn, tmps, assign, body, hy, hR⟩ := hY pre ⟨t, htl⟩ wr hJs (by omega)
      generalize zs[t] = x at *
      unfold Step.agg at hy
      gi_wp2
      refine hR.mono ?_
      rintro e W3 (⟨rfl, hJ3, hk3⟩ | ⟨rfl, hJx3⟩)
      · gi_wp2
        go_roundw
        case rel => exact ⟨t, _, by omega, by first | rfl | go_num, hsn, hJ3, kpB_t hnx hk3⟩
        case measure => first | (simp [intOf]; done) | (simp [intOf]; omega)
      · gi_wp2
        refine bodyPost_ret (results_none rfl _ _ _) rfl ?_
        exact ⟨⟨_, rfl⟩, .inr ⟨_, by rw [hsl]; exact hsn, hJx3⟩⟩

/-- slices.Backward(l): what it hands back. -/
theorem backS_calls (A : Option Addr) (len cap : Nat) (w : World) :
    Calls Try.prog 95 #[.slice A len cap] w fun e w' => e = .returned (.func (.func 118) #[] #[.pointer (some ⟨w.heap.size, 0, none⟩)]) ∧ w' = w.alloc (.cells #[.slice A len cap] 48) := by
  go_enter Try.func95, Try.ntmps95
  go_wp2
  go_ret
  exact ⟨rfl, rfl⟩

theorem backS_stops (Bs n₀ : Nat) (A : Option Addr) (cap : Nat) (zs : List Step) (hm : zs.length ≤ 1000000) (w : World) (hBs : Bs < w.heap.size) (hn₀ : n₀ ≤ w.heap.size) (hc : w.cell? ⟨Bs, 0, none⟩ = some (.slice A zs.length cap)) (hR : RdB n₀ Step.cells 5 w A zs) :
    SeqStopsK Fence.wide 2 Try.prog 118 #[.pointer (some ⟨Bs, 0, none⟩)] (fun x : Ix zs.length => #[Value.int .i64 (x.1 : Int), (zs[x.1]'x.2).agg]) (KpB n₀ Bs)
      (fun ys => ys.map (·.1) = backN zs.length zs.length) (fun pre => pre.map (·.1) = backN zs.length pre.length) zs.length w := fun l J Jx W hW _ _ hY h0 =>
  backS1_in l Bs n₀ A cap zs hm J Jx hY W ((hW.cell (p := ⟨Bs, 0, none⟩) hBs).trans hc) (hR.below (hW.mono hn₀)) h0
end Go.Proofs.Ytmgejacndhnikaa
