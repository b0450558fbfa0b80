/- api.Move; codemasonref.MovesCheck, MoveFrom, Moved walked. -/
import Derived.Test.YtiphhadhbokgmaaSwapP
import Derived.Test.YtiphhadhbokgmaaOwn
import Derived.Test.YtiphhadhbokgmaaAppN
import Derived.Test.YtiphhadhbokgmaaInside
import Derived.BigGuardPart
import Derived.Deep.QuietTactic
import Derived.BigQuiet
import Derived.StillTailTactics
namespace Go.Proofs.Ytiphhadhbokgmaa
open Go.RowKit

/-- api.Move -/
structure Mv where
  to : Int
  from_ : Int
def Mv.cells (m : Mv) : List Value := [.int .i64 m.to, .int .i64 m.from_]
def Mv.agg (m : Mv) : Value := .agg #[.int .i64 m.to, .int .i64 m.from_]
abbrev RdMv (w : World) (A : Option Addr) (l : List Mv) : Prop := Rd Mv.cells 2 w A l
abbrev OwnMv (w : World) (base : Nat) (v : Value) (l : List Mv) : Prop := Own Mv.cells 2 w base 51 v l
theorem RdMv.at2 {w : World} {A : Option Addr} {l : List Mv} (h : RdMv w A l) {k : Nat} (hk : k < l.length) :
    ∃ b off, A = some ⟨b, off, none⟩ ∧ b < w.heap.size ∧ w.cell? ⟨b, off + k * 2, none⟩ = some (.int .i64 l[k].to) ∧ w.cell? ⟨b, off + k * 2 + 1, none⟩ = some (.int .i64 l[k].from_) := by
  obtain ⟨b, off, e, hb, hc⟩ := h.at_ hk
  exact ⟨b, off, e, hb, by simpa [Mv.cells] using hc 0 (by omega), by simpa [Mv.cells] using hc 1 (by omega)⟩
theorem mvCells_len (x : Mv) : x.cells.length = 2 := rfl
theorem mvCells_one (x : Mv) : ∀ u ∈ x.cells, u.oneCell' = true := by intro u hu; simp [Mv.cells] at hu; rcases hu with rfl | rfl <;> rfl
theorem infoMv : (Try.prog.info? 51).map (fun i => (i.zero, i.size, i.bytes)) = some (some (Mv.mk 0 0).agg, 2, 16) := by kernel_rfl
theorem mv_new (w : World) (t f : Int) (s : Nat) (hs : w.heap.size = s) : RdMv (w.alloc (.cells #[.int .i64 t, .int .i64 f] 51)) (some ⟨s, 0, none⟩) [⟨t, f⟩] :=
  rd_new (f := Mv.cells) w [(⟨t, f⟩ : Mv)] _ _ s hs fun k x hk j hj => by
    obtain ⟨hk0, hx⟩ := List.getElem?_eq_some_iff.1 hk
    have hk1 : k = 0 := by simp at hk0; exact hk0
    subst hk1
    simp at hx
    subst hx
    match j, hj with
    | 0, _ => rfl
    | 1, _ => rfl
/-- 'out = append(out, m)' for moves. -/
theorem wpList_appMv {w : World} {ops : Array Oper} {rest : List Oper} {o : Oper} {a : Act} {Q : Exit → Act → World → Prop} (hgd : o.guard = none) (s x : Operand)
    (ho : o.op = .call { callee := .builtin .append, args := #[s, x], argTypes := #[46, 46] })
    (base : Nat) (v : Value) (l : List Mv) (y : Mv) (hs : a.eval s = v) (hown : OwnMv w base v l) (S c : Nat) (hx : a.eval x = .slice (some ⟨S, 0, none⟩) 1 c)
    (hR : RdMv w (some ⟨S, 0, none⟩) [y]) (hlen : l.length < 1000000) (hbase : base ≤ w.heap.size)
    (h : ∀ v' w', OwnMv w' base v' (l ++ [y]) → w.grownBy w' v.ownBlock → (v'.ownBlock = v.ownBlock ∨ v'.ownBlock = some w.heap.size) → wpList Try.prog ops Q rest (a.put o.dst v') w') : wpList Try.prog ops Q (o :: rest) a w := by
  obtain ⟨v', w', hrun, hO, hg, hat⟩ := run_appN (P := Try.prog) 46 o.type Mv.cells 2 16 51 (Mv.mk 0 0).agg Try.underlying46 infoMv rfl (by decide) mvCells_len mvCells_one base v l hown (some ⟨S, 0, none⟩) [y] c hR (by simp [maxLen]; omega) (by simp; omega) hbase
  exact wpList_app_run hgd 46 s x ho hs hx hrun (h v' w' hO hg hat)
theorem OwnMv.rd {w : World} {base : Nat} {v : Value} {l : List Mv} (h : OwnMv w base v l) : ∃ A cap, v = .slice A l.length cap ∧ RdMv w A l :=
  let ⟨A, cap, h1, h2, _⟩ := h.form mvCells_len
  ⟨A, cap, h1, h2⟩

def mvBad (n : Int) (m : Mv) : Bool := !(insideB n [m.to, m.from_])
theorem mvBad_no {n : Int} {m : Mv} (h : (0 ≤ m.to ∧ m.to < n) ∧ 0 ≤ m.from_ ∧ m.from_ < n) : mvBad n m = false := by simp [mvBad, insideB]; omega
theorem mvBad_ok {n : Int} {m : Mv} (h : mvBad n m = false) : (0 ≤ m.to ∧ m.to < n) ∧ 0 ≤ m.from_ ∧ m.from_ < n := by simp [mvBad, insideB] at h; omega
def mvErr (n : Int) (l : List Mv) : Int := if n < 1 ∨ 8 < n ∨ 8 < l.length then 1 else if l.any (mvBad n) then 2 else if (l.map Mv.to).Nodup then 0 else 3
structure MvOk (n : Nat) (l : List Mv) : Prop where
  n1 : 1 ≤ n
  n8 : n ≤ 8
  len : l.length ≤ 8
  ins : ∀ m ∈ l, (0 ≤ m.to ∧ m.to < n) ∧ 0 ≤ m.from_ ∧ m.from_ < n
  one : (l.map Mv.to).Nodup
theorem mvErr_ok {n : Int} {l : List Mv} (h : mvErr n l = 0) : ∃ k : Nat, n = k ∧ MvOk k l := by
  unfold mvErr at h
  by_cases h1 : n < 1 ∨ 8 < n ∨ 8 < l.length
  · rw [if_pos h1] at h; cases h
  rw [if_neg h1] at h
  by_cases h2 : l.any (mvBad n) = true
  · rw [if_pos h2] at h; cases h
  rw [if_neg h2] at h
  by_cases h3 : (l.map Mv.to).Nodup
  · obtain ⟨k, rfl⟩ := Int.eq_ofNat_of_zero_le (show 0 ≤ n by omega)
    refine ⟨k, rfl, by omega, by omega, by omega, fun m hm => mvBad_ok ?_, h3⟩
    cases hb : mvBad k m
    · rfl
    · exact absurd (List.any_eq_true.2 ⟨m, hm, hb⟩) h2
  · rw [if_neg h3] at h; cases h
theorem any_take {α : Type} {p : α → Bool} {l : List α} {k : Nat} (hk : k < l.length) (h : ∀ x ∈ l.take k, p x = false) (hp : p l[k] = false) : ∀ x ∈ l.take (k + 1), p x = false := fun x hx => by
  rw [List.take_succ_eq_append_getElem hk] at hx
  rcases List.mem_append.1 hx with hx | hx
  · exact h x hx
  · simp at hx; subst hx; exact hp
theorem nodup_take_succ {l : List Int} {k : Nat} (hk : k < l.length) (h : (l.take k).Nodup) (hne : ∀ j (h : j < k), l[j]'(by omega) ≠ l[k]) : (l.take (k + 1)).Nodup := by
  rw [List.take_succ_eq_append_getElem hk, List.nodup_append]
  refine ⟨h, by simp, fun a ha b hb e => ?_⟩
  simp at hb
  obtain ⟨j, hj, rfl⟩ := List.getElem_of_mem ha
  simp at hj
  refine hne j (by omega) ?_
  rw [← hb, ← e]
  simp
theorem mvErr_3 {n : Int} {l : List Mv} {i j : Nat} (h1 : ¬ (n < 1 ∨ 8 < n ∨ 8 < l.length)) (h2 : ∀ x ∈ l, mvBad n x = false) (hi : i < l.length) (hj : j < i) (e : l[i].to = (l[j]'(by omega)).to) : mvErr n l = 3 := by
  unfold mvErr
  rw [if_neg h1, if_neg (fun h => by
    obtain ⟨x, hx, hb⟩ := List.any_eq_true.1 h
    rw [h2 x hx] at hb; cases hb), if_neg (fun hn => by
    rw [List.nodup_iff_pairwise_ne, List.pairwise_map, List.pairwise_iff_getElem] at hn
    exact hn j i (by omega) hi hj e.symm)]
theorem mvErr_0 {n : Int} {l : List Mv} (h1 : ¬ (n < 1 ∨ 8 < n ∨ 8 < l.length)) (h2 : ∀ x ∈ l, mvBad n x = false) (h3 : (l.map Mv.to).Nodup) : mvErr n l = 0 := by
  unfold mvErr
  rw [if_neg h1, if_neg (fun h => by
    obtain ⟨x, hx, hb⟩ := List.any_eq_true.1 h
    rw [h2 x hx] at hb; cases hb), if_pos h3]
theorem mvErr_2 {n : Int} {l : List Mv} {m : Mv} (h1 : ¬ (n < 1 ∨ 8 < n ∨ 8 < l.length)) (hm : m ∈ l) (hb : mvBad n m = true) : mvErr n l = 2 := by
  unfold mvErr
  rw [if_neg h1, if_pos (List.any_eq_true.2 ⟨m, hm, hb⟩)]
set_option maxHeartbeats 8000000 in
theorem movesCheck_calls (n : Int) (A : Option Addr) (l : List Mv) (cap : Nat) (w : World) (hA : RdMv w A l) (hm : l.length ≤ maxLen) :
    Calls Try.prog 17 #[.int .i64 n, .slice A l.length cap] w fun e w' => e = .returned (.int .i64 (mvErr n l)) ∧ Below w.heap.size w w' := by
  unfold maxLen at hm
  have HA := Lib.hid hA
  clear hA
  by_cases h1 : n < 1 ∨ 8 < n ∨ 8 < l.length
  · have he : mvErr n l = 1 := by unfold mvErr; rw [if_pos h1]
    rw [he]
    clear he
    go_enter Try.func17, Try.ntmps17
    go_wp2
    all_goals (try (exfalso; omega; done))
    all_goals (go_ret; exact ⟨rfl, Below.refl _ _⟩)
  have H1 := Lib.hid h1
  have h8 : l.length ≤ 8 := by omega
  have n1 : 1 ≤ n := by omega
  have n8 : n ≤ 8 := by omega
  clear h1
  generalize hE : mvErr n l = E
  have HE := Lib.hid hE
  clear hE
  go_enter Try.func17, Try.ntmps17
  go_wp2
  all_goals (try (exfalso; omega; done))
  go_loopw [22] (fun i wr => ∃ k : Nat, k ≤ l.length ∧ i = .int .i64 k ∧ Hid (∀ x ∈ l.take k, mvBad n x = false) ∧ Below w.heap.size w wr) (fun i _ => l.length - (intOf i).toNat)
  case atStart => exact ⟨0, Nat.zero_le _, rfl, Lib.hid (fun x hx => by simp at hx), Below.refl _ _⟩
  case round =>
    obtain ⟨k, hk, rfl, hP, hW⟩ := hrel
    have HW := Lib.hid hW
    have hws := hW.size
    by_cases hlt : k < l.length
    · obtain ⟨b, off, rfl, hb, c0, c1⟩ := RdMv.at2 (Rd.below HA.out hW) hlt
      have q1 : ((k : Nat) : Int) < ((l.length : Nat) : Int) := by omega
      have Hbad := Lib.hid (fun h => mvErr_2 H1.out (List.getElem_mem hlt) h)
      have Hok := Lib.hid (any_take hlt hP.out)
      have HWa := Lib.hid ((HW.out.alloc hws (.cells #[.int .i64 l[k].to, .int .i64 l[k].from_] 51)).alloc (by simp; omega) (.cells #[.int .i64 l[k].to, .int .i64 l[k].from_] 3))
      have Hin := Lib.hid (fun (S : Nat) (hs : (wr.alloc (.cells #[.int .i64 l[k].to, .int .i64 l[k].from_] 51)).heap.size = S) => inside_calls n (some ⟨S, 0, none⟩) [l[k].to, l[k].from_] 2 _ (rdI_new2 (wr.alloc (.cells #[.int .i64 l[k].to, .int .i64 l[k].from_] 51)) l[k].to l[k].from_ 3 S hs) (by simp [maxLen]))
      have Hbd : Hid (mvBad n l[k] = !(insideB n [l[k].to, l[k].from_])) := Lib.hid rfl
      clear hP hW
      generalize l[k] = m at *
      obtain ⟨mt, mf⟩ := m
      dsimp only at c0 c1 Hin HWa Hbd
      cases hb2 : insideB n [mt, mf]
      · have hE2 : E = 2 := by rw [← HE.out]; exact Hbad.out (by rw [Hbd.out, hb2]; rfl)
        rw [hb2] at Hin
        subst hE2
        clear hb2 Hbad Hok Hbd
        go_wp2_with fail
        refine (Hin.out _ (by simp)).mono ?_
        rintro e w' ⟨rfl, rfl⟩
        go_wp2
        go_ret
        exact ⟨rfl, HWa.out⟩
      · have Hk := Lib.hid (Hok.out (by rw [Hbd.out, hb2]; rfl))
        rw [hb2] at Hin
        clear hb2 Hbad Hok Hbd
        go_wp2_with fail
        refine (Hin.out _ (by simp)).mono ?_
        rintro e w' ⟨rfl, rfl⟩
        go_wp2
        go_roundw
        case rel => exact ⟨k + 1, by omega, by go_num, Hk, HWa.out⟩
        case measure => simp [intOf]; omega
    · have hke : k = l.length := by omega
      subst hke
      have Hall : Hid (∀ x ∈ l, mvBad n x = false) := Lib.hid (by have := hP.out; rwa [List.take_length] at this)
      clear hP hW
      go_wp2
      obtain ⟨wo, rfl⟩ : ∃ wo : World, wo = wr := ⟨_, rfl⟩
      go_loopw [7] (fun i wr => ∃ k : Nat, k ≤ l.length ∧ i = .int .i64 k ∧ Hid (((l.map Mv.to).take k).Nodup) ∧ ∃ nq, wr = wo.drewN nq) (fun i _ => l.length - (intOf i).toNat)
      case atStart => exact ⟨0, Nat.zero_le _, rfl, Lib.hid (by simp), 0, rfl⟩
      case round =>
        obtain ⟨k, hk, rfl, hN, nq, hwr⟩ := hrel
        have Hwr := Lib.hid hwr
        by_cases hlt : k < l.length
        · have q1 : ((k : Nat) : Int) < ((l.length : Nat) : Int) := by omega
          obtain ⟨b, off, rfl, hb, c0, c1⟩ := RdMv.at2 (Rd.below HA.out HW.out) hlt
          clear hwr c1
          go_wp2
          obtain ⟨w5, rfl⟩ : ∃ w5 : World, w5 = wr := ⟨_, rfl⟩
          go_loopw [8] (fun i wr => ∃ j : Nat, j ≤ k ∧ i = .int .i64 j ∧ Hid (∀ q (h : q < j) (h2 : q < l.length), l[q].to ≠ l[k].to) ∧ ∃ nq, wr = wo.drewN nq) (fun i _ => k - (intOf i).toNat)
          case atStart => exact ⟨0, Nat.zero_le _, rfl, Lib.hid (fun q h => by omega), nq, Hwr.out⟩
          case round =>
            obtain ⟨j, hj, rfl, hQ, nq2, hwr2⟩ := hrel
            have Hwr2 := Lib.hid hwr2
            by_cases hlj : j < k
            · obtain ⟨b2, off2, eb, hb2, d0, d1⟩ := RdMv.at2 (Rd.below HA.out HW.out) (k := j) (by omega)
              injection eb with eb; injection eb with eb1 eb2
              subst eb1 eb2
              have e0 : wr.cell? ⟨b, off + k * 2, none⟩ = some (.int .i64 l[k].to) := by rw [hwr2]; exact c0
              have e1 : wr.cell? ⟨b, off + j * 2, none⟩ = some (.int .i64 (l[j]'(by omega)).to) := by rw [hwr2]; exact d0
              have q2 : ((j : Nat) : Int) < ((k : Nat) : Int) := by omega
              have q3 : ((j : Nat) : Int) < ((l.length : Nat) : Int) := by omega
              have Hdup := Lib.hid (fun e => mvErr_3 (i := k) (j := j) H1.out Hall.out hlt hlj e)
              have Hq : Hid (l[k].to ≠ (l[j]'(by omega)).to → ∀ q (h : q < j + 1) (h2 : q < l.length), l[q].to ≠ l[k].to) := Lib.hid (fun hne q hq h2 => by
                by_cases e : q = j
                · subst e; exact fun h => hne h.symm
                · exact hQ.out q (by omega) h2)
              clear hwr2 d0 d1 hQ
              generalize l[k].to = x at *
              generalize (l[j]'(by omega)).to = y at *
              by_cases hxy : x = y
              · have hE3 : E = 3 := by rw [← HE.out]; exact Hdup.out hxy
                subst hE3
                have q4 : (x == y) = true := by rw [beq_iff_eq]; exact hxy
                have HWf := Lib.hid (fun nq3 => below_dN HW.out (nq2 + nq3))
                clear hxy Hdup Hq
                go_wp2
                go_quiet (fail)
                go_wp2
                go_ret
                exact ⟨rfl, by rw [Hwr2.out, World.drewN_drewN]; exact below_dN HW.out _⟩
              · have q4 : (x == y) = false := by rw [beq_eq_false_iff_ne]; exact hxy
                have Hq2 := Lib.hid (Hq.out hxy)
                clear hxy Hdup Hq
                go_wp2
                go_quiet (fail)
                go_wp2
                go_roundw
                case rel => exact ⟨j + 1, by omega, by go_num, Hq2, _, by rw [Hwr2.out, World.drewN_drewN]⟩
                case measure => simp [intOf]; omega
            · have hjk : j = k := by omega
              subst hjk
              have Hn : Hid (((l.map Mv.to).take (j + 1)).Nodup) := Lib.hid (nodup_take_succ (by simpa using hlt) hN.out (fun q hq => by simpa using hQ.out q hq (by omega)))
              clear hwr2 hQ hN
              go_wp2
              go_roundw
              case rel => exact ⟨j + 1, by omega, by go_num, Hn, nq2, Hwr2.out⟩
              case measure => simp [intOf]; omega
        · have hke : k = l.length := by omega
          have hE0 : E = 0 := by
            rw [← HE.out]
            refine mvErr_0 H1.out Hall.out ?_
            have := hN.out
            rw [hke, ← List.length_map (f := Mv.to), List.take_length] at this
            exact this
          subst hke hE0
          clear hwr hN
          go_wp2
          go_ret
          exact ⟨rfl, by rw [Hwr.out]; exact below_dN HW.out _⟩

/-- From which one r gets what it gets. -/
def mfK : List Mv → Int → Int
  | [], r => r
  | m :: t, r => if m.to = r then m.from_ else mfK t r
set_option maxHeartbeats 2000000 in
theorem moveFrom_calls (A : Option Addr) (l : List Mv) (cap : Nat) (r : Int) (w : World) (hA : RdMv w A l) (hm : l.length ≤ 1000) :
    Calls Try.prog 18 #[.slice A l.length cap, .int .i64 r] w fun e w' => e = .returned (.int .i64 (mfK l r)) ∧ Below w.heap.size w w' := by
  have HA := Lib.hid hA
  clear hA
  generalize hE : mfK l r = E
  have HE := Lib.hid hE
  clear hE
  go_enter Try.func18, Try.ntmps18
  go_wp2
  go_loopw [9] (fun i wr => ∃ k : Nat, k ≤ l.length ∧ i = .int .i64 k ∧ Hid (mfK (l.drop k) r = E) ∧ Below w.heap.size w wr) (fun i _ => l.length - (intOf i).toNat)
  case atStart => exact ⟨0, Nat.zero_le _, rfl, Lib.hid (by rw [List.drop_zero]; exact HE.out), Below.refl _ _⟩
  case round =>
    obtain ⟨k, hk, rfl, hD, hW⟩ := hrel
    have HW := Lib.hid hW
    have hws := hW.size
    by_cases hlt : k < l.length
    · obtain ⟨b, off, rfl, hb, c0, c1⟩ := RdMv.at2 (Rd.below HA.out hW) hlt
      have q1 : ((k : Nat) : Int) < ((l.length : Nat) : Int) := by omega
      have hd := hD.out
      rw [List.drop_eq_getElem_cons hlt, show ∀ m t, mfK (m :: t) r = if m.to = r then m.from_ else mfK t r from fun _ _ => rfl] at hd
      have HWa := Lib.hid (HW.out.alloc hws (.cells #[.int .i64 l[k].to, .int .i64 l[k].from_] 51))
      have Hd := Lib.hid hd
      clear hD hW hd
      generalize l[k] = m at *
      obtain ⟨mt, mf⟩ := m
      dsimp only at c0 c1 Hd HWa
      by_cases e : mt = r
      · have hE : E = mf := by have := Hd.out; rw [if_pos e] at this; exact this.symm
        have q2 : (mt == r) = true := by rw [beq_iff_eq]; exact e
        subst hE
        clear e Hd
        go_wp2
        go_ret
        exact ⟨rfl, HWa.out⟩
      · have Hd2 := Lib.hid (show mfK (l.drop (k + 1)) r = E by have := Hd.out; rw [if_neg e] at this; exact this)
        have q2 : (mt == r) = false := by rw [beq_eq_false_iff_ne]; exact e
        clear e Hd
        go_wp2
        go_roundw
        case rel => exact ⟨k + 1, by omega, by go_num, Hd2, HWa.out⟩
        case measure => simp [intOf]; omega
    · have hke : k = l.length := by omega
      subst hke
      have hE : E = r := by have := hD.out; rw [List.drop_length] at this; exact this.symm
      subst hE
      clear hD hW
      go_wp2
      go_ret
      exact ⟨rfl, HW.out⟩

def Mv.nat (m : Mv) : Nat × Nat := (m.to.toNat, m.from_.toNat)
def iota (n : Nat) : List Int := (List.range n).map fun i : Nat => (i : Int)
def iotaTo (n k : Nat) : List Int := (List.range n).map fun i : Nat => if i < k then (i : Int) else 0
theorem iotaTo_zero (n : Nat) : iotaTo n 0 = List.replicate n 0 := by
  unfold iotaTo
  rw [show (fun i : Nat => if i < 0 then (i : Int) else 0) = fun _ => 0 from by funext i; rw [if_neg (by omega)], List.map_const', List.length_range]
theorem iotaTo_all (n : Nat) : iotaTo n n = iota n := by
  unfold iotaTo iota
  exact List.map_congr_left fun i hi => by rw [if_pos (List.mem_range.1 hi)]
theorem map_range_set {α : Type} (n k : Nat) (f : Nat → α) (x : α) : ((List.range n).map f).set k x = (List.range n).map fun i => if i = k then x else f i := by
  refine List.ext_getElem? fun i => ?_
  rw [List.getElem?_set, List.getElem?_map, List.getElem?_map]
  by_cases e : k = i
  · subst e
    rw [if_pos rfl]
    by_cases h : k < n
    · rw [if_pos (by simpa using h), List.getElem?_range h]; simp
    · rw [if_neg (by simpa using h), List.getElem?_eq_none (by simp; omega)]; rfl
  · rw [if_neg e]
    by_cases h : i < n
    · rw [List.getElem?_range h]; simp [Ne.symm e]
    · rw [List.getElem?_eq_none (by simp; omega)]; rfl
theorem iotaTo_set {n k : Nat} : (iotaTo n k).set k (k : Int) = iotaTo n (k + 1) := by
  unfold iotaTo
  rw [map_range_set]
  refine List.map_congr_left fun i _ => ?_
  by_cases e : i = k
  · subst e; rw [if_pos rfl, if_pos (by omega)]
  · rw [if_neg e]
    by_cases h : i < k
    · rw [if_pos h, if_pos (by omega)]
    · rw [if_neg h, if_neg (by omega)]
theorem iota_len (n : Nat) : (iota n).length = n := by simp [iota]
theorem iotaTo_len (n k : Nat) : (iotaTo n k).length = n := by simp [iotaTo]
set_option maxRecDepth 100000 in
set_option maxHeartbeats 4000000 in
theorem moved_calls (n : Nat) (A : Option Addr) (l : List Mv) (cap : Nat) (w : World) (hA : RdMv w A l) (hn : n ≤ 8) (hm : l.length ≤ 1000) (hin : ∀ m ∈ l, (0 ≤ m.to ∧ m.to < n + 1) ∧ 0 ≤ m.from_ ∧ m.from_ < n + 1) :
    Calls Try.prog 20 #[.int .i64 (n : Nat), .slice A l.length cap] w fun e w' => ∃ v, e = .returned v ∧ OwnI w' w.heap.size 3 v (mvR (iota (n + 1)) (l.map Mv.nat)) ∧ Below w.heap.size w w' := by
  have HA := Lib.hid hA
  have Hin := Lib.hid hin
  clear hA hin
  go_enter Try.func20, Try.ntmps20
  have qn : ((n : Int) + 1) = ((n + 1 : Nat) : Int) := by push_cast; rfl
  have Qn := Lib.hid qn
  clear qn
  go_wp2_with (at_make
               try rw [Qn.out]
               refine wpList_makeI rfl _ _ rfl w.heap.size (n + 1) (by first | rfl | (simp; done)) (by first | rfl | (simp; done)) (by omega) (Nat.le_refl _) ?_
               intro w3 hO hg
               have HO := Lib.hid hO
               have HW := Lib.hid ((Below.refl w.heap.size w).grown hg (Nat.le_refl _) (fun k hk => by cases hk))
               clear hO hg)
  go_loopw [6] (fun i wr => ∃ k : Nat, k ≤ n + 1 ∧ i = .int .i64 k ∧ OwnI wr w.heap.size 3 (.slice (some ⟨w.heap.size, 0, none⟩) (n + 1) (n + 1)) (iotaTo (n + 1) k) ∧ Below w.heap.size w wr) (fun i _ => n + 1 - (intOf i).toNat)
  case atStart => exact ⟨0, Nat.zero_le _, rfl, by rw [iotaTo_zero]; exact HO.out, HW.out⟩
  case round =>
    clear HO HW
    obtain ⟨k, hk, rfl, hO, hW⟩ := hrel
    have hws := hW.size
    by_cases hlt : k < n + 1
    · obtain ⟨g, eg, hg1, hg2, _, hfz, hcell⟩ := OwnI.at2 hO (by rw [iotaTo_len]; omega)
      injection eg with eg; injection eg with eg
      subst eg
      have f5 := hfz k
      have c5 := hcell k (by rw [iotaTo_len]; omega)
      have HOs := Lib.hid (OwnI.set_ hO (k := k) (by rw [iotaTo_len]; omega) (k : Int))
      rw [iotaTo_set] at HOs
      have HWs := Lib.hid (hW.setCell (p := ⟨w.heap.size, k, none⟩) (Nat.le_refl _) (.int .i64 (k : Nat)))
      have q1 : ((k : Nat) : Int) ≤ ((n : Nat) : Int) := by omega
      clear hO hW hfz hcell
      go_wp2
      go_roundw
      case rel => exact ⟨k + 1, by omega, by go_num, HOs.out, HWs.out⟩
      case measure => simp [intOf]; omega
    · have hke : k = n + 1 := by omega
      have HO := Lib.hid hO
      rw [hke, iotaTo_all] at HO
      have HW := Lib.hid hW
      have q1 : ¬ ((k : Nat) : Int) ≤ ((n : Nat) : Int) := by omega
      clear hO hW hke
      go_wp2
      obtain ⟨wo, rfl⟩ : ∃ wo : World, wo = wr := ⟨_, rfl⟩
      go_loopw [23] (fun i wr => ∃ k : Nat, k ≤ l.length ∧ i = .int .i64 k ∧ OwnI wr w.heap.size 3 (.slice (some ⟨w.heap.size, 0, none⟩) (n + 1) (n + 1)) (mvR (iota (n + 1)) ((l.take k).map Mv.nat)) ∧ Below w.heap.size w wr) (fun i _ => l.length - (intOf i).toNat)
      case atStart => exact ⟨0, Nat.zero_le _, rfl, HO.out, HW.out⟩
      case round =>
        clear HO HW
        obtain ⟨j, hj, rfl, hO, hW⟩ := hrel
        have hws := hW.size
        by_cases hlt : j < l.length
        · obtain ⟨b, off, rfl, hb, c0, c1⟩ := RdMv.at2 (Rd.below HA.out hW) hlt
          have q2 : ((j : Nat) : Int) < ((l.length : Nat) : Int) := by omega
          obtain ⟨⟨t0, t1⟩, f0, f1⟩ := Hin.out _ (List.getElem_mem hlt)
          have hlen : (mvR (iota (n + 1)) ((l.take j).map Mv.nat)).length = n + 1 := by rw [mvR_len, iota_len]
          have hsucc : mvR (iota (n + 1)) ((l.take (j + 1)).map Mv.nat) = (mvR (iota (n + 1)) ((l.take j).map Mv.nat)).set l[j].to.toNat ((mvR (iota (n + 1)) ((l.take j).map Mv.nat)).getD l[j].from_.toNat 0) := by
            rw [List.take_succ_eq_append_getElem hlt, List.map_append, mvR_append]; rfl
          have Hsucc := Lib.hid hsucc
          generalize mvR (iota (n + 1)) ((l.take j).map Mv.nat) = v at *
          clear hsucc
          generalize l[j] = m at *
          obtain ⟨mt, mf⟩ := m
          dsimp only at c0 c1 t0 t1 f0 f1 Hsucc
          obtain ⟨x, rfl⟩ := Int.eq_ofNat_of_zero_le t0
          obtain ⟨y, rfl⟩ := Int.eq_ofNat_of_zero_le f0
          rw [Int.toNat_natCast, Int.toNat_natCast] at Hsucc
          obtain ⟨g, eg, hg1, hg2, _, hfz, hcell⟩ := OwnI.at2 hO (by omega)
          injection eg with eg; injection eg with eg
          subst eg
          have fx := hfz x
          have cy := hcell y (by omega)
          have ey : v[y]'(by omega) = v.getD y 0 := by rw [List.getD_eq_getElem?_getD, List.getElem?_eq_getElem (by omega)]; rfl
          rw [ey] at cy
          have q3 : ((x : Nat) : Int) < ((n : Nat) : Int) + 1 := by omega
          have q4 : ((y : Nat) : Int) < ((n : Nat) : Int) + 1 := by omega
          have q5 : x < n + 1 := by omega
          have q6 : y < n + 1 := by omega
          have HOa := Lib.hid (hO.alloc (.cells #[.int .i64 (x : Nat), .int .i64 (y : Nat)] 51))
          have HWa := Lib.hid (hW.alloc hws (.cells #[.int .i64 (x : Nat), .int .i64 (y : Nat)] 51))
          have Hlen := Lib.hid hlen
          have HOs := Lib.hid (fun nq z => OwnI.set_ (HOa.out.drewN nq) (k := x) (by have := Hlen.out; omega) z)
          have HWs := Lib.hid (fun nq (z : Value) => (below_dN HWa.out nq).setCell (p := ⟨w.heap.size, x, none⟩) (Nat.le_refl _) z)
          obtain ⟨w2, hw2⟩ : ∃ w2, w2 = wr.alloc (.cells #[.int .i64 (x : Nat), .int .i64 (y : Nat)] 51) := ⟨_, rfl⟩
          have m0 : w2.cell? ⟨wr.heap.size, 0, none⟩ = some (.int .i64 (x : Nat)) := by rw [hw2]; exact cell_new _ _ _ _ rfl 0
          have m1 : w2.cell? ⟨wr.heap.size, 1, none⟩ = some (.int .i64 (y : Nat)) := by rw [hw2]; exact cell_new _ _ _ _ rfl 1
          have cy2 : w2.cell? ⟨w.heap.size, y, none⟩ = some (.int .i64 (v.getD y 0)) := by rw [hw2]; exact ((Below.refl wr.heap.size wr).alloc (Nat.le_refl _) _).cell (p := ⟨w.heap.size, y, none⟩) hg2 |>.trans cy
          have fx2 : w2.frozen? ⟨w.heap.size, x, none⟩ = false := by rw [hw2]; exact ((Below.refl wr.heap.size wr).alloc (Nat.le_refl _) _).frozen (p := ⟨w.heap.size, x, none⟩) hg2 |>.trans fx
          have hsz2 : w.heap.size < w2.heap.size := by rw [hw2]; simp; omega
          have cx0 := hcell x (by omega)
          have cx2 := (((Below.refl wr.heap.size wr).alloc (Nat.le_refl _) (.cells #[.int .i64 (x : Nat), .int .i64 (y : Nat)] 51)).cell (p := ⟨w.heap.size, x, none⟩) hg2).trans cx0
          rw [← hw2] at cx2
          generalize v[x]'(by omega) = z0 at *
          clear cx0
          obtain ⟨g9, hg9⟩ : ∃ g9, g9 = wr.heap.size := ⟨_, rfl⟩
          rw [← hw2] at HOs HWs
          clear hO hW hfz hcell ey hlen HOa HWa
          generalize v.getD y 0 = z at *
          go_wp2
          rw [← hw2]
          clear hw2 fx cy c0 c1
          go_still_tail 9, (by kernel_rfl)
          go_wp2
          go_roundw
          case rel => exact ⟨j + 1, by omega, by go_num, by rw [Hsucc.out]; exact HOs.out _ _, HWs.out _ _⟩
          case measure => simp [intOf]; omega
        · have hje : j = l.length := by omega
          subst hje
          rw [List.take_length] at hO
          have HO := Lib.hid hO
          have HW := Lib.hid hW
          clear hO hW
          go_wp2
          go_ret
          exact ⟨_, rfl, HO.out, HW.out⟩
end Go.Proofs.Ytiphhadhbokgmaa
