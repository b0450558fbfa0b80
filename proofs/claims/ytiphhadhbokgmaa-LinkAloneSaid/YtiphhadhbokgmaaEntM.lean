/- A new key put by the two steps of an assignment to several places (an entry, then its store). -/
import Derived.Test.YtiphhadhbokgmaaMapF
import Derived.WideKeyEntry
namespace Go.Proofs.Ytiphhadhbokgmaa
set_option maxRecDepth 100000
open Go.RowKit Go.Maps Go.ChangeMaps Go.MapKept

section
variable {α : Type} {enc : α → Value} {w : World} {k e t : TypeId} {b n : Nat} {f : α → Option Value}
theorem OwnM.block (h : OwnM enc w k b n f) : ∃ es clock, w.heap[b]? = some (.map es clock) ∧ Stamped es clock ∧ ∀ x ∈ es.toList, ∃ l, keyOf Try.prog k x.key = some l := by
  obtain ⟨D, h1, ⟨es, clock, hb, F, -, -⟩, h3⟩ := h
  exact ⟨es, clock, hb, F.stamped, F.keys⟩
theorem last_born {es : Array MapEntry} {c : Nat} (h : ∀ x ∈ es.toList, x.born < c) (y : MapEntry) (hy : y.born = c) : (es.push y).findIdx? (fun e => ((e.born : Nat) : Int) == ((c : Nat) : Int)) = some es.size := by
  rw [Array.findIdx?_push]
  have : es.findIdx? (fun e => ((e.born : Nat) : Int) == ((c : Nat) : Int)) = none := by
    rw [Array.findIdx?_eq_none_iff]
    intro x hx
    have := h x (by simpa using hx)
    rw [beq_eq_false_iff_ne]
    omega
  rw [this]
  simp [hy]
theorem modify_push (es : Array MapEntry) (y : MapEntry) (g : MapEntry → MapEntry) : (es.push y).modify es.size g = es.push (g y) := by
  refine Array.ext (by simp) fun i h1 h2 => ?_
  rw [Array.getElem_modify]
  by_cases hi : es.size = i
  · subst hi; simp
  · have : i < es.size := by simp at h2; omega
    rw [if_neg hi, Array.getElem_push_lt this, Array.getElem_push_lt this]
theorem OwnM.entry (h : OwnM enc w k b n f) (K : Keyed Try.prog k) (hinj : ∀ x y, enc x = enc y → x = y) (ht : Try.prog.underlying t = some (.map k e)) {z : Value} (hz : ∀ u : World, (zeroValue e).run Try.prog u = .ok z u) (hn : n < maxLen) {a : α} {l : Lit} (hk : keyOf Try.prog k (enc a) = some l) (hf : f a = none) (v : Value) :
    ∃ (st : Nat) (w1 w' : World), (Instr.mapEntry t (.map (some b)) (enc a)).run Try.prog w = .ok (.tuple #[z, goInt st]) w1 ∧ (Instr.entryStore t (.map (some b)) (goInt st) v).run Try.prog w1 = .ok () w' ∧
      w.grownBy w1 (some b) ∧ OwnM enc w' k b (n + 1) (putM f a v) ∧ w.grownBy w' (some b) := by
  obtain ⟨es, clock, hb, ⟨hs, -⟩, hks⟩ := h.block
  have hlook := h.look_ok K ht (hz w) hk
  rw [hf] at hlook
  rcases K.find w hk es.toList hks with ⟨h1, -⟩ | ⟨j, e0, h1, h2, h3⟩
  · obtain ⟨w', hrun, h4, h5⟩ := h.put K hinj ht hn hk v
    have hup : (Instr.mapUpdate t (.map (some b)) (enc a) v).run Try.prog w = .ok () (setBlock w b (.map (es.push ⟨enc a, v, clock⟩) (clock + 1))) := by
      simp [Instr.mapUpdate, run_underlying ht, MapKept.run_getObj_map hb, K.check w false hk, h1, MapKept.run_setObj_map _ hb, Result.andThen, setBlock]
    rw [hup] at hrun
    injection hrun with _ hw'
    have hblt : b < w.heap.size := (Array.getElem?_eq_some_iff.1 hb).1
    have hb1 : (setBlock w b (.map (es.push ⟨enc a, z, clock⟩) (clock + 1))).heap[b]? = some (.map (es.push ⟨enc a, z, clock⟩) (clock + 1)) := by
      simp [setBlock, hblt]
    refine ⟨clock, setBlock w b (.map (es.push ⟨enc a, z, clock⟩) (clock + 1)), w', ?_, ?_, ⟨rfl, rfl, rfl, by simp [setBlock], fun i _ hi => by
      unfold setBlock
      dsimp only
      rw [Array.getElem?_setIfInBounds, if_neg (fun e => hi (by rw [e]))]⟩, h4, h5⟩
    · simp [Instr.mapEntry, run_underlying ht, MapKept.run_getObj_map hb, K.check w false hk, h1, hz, MapKept.run_setObj_map _ hb, Result.andThen, setBlock]
    · have hidx := last_born (c := clock) (fun x hx => hs x hx) ⟨enc a, z, clock⟩ rfl
      have hmod := modify_push es ⟨enc a, z, clock⟩ (fun e => { e with val := v })
      have hfin : ({ (setBlock w b (.map (es.push ⟨enc a, z, clock⟩) (clock + 1))) with heap := (setBlock w b (.map (es.push ⟨enc a, z, clock⟩) (clock + 1))).heap.setIfInBounds b (.map (es.push ⟨enc a, v, clock⟩) (clock + 1)) } : World) = w' := by
        rw [← hw']
        simp [setBlock]
      rw [← hfin]
      generalize setBlock w b (.map (es.push ⟨enc a, z, clock⟩) (clock + 1)) = W1 at *
      simp [Instr.entryStore, MapKept.run_getObj_map hb1, asInt, asIntOf, goInt, hidx, hmod, MapKept.run_setObj_map _ hb1, Result.andThen]
  · exfalso
    have : (Instr.lookup t (.map (some b)) (enc a) true).run Try.prog w = .ok (.tuple #[e0.val, .bool true]) w := by
      simp [Instr.lookup, run_underlying ht, MapKept.run_getObj_map hb, K.check w es.isEmpty hk, h1, Result.andThen]
    rw [this] at hlook
    simp at hlook
end
end Go.Proofs.Ytiphhadhbokgmaa
