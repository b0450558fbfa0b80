/- The law SingleSame. -/
import Derived.Test.YtmgejacndhnikaaSnK
import Derived.Test.YtmgejacndhnikaaSnO
import Derived.Test.YtmgejacndhnikaaSnQ
import Derived.Test.YtmgejacndhnikaaBlkI
import Derived.Test.YtmgejacndhnikaaBlkE
import Derived.Test.YtmgejacndhnikaaIntsR
namespace Go.Proofs.Ytmgejacndhnikaa
set_option maxRecDepth 100000
open Go.RowKit

theorem one_endQ {p : List Blk} {v : List Int} {k j : Nat} (h1 : runsB p v k) (h2 : (stB p v k).1 < 0) (h3 : runsB p v j) (h4 : (stB p v j).1 < 0) : k = j := by
  rcases Nat.lt_trichotomy k j with h | h | h
  · have := h3 k h; omega
  · exact h
  · have := h1 j h; omega
theorem no_201 {p : List Blk} {v : List Int} {k : Nat} (hk : k ≤ 200) (h2 : (stB p v k).1 < 0) (h3 : runsB p v 201) : False := by
  have := h3 k (by omega)
  omega
set_option maxHeartbeats 4000000 in
theorem blkRun_have (vars : Int) (A B : Option Addr) (p : List Blk) (hv : List Int) (cap capB : Nat) (w : World) (hA : RdBk w A p) (hB : RdI w B hv) (hm : p.length ≤ maxLen) (hmc : smallB p) (hm' : hv.length ≤ maxLen) (h1 : pkErr vars p = 0) (h2 : haveErr vars hv ≠ 0) :
    Calls Try.prog 17 #[.int .i64 vars, .slice A p.length cap, .slice B hv.length capB] w fun e w' => e = .returned (.tuple #[.slice none 0 0, .slice none 0 0, .int .i64 (haveErr vars hv)]) ∧ Below w.heap.size w w' := by
  have HA := Lib.hid hA
  have HB := Lib.hid hB
  clear hA hB
  have H1 := Lib.hid h1
  have Hc := Lib.hid (fun w hB => have_calls vars B hv capB w hB hm')
  clear h1
  generalize haveErr vars hv = er at *
  have q : (er != 0) = true := by rw [bne_iff_ne]; exact h2
  go_enter Try.func17, Try.ntmps17
  go_wp2_with (first
    | (go_at_call 41; refine (blkCheck_calls vars A p cap w HA.out hm hmc).mono ?_; rintro e w1 ⟨rfl, hW⟩; rw [H1.out]; have HW1 := Lib.hid hW; clear hW)
    | (go_at_call 46; refine (Hc.out _ (Rd.below HB.out HW1.out)).mono ?_; rintro e w2 ⟨rfl, rfl⟩))
  go_ret3
  exact ⟨rfl, HW1.out⟩
theorem frow100 {vars : Int} {p : List Blk} (hp : POk vars p) (i : Nat) : ((fromX (nexts p)).getD i []).length ≤ 100 := by
  have hlx : (nexts p).length = p.length := by simp [nexts]
  have h1 : ∀ j, (turnRow (nexts p) j).length ≤ 8 := fun j => by
    unfold turnRow
    rw [List.length_map]
    have := List.length_filter_le (fun a => decide ((j : Int) ∈ (nexts p).getD a [])) (List.range (nexts p).length)
    rw [List.length_range, hlx] at this
    have := hp.n8
    rw [hlx]
    omega
  unfold fromX turnX
  rw [List.getD_eq_getElem?_getD, List.getElem?_set]
  split
  · split
    · show (-1 :: turnRow (nexts p) 0).length ≤ 100
      rw [List.length_cons]; have := h1 0; omega
    · exact Nat.zero_le _
  · rw [List.getElem?_map]
    by_cases hl : i < (nexts p).length
    · rw [List.getElem?_range hl]
      show (turnRow (nexts p) i).length ≤ 100
      have := h1 i; omega
    · rw [List.getElem?_eq_none (by simpa using hl)]; exact Nat.zero_le _
/-- What Once gives at what Build gave. -/
theorem once_end {vars : Nat} {p : List Blk} (hp : POk vars p) (A : Option Addr) (cap : Nat) (w : World) (hA : RdSg w A (endN (envX vars p)).out) :
    Calls Try.prog 22 #[.int .i64 (vars : Nat), .slice A p.length cap] w fun e w' => e = .returned (.tuple #[.bool true, .int .i64 0]) ∧ Below w.heap.size w w' := by
  have hG := gr_ok hp
  obtain ⟨base, nin, own, h⟩ := end_done hG
  obtain ⟨hok, hnx, hlen⟩ := end_ok hp
  have hlx : (nexts p).length = p.length := by simp [nexts]
  have hO : OnceP (nexts p) (fromX (nexts p)) (preE vars (endN (envX vars p)).out (endN (envX vars p)).out.length) (endN (envX vars p)).out := by
    rw [hlen]
    refine ⟨fun i hi => once_jn hG h (frm := fromX (nexts p)) rfl rfl hlx i (by rw [hlen] at hi; exact hi), fun i hi => once_st hG h i (by rw [hlen] at hi; exact hi), fun i hi => once_ls hG h i (by rw [hlen] at hi; exact hi)⟩
  have hnd : ((preE vars (endN (envX vars p)).out (endN (envX vars p)).out.length).map (·.1)).Nodup := by
    rw [hlen]
    exact (keys_nodup h p.length (Nat.le_refl _)).1
  have := once_calls vars A (endN (envX vars p)).out (fromX (nexts p)) cap w hA hok (frow100 hp) hnd hnx hO
  rw [hlen] at this
  exact this
/-- What Run gives at what Build gave. -/
theorem runS_end {vars : Nat} {p : List Blk} (hp : POk vars p) (A B : Option Addr) (hv : List Int) (cap capB : Nat) (w : World) (hA : RdSg w A (endN (envX vars p)).out) (hB : RdI w B hv) (hm' : hv.length ≤ maxLen) (hhe : haveErr vars hv = 0) :
    Calls Try.prog 23 #[.int .i64 (vars : Nat), .slice A p.length cap, .slice B hv.length capB] w (RunSE p hv w) := by
  obtain ⟨-, -, hlen⟩ := end_ok hp
  obtain ⟨h1, h2, h3⟩ := sims hp hhe rfl
  have := runS_ok hp A B hv cap capB w hA hB hm' hhe rfl h1 h2 h3
  rw [hlen] at this
  exact this
theorem runS_end_bad {vars : Nat} {p : List Blk} (hp : POk vars p) (A B : Option Addr) (hv : List Int) (cap capB : Nat) (w : World) (hA : RdSg w A (endN (envX vars p)).out) (hB : RdI w B hv) (hm' : hv.length ≤ maxLen) (h1 : haveErr vars hv ≠ 0) :
    Calls Try.prog 23 #[.int .i64 (vars : Nat), .slice A p.length cap, .slice B hv.length capB] w fun e w' => e = .returned (.tuple #[.slice none 0 0, .int .i64 (haveErr vars hv)]) ∧ Below w.heap.size w w' := by
  obtain ⟨hok, -, hlen⟩ := end_ok hp
  have := runS_bad (vars : Nat) A B (endN (envX vars p)).out (fromX (nexts p)) hv cap capB w hA hB hok (frow100 hp) hm' h1
  rw [hlen] at this
  exact this
set_option maxHeartbeats 16000000 in
theorem singleSame_u (vars : Int) (A B : Option Addr) (p : List Blk) (hv : List Int) (cap capB : Nat) (w : World) (hA : RdBk w A p) (hB : RdI w B hv) (hm : p.length ≤ maxLen) (hmc : smallB p) (hm' : hv.length ≤ maxLen) :
    Calls Try.prog 5 #[.int .i64 vars, .slice A p.length cap, .slice B hv.length capB] w fun e w' => e = .returned (.bool true) ∧ Below w.heap.size w w' := by
  have HA := Lib.hid hA
  have HB := Lib.hid hB
  have HMc := Lib.hid hmc
  by_cases h : pkErr vars p = 0
  · have hp := pok_of h
    obtain ⟨n, rfl⟩ := Int.eq_ofNat_of_zero_le (show 0 ≤ vars by have := hp.v1; omega)
    have hv6 := hp.v6
    have HBd := Lib.hid (build_ok n A p cap w hA hm hmc h)
    have HP := Lib.hid hp
    have H0 := Lib.hid h
    clear hA hB h hp hmc
    go_enter Try.func5, Try.ntmps5
    go_wp2_with fail
    (with_reducible refine HBd.out.mono ?_)
    rintro e w1 ⟨⟨g, c, rfl, hS⟩, hW1⟩
    have HW1 := Lib.hid hW1
    have HS := Lib.hid hS
    have HC := Lib.hid (progCheck_calls (n : Nat) A p cap w1 (HA.out.below hW1) hm HMc.out)
    rw [H0.out] at HC
    clear hW1 hS HBd
    go_wp2_with fail
    (with_reducible refine HC.out.mono ?_)
    rintro e w2 ⟨rfl, hb2⟩
    have HW2 := Lib.hid (HW1.out.trans (hb2.mono HW1.out.size))
    have HS2 := Lib.hid (HS.out.below hb2)
    have HO := Lib.hid (once_end HP.out (some ⟨g, 0, none⟩) c w2 HS2.out)
    clear hb2 HC HS
    go_wp2_with fail
    (with_reducible refine HO.out.mono ?_)
    rintro e w3 ⟨rfl, hb3⟩
    have HW3 := Lib.hid (HW2.out.trans (hb3.mono HW2.out.size))
    have HS3 := Lib.hid (HS2.out.below hb3)
    clear hb3 HO HS2
    by_cases hhe : haveErr (n : Nat) hv = 0
    · have hl := (haveErr_ok hhe).1
      have HU := Lib.hid (blkRun_ok (n : Nat) A B p hv cap capB w3 (HA.out.below HW3.out) (Rd.below HB.out HW3.out) hm HMc.out hm' H0.out hhe)
      have HE := Lib.hid hhe
      clear hhe hl
      go_wp2_with fail
      (with_reducible refine HU.out.mono ?_)
      rintro e w4 ⟨hb4, hcase⟩
      have HW4 := Lib.hid (HW3.out.trans (hb4.mono HW3.out.size))
      have HR := Lib.hid (runS_end HP.out (some ⟨g, 0, none⟩) B hv c capB w4 (HS3.out.below hb4) (Rd.below HB.out HW4.out) hm' HE.out)
      clear HU HS3
      rcases hcase with ⟨k, x, y, k1, k2, kr, kn, rfl, hx, -⟩ | ⟨kr, rfl⟩
      · obtain ⟨Ax, cx, rfl, hRx⟩ := OwnI.rd hx
        have HRx := Lib.hid hRx
        have HK := Lib.hid (⟨k2, kr, kn⟩ : _ ∧ _ ∧ _)
        have hxl : (stB p hv k).2.length ≤ maxLen := by
          have := (st_ok HP.out (haveErr_ok HE.out).1 (haveErr_ok HE.out).2 k kr).1
          unfold maxLen; omega
        clear hb4 hx hRx k1 k2 kr kn
        go_wp2_with fail
        (with_reducible refine HR.out.mono ?_)
        rintro e w5 ⟨hb5, ⟨j, x, j1, j2, jr, jn, rfl, hy⟩ | ⟨jr, rfl⟩⟩
        · have HW5 := Lib.hid (HW4.out.trans (hb5.mono HW4.out.size))
          have hkj := one_endQ HK.out.2.1 HK.out.2.2 jr jn
          subst hkj
          obtain ⟨Ay, cy, rfl, hRy⟩ := OwnI.rd hy
          have HI := Lib.hid (ints_calls Ax Ay (stB p hv k).2 (stB p hv k).2 cx cy w5 (Rd.below HRx.out hb5) hRy hxl)
          rw [decide_eq_true rfl] at HI
          clear hb5 hy hRy jr jn j1 j2 HR HK HRx hxl
          generalize (stB p hv k).2 = z at *
          go_wp2_with fail
          (with_reducible refine HI.out.mono ?_)
          rintro e w6 ⟨rfl, hb6⟩
          have HW6 := Lib.hid (HW5.out.trans (hb6.mono HW5.out.size))
          clear hb6
          go_wp2_with fail
          go_ret
          exact ⟨rfl, HW6.out⟩
        · exact (no_201 HK.out.1 HK.out.2.2 jr).elim
      · have HK := Lib.hid kr
        clear hb4 kr
        go_wp2_with fail
        (with_reducible refine HR.out.mono ?_)
        rintro e w5 ⟨hb5, ⟨j, x, j1, j2, jr, jn, rfl, hy⟩ | ⟨jr, rfl⟩⟩
        · exact (no_201 j2 jn HK.out).elim
        · have HW5 := Lib.hid (HW4.out.trans (hb5.mono HW4.out.size))
          have HI := Lib.hid (ints_calls none none [] [] 0 0 w5 Rd.nil_ Rd.nil_ (Nat.zero_le _))
          rw [decide_eq_true rfl, List.length_nil] at HI
          clear hb5 jr HR HK
          go_wp2_with fail
          (with_reducible refine HI.out.mono ?_)
          rintro e w6 ⟨rfl, hb6⟩
          have HW6 := Lib.hid (HW5.out.trans (hb6.mono HW5.out.size))
          clear hb6
          go_wp2_with fail
          go_ret
          exact ⟨rfl, HW6.out⟩
    · have HU := Lib.hid (blkRun_have (n : Nat) A B p hv cap capB w3 (HA.out.below HW3.out) (Rd.below HB.out HW3.out) hm HMc.out hm' H0.out hhe)
      have HR := Lib.hid (fun w4 (hb4 : Below w3.heap.size w3 w4) (hW4 : Below w.heap.size w w4) => runS_end_bad HP.out (some ⟨g, 0, none⟩) B hv c capB w4 (HS3.out.below hb4) (Rd.below HB.out hW4) hm' hhe)
      clear hhe HS3
      generalize haveErr (n : Nat) hv = er at *
      have q : (er == er) = true := beq_self_eq_true er
      go_wp2_with fail
      (with_reducible refine HU.out.mono ?_)
      rintro e w4 ⟨rfl, hb4⟩
      have HW4 := Lib.hid (HW3.out.trans (hb4.mono HW3.out.size))
      have HR4 := Lib.hid (HR.out w4 hb4 HW4.out)
      clear hb4 HU HR
      go_wp2_with fail
      (with_reducible refine HR4.out.mono ?_)
      rintro e w5 ⟨rfl, hb5⟩
      have HW5 := Lib.hid (HW4.out.trans (hb5.mono HW4.out.size))
      have HI := Lib.hid (ints_calls none none [] [] 0 0 w5 Rd.nil_ Rd.nil_ (Nat.zero_le _))
      rw [decide_eq_true rfl, List.length_nil] at HI
      clear hb5 HR4
      go_wp2_with fail
      (with_reducible refine HI.out.mono ?_)
      rintro e w6 ⟨rfl, hb6⟩
      have HW6 := Lib.hid (HW5.out.trans (hb6.mono HW5.out.size))
      clear hb6
      go_wp2_with fail
      go_ret
      exact ⟨rfl, HW6.out⟩
  · have HBd := Lib.hid (build_bad vars A p cap w hA hm hmc h)
    have hq : (pkErr vars p != 0) = true := by rw [bne_iff_ne]; exact h
    have HC := Lib.hid (fun w1 (hb : Below w.heap.size w w1) => progCheck_calls vars A p cap w1 (HA.out.below hb) hm HMc.out)
    generalize pkErr vars p = er at *
    clear hA hB h hmc
    go_enter Try.func5, Try.ntmps5
    go_wp2_with fail
    (with_reducible refine HBd.out.mono ?_)
    rintro e w1 ⟨⟨x, hx, rfl⟩, hW1⟩
    have HW1 := Lib.hid hW1
    have HC1 := Lib.hid (HC.out w1 hW1)
    have q : (x != 0) = true := by rw [bne_iff_ne]; exact hx
    clear hW1 HC HBd hx
    go_wp2_with fail
    (with_reducible refine HC1.out.mono ?_)
    rintro e w2 ⟨rfl, hb2⟩
    have HW2 := Lib.hid (HW1.out.trans (hb2.mono HW1.out.size))
    clear hb2 HC1
    go_wp2_with fail
    go_ret
    exact ⟨rfl, HW2.out⟩
end Go.Proofs.Ytmgejacndhnikaa
