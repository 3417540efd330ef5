/- EventChecks: the program and the document judge a history alike, and where it is whole they hold the same open. -/
import Derived.Test.YtndnbjpcjlbcjaaDoorKnown
import Derived.Test.YtndnbjpcjlbcjaaDoorOpenW
import Derived.Test.YtndnbjpcjlbcjaaDoorRefOpenW
import Derived.Test.YtndnbjpcjlbcjaaDoorRefChk
import Derived.Test.YtndnbjpcjlbcjaaDoorInts
import Derived.Test.YtndnbjpcjlbcjaaDoorRight
import Derived.Test.YtndnbjpcjlbcjaaDoorEvsArg
import Derived.Deep.RegionHeld3
namespace Go.Proofs.YtndnbjpcjlbcjaaDoor
open Go.RowKit Go.Maps

theorem few_len4 {xs : List EvD} (h : fewB xs = true) : xs.length ≤ 120 := by
  unfold fewB at h
  simp only [Bool.and_eq_true, decide_eq_true_eq] at h
  exact h.1
theorem str_ne (S : ByteArray) : (S != S) = false := by
  have : (S == S) = true := by
    cases S with
    | mk x =>
      show (x == x) = true
      simp
  simp [bne, this]
theorem ev7 {w w' : World} {b o : Nat} {x0 x1 x2 x3 x4 x5 x6 : Value} (hk : Kept NoBlk w w') (h0 : w.cell? ⟨b, o, none⟩ = some x0) (h1 : w.cell? ⟨b, o + 1, none⟩ = some x1) (h2 : w.cell? ⟨b, o + 2, none⟩ = some x2) (h3 : w.cell? ⟨b, o + 3, none⟩ = some x3) (h4 : w.cell? ⟨b, o + 4, none⟩ = some x4) (h5 : w.cell? ⟨b, o + 5, none⟩ = some x5) (h6 : w.cell? ⟨b, o + 6, none⟩ = some x6) :
    w'.cell? ⟨b, o, none⟩ = some x0 ∧ w'.cell? ⟨b, o + 1, none⟩ = some x1 ∧ w'.cell? ⟨b, o + 2, none⟩ = some x2 ∧ w'.cell? ⟨b, o + 3, none⟩ = some x3 ∧ w'.cell? ⟨b, o + 4, none⟩ = some x4 ∧ w'.cell? ⟨b, o + 5, none⟩ = some x5 ∧ w'.cell? ⟨b, o + 6, none⟩ = some x6 :=
  ⟨hk.cell h0 (fun e => e), hk.cell h1 (fun e => e), hk.cell h2 (fun e => e), hk.cell h3 (fun e => e), hk.cell h4 (fun e => e), hk.cell h5 (fun e => e), hk.cell h6 (fun e => e)⟩
theorem checkR_le : ∀ (l pre : List EvD), (checkR pre l).1 ≤ pre.length + l.length
  | [], _ => Nat.zero_le _
  | e :: l, pre => by
    unfold checkR
    by_cases h : whyR pre e = wNone
    · rw [if_pos h]
      have := checkR_le l (pre ++ [e])
      simp at this ⊢
      omega
    · rw [if_neg h]
      simp

set_option maxRecDepth 100000 in
set_option maxHeartbeats 4000000 in
theorem checks_any (A : Option Addr) (n c : Nat) (xs : List EvD) {w : World} (hx : EvsIn w A n c xs) (he : Env w) : Calls Tryd.prog 6 #[.slice A n c] w (TrueEnd w) := by
  have HFew := Lib.hid (fun (W : World) (H : Evs W A n xs) => few_any A n c xs W H)
  have HE := Lib.hid he
  have HX := Lib.hid hx
  have hn := hx.evs.2.1
  clear hx he
  go_enter Tryd.func6, Tryd.ntmps6
  go_wp2_with fail
  refine (known_any HE.out).mono ?_
  rintro e1 w1 ⟨rfl, hk1⟩
  have HK1 := Lib.hid hk1
  clear hk1
  go_wp2_with fail
  refine (HFew.out _ (HX.out.evs.kept HK1.out (NoCells.none _))).mono ?_
  rintro e2 w2 ⟨rfl, rfl⟩
  cases hf : fewB xs
  · go_wp2_with fail
    go_ret
    exact ⟨rfl, HK1.out⟩
  have h120 : n ≤ 120 := by have := few_len4 hf; rw [HX.out.evs.1] at this; exact this
  clear hf
  go_wp2_with fail
  have hchk := check_whole xs
  have hle := checkR_le xs []
  refine (refchk_any A n c xs _ (HX.out.evs.kept HK1.out (NoCells.none _)) HX.out.room).mono ?_
  rintro e3 w2 ⟨rfl, hk2⟩
  have HK2 := Lib.hid (HK1.out.trans hk2)
  clear hk2 HK1
  obtain ⟨R, hR⟩ : ∃ R, checkR [] xs = R := ⟨_, rfl⟩
  rw [hR] at hchk hle ⊢
  obtain ⟨r, S⟩ := R
  clear hR
  simp only at hchk hle ⊢
  have hr : r ≤ n := by have := HX.out.evs.1; simp at hle; omega
  clear hle
  have HChk := Lib.hid hchk
  clear hchk
  go_upto_region 6 with fail
  go_wp2_with fail
  refine (check_any A n c xs _ (HX.out.evs.kept HK2.out (NoCells.none _)) (by omega)).mono ?_
  rintro e4 w3 ⟨hk3, hr3⟩
  have HK3 := Lib.hid (HK2.out.trans hk3)
  clear hk3 HK2
  obtain ⟨tb, htb⟩ : ∃ tb, w3.heap.size = tb := ⟨_, rfl⟩
  obtain ⟨w4, hw4⟩ : ∃ w4, w3.alloc (.cells #[.pointer none] 36) = w4 := ⟨_, rfl⟩
  have HT4 := Lib.hid (show Blk w4 tb 36 #[.pointer none] from hw4 ▸ htb ▸ Blk.new w3 36 _)
  have HK4 := Lib.hid (hw4 ▸ HK3.out.alloc _ : Kept NoBlk w w4)
  have HTb := Lib.hid (show w.heap.size ≤ tb from by have := HK3.out.size; omega)
  by_cases h0 : r = 0
  · subst h0
    have hc0 := HChk.out
    rw [if_pos rfl] at hc0
    rw [hc0] at hr3
    subst hr3
    have HC := Lib.hid hc0
    clear hc0
    go_upto_region 8 with fail
    clear hw4 htb
    go_wp2_with fail
    refine (status22_any A n c xs _ (HX.out.evs.kept HK4.out (NoCells.none _))).mono ?_
    rintro e5 w5 ⟨rfl, hk5⟩
    have HK5 := Lib.hid (HK4.out.trans hk5)
    clear hk5
    have h24 := fun (W : World) (H : Evs W A n xs) => status24_any A n c xs W H
    obtain ⟨st, hst⟩ : ∃ st, statR xs = st := ⟨_, rfl⟩
    simp only [hst] at h24 ⊢
    have H24 := Lib.hid h24
    have hss : (st != st) = false := by simp
    clear hst h24
    go_wp2_with fail
    refine (H24.out _ (HX.out.evs.kept HK5.out (NoCells.none _))).mono ?_
    rintro e6 w6 ⟨rfl, hk6⟩
    have HK6 := Lib.hid (HK5.out.trans hk6)
    clear hk6
    go_wp2_with fail
    refine (open25_any A n c xs _ (HX.out.evs.kept HK6.out (NoCells.none _)) (by omega) HC.out).mono ?_
    rintro e7 w7 ⟨base, a2, a3, a4, v1, v2, v3, rfl, _, hli, hk7⟩
    have HK7 := Lib.hid (HK6.out.trans hk7)
    clear hk7
    obtain ⟨s, hs⟩ : ∃ s, runS HsD.none_ xs = s := ⟨_, rfl⟩
    rw [hs] at hli
    have hI : Inv xs s := hs ▸ Inv.of HC.out
    have E1 := open_eq hI (srt_sorted _) (srt_perm (idsOf s 7))
    have E2 := open_eq hI (srt_sorted _) (srt_perm (idsOf s 12))
    have E3 := open_eq hI (srt_sorted _) (srt_perm (idsOf s 17))
    have hkl : s.kinds.length ≤ 120 := by
      have h1 := (show More xs s from hs ▸ More.of HC.out).cnt
      have h2 := (cntR_le xs).1
      have h3 := HX.out.evs.1
      omega
    have hil : ∀ k, (srt (idsOf s k)).length ≤ 1000 := fun k => by
      rw [srt_len]
      unfold idsOf
      rw [List.length_map]
      have := List.length_filter_le (fun p => decide (p.2 = k)) s.kinds
      omega
    obtain ⟨A1, n1, c1, rfl⟩ := hli.o1.form
    obtain ⟨A2, n2, c2, rfl⟩ := hli.o2.form
    obtain ⟨A3, n3, c3, rfl⟩ := hli.o3.form
    have R1 := Lib.hid (E1 ▸ hli.o1.rd (hil 7) : RdN w7 A1 n1 (openN xs 7 xs.length))
    have R2 := Lib.hid (E2 ▸ hli.o2.rd (hil 12) : RdN w7 A2 n2 (openN xs 12 xs.length))
    have R3 := Lib.hid (E3 ▸ hli.o3.rd (hil 17) : RdN w7 A3 n3 (openN xs 17 xs.length))
    clear hli hI E1 E2 E3 hkl hil hs hss
    go_upto_region 12 with fail
    go_wp2_with fail
    refine (refopen_any A n c xs _ (HX.out.evs.kept HK7.out (NoCells.none _)) (by omega) 7).mono ?_
    rintro e8 w8 ⟨B1, m1, d1, rfl, hrd1, hk8⟩
    have hm1 : m1 = n1 := by rw [← hrd1.1, R1.out.1]
    subst hm1
    have HI1 := Lib.hid (ints26_any (c := c1) (c' := d1) (R1.out.kept hk8 (NoCells.none _)) hrd1)
    have HK8 := Lib.hid (HK7.out.trans hk8)
    have R2b := Lib.hid (R2.out.kept hk8 (NoCells.none _))
    have R3b := Lib.hid (R3.out.kept hk8 (NoCells.none _))
    clear hrd1 hk8
    go_wp2_with fail
    refine HI1.out.mono ?_
    rintro e9 w9 ⟨rfl, hk9⟩
    have HK9 := Lib.hid (HK8.out.trans hk9)
    have R2c := Lib.hid (R2b.out.kept hk9 (NoCells.none _))
    have R3c := Lib.hid (R3b.out.kept hk9 (NoCells.none _))
    clear hk9
    go_wp2_with fail
    refine (refopen_any A n c xs _ (HX.out.evs.kept HK9.out (NoCells.none _)) (by omega) 12).mono ?_
    rintro e10 w10 ⟨B2, m2, d2, rfl, hrd2, hk10⟩
    have hm2 : m2 = n2 := by rw [← hrd2.1, R2c.out.1]
    subst hm2
    have HI2 := Lib.hid (ints26_any (c := c2) (c' := d2) (R2c.out.kept hk10 (NoCells.none _)) hrd2)
    have HK10 := Lib.hid (HK9.out.trans hk10)
    have R3d := Lib.hid (R3c.out.kept hk10 (NoCells.none _))
    clear hrd2 hk10
    go_wp2_with fail
    refine HI2.out.mono ?_
    rintro e11 w11 ⟨rfl, hk11⟩
    have HK11 := Lib.hid (HK10.out.trans hk11)
    have R3e := Lib.hid (R3d.out.kept hk11 (NoCells.none _))
    clear hk11
    go_wp2_with fail
    refine (refopen_any A n c xs _ (HX.out.evs.kept HK11.out (NoCells.none _)) (by omega) 17).mono ?_
    rintro e12 w12 ⟨B3, m3, d3, rfl, hrd3, hk12⟩
    have hm3 : m3 = n3 := by rw [← hrd3.1, R3e.out.1]
    subst hm3
    have HI3 := Lib.hid (ints26_any (c := c3) (c' := d3) (R3e.out.kept hk12 (NoCells.none _)) hrd3)
    have HK12 := Lib.hid (HK11.out.trans hk12)
    clear hrd3 hk12
    go_wp2_with fail
    refine HI3.out.mono ?_
    rintro e13 w13 ⟨rfl, hk13⟩
    have HK13 := Lib.hid (HK12.out.trans hk13)
    clear hk13
    go_wp2_with fail
    go_ret
    exact ⟨rfl, HK13.out⟩
  · obtain ⟨k, rfl⟩ : ∃ k, r = k + 1 := ⟨r - 1, by omega⟩
    have hc0 := HChk.out
    rw [if_neg h0] at hc0
    rw [hc0] at hr3
    obtain ⟨eb, rfl, heb, _⟩ := hr3
    have hkn : k < n := by omega
    have HB3 := Lib.hid (show Blk w3 eb 53 #[.int .i64 ((k : Int) + 1), .string S, .iface 55 (.int .i64 8)] from heb)
    have HB4 := Lib.hid (hw4 ▸ HB3.out.alloc _ : Blk w4 eb 53 #[.int .i64 ((k : Int) + 1), .string S, .iface 55 (.int .i64 8)])
    have HNe := Lib.hid (show eb ≠ tb from by have := HB3.out.lt; omega)
    have ecast : ((k + 1 : Nat) : Int) = (k : Int) + 1 := rfl
    have z1 : ((k : Int) + 1 == 0) = false := by simp; omega
    rw [ecast]
    clear heb hc0 h0 hr ecast
    go_upto_region 8 with fail
    clear hw4 htb
    go_upto_region 13 with fail
    go_wp2_with fail
    refine (as_broken (HE.out.kept HK4.out).errs ⟨eb, 0, none⟩ HT4.out).mono ?_
    rintro e9 w9 ⟨rfl, ht9, hk9⟩
    have HB9 := Lib.hid (HB4.out.kept hk9 HNe.out)
    have HK9 := Lib.hid (HK4.out.inner hk9 (fun b hb => Or.inr (by have := HTb.out; omega)))
    have d0 : w9.cell? ⟨tb, 0, none⟩ = some (.pointer (some ⟨eb, 0, none⟩)) := ht9.cell 0
    have d1 : w9.cell? ⟨eb, 0, none⟩ = some (.int .i64 ((k : Int) + 1)) := HB9.out.cell 0
    have d2 : w9.cell? ⟨eb, 0 + 1, none⟩ = some (.string S) := HB9.out.cell 1
    have z5 : ((k : Int) + 1 != (k : Int) + 1) = false := by simp
    have z6 : (S != S) = false := str_ne S
    clear ht9 hk9
    go_wp2_with fail
    refine (is_broken HB9.out).mono ?_
    rintro e10 w10 ⟨rfl, rfl⟩
    obtain ⟨b, off, a, v, hA, ha, hev⟩ := HX.out.evs.at_ hkn
    subst hA
    have hev := hev.kept HK9.out (NoCells.none _)
    obtain ⟨h0, h1, h2, h3, h4, h5, h6, h7, h8⟩ := hev
    obtain ⟨A', L, c', rfl, hrd⟩ := h7
    have hl := RdB.length (show RdB _ (.slice A' L c') a.data from ⟨A', L, c', rfl, hrd⟩)
    obtain ⟨rb, hrb⟩ : ∃ b, rightB a = b := ⟨_, rfl⟩
    have n13 := fun W => right13_any a A' L c' hl W
    have n14 := fun W => right14_any a A' L c' hl W
    simp only [hrb] at n13 n14
    obtain ⟨ki, po, re, id, li, nn, bs⟩ := a
    unfold aggE at n13 n14
    simp only at n13 n14 h0 h1 h2 h3 h4 h5 h6
    have H13 := Lib.hid n13
    have H14 := Lib.hid n14
    have G0 := Lib.hid h0
    have G1 := Lib.hid h1
    have G2 := Lib.hid h2
    have G3 := Lib.hid h3
    have G4 := Lib.hid h4
    have G5 := Lib.hid h5
    have G6 := Lib.hid h6
    have z2 : IntKind.i64.wrap ((k : Int) + 1 - 1) = (k : Int) := by rw [IntKind.wrap_i64]; omega
    have z2b : IntKind.i64.wrap (k : Int) = (k : Int) := by rw [IntKind.wrap_i64]; omega
    have z3 : (0 : Int) ≤ (k : Int) := by omega
    have z4 : (k : Int) < (n : Int) := by omega
    clear n13 n14 ha h8 hrd hl hrb d0 d1 d2 h0 h1 h2 h3 h4 h5 h6
    go_upto_region 15 with fail
    clear z1 z5 z6
    go_region_held3 (fun w' => w'.cell? ⟨b, off + k * 7, none⟩ = some (.int .i64 ki) ∧ w'.cell? ⟨b, off + k * 7 + 1, none⟩ = some (.int .i64 po) ∧ w'.cell? ⟨b, off + k * 7 + 2, none⟩ = some (.int .i64 re) ∧ w'.cell? ⟨b, off + k * 7 + 3, none⟩ = some (.int .i64 id) ∧ w'.cell? ⟨b, off + k * 7 + 4, none⟩ = some (.int .i64 li) ∧ w'.cell? ⟨b, off + k * 7 + 5, none⟩ = some (.int .i64 nn) ∧ w'.cell? ⟨b, off + k * 7 + 6, none⟩ = some (.slice A' L c'))
      (first
        | exact ⟨G0.out, G1.out, G2.out, G3.out, G4.out, G5.out, G6.out⟩
        | exact ev7 K13.out G0.out G1.out G2.out G3.out G4.out G5.out G6.out
        | exact ev7 K14.out G0.out G1.out G2.out G3.out G4.out G5.out G6.out)
      (first
        | (go_at_call 13; refine (H13.out _).mono ?_; rintro e w13 ⟨rfl, hk⟩; have K13 := Lib.hid (show Kept NoBlk w10 w13 from by first | exact hk | exact ((Kept.refl NoBlk w10).drewN _).trans hk | exact K14.out.trans hk | exact (K14.out.drewN _).trans hk); clear hk)
        | (go_at_call 14; refine (H14.out _).mono ?_; rintro e w14 ⟨rfl, hk⟩; have K14 := Lib.hid (show Kept NoBlk w10 w14 from by first | exact hk | exact ((Kept.refl NoBlk w10).drewN _).trans hk | exact K13.out.trans hk | exact (K13.out.drewN _).trans hk); clear hk))
    all_goals
      go_wp2_with fail
      go_ret
      first
        | exact ⟨by simp, HK9.out.trans K14.out⟩
        | exact ⟨by simp, HK9.out.trans K13.out⟩

#print axioms checks_any
end Go.Proofs.YtndnbjpcjlbcjaaDoor
