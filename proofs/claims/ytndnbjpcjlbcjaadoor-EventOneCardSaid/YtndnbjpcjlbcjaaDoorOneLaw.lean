/- EventOne: one event more behind a history that can be: whether it can be the next, and why not. -/
import Derived.Test.YtndnbjpcjlbcjaaDoorKnown
import Derived.Test.YtndnbjpcjlbcjaaDoorWhyW
import Derived.Test.YtndnbjpcjlbcjaaDoorMore
import Derived.Test.YtndnbjpcjlbcjaaDoorPlace
import Derived.Test.YtndnbjpcjlbcjaaDoorEvsArg
import Derived.Deep.RegionHeld3
import Derived.Deep.DeepMust
namespace Go.Proofs.YtndnbjpcjlbcjaaDoor
open Go.RowKit

theorem why_size (xs : List EvD) (e : EvD) : (whyR xs e).size ≤ 100 := by
  unfold whyR
  repeat' split
  all_goals decide
theorem few_len {xs : List EvD} (h : fewB xs = true) : xs.length ≤ 120 := by
  unfold fewB at h
  simp only [Bool.and_eq_true, decide_eq_true_eq] at h
  exact h.1

set_option maxRecDepth 100000 in
set_option maxHeartbeats 4000000 in
theorem one_any (A : Option Addr) (n c : Nat) (xs : List EvD) {w : World} (hx : EvsIn w A n c xs) (e : EvD) (A' : Option Addr) (L c' : Nat) (hl : e.data.length = L) (hb : RdB w (.slice A' L c') e.data) (ok : EvOk e) (he : Env w) :
    Calls Tryd.prog 4 #[.slice A n c, aggE e (.slice A' L c')] w (TrueEnd w) := by
  have HFew := Lib.hid (fun (W : World) (H : Evs W A n xs) => few_any A n c xs W H)
  have HE := Lib.hid he
  have HX := Lib.hid hx
  have hn := hx.evs.2.1
  obtain ⟨ki, po, re, id, li, nn, bs⟩ := e
  have HB := Lib.hid (show RdB w (.slice A' L c') bs from hb)
  have HOk := Lib.hid ok
  have HL := Lib.hid (show bs.length = L from hl)
  unfold aggE
  simp only
  clear hx hb ok he hl
  obtain ⟨q, hq⟩ : ∃ q, w.heap.size = q := ⟨_, rfl⟩
  obtain ⟨wz, hwz⟩ : ∃ wz, w.alloc (.cells #[.int .i64 ki, .int .i64 po, .int .i64 re, .int .i64 id, .int .i64 li, .int .i64 nn, .slice A' L c'] 24) = wz := ⟨_, rfl⟩
  have HP := Lib.hid (show Blk wz q 24 #[.int .i64 ki, .int .i64 po, .int .i64 re, .int .i64 id, .int .i64 li, .int .i64 nn, .slice A' L c'] from hwz ▸ hq ▸ Blk.new w 24 _)
  have HK := Lib.hid (show Kept NoBlk w wz from hwz ▸ (Kept.refl NoBlk w).alloc _)
  go_enter Tryd.func4, Tryd.ntmps4
  go_upto_region 1 with fail
  clear hwz hq
  go_wp2_with fail
  refine (known_any (HE.out.kept HK.out)).mono ?_
  rintro e1 w1 ⟨rfl, hk1⟩
  have HP1 := Lib.hid (HP.out.kept hk1 (fun e => e.elim))
  have HK1 := Lib.hid (HK.out.trans hk1)
  have p6 : w1.cell? ⟨q, 0 + 6, none⟩ = some (.slice A' L c') := HP1.out.cell 6
  clear hk1 HP HK
  go_wp2_with fail
  refine (HFew.out _ (HX.out.evs.kept HK1.out (NoCells.none _))).mono ?_
  rintro e2 w2 ⟨rfl, rfl⟩
  cases hf : fewB xs
  · go_wp2_with fail
    go_ret
    exact ⟨rfl, HK1.out⟩
  have h120 : n ≤ 120 := by have := few_len hf; rw [HX.out.evs.1] at this; exact this
  clear hf
  by_cases h60 : 60 < n
  · have hi : (60 : Int) < (n : Int) := by omega
    go_wp2_with fail
    go_ret
    exact ⟨rfl, HK1.out⟩
  have hi : ¬ (60 : Int) < (n : Int) := by omega
  clear h60
  by_cases hL : 5000 < L
  · have hL2 : (5000 : Int) < (L : Int) := by omega
    go_wp2_with fail
    go_ret
    exact ⟨rfl, HK1.out⟩
  have hL2 : ¬ (5000 : Int) < (L : Int) := by omega
  clear hL
  go_wp2_with fail
  refine (check_any A n c xs _ (HX.out.evs.kept HK1.out (NoCells.none _)) (by omega)).mono ?_
  rintro e3 w3 ⟨hk3, hr3⟩
  have HP3 := Lib.hid (HP1.out.kept hk3 (fun e => e.elim))
  have HK3 := Lib.hid (HK1.out.trans hk3)
  clear hk3 HP1 HK1 p6
  cases hchk : chk HsD.none_ 0 xs with
  | some r =>
    rw [hchk] at hr3
    obtain ⟨eb, rfl, _, _⟩ := hr3
    go_wp2_with fail
    go_ret
    exact ⟨rfl, HK3.out⟩
  | none =>
    rw [hchk] at hr3
    subst hr3
    have HC := Lib.hid hchk
    clear hchk
    obtain ⟨cs, hcs, hmem⟩ := (HX.out.evs.kept HK3.out (NoCells.none _)).cells
    have HCs := Lib.hid hcs
    have HMem := Lib.hid hmem
    have hlen : cs.length = n * 7 := by rw [hcs.len, HX.out.evs.1]
    have HLen := Lib.hid hlen
    clear hcs hmem hlen
    go_upto_region 5 with fail
    clear hi hL2
    go_region_held3 (fun w' => w'.cell? ⟨q, 0, none⟩ = some (.int .i64 ki) ∧ w'.cell? ⟨q, 0 + 1, none⟩ = some (.int .i64 po) ∧ w'.cell? ⟨q, 0 + 2, none⟩ = some (.int .i64 re) ∧ w'.cell? ⟨q, 0 + 3, none⟩ = some (.int .i64 id) ∧ w'.cell? ⟨q, 0 + 4, none⟩ = some (.int .i64 li) ∧ w'.cell? ⟨q, 0 + 5, none⟩ = some (.int .i64 nn) ∧ w'.cell? ⟨q, 0 + 6, none⟩ = some (.slice A' L c'))
      (first
        | exact s7 HP3.out.drew
        | exact s7 (HP3.out.alloc _).drew
        | exact s7 ((HP3.out.alloc _).alloc _).drew
        | exact s7 P4.out
        | exact s7 (P4.out.alloc _)
        | exact s7 (HP3.out.kept K5.out (fun e => e.elim)))
      (first
        | (refine step_append_evs rfl (.tmp 30) (.tmp 31) rfl w3.heap.size (.slice (some ⟨w3.heap.size, 0, none⟩) 0 0) 0 [] (by rfl) (own_empty (g := w3.heap.size) (base := w3.heap.size) ((Blk.new w3 24 #[]).drew) (by omega)) A n c (by rfl) cs HLen.out HX.out.nil (fun ad had j u hu => (((Kept.refl NoBlk w3).alloc _).drew).cell (HMem.out ad had j u hu) (fun e => e.elim)) HCs.out.single (by omega) (by first | (simp; done) | (simp; omega)) ?_; intro A4 m4 c4 w4 hown4 hg4; have O4 := Lib.hid (show w4.ownsRow w3.heap.size 24 7 (.slice A4 m4 c4) n cs by simpa using hown4); have K4 := Lib.hid (show Kept NoBlk w3 w4 from (((Kept.refl NoBlk w3).alloc _).drew).grown hg4 (fun k hk => Or.inr (by cases hk; first | exact Nat.le_refl _ | exact Nat.le_succ _))); have P4 := Lib.hid (HP3.out.kept K4.out (fun e => e.elim)); clear hown4 hg4)
        | (refine step_append_evs rfl (.tmp 30) (.tmp 31) rfl w3.heap.size (.slice (some ⟨w3.heap.size, 0, none⟩) 0 0) 0 [] (by rfl) (own_empty (g := w3.heap.size) (base := w3.heap.size) (((Blk.new w3 24 #[]).alloc _).drew) (by omega)) A n c (by rfl) cs HLen.out HX.out.nil (fun ad had j u hu => ((((Kept.refl NoBlk w3).alloc _).alloc _).drew).cell (HMem.out ad had j u hu) (fun e => e.elim)) HCs.out.single (by omega) (by first | (simp; done) | (simp; omega)) ?_; intro A4 m4 c4 w4 hown4 hg4; have O4 := Lib.hid (show w4.ownsRow w3.heap.size 24 7 (.slice A4 m4 c4) n cs by simpa using hown4); have K4 := Lib.hid (show Kept NoBlk w3 w4 from ((((Kept.refl NoBlk w3).alloc _).alloc _).drew).grown hg4 (fun k hk => Or.inr (by cases hk; first | exact Nat.le_refl _ | exact Nat.le_succ _))); have P4 := Lib.hid (HP3.out.kept K4.out (fun e => e.elim)); have B4 := Lib.hid (show Blk w4 (w3.heap.size + 1) 24 #[.int .i64 ki, .int .i64 po, .int .i64 re, .int .i64 id, .int .i64 li, .int .i64 nn, .slice A' L c'] from (show Blk _ (w3.heap.size + 1) 24 #[.int .i64 ki, .int .i64 po, .int .i64 re, .int .i64 id, .int .i64 li, .int .i64 nn, .slice A' L c'] from by have := (Blk.new (w3.alloc (.cells #[] 24)) 24 #[.int .i64 ki, .int .i64 po, .int .i64 re, .int .i64 id, .int .i64 li, .int .i64 nn, .slice A' L c']).drew; simpa using this).grown hg4 (by intro h; have h := Option.some.inj h; have h2 : (w3.heap.size + 1 : Nat) = w3.heap.size := h; omega)); clear hown4 hg4)
        | (refine step_append_evs rfl (.tmp 30) (.tmp 31) rfl w3.heap.size (.slice (some ⟨(w3.heap.size + 1), 0, none⟩) 0 0) 0 [] (by rfl) (own_empty (g := (w3.heap.size + 1)) (base := w3.heap.size) (by have := (Blk.new (w3.alloc (.cells #[.int .i64 ki, .int .i64 po, .int .i64 re, .int .i64 id, .int .i64 li, .int .i64 nn, .slice A' L c'] 24)) 24 #[]).drew; simpa using this) (by omega)) A n c (by rfl) cs HLen.out HX.out.nil (fun ad had j u hu => ((((Kept.refl NoBlk w3).alloc _).alloc _).drew).cell (HMem.out ad had j u hu) (fun e => e.elim)) HCs.out.single (by omega) (by first | (simp; done) | (simp; omega)) ?_; intro A4 m4 c4 w4 hown4 hg4; have O4 := Lib.hid (show w4.ownsRow w3.heap.size 24 7 (.slice A4 m4 c4) n cs by simpa using hown4); have K4 := Lib.hid (show Kept NoBlk w3 w4 from ((((Kept.refl NoBlk w3).alloc _).alloc _).drew).grown hg4 (fun k hk => Or.inr (by cases hk; first | exact Nat.le_refl _ | exact Nat.le_succ _))); have P4 := Lib.hid (HP3.out.kept K4.out (fun e => e.elim)); have B4 := Lib.hid (show Blk w4 w3.heap.size 24 #[.int .i64 ki, .int .i64 po, .int .i64 re, .int .i64 id, .int .i64 li, .int .i64 nn, .slice A' L c'] from (show Blk _ w3.heap.size 24 #[.int .i64 ki, .int .i64 po, .int .i64 re, .int .i64 id, .int .i64 li, .int .i64 nn, .slice A' L c'] from ((Blk.new w3 24 #[.int .i64 ki, .int .i64 po, .int .i64 re, .int .i64 id, .int .i64 li, .int .i64 nn, .slice A' L c']).alloc _).drew).grown hg4 (by intro h; have h := Option.some.inj h; have h2 : (w3.heap.size : Nat) = w3.heap.size + 1 := h; omega)); clear hown4 hg4)
        | (refine step_append_evs rfl (.tmp 32) (.tmp 34) rfl w3.heap.size _ n cs (by rfl) (own_kept O4.out ((Kept.refl NoBlk w4).alloc _)) (some ⟨_, 0, none⟩) 1 1 (by rfl) (evCells (⟨ki, po, re, id, li, nn, bs⟩ : EvD) (.slice A' L c')) rfl (fun h => by cases h) (news_blk (e := (⟨ki, po, re, id, li, nn, bs⟩ : EvD)) (Blk.new w4 24 _)) (Cells.one (w0 := w) HB.out HOk.out).single (by omega) (by first | exact K4.out.size | (simp; exact Nat.le_succ_of_le K4.out.size)) ?_; intro A5 m5 c5 w5 hown5 hg5; have O5 := Lib.hid hown5; have K5 := Lib.hid (show Kept NoBlk w3 w5 from (K4.out.trans ((Kept.refl NoBlk w4).alloc _)).grown hg5 (fun k hk => Or.inr (O4.out.lt k hk).1)); clear hown5 hg5)
        | (refine step_append_evs rfl (.tmp 32) (.tmp 34) rfl w3.heap.size _ n cs (by rfl) (own_kept O4.out (Kept.refl NoBlk w4)) (some ⟨_, 0, none⟩) 1 1 (by rfl) (evCells (⟨ki, po, re, id, li, nn, bs⟩ : EvD) (.slice A' L c')) rfl (fun h => by cases h) (news_blk (e := (⟨ki, po, re, id, li, nn, bs⟩ : EvD)) (B4.out)) (Cells.one (w0 := w) HB.out HOk.out).single (by omega) (by first | exact K4.out.size | (simp; exact Nat.le_succ_of_le K4.out.size)) ?_; intro A5 m5 c5 w5 hown5 hg5; have O5 := Lib.hid hown5; have K5 := Lib.hid (show Kept NoBlk w3 w5 from (K4.out.trans (Kept.refl NoBlk w4)).grown hg5 (fun k hk => Or.inr (O4.out.lt k hk).1)); clear hown5 hg5))
    all_goals
      obtain ⟨g5, cap5, hv5, _, _⟩ := O5.out.form (by omega)
      injection hv5 with e1 e2 e3
      subst e1 e2 e3
      have HM := Lib.hid (Evs.own (xs := xs ++ [(⟨ki, po, re, id, li, nn, bs⟩ : EvD)]) (Cells.app (Cells.one (HB.out.kept HK3.out (NoCells.none _)) HOk.out) HCs.out) O5.out K5.out (by omega) (by rw [List.length_append, HX.out.evs.1]; rfl))
      have HK5 := Lib.hid (HK3.out.trans K5.out)
      have HP5 := Lib.hid (HP3.out.kept K5.out (fun e => e.elim))
      have hWhy := fun (W : World) (H : Evs W A n xs) => why17_any A n c xs W H ⟨ki, po, re, id, li, nn, bs⟩ A' L c' HL.out
      have hone := one_more HC.out ⟨ki, po, re, id, li, nn, bs⟩
      have hsz := why_size xs ⟨ki, po, re, id, li, nn, bs⟩
      obtain ⟨S, hS⟩ : ∃ S, whyR xs ⟨ki, po, re, id, li, nn, bs⟩ = S := ⟨_, rfl⟩
      simp only [hS] at hWhy
      rw [hS] at hone hsz
      unfold aggE at hWhy
      simp only at hWhy
      have HWhy := Lib.hid hWhy
      have HOne := Lib.hid hone
      have p0 : w5.cell? ⟨q, 0, none⟩ = some (.int .i64 ki) := HP5.out.cell 0
      have p1 : w5.cell? ⟨q, 0 + 1, none⟩ = some (.int .i64 po) := HP5.out.cell 1
      have p2 : w5.cell? ⟨q, 0 + 2, none⟩ = some (.int .i64 re) := HP5.out.cell 2
      have p3 : w5.cell? ⟨q, 0 + 3, none⟩ = some (.int .i64 id) := HP5.out.cell 3
      have p4 : w5.cell? ⟨q, 0 + 4, none⟩ = some (.int .i64 li) := HP5.out.cell 4
      have p5 : w5.cell? ⟨q, 0 + 5, none⟩ = some (.int .i64 nn) := HP5.out.cell 5
      have p6 : w5.cell? ⟨q, 0 + 6, none⟩ = some (.slice A' L c') := HP5.out.cell 6
      clear hWhy hone hS
      go_wp2_with fail
      refine (HWhy.out _ (HX.out.evs.kept HK5.out (NoCells.none _))).mono ?_
      rintro e6 w6 ⟨rfl, hk6⟩
      have HK6 := Lib.hid (HK5.out.trans hk6)
      have HM6 := Lib.hid (HM.out.kept hk6 (NoCells.none _))
      clear p0 p1 p2 p3 p4 p5 p6 hk6
      go_wp2_with fail
      refine (check_any _ (n + 1) _ _ _ HM6.out (by omega)).mono ?_
      rintro e7 w7 ⟨hk7, hr7⟩
      rw [HOne.out] at hr7
      have HK7 := Lib.hid (HK6.out.trans hk7)
      clear hk7
      by_cases hs : S = wNone
      · rw [if_pos hs] at hr7
        subst hr7
        subst hs
        unfold wNone
        go_wp2_with fail
        go_ret
        exact ⟨rfl, HK7.out⟩
      · rw [if_neg hs, HX.out.evs.1] at hr7
        obtain ⟨eb, rfl, heb, _⟩ := hr7
        have hne := not_empty hs
        have hne2 : S.toList.isEmpty = false := by simpa using hne
        have HEb := Lib.hid (show Blk w7 eb 53 #[.int .i64 ((n : Int) + 1), .string S, .iface 55 (.int .i64 8)] from heb)
        obtain ⟨tb, htb⟩ : ∃ tb, w7.heap.size = tb := ⟨_, rfl⟩
        obtain ⟨w8, hw8⟩ : ∃ w8, w7.alloc (.cells #[.pointer none] 36) = w8 := ⟨_, rfl⟩
        have HT8 := Lib.hid (show Blk w8 tb 36 #[.pointer none] from hw8 ▸ htb ▸ Blk.new w7 36 _)
        have HK8 := Lib.hid (hw8 ▸ HK7.out.alloc _ : Kept NoBlk w w8)
        have HB8 := Lib.hid (hw8 ▸ HEb.out.alloc _ : Blk w8 eb 53 #[.int .i64 ((n : Int) + 1), .string S, .iface 55 (.int .i64 8)])
        have HNe := Lib.hid (show eb ≠ tb from by have := HEb.out.lt; omega)
        have HTb := Lib.hid (show w.heap.size ≤ tb from by have := HK7.out.size; omega)
        clear heb hs hne
        go_upto_region 11 with fail
        clear hw8 htb
        go_wp2_with fail
        refine (as_broken (HE.out.kept HK8.out).errs ⟨eb, 0, none⟩ HT8.out).mono ?_
        rintro e9 w9 ⟨rfl, ht9, hk9⟩
        have HB9 := Lib.hid (HB8.out.kept hk9 HNe.out)
        have HK9 := Lib.hid (HK8.out.inner hk9 (fun b hb => Or.inr (by have := HTb.out; omega)))
        have d0 : w9.cell? ⟨tb, 0, none⟩ = some (.pointer (some ⟨eb, 0, none⟩)) := ht9.cell 0
        clear ht9 hk9
        go_wp2_with fail
        refine (brokenErr_any HB9.out hsz (show okI ((n : Int) + 1) from ⟨by omega, by omega⟩) (HE.out.kept HK9.out)).mono ?_
        rintro e10 w10 ⟨rfl, hk10⟩
        have HK10 := Lib.hid (HK9.out.trans hk10)
        have hl := Lib.itoa_length_le ((n : Int) + 1) (by omega) (by omega)
        have hpl := fun W => place20_any (n + 1) (by omega) W
        have ecast : ((n + 1 : Nat) : Int) = (n : Int) + 1 := rfl
        rw [ecast] at hpl
        have hbt : brokenT ((n : Int) + 1) S = (⟨#[101, 118, 101, 110, 116, 32]⟩ : ByteArray) ++ ⟨(Lib.itoa ((n : Int) + 1)).toArray⟩ ++ ⟨#[58, 32]⟩ ++ S := rfl
        obtain ⟨s0, hs0⟩ : ∃ s0 : ByteArray, (⟨(Lib.itoa ((n : Int) + 1)).toArray⟩ : ByteArray) = s0 := ⟨_, rfl⟩
        have z0 : s0.size ≤ 21 := by rw [← hs0]; simpa [ByteArray.size] using hl
        rw [hs0] at hbt
        simp only [hs0] at hpl
        have HPl := Lib.hid hpl
        rw [hbt]
        have f0 : (⟨#[101, 118, 101, 110, 116, 32]⟩ : ByteArray).size = 6 := rfl
        have f00 : (⟨#[58, 32]⟩ : ByteArray).size = 2 := rfl
        have f1 : (⟨#[101, 118, 101, 110, 116, 32]⟩ : ByteArray).size + s0.size ≤ 9223372036854775807 := by omega
        have f2 : ((⟨#[101, 118, 101, 110, 116, 32]⟩ : ByteArray) ++ s0).size + (⟨#[58, 32]⟩ : ByteArray).size ≤ 9223372036854775807 := by rw [ByteArray.size_append]; omega
        have f3 : ((⟨#[101, 118, 101, 110, 116, 32]⟩ : ByteArray) ++ s0 ++ ⟨#[58, 32]⟩).size + S.size ≤ 9223372036854775807 := by rw [ByteArray.size_append, ByteArray.size_append]; omega
        have r1 := fun wx => run_string_add_sum (P := Tryd.prog) wx _ _ f1
        have r2 := fun wx => run_string_add_sum (P := Tryd.prog) wx _ _ f2
        have r3 := fun wx => run_string_add_sum (P := Tryd.prog) wx _ _ f3
        clear hpl hbt hs0 hl hk10 d0 f0 f00 z0 f1 f2 f3
        go_wp2_with fail
        refine (HPl.out _).mono ?_
        rintro e11 w11 ⟨rfl, hk11⟩
        have HK11 := Lib.hid (HK10.out.trans hk11)
        clear hk11
        go_wp2_with fail
        go_ret
        exact ⟨by simp, HK11.out⟩
#print axioms one_any
end Go.Proofs.YtndnbjpcjlbcjaaDoor
