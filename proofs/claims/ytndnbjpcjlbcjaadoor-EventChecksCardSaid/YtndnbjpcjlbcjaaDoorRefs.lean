/- The document's word refs: what the code computes. Printed by wip/tpl/refsgen.py. -/
import Derived.Test.YtndnbjpcjlbcjaaDoorRefC
namespace Go.Proofs.YtndnbjpcjlbcjaaDoor
open Go.RowKit

set_option maxRecDepth 100000 in
set_option maxHeartbeats 1000000 in
theorem refs_3 (A : Option Addr) (n c : Nat) (xs : List EvD) (w : World) (h : Evs w A n xs) {po re id li nn : Int} {bs : List UInt8} (dv : Value) {R : Bool} (hR : refsR xs ⟨3, po, re, id, li, nn, bs⟩ = R) :
    Calls Tryd.prog 35 #[.slice A n c, .agg #[.int .i64 3, .int .i64 po, .int .i64 re, .int .i64 id, .int .i64 li, .int .i64 nn, dv]] w (ValEnd (.bool R) w) := by
  have hT := fun (W : World) (H : Evs W A n xs) => task36_any A n c xs W H
  obtain ⟨ti, hti⟩ : ∃ x, (taskR xs).1 = x := ⟨_, rfl⟩
  obtain ⟨tp, htp⟩ : ∃ x, (taskR xs).2 = x := ⟨_, rfl⟩
  simp only [hti, htp] at hT
  have hn := h.2.1
  have HT := Lib.hid hT
  have HR := Lib.hid hR
  have HTi := Lib.hid hti
  have HTp := Lib.hid htp
  obtain ⟨q, hq⟩ : ∃ q, w.heap.size = q := ⟨_, rfl⟩
  obtain ⟨wz, hwz⟩ : ∃ wz, w.alloc (.cells #[.int .i64 3, .int .i64 po, .int .i64 re, .int .i64 id, .int .i64 li, .int .i64 nn, dv] 24) = wz := ⟨_, rfl⟩
  have HP := Lib.hid (show Blk wz q 24 #[.int .i64 3, .int .i64 po, .int .i64 re, .int .i64 id, .int .i64 li, .int .i64 nn, dv] from hwz ▸ hq ▸ Blk.new w 24 _)
  have HK := Lib.hid (show Kept NoBlk w wz from hwz ▸ (Kept.refl NoBlk w).alloc _)
  have H := Lib.hid (h.kept HK.out (NoCells.none _))
  clear h hT hR hti htp
  go_enter Tryd.func35, Tryd.ntmps35
  go_upto_region 1 with fail
  clear hwz hq
  go_wp2_with fail
  refine (HT.out _ H.out).mono ?_
  rintro e1 w1 ⟨rfl, hk1⟩
  have HP1 := Lib.hid (HP.out.kept hk1 (fun e => e.elim))
  have HK1 := Lib.hid (HK.out.trans hk1)
  have H1 := Lib.hid (H.out.kept hk1 (NoCells.none _))
  have p0 : w1.cell? ⟨q, 0, none⟩ = some (.int .i64 3) := HP1.out.cell 0
  have p2 : w1.cell? ⟨q, 0 + 2, none⟩ = some (.int .i64 re) := HP1.out.cell 2
  clear hk1 HP HK H
  have hf : refsR xs ⟨3, po, re, id, li, nn, bs⟩ = (decide (ti = 1) && decide (re = tp)) := by
    rw [← HTi.out, ← HTp.out]
    rfl
  have HF := Lib.hid hf
  clear hf
  cases b1 : (ti == 1)
  · have B1 := Lib.hid b1
    go_wp2_with fail
    go_ret
    exact ⟨by rw [← HR.out]; rw [HF.out, ← beq_dec, B1.out]; rfl, HK1.out⟩
  · have B1 := Lib.hid b1
    cases b2 : (re == tp)
    all_goals
      have B2 := Lib.hid b2
      go_wp2_with fail
      go_ret
      exact ⟨by rw [← HR.out]; rw [HF.out, ← beq_dec, ← beq_dec, B1.out, B2.out]; rfl, HK1.out⟩

set_option maxRecDepth 100000 in
set_option maxHeartbeats 1000000 in
theorem refs_4 (A : Option Addr) (n c : Nat) (xs : List EvD) (w : World) (h : Evs w A n xs) {po re id li nn : Int} {bs : List UInt8} (dv : Value) {R : Bool} (hR : refsR xs ⟨4, po, re, id, li, nn, bs⟩ = R) :
    Calls Tryd.prog 35 #[.slice A n c, .agg #[.int .i64 4, .int .i64 po, .int .i64 re, .int .i64 id, .int .i64 li, .int .i64 nn, dv]] w (ValEnd (.bool R) w) := by
  have hT := fun (W : World) (H : Evs W A n xs) => task36_any A n c xs W H
  obtain ⟨ti, hti⟩ : ∃ x, (taskR xs).1 = x := ⟨_, rfl⟩
  obtain ⟨tp, htp⟩ : ∃ x, (taskR xs).2 = x := ⟨_, rfl⟩
  simp only [hti, htp] at hT
  have hn := h.2.1
  have HT := Lib.hid hT
  have HR := Lib.hid hR
  have HTi := Lib.hid hti
  have HTp := Lib.hid htp
  obtain ⟨q, hq⟩ : ∃ q, w.heap.size = q := ⟨_, rfl⟩
  obtain ⟨wz, hwz⟩ : ∃ wz, w.alloc (.cells #[.int .i64 4, .int .i64 po, .int .i64 re, .int .i64 id, .int .i64 li, .int .i64 nn, dv] 24) = wz := ⟨_, rfl⟩
  have HP := Lib.hid (show Blk wz q 24 #[.int .i64 4, .int .i64 po, .int .i64 re, .int .i64 id, .int .i64 li, .int .i64 nn, dv] from hwz ▸ hq ▸ Blk.new w 24 _)
  have HK := Lib.hid (show Kept NoBlk w wz from hwz ▸ (Kept.refl NoBlk w).alloc _)
  have H := Lib.hid (h.kept HK.out (NoCells.none _))
  clear h hT hR hti htp
  go_enter Tryd.func35, Tryd.ntmps35
  go_upto_region 1 with fail
  clear hwz hq
  go_wp2_with fail
  refine (HT.out _ H.out).mono ?_
  rintro e1 w1 ⟨rfl, hk1⟩
  have HP1 := Lib.hid (HP.out.kept hk1 (fun e => e.elim))
  have HK1 := Lib.hid (HK.out.trans hk1)
  have H1 := Lib.hid (H.out.kept hk1 (NoCells.none _))
  have p0 : w1.cell? ⟨q, 0, none⟩ = some (.int .i64 4) := HP1.out.cell 0
  have p2 : w1.cell? ⟨q, 0 + 2, none⟩ = some (.int .i64 re) := HP1.out.cell 2
  clear hk1 HP HK H
  have hf : refsR xs ⟨4, po, re, id, li, nn, bs⟩ = (decide (ti = 2) && decide (re = tp)) := by
    rw [← HTi.out, ← HTp.out]
    rfl
  have HF := Lib.hid hf
  clear hf
  cases b1 : (ti == 2)
  · have B1 := Lib.hid b1
    go_wp2_with fail
    go_ret
    exact ⟨by rw [← HR.out]; rw [HF.out, ← beq_dec, B1.out]; rfl, HK1.out⟩
  · have B1 := Lib.hid b1
    cases b2 : (re == tp)
    all_goals
      have B2 := Lib.hid b2
      go_wp2_with fail
      go_ret
      exact ⟨by rw [← HR.out]; rw [HF.out, ← beq_dec, ← beq_dec, B1.out, B2.out]; rfl, HK1.out⟩

set_option maxRecDepth 100000 in
set_option maxHeartbeats 1000000 in
theorem refs_5 (A : Option Addr) (n c : Nat) (xs : List EvD) (w : World) (h : Evs w A n xs) {po re id li nn : Int} {bs : List UInt8} (dv : Value) {R : Bool} (hR : refsR xs ⟨5, po, re, id, li, nn, bs⟩ = R) :
    Calls Tryd.prog 35 #[.slice A n c, .agg #[.int .i64 5, .int .i64 po, .int .i64 re, .int .i64 id, .int .i64 li, .int .i64 nn, dv]] w (ValEnd (.bool R) w) := by
  have hT := fun (W : World) (H : Evs W A n xs) => task36_any A n c xs W H
  obtain ⟨ti, hti⟩ : ∃ x, (taskR xs).1 = x := ⟨_, rfl⟩
  obtain ⟨tp, htp⟩ : ∃ x, (taskR xs).2 = x := ⟨_, rfl⟩
  simp only [hti, htp] at hT
  have hn := h.2.1
  have HT := Lib.hid hT
  have HR := Lib.hid hR
  have HTi := Lib.hid hti
  have HTp := Lib.hid htp
  obtain ⟨q, hq⟩ : ∃ q, w.heap.size = q := ⟨_, rfl⟩
  obtain ⟨wz, hwz⟩ : ∃ wz, w.alloc (.cells #[.int .i64 5, .int .i64 po, .int .i64 re, .int .i64 id, .int .i64 li, .int .i64 nn, dv] 24) = wz := ⟨_, rfl⟩
  have HP := Lib.hid (show Blk wz q 24 #[.int .i64 5, .int .i64 po, .int .i64 re, .int .i64 id, .int .i64 li, .int .i64 nn, dv] from hwz ▸ hq ▸ Blk.new w 24 _)
  have HK := Lib.hid (show Kept NoBlk w wz from hwz ▸ (Kept.refl NoBlk w).alloc _)
  have H := Lib.hid (h.kept HK.out (NoCells.none _))
  clear h hT hR hti htp
  go_enter Tryd.func35, Tryd.ntmps35
  go_upto_region 1 with fail
  clear hwz hq
  go_wp2_with fail
  refine (HT.out _ H.out).mono ?_
  rintro e1 w1 ⟨rfl, hk1⟩
  have HP1 := Lib.hid (HP.out.kept hk1 (fun e => e.elim))
  have HK1 := Lib.hid (HK.out.trans hk1)
  have H1 := Lib.hid (H.out.kept hk1 (NoCells.none _))
  have p0 : w1.cell? ⟨q, 0, none⟩ = some (.int .i64 5) := HP1.out.cell 0
  have p2 : w1.cell? ⟨q, 0 + 2, none⟩ = some (.int .i64 re) := HP1.out.cell 2
  clear hk1 HP HK H
  have hf : refsR xs ⟨5, po, re, id, li, nn, bs⟩ = (decide (ti = 2) && decide (re = tp)) := by
    rw [← HTi.out, ← HTp.out]
    rfl
  have HF := Lib.hid hf
  clear hf
  cases b1 : (ti == 2)
  · have B1 := Lib.hid b1
    go_wp2_with fail
    go_ret
    exact ⟨by rw [← HR.out]; rw [HF.out, ← beq_dec, B1.out]; rfl, HK1.out⟩
  · have B1 := Lib.hid b1
    cases b2 : (re == tp)
    all_goals
      have B2 := Lib.hid b2
      go_wp2_with fail
      go_ret
      exact ⟨by rw [← HR.out]; rw [HF.out, ← beq_dec, ← beq_dec, B1.out, B2.out]; rfl, HK1.out⟩

set_option maxRecDepth 100000 in
set_option maxHeartbeats 1000000 in
theorem refs_6 (A : Option Addr) (n c : Nat) (xs : List EvD) (w : World) (h : Evs w A n xs) {po re id li nn : Int} {bs : List UInt8} (dv : Value) {R : Bool} (hR : refsR xs ⟨6, po, re, id, li, nn, bs⟩ = R) :
    Calls Tryd.prog 35 #[.slice A n c, .agg #[.int .i64 6, .int .i64 po, .int .i64 re, .int .i64 id, .int .i64 li, .int .i64 nn, dv]] w (ValEnd (.bool R) w) := by
  have hT := fun (W : World) (H : Evs W A n xs) => task36_any A n c xs W H
  obtain ⟨ti, hti⟩ : ∃ x, (taskR xs).1 = x := ⟨_, rfl⟩
  obtain ⟨tp, htp⟩ : ∃ x, (taskR xs).2 = x := ⟨_, rfl⟩
  simp only [hti, htp] at hT
  have hn := h.2.1
  have HT := Lib.hid hT
  have HR := Lib.hid hR
  have HTi := Lib.hid hti
  have HTp := Lib.hid htp
  obtain ⟨q, hq⟩ : ∃ q, w.heap.size = q := ⟨_, rfl⟩
  obtain ⟨wz, hwz⟩ : ∃ wz, w.alloc (.cells #[.int .i64 6, .int .i64 po, .int .i64 re, .int .i64 id, .int .i64 li, .int .i64 nn, dv] 24) = wz := ⟨_, rfl⟩
  have HP := Lib.hid (show Blk wz q 24 #[.int .i64 6, .int .i64 po, .int .i64 re, .int .i64 id, .int .i64 li, .int .i64 nn, dv] from hwz ▸ hq ▸ Blk.new w 24 _)
  have HK := Lib.hid (show Kept NoBlk w wz from hwz ▸ (Kept.refl NoBlk w).alloc _)
  have H := Lib.hid (h.kept HK.out (NoCells.none _))
  clear h hT hR hti htp
  go_enter Tryd.func35, Tryd.ntmps35
  go_upto_region 1 with fail
  clear hwz hq
  go_wp2_with fail
  refine (HT.out _ H.out).mono ?_
  rintro e1 w1 ⟨rfl, hk1⟩
  have HP1 := Lib.hid (HP.out.kept hk1 (fun e => e.elim))
  have HK1 := Lib.hid (HK.out.trans hk1)
  have H1 := Lib.hid (H.out.kept hk1 (NoCells.none _))
  have p0 : w1.cell? ⟨q, 0, none⟩ = some (.int .i64 6) := HP1.out.cell 0
  have p2 : w1.cell? ⟨q, 0 + 2, none⟩ = some (.int .i64 re) := HP1.out.cell 2
  clear hk1 HP HK H
  have hf : refsR xs ⟨6, po, re, id, li, nn, bs⟩ = (decide (ti = 2) && decide (re = tp)) := by
    rw [← HTi.out, ← HTp.out]
    rfl
  have HF := Lib.hid hf
  clear hf
  cases b1 : (ti == 2)
  · have B1 := Lib.hid b1
    go_wp2_with fail
    go_ret
    exact ⟨by rw [← HR.out]; rw [HF.out, ← beq_dec, B1.out]; rfl, HK1.out⟩
  · have B1 := Lib.hid b1
    cases b2 : (re == tp)
    all_goals
      have B2 := Lib.hid b2
      go_wp2_with fail
      go_ret
      exact ⟨by rw [← HR.out]; rw [HF.out, ← beq_dec, ← beq_dec, B1.out, B2.out]; rfl, HK1.out⟩

set_option maxRecDepth 100000 in
set_option maxHeartbeats 1000000 in
theorem refs_8 (A : Option Addr) (n c : Nat) (xs : List EvD) (w : World) (h : Evs w A n xs) {po re id li nn : Int} {bs : List UInt8} (dv : Value) {R : Bool} (hR : refsR xs ⟨8, po, re, id, li, nn, bs⟩ = R) :
    Calls Tryd.prog 35 #[.slice A n c, .agg #[.int .i64 8, .int .i64 po, .int .i64 re, .int .i64 id, .int .i64 li, .int .i64 nn, dv]] w (ValEnd (.bool R) w) := by
  have hT := fun (W : World) (H : Evs W A n xs) => task36_any A n c xs W H
  obtain ⟨ti, hti⟩ : ∃ x, (taskR xs).1 = x := ⟨_, rfl⟩
  obtain ⟨tp, htp⟩ : ∃ x, (taskR xs).2 = x := ⟨_, rfl⟩
  simp only [hti, htp] at hT
  have hn := h.2.1
  have HT := Lib.hid hT
  have HR := Lib.hid hR
  have HTi := Lib.hid hti
  have HTp := Lib.hid htp
  obtain ⟨q, hq⟩ : ∃ q, w.heap.size = q := ⟨_, rfl⟩
  obtain ⟨wz, hwz⟩ : ∃ wz, w.alloc (.cells #[.int .i64 8, .int .i64 po, .int .i64 re, .int .i64 id, .int .i64 li, .int .i64 nn, dv] 24) = wz := ⟨_, rfl⟩
  have HP := Lib.hid (show Blk wz q 24 #[.int .i64 8, .int .i64 po, .int .i64 re, .int .i64 id, .int .i64 li, .int .i64 nn, dv] from hwz ▸ hq ▸ Blk.new w 24 _)
  have HK := Lib.hid (show Kept NoBlk w wz from hwz ▸ (Kept.refl NoBlk w).alloc _)
  have H := Lib.hid (h.kept HK.out (NoCells.none _))
  clear h hT hR hti htp
  go_enter Tryd.func35, Tryd.ntmps35
  go_upto_region 1 with fail
  clear hwz hq
  go_wp2_with fail
  refine (HT.out _ H.out).mono ?_
  rintro e1 w1 ⟨rfl, hk1⟩
  have HP1 := Lib.hid (HP.out.kept hk1 (fun e => e.elim))
  have HK1 := Lib.hid (HK.out.trans hk1)
  have H1 := Lib.hid (H.out.kept hk1 (NoCells.none _))
  have p0 : w1.cell? ⟨q, 0, none⟩ = some (.int .i64 8) := HP1.out.cell 0
  have p2 : w1.cell? ⟨q, 0 + 2, none⟩ = some (.int .i64 re) := HP1.out.cell 2
  clear hk1 HP HK H
  have hK := fun (W : World) (H : Evs W A n xs) => kind50_any A n c xs W H re
  have hW := fun (W : World) (H : Evs W A n xs) => works51_any A n c xs W H re
  obtain ⟨ki, hki⟩ : ∃ x, kindR xs re = x := ⟨_, rfl⟩
  obtain ⟨wk, hwk⟩ : ∃ x, worksR xs re = x := ⟨_, rfl⟩
  have hf : refsR xs ⟨8, po, re, id, li, nn, bs⟩ = (decide (ki = 7) && decide (wk = 0)) := by
    rw [← hki, ← hwk]
    rfl
  simp only [hki] at hK
  simp only [hwk] at hW
  have HK := Lib.hid hK
  have HW := Lib.hid hW
  have HF := Lib.hid hf
  clear hf hK hW hki hwk
  go_wp2_with fail
  refine (HK.out _ H1.out).mono ?_
  rintro e2 w2 ⟨rfl, rfl⟩
  cases b1 : (ki == 7)
  · have B1 := Lib.hid b1
    go_wp2_with fail
    go_ret
    exact ⟨by rw [← HR.out]; rw [HF.out, ← beq_dec, B1.out]; rfl, HK1.out⟩
  · have B1 := Lib.hid b1
    go_wp2_with fail
    refine (HW.out _ H1.out).mono ?_
    rintro e2 w2 ⟨rfl, rfl⟩
    cases b2 : (wk == 0)
    all_goals
      have B2 := Lib.hid b2
      go_wp2_with fail
      go_ret
      exact ⟨by rw [← HR.out]; rw [HF.out, ← beq_dec, ← beq_dec, B1.out, B2.out]; rfl, HK1.out⟩

set_option maxRecDepth 100000 in
set_option maxHeartbeats 1000000 in
theorem refs_9 (A : Option Addr) (n c : Nat) (xs : List EvD) (w : World) (h : Evs w A n xs) {po re id li nn : Int} {bs : List UInt8} (dv : Value) {R : Bool} (hR : refsR xs ⟨9, po, re, id, li, nn, bs⟩ = R) :
    Calls Tryd.prog 35 #[.slice A n c, .agg #[.int .i64 9, .int .i64 po, .int .i64 re, .int .i64 id, .int .i64 li, .int .i64 nn, dv]] w (ValEnd (.bool R) w) := by
  have hT := fun (W : World) (H : Evs W A n xs) => task36_any A n c xs W H
  obtain ⟨ti, hti⟩ : ∃ x, (taskR xs).1 = x := ⟨_, rfl⟩
  obtain ⟨tp, htp⟩ : ∃ x, (taskR xs).2 = x := ⟨_, rfl⟩
  simp only [hti, htp] at hT
  have hn := h.2.1
  have HT := Lib.hid hT
  have HR := Lib.hid hR
  have HTi := Lib.hid hti
  have HTp := Lib.hid htp
  obtain ⟨q, hq⟩ : ∃ q, w.heap.size = q := ⟨_, rfl⟩
  obtain ⟨wz, hwz⟩ : ∃ wz, w.alloc (.cells #[.int .i64 9, .int .i64 po, .int .i64 re, .int .i64 id, .int .i64 li, .int .i64 nn, dv] 24) = wz := ⟨_, rfl⟩
  have HP := Lib.hid (show Blk wz q 24 #[.int .i64 9, .int .i64 po, .int .i64 re, .int .i64 id, .int .i64 li, .int .i64 nn, dv] from hwz ▸ hq ▸ Blk.new w 24 _)
  have HK := Lib.hid (show Kept NoBlk w wz from hwz ▸ (Kept.refl NoBlk w).alloc _)
  have H := Lib.hid (h.kept HK.out (NoCells.none _))
  clear h hT hR hti htp
  go_enter Tryd.func35, Tryd.ntmps35
  go_upto_region 1 with fail
  clear hwz hq
  go_wp2_with fail
  refine (HT.out _ H.out).mono ?_
  rintro e1 w1 ⟨rfl, hk1⟩
  have HP1 := Lib.hid (HP.out.kept hk1 (fun e => e.elim))
  have HK1 := Lib.hid (HK.out.trans hk1)
  have H1 := Lib.hid (H.out.kept hk1 (NoCells.none _))
  have p0 : w1.cell? ⟨q, 0, none⟩ = some (.int .i64 9) := HP1.out.cell 0
  have p2 : w1.cell? ⟨q, 0 + 2, none⟩ = some (.int .i64 re) := HP1.out.cell 2
  clear hk1 HP HK H
  have hK := fun (W : World) (H : Evs W A n xs) => kind50_any A n c xs W H re
  obtain ⟨ki, hki⟩ : ∃ x, kindR xs re = x := ⟨_, rfl⟩
  have hf : refsR xs ⟨9, po, re, id, li, nn, bs⟩ = (decide (ki = 8) && openR xs (refR xs re)) := by
    rw [← hki]
    rfl
  simp only [hki] at hK
  have HK := Lib.hid hK
  have HF := Lib.hid hf
  have HKi := Lib.hid hki
  clear hf hK hki
  go_wp2_with fail
  refine (HK.out _ H1.out).mono ?_
  rintro e2 w2 ⟨rfl, rfl⟩
  cases b1 : (ki == 8)
  · have B1 := Lib.hid b1
    go_wp2_with fail
    go_ret
    exact ⟨by rw [← HR.out]; rw [HF.out, ← beq_dec, B1.out]; rfl, HK1.out⟩
  · have B1 := Lib.hid b1
    have h8 : kindR xs re = 8 := HKi.out.trans (by simpa using b1)
    have hrg := kindR_range (l := xs) (p := re) (by omega)
    obtain ⟨k, hk⟩ : ∃ k : Nat, re = (k : Int) + 1 := ⟨(re - 1).toNat, by omega⟩
    have hkn : k < n := by have := H1.out.1; omega
    obtain ⟨b, off, a, v, rfl, ha, _, _, c2, _⟩ := H1.out.at_ hkn
    have hre : refR xs re = a.ref := by rw [hk]; exact atR_in ha
    rw [hre] at HF
    obtain ⟨rf, hrf⟩ : ∃ x, a.ref = x := ⟨_, rfl⟩
    rw [hrf] at HF c2
    have hO := fun (W : World) (H : Evs W (some ⟨b, off, none⟩) n xs) => open37_any (some ⟨b, off, none⟩) n c xs W H rf
    obtain ⟨ob, hob⟩ : ∃ x, openR xs rf = x := ⟨_, rfl⟩
    simp only [hob] at hO
    rw [hob] at HF
    have HO := Lib.hid hO
    subst hk
    have z2 : IntKind.i64.wrap ((k : Int) + 1 - 1) = (k : Int) := by rw [IntKind.wrap_i64]; omega
    have z3 : (0 : Int) ≤ (k : Int) := by omega
    have z4 : (k : Int) < (n : Int) := by omega
    clear hO hob hrf hre ha h8 hrg
    go_wp2_with fail
    refine (HO.out _ H1.out).mono ?_
    rintro e2 w2 ⟨rfl, hk2⟩
    go_wp2_with fail
    go_ret
    exact ⟨by rw [← HR.out]; rw [HF.out, ← beq_dec, B1.out]; rfl, HK1.out.trans hk2⟩

set_option maxRecDepth 100000 in
set_option maxHeartbeats 1000000 in
theorem refs_10 (A : Option Addr) (n c : Nat) (xs : List EvD) (w : World) (h : Evs w A n xs) {po re id li nn : Int} {bs : List UInt8} (dv : Value) {R : Bool} (hR : refsR xs ⟨10, po, re, id, li, nn, bs⟩ = R) :
    Calls Tryd.prog 35 #[.slice A n c, .agg #[.int .i64 10, .int .i64 po, .int .i64 re, .int .i64 id, .int .i64 li, .int .i64 nn, dv]] w (ValEnd (.bool R) w) := by
  have hT := fun (W : World) (H : Evs W A n xs) => task36_any A n c xs W H
  obtain ⟨ti, hti⟩ : ∃ x, (taskR xs).1 = x := ⟨_, rfl⟩
  obtain ⟨tp, htp⟩ : ∃ x, (taskR xs).2 = x := ⟨_, rfl⟩
  simp only [hti, htp] at hT
  have hn := h.2.1
  have HT := Lib.hid hT
  have HR := Lib.hid hR
  have HTi := Lib.hid hti
  have HTp := Lib.hid htp
  obtain ⟨q, hq⟩ : ∃ q, w.heap.size = q := ⟨_, rfl⟩
  obtain ⟨wz, hwz⟩ : ∃ wz, w.alloc (.cells #[.int .i64 10, .int .i64 po, .int .i64 re, .int .i64 id, .int .i64 li, .int .i64 nn, dv] 24) = wz := ⟨_, rfl⟩
  have HP := Lib.hid (show Blk wz q 24 #[.int .i64 10, .int .i64 po, .int .i64 re, .int .i64 id, .int .i64 li, .int .i64 nn, dv] from hwz ▸ hq ▸ Blk.new w 24 _)
  have HK := Lib.hid (show Kept NoBlk w wz from hwz ▸ (Kept.refl NoBlk w).alloc _)
  have H := Lib.hid (h.kept HK.out (NoCells.none _))
  clear h hT hR hti htp
  go_enter Tryd.func35, Tryd.ntmps35
  go_upto_region 1 with fail
  clear hwz hq
  go_wp2_with fail
  refine (HT.out _ H.out).mono ?_
  rintro e1 w1 ⟨rfl, hk1⟩
  have HP1 := Lib.hid (HP.out.kept hk1 (fun e => e.elim))
  have HK1 := Lib.hid (HK.out.trans hk1)
  have H1 := Lib.hid (H.out.kept hk1 (NoCells.none _))
  have p0 : w1.cell? ⟨q, 0, none⟩ = some (.int .i64 10) := HP1.out.cell 0
  have p2 : w1.cell? ⟨q, 0 + 2, none⟩ = some (.int .i64 re) := HP1.out.cell 2
  clear hk1 HP HK H
  have hK := fun (W : World) (H : Evs W A n xs) => kind50_any A n c xs W H re
  obtain ⟨ki, hki⟩ : ∃ x, kindR xs re = x := ⟨_, rfl⟩
  have hf : refsR xs ⟨10, po, re, id, li, nn, bs⟩ = (decide (ki = 8) && openR xs (refR xs re)) := by
    rw [← hki]
    rfl
  simp only [hki] at hK
  have HK := Lib.hid hK
  have HF := Lib.hid hf
  have HKi := Lib.hid hki
  clear hf hK hki
  go_wp2_with fail
  refine (HK.out _ H1.out).mono ?_
  rintro e2 w2 ⟨rfl, rfl⟩
  cases b1 : (ki == 8)
  · have B1 := Lib.hid b1
    go_wp2_with fail
    go_ret
    exact ⟨by rw [← HR.out]; rw [HF.out, ← beq_dec, B1.out]; rfl, HK1.out⟩
  · have B1 := Lib.hid b1
    have h8 : kindR xs re = 8 := HKi.out.trans (by simpa using b1)
    have hrg := kindR_range (l := xs) (p := re) (by omega)
    obtain ⟨k, hk⟩ : ∃ k : Nat, re = (k : Int) + 1 := ⟨(re - 1).toNat, by omega⟩
    have hkn : k < n := by have := H1.out.1; omega
    obtain ⟨b, off, a, v, rfl, ha, _, _, c2, _⟩ := H1.out.at_ hkn
    have hre : refR xs re = a.ref := by rw [hk]; exact atR_in ha
    rw [hre] at HF
    obtain ⟨rf, hrf⟩ : ∃ x, a.ref = x := ⟨_, rfl⟩
    rw [hrf] at HF c2
    have hO := fun (W : World) (H : Evs W (some ⟨b, off, none⟩) n xs) => open37_any (some ⟨b, off, none⟩) n c xs W H rf
    obtain ⟨ob, hob⟩ : ∃ x, openR xs rf = x := ⟨_, rfl⟩
    simp only [hob] at hO
    rw [hob] at HF
    have HO := Lib.hid hO
    subst hk
    have z2 : IntKind.i64.wrap ((k : Int) + 1 - 1) = (k : Int) := by rw [IntKind.wrap_i64]; omega
    have z3 : (0 : Int) ≤ (k : Int) := by omega
    have z4 : (k : Int) < (n : Int) := by omega
    clear hO hob hrf hre ha h8 hrg
    go_wp2_with fail
    refine (HO.out _ H1.out).mono ?_
    rintro e2 w2 ⟨rfl, hk2⟩
    go_wp2_with fail
    go_ret
    exact ⟨by rw [← HR.out]; rw [HF.out, ← beq_dec, B1.out]; rfl, HK1.out.trans hk2⟩

set_option maxRecDepth 100000 in
set_option maxHeartbeats 1000000 in
theorem refs_11 (A : Option Addr) (n c : Nat) (xs : List EvD) (w : World) (h : Evs w A n xs) {po re id li nn : Int} {bs : List UInt8} (dv : Value) {R : Bool} (hR : refsR xs ⟨11, po, re, id, li, nn, bs⟩ = R) :
    Calls Tryd.prog 35 #[.slice A n c, .agg #[.int .i64 11, .int .i64 po, .int .i64 re, .int .i64 id, .int .i64 li, .int .i64 nn, dv]] w (ValEnd (.bool R) w) := by
  have hT := fun (W : World) (H : Evs W A n xs) => task36_any A n c xs W H
  obtain ⟨ti, hti⟩ : ∃ x, (taskR xs).1 = x := ⟨_, rfl⟩
  obtain ⟨tp, htp⟩ : ∃ x, (taskR xs).2 = x := ⟨_, rfl⟩
  simp only [hti, htp] at hT
  have hn := h.2.1
  have HT := Lib.hid hT
  have HR := Lib.hid hR
  have HTi := Lib.hid hti
  have HTp := Lib.hid htp
  obtain ⟨q, hq⟩ : ∃ q, w.heap.size = q := ⟨_, rfl⟩
  obtain ⟨wz, hwz⟩ : ∃ wz, w.alloc (.cells #[.int .i64 11, .int .i64 po, .int .i64 re, .int .i64 id, .int .i64 li, .int .i64 nn, dv] 24) = wz := ⟨_, rfl⟩
  have HP := Lib.hid (show Blk wz q 24 #[.int .i64 11, .int .i64 po, .int .i64 re, .int .i64 id, .int .i64 li, .int .i64 nn, dv] from hwz ▸ hq ▸ Blk.new w 24 _)
  have HK := Lib.hid (show Kept NoBlk w wz from hwz ▸ (Kept.refl NoBlk w).alloc _)
  have H := Lib.hid (h.kept HK.out (NoCells.none _))
  clear h hT hR hti htp
  go_enter Tryd.func35, Tryd.ntmps35
  go_upto_region 1 with fail
  clear hwz hq
  go_wp2_with fail
  refine (HT.out _ H.out).mono ?_
  rintro e1 w1 ⟨rfl, hk1⟩
  have HP1 := Lib.hid (HP.out.kept hk1 (fun e => e.elim))
  have HK1 := Lib.hid (HK.out.trans hk1)
  have H1 := Lib.hid (H.out.kept hk1 (NoCells.none _))
  have p0 : w1.cell? ⟨q, 0, none⟩ = some (.int .i64 11) := HP1.out.cell 0
  have p2 : w1.cell? ⟨q, 0 + 2, none⟩ = some (.int .i64 re) := HP1.out.cell 2
  clear hk1 HP HK H
  have hK := fun (W : World) (H : Evs W A n xs) => kind50_any A n c xs W H re
  obtain ⟨ki, hki⟩ : ∃ x, kindR xs re = x := ⟨_, rfl⟩
  have hf : refsR xs ⟨11, po, re, id, li, nn, bs⟩ = (decide (ki = 8) && openR xs (refR xs re)) := by
    rw [← hki]
    rfl
  simp only [hki] at hK
  have HK := Lib.hid hK
  have HF := Lib.hid hf
  have HKi := Lib.hid hki
  clear hf hK hki
  go_wp2_with fail
  refine (HK.out _ H1.out).mono ?_
  rintro e2 w2 ⟨rfl, rfl⟩
  cases b1 : (ki == 8)
  · have B1 := Lib.hid b1
    go_wp2_with fail
    go_ret
    exact ⟨by rw [← HR.out]; rw [HF.out, ← beq_dec, B1.out]; rfl, HK1.out⟩
  · have B1 := Lib.hid b1
    have h8 : kindR xs re = 8 := HKi.out.trans (by simpa using b1)
    have hrg := kindR_range (l := xs) (p := re) (by omega)
    obtain ⟨k, hk⟩ : ∃ k : Nat, re = (k : Int) + 1 := ⟨(re - 1).toNat, by omega⟩
    have hkn : k < n := by have := H1.out.1; omega
    obtain ⟨b, off, a, v, rfl, ha, _, _, c2, _⟩ := H1.out.at_ hkn
    have hre : refR xs re = a.ref := by rw [hk]; exact atR_in ha
    rw [hre] at HF
    obtain ⟨rf, hrf⟩ : ∃ x, a.ref = x := ⟨_, rfl⟩
    rw [hrf] at HF c2
    have hO := fun (W : World) (H : Evs W (some ⟨b, off, none⟩) n xs) => open37_any (some ⟨b, off, none⟩) n c xs W H rf
    obtain ⟨ob, hob⟩ : ∃ x, openR xs rf = x := ⟨_, rfl⟩
    simp only [hob] at hO
    rw [hob] at HF
    have HO := Lib.hid hO
    subst hk
    have z2 : IntKind.i64.wrap ((k : Int) + 1 - 1) = (k : Int) := by rw [IntKind.wrap_i64]; omega
    have z3 : (0 : Int) ≤ (k : Int) := by omega
    have z4 : (k : Int) < (n : Int) := by omega
    clear hO hob hrf hre ha h8 hrg
    go_wp2_with fail
    refine (HO.out _ H1.out).mono ?_
    rintro e2 w2 ⟨rfl, hk2⟩
    go_wp2_with fail
    go_ret
    exact ⟨by rw [← HR.out]; rw [HF.out, ← beq_dec, B1.out]; rfl, HK1.out.trans hk2⟩

set_option maxRecDepth 100000 in
set_option maxHeartbeats 1000000 in
theorem refs_13 (A : Option Addr) (n c : Nat) (xs : List EvD) (w : World) (h : Evs w A n xs) {po re id li nn : Int} {bs : List UInt8} (dv : Value) {R : Bool} (hR : refsR xs ⟨13, po, re, id, li, nn, bs⟩ = R) :
    Calls Tryd.prog 35 #[.slice A n c, .agg #[.int .i64 13, .int .i64 po, .int .i64 re, .int .i64 id, .int .i64 li, .int .i64 nn, dv]] w (ValEnd (.bool R) w) := by
  have hT := fun (W : World) (H : Evs W A n xs) => task36_any A n c xs W H
  obtain ⟨ti, hti⟩ : ∃ x, (taskR xs).1 = x := ⟨_, rfl⟩
  obtain ⟨tp, htp⟩ : ∃ x, (taskR xs).2 = x := ⟨_, rfl⟩
  simp only [hti, htp] at hT
  have hn := h.2.1
  have HT := Lib.hid hT
  have HR := Lib.hid hR
  have HTi := Lib.hid hti
  have HTp := Lib.hid htp
  obtain ⟨q, hq⟩ : ∃ q, w.heap.size = q := ⟨_, rfl⟩
  obtain ⟨wz, hwz⟩ : ∃ wz, w.alloc (.cells #[.int .i64 13, .int .i64 po, .int .i64 re, .int .i64 id, .int .i64 li, .int .i64 nn, dv] 24) = wz := ⟨_, rfl⟩
  have HP := Lib.hid (show Blk wz q 24 #[.int .i64 13, .int .i64 po, .int .i64 re, .int .i64 id, .int .i64 li, .int .i64 nn, dv] from hwz ▸ hq ▸ Blk.new w 24 _)
  have HK := Lib.hid (show Kept NoBlk w wz from hwz ▸ (Kept.refl NoBlk w).alloc _)
  have H := Lib.hid (h.kept HK.out (NoCells.none _))
  clear h hT hR hti htp
  go_enter Tryd.func35, Tryd.ntmps35
  go_upto_region 1 with fail
  clear hwz hq
  go_wp2_with fail
  refine (HT.out _ H.out).mono ?_
  rintro e1 w1 ⟨rfl, hk1⟩
  have HP1 := Lib.hid (HP.out.kept hk1 (fun e => e.elim))
  have HK1 := Lib.hid (HK.out.trans hk1)
  have H1 := Lib.hid (H.out.kept hk1 (NoCells.none _))
  have p0 : w1.cell? ⟨q, 0, none⟩ = some (.int .i64 13) := HP1.out.cell 0
  have p2 : w1.cell? ⟨q, 0 + 2, none⟩ = some (.int .i64 re) := HP1.out.cell 2
  clear hk1 HP HK H
  have hK := fun (W : World) (H : Evs W A n xs) => kind50_any A n c xs W H re
  have hO := fun (W : World) (H : Evs W A n xs) => open37_any A n c xs W H re
  obtain ⟨ki, hki⟩ : ∃ x, kindR xs re = x := ⟨_, rfl⟩
  obtain ⟨ob, hob⟩ : ∃ x, openR xs re = x := ⟨_, rfl⟩
  have hf : refsR xs ⟨13, po, re, id, li, nn, bs⟩ = (decide (ki = 12) && ob) := by
    rw [← hki, ← hob]
    rfl
  simp only [hki] at hK
  simp only [hob] at hO
  have HK := Lib.hid hK
  have HO := Lib.hid hO
  have HF := Lib.hid hf
  clear hf hK hO hki hob
  go_wp2_with fail
  refine (HK.out _ H1.out).mono ?_
  rintro e2 w2 ⟨rfl, rfl⟩
  cases b1 : (ki == 12)
  · have B1 := Lib.hid b1
    go_wp2_with fail
    go_ret
    exact ⟨by rw [← HR.out]; rw [HF.out, ← beq_dec, B1.out]; rfl, HK1.out⟩
  · have B1 := Lib.hid b1
    go_wp2_with fail
    refine (HO.out _ H1.out).mono ?_
    rintro e2 w2 ⟨rfl, hk2⟩
    go_wp2_with fail
    go_ret
    exact ⟨by rw [← HR.out]; rw [HF.out, ← beq_dec, B1.out]; rfl, HK1.out.trans hk2⟩

set_option maxRecDepth 100000 in
set_option maxHeartbeats 1000000 in
theorem refs_14 (A : Option Addr) (n c : Nat) (xs : List EvD) (w : World) (h : Evs w A n xs) {po re id li nn : Int} {bs : List UInt8} (dv : Value) {R : Bool} (hR : refsR xs ⟨14, po, re, id, li, nn, bs⟩ = R) :
    Calls Tryd.prog 35 #[.slice A n c, .agg #[.int .i64 14, .int .i64 po, .int .i64 re, .int .i64 id, .int .i64 li, .int .i64 nn, dv]] w (ValEnd (.bool R) w) := by
  have hT := fun (W : World) (H : Evs W A n xs) => task36_any A n c xs W H
  obtain ⟨ti, hti⟩ : ∃ x, (taskR xs).1 = x := ⟨_, rfl⟩
  obtain ⟨tp, htp⟩ : ∃ x, (taskR xs).2 = x := ⟨_, rfl⟩
  simp only [hti, htp] at hT
  have hn := h.2.1
  have HT := Lib.hid hT
  have HR := Lib.hid hR
  have HTi := Lib.hid hti
  have HTp := Lib.hid htp
  obtain ⟨q, hq⟩ : ∃ q, w.heap.size = q := ⟨_, rfl⟩
  obtain ⟨wz, hwz⟩ : ∃ wz, w.alloc (.cells #[.int .i64 14, .int .i64 po, .int .i64 re, .int .i64 id, .int .i64 li, .int .i64 nn, dv] 24) = wz := ⟨_, rfl⟩
  have HP := Lib.hid (show Blk wz q 24 #[.int .i64 14, .int .i64 po, .int .i64 re, .int .i64 id, .int .i64 li, .int .i64 nn, dv] from hwz ▸ hq ▸ Blk.new w 24 _)
  have HK := Lib.hid (show Kept NoBlk w wz from hwz ▸ (Kept.refl NoBlk w).alloc _)
  have H := Lib.hid (h.kept HK.out (NoCells.none _))
  clear h hT hR hti htp
  go_enter Tryd.func35, Tryd.ntmps35
  go_upto_region 1 with fail
  clear hwz hq
  go_wp2_with fail
  refine (HT.out _ H.out).mono ?_
  rintro e1 w1 ⟨rfl, hk1⟩
  have HP1 := Lib.hid (HP.out.kept hk1 (fun e => e.elim))
  have HK1 := Lib.hid (HK.out.trans hk1)
  have H1 := Lib.hid (H.out.kept hk1 (NoCells.none _))
  have p0 : w1.cell? ⟨q, 0, none⟩ = some (.int .i64 14) := HP1.out.cell 0
  have p2 : w1.cell? ⟨q, 0 + 2, none⟩ = some (.int .i64 re) := HP1.out.cell 2
  clear hk1 HP HK H
  have hK := fun (W : World) (H : Evs W A n xs) => kind50_any A n c xs W H re
  have hO := fun (W : World) (H : Evs W A n xs) => open37_any A n c xs W H re
  obtain ⟨ki, hki⟩ : ∃ x, kindR xs re = x := ⟨_, rfl⟩
  obtain ⟨ob, hob⟩ : ∃ x, openR xs re = x := ⟨_, rfl⟩
  have hf : refsR xs ⟨14, po, re, id, li, nn, bs⟩ = (decide (ki = 12) && ob) := by
    rw [← hki, ← hob]
    rfl
  simp only [hki] at hK
  simp only [hob] at hO
  have HK := Lib.hid hK
  have HO := Lib.hid hO
  have HF := Lib.hid hf
  clear hf hK hO hki hob
  go_wp2_with fail
  refine (HK.out _ H1.out).mono ?_
  rintro e2 w2 ⟨rfl, rfl⟩
  cases b1 : (ki == 12)
  · have B1 := Lib.hid b1
    go_wp2_with fail
    go_ret
    exact ⟨by rw [← HR.out]; rw [HF.out, ← beq_dec, B1.out]; rfl, HK1.out⟩
  · have B1 := Lib.hid b1
    go_wp2_with fail
    refine (HO.out _ H1.out).mono ?_
    rintro e2 w2 ⟨rfl, hk2⟩
    go_wp2_with fail
    go_ret
    exact ⟨by rw [← HR.out]; rw [HF.out, ← beq_dec, B1.out]; rfl, HK1.out.trans hk2⟩

set_option maxRecDepth 100000 in
set_option maxHeartbeats 1000000 in
theorem refs_18 (A : Option Addr) (n c : Nat) (xs : List EvD) (w : World) (h : Evs w A n xs) {po re id li nn : Int} {bs : List UInt8} (dv : Value) {R : Bool} (hR : refsR xs ⟨18, po, re, id, li, nn, bs⟩ = R) :
    Calls Tryd.prog 35 #[.slice A n c, .agg #[.int .i64 18, .int .i64 po, .int .i64 re, .int .i64 id, .int .i64 li, .int .i64 nn, dv]] w (ValEnd (.bool R) w) := by
  have hT := fun (W : World) (H : Evs W A n xs) => task36_any A n c xs W H
  obtain ⟨ti, hti⟩ : ∃ x, (taskR xs).1 = x := ⟨_, rfl⟩
  obtain ⟨tp, htp⟩ : ∃ x, (taskR xs).2 = x := ⟨_, rfl⟩
  simp only [hti, htp] at hT
  have hn := h.2.1
  have HT := Lib.hid hT
  have HR := Lib.hid hR
  have HTi := Lib.hid hti
  have HTp := Lib.hid htp
  obtain ⟨q, hq⟩ : ∃ q, w.heap.size = q := ⟨_, rfl⟩
  obtain ⟨wz, hwz⟩ : ∃ wz, w.alloc (.cells #[.int .i64 18, .int .i64 po, .int .i64 re, .int .i64 id, .int .i64 li, .int .i64 nn, dv] 24) = wz := ⟨_, rfl⟩
  have HP := Lib.hid (show Blk wz q 24 #[.int .i64 18, .int .i64 po, .int .i64 re, .int .i64 id, .int .i64 li, .int .i64 nn, dv] from hwz ▸ hq ▸ Blk.new w 24 _)
  have HK := Lib.hid (show Kept NoBlk w wz from hwz ▸ (Kept.refl NoBlk w).alloc _)
  have H := Lib.hid (h.kept HK.out (NoCells.none _))
  clear h hT hR hti htp
  go_enter Tryd.func35, Tryd.ntmps35
  go_upto_region 1 with fail
  clear hwz hq
  go_wp2_with fail
  refine (HT.out _ H.out).mono ?_
  rintro e1 w1 ⟨rfl, hk1⟩
  have HP1 := Lib.hid (HP.out.kept hk1 (fun e => e.elim))
  have HK1 := Lib.hid (HK.out.trans hk1)
  have H1 := Lib.hid (H.out.kept hk1 (NoCells.none _))
  have p0 : w1.cell? ⟨q, 0, none⟩ = some (.int .i64 18) := HP1.out.cell 0
  have p2 : w1.cell? ⟨q, 0 + 2, none⟩ = some (.int .i64 re) := HP1.out.cell 2
  clear hk1 HP HK H
  have hK := fun (W : World) (H : Evs W A n xs) => kind50_any A n c xs W H re
  have hO := fun (W : World) (H : Evs W A n xs) => open37_any A n c xs W H re
  obtain ⟨ki, hki⟩ : ∃ x, kindR xs re = x := ⟨_, rfl⟩
  obtain ⟨ob, hob⟩ : ∃ x, openR xs re = x := ⟨_, rfl⟩
  have hf : refsR xs ⟨18, po, re, id, li, nn, bs⟩ = (decide (ki = 17) && ob) := by
    rw [← hki, ← hob]
    rfl
  simp only [hki] at hK
  simp only [hob] at hO
  have HK := Lib.hid hK
  have HO := Lib.hid hO
  have HF := Lib.hid hf
  clear hf hK hO hki hob
  go_wp2_with fail
  refine (HK.out _ H1.out).mono ?_
  rintro e2 w2 ⟨rfl, rfl⟩
  cases b1 : (ki == 17)
  · have B1 := Lib.hid b1
    go_wp2_with fail
    go_ret
    exact ⟨by rw [← HR.out]; rw [HF.out, ← beq_dec, B1.out]; rfl, HK1.out⟩
  · have B1 := Lib.hid b1
    go_wp2_with fail
    refine (HO.out _ H1.out).mono ?_
    rintro e2 w2 ⟨rfl, hk2⟩
    go_wp2_with fail
    go_ret
    exact ⟨by rw [← HR.out]; rw [HF.out, ← beq_dec, B1.out]; rfl, HK1.out.trans hk2⟩

set_option maxRecDepth 100000 in
set_option maxHeartbeats 1000000 in
theorem refs_rest (A : Option Addr) (n c : Nat) (xs : List EvD) (w : World) (h : Evs w A n xs) {ki : Int} (hk : ki ≠ 3 ∧ ki ≠ 4 ∧ ki ≠ 5 ∧ ki ≠ 6 ∧ ki ≠ 8 ∧ ki ≠ 9 ∧ ki ≠ 10 ∧ ki ≠ 11 ∧ ki ≠ 13 ∧ ki ≠ 14 ∧ ki ≠ 18) {po re id li nn : Int} {bs : List UInt8} (dv : Value) {R : Bool} (hR : refsR xs ⟨ki, po, re, id, li, nn, bs⟩ = R) :
    Calls Tryd.prog 35 #[.slice A n c, .agg #[.int .i64 ki, .int .i64 po, .int .i64 re, .int .i64 id, .int .i64 li, .int .i64 nn, dv]] w (ValEnd (.bool R) w) := by
  have hT := fun (W : World) (H : Evs W A n xs) => task36_any A n c xs W H
  obtain ⟨ti, hti⟩ : ∃ x, (taskR xs).1 = x := ⟨_, rfl⟩
  obtain ⟨tp, htp⟩ : ∃ x, (taskR xs).2 = x := ⟨_, rfl⟩
  simp only [hti, htp] at hT
  have hn := h.2.1
  have HT := Lib.hid hT
  have HR := Lib.hid hR
  have HTi := Lib.hid hti
  have HTp := Lib.hid htp
  obtain ⟨q, hq⟩ : ∃ q, w.heap.size = q := ⟨_, rfl⟩
  obtain ⟨wz, hwz⟩ : ∃ wz, w.alloc (.cells #[.int .i64 ki, .int .i64 po, .int .i64 re, .int .i64 id, .int .i64 li, .int .i64 nn, dv] 24) = wz := ⟨_, rfl⟩
  have HP := Lib.hid (show Blk wz q 24 #[.int .i64 ki, .int .i64 po, .int .i64 re, .int .i64 id, .int .i64 li, .int .i64 nn, dv] from hwz ▸ hq ▸ Blk.new w 24 _)
  have HK := Lib.hid (show Kept NoBlk w wz from hwz ▸ (Kept.refl NoBlk w).alloc _)
  have H := Lib.hid (h.kept HK.out (NoCells.none _))
  clear h hT hR hti htp
  go_enter Tryd.func35, Tryd.ntmps35
  go_upto_region 1 with fail
  clear hwz hq
  go_wp2_with fail
  refine (HT.out _ H.out).mono ?_
  rintro e1 w1 ⟨rfl, hk1⟩
  have HP1 := Lib.hid (HP.out.kept hk1 (fun e => e.elim))
  have HK1 := Lib.hid (HK.out.trans hk1)
  have H1 := Lib.hid (H.out.kept hk1 (NoCells.none _))
  have p0 : w1.cell? ⟨q, 0, none⟩ = some (.int .i64 ki) := HP1.out.cell 0
  have p2 : w1.cell? ⟨q, 0 + 2, none⟩ = some (.int .i64 re) := HP1.out.cell 2
  clear hk1 HP HK H
  obtain ⟨g3, g4, g5, g6, g8, g9, g10, g11, g13, g14, g18⟩ := hk
  have hf : refsR xs ⟨ki, po, re, id, li, nn, bs⟩ = decide (re = 0) := by
    unfold refsR
    simp only
    rw [if_neg g3, if_neg (by omega), if_neg g8, if_neg (by omega), if_neg (by omega), if_neg g18]
  have HF := Lib.hid hf
  clear hf
  cases b2 : (re == 0)
  all_goals
    have B2 := Lib.hid b2
    go_wp2_with fail
    go_ret
    exact ⟨by rw [← HR.out]; rw [HF.out, ← beq_dec, B2.out]; rfl, HK1.out⟩

theorem refs_any (A : Option Addr) (n c : Nat) (xs : List EvD) (w : World) (h : Evs w A n xs) (e : EvD) (dv : Value) : Calls Tryd.prog 35 #[.slice A n c, aggE e dv] w (ValEnd (.bool (refsR xs e)) w) := by
  obtain ⟨ki, po, re, id, li, nn, bs⟩ := e
  unfold aggE
  simp only
  by_cases c3 : ki = 3
  · subst c3; exact refs_3 A n c xs w h dv rfl
  by_cases c4 : ki = 4
  · subst c4; exact refs_4 A n c xs w h dv rfl
  by_cases c5 : ki = 5
  · subst c5; exact refs_5 A n c xs w h dv rfl
  by_cases c6 : ki = 6
  · subst c6; exact refs_6 A n c xs w h dv rfl
  by_cases c8 : ki = 8
  · subst c8; exact refs_8 A n c xs w h dv rfl
  by_cases c9 : ki = 9
  · subst c9; exact refs_9 A n c xs w h dv rfl
  by_cases c10 : ki = 10
  · subst c10; exact refs_10 A n c xs w h dv rfl
  by_cases c11 : ki = 11
  · subst c11; exact refs_11 A n c xs w h dv rfl
  by_cases c13 : ki = 13
  · subst c13; exact refs_13 A n c xs w h dv rfl
  by_cases c14 : ki = 14
  · subst c14; exact refs_14 A n c xs w h dv rfl
  by_cases c18 : ki = 18
  · subst c18; exact refs_18 A n c xs w h dv rfl
  exact refs_rest A n c xs w h ⟨c3, c4, c5, c6, c8, c9, c10, c11, c13, c14, c18⟩ dv rfl
#print axioms refs_any
end Go.Proofs.YtndnbjpcjlbcjaaDoor
