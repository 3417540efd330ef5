/- Does an event belong to what it says? Printed by wip/tpl/refgen.py. -/
import Derived.Test.YtndnbjpcjlbcjaaDoorUses
import Derived.BigQuiet
namespace Go.Proofs.YtndnbjpcjlbcjaaDoor
open Go.RowKit Go.Maps

def refB (s : HsD) (ki re : Int) : Bool :=
  if ki = 3 then (s.task != 0) && !s.begun && (re == s.task)
  else if ki = 4 ∨ ki = 5 ∨ ki = 6 then (s.task != 0) && s.begun && (re == s.task)
  else if ki = 8 then ((aget s.kinds re).getD 0 == 7) && !(aget s.frm re).isSome
  else if ki = 9 ∨ ki = 10 ∨ ki = 11 then ((aget s.of_ re).getD 0 != 0)
  else if ki = 13 ∨ ki = 14 then ((aget s.kinds re).getD 0 == 12)
  else if ki = 18 then ((aget s.kinds re).getD 0 == 17)
  else (re == 0)

theorem HMem.at_alloc {w : World} {hb k1 k2 k3 k4 : Nat} {s : HsD} (h : HMem w hb k1 k2 k3 k4 s) (o : Obj) : HMem (w.alloc o) hb k1 k2 k3 k4 s := h.kept ((Kept.refl NoBlk w).alloc o)
theorem HMem.at_drewN {w : World} {hb k1 k2 k3 k4 : Nat} {s : HsD} (h : HMem w hb k1 k2 k3 k4 s) (n : Nat) : HMem (w.drewN n) hb k1 k2 k3 k4 s := h.kept ((Kept.refl NoBlk w).drewN n)

set_option maxRecDepth 100000 in
set_option maxHeartbeats 2000000 in
theorem ref_3 {w : World} {hb k1 k2 k3 k4 : Nat} {s : HsD} (h : HMem w hb k1 k2 k3 k4 s)  (po re id li nn : Int) (dv : Value) (_hr : okI re) :
    Calls Tryd.prog 60 #[.pointer (some ⟨hb, 0, none⟩), .agg #[.int .i64 3, .int .i64 po, .int .i64 re, .int .i64 id, .int .i64 li, .int .i64 nn, dv]] w (ValEnd (.bool (refB s 3 re)) w) := by
  rw [show refB s 3 re = ((s.task != 0) && !s.begun && (re == s.task)) from rfl]
  obtain ⟨q, hq⟩ : ∃ q, w.heap.size = q := ⟨_, rfl⟩
  obtain ⟨wz, hwz⟩ : ∃ wz, w.alloc (.cells #[.int .i64 3, .int .i64 po, .int .i64 re, .int .i64 id, .int .i64 li, .int .i64 nn, dv] 24) = wz := ⟨_, rfl⟩
  have hz : HMem wz hb k1 k2 k3 k4 s := hwz ▸ h.at_alloc _
  have pe : Blk wz q 24 #[.int .i64 3, .int .i64 po, .int .i64 re, .int .i64 id, .int .i64 li, .int .i64 nn, dv] := hwz ▸ hq ▸ Blk.new w 24 _
  have kz : Kept NoBlk w wz := hwz ▸ (Kept.refl NoBlk w).alloc _
  have p0 : wz.cell? ⟨q, 0, none⟩ = some (.int .i64 3) := pe.cell 0
  have p2 : wz.cell? ⟨q, 0 + 2, none⟩ = some (.int .i64 re) := pe.cell 2
  have d5 : wz.cell? ⟨hb, 0 + 5, none⟩ = some (.int .i64 s.task) := hz.box.cell 5
  have d6 : wz.cell? ⟨hb, 0 + 6, none⟩ = some (.bool s.begun) := hz.box.cell 6
  have HK := Lib.hid kz
  have HZ := Lib.hid hz
  clear hz pe kz h
  obtain ⟨tk, htk⟩ : ∃ tk, s.task = tk := ⟨_, rfl⟩
  obtain ⟨bg, hbg⟩ : ∃ bg, s.begun = bg := ⟨_, rfl⟩
  rw [htk, hbg]
  rw [htk] at d5
  rw [hbg] at d6
  clear htk hbg
  go_enter Tryd.func60, Tryd.ntmps60
  go_upto_region 1 with fail
  clear hwz hq
  cases b1 : (tk != 0)
  · go_wp2_with fail
    go_quiet (fail)
    go_wp2_with fail
    go_ret
    exact ⟨by rw [b1]; rfl, by first | exact HK.out | exact HK.out.drewN _ | exact (HK.out.drewN _).drewN _⟩
  · cases bg
    · cases b3 : (re == tk)
      all_goals
        go_wp2_with fail
        go_quiet (fail)
        go_wp2_with fail
        go_ret
        exact ⟨by rw [b1, b3]; rfl, by first | exact HK.out | exact HK.out.drewN _ | exact (HK.out.drewN _).drewN _⟩
    · cases b3 : (re == tk)
      all_goals
        go_wp2_with fail
        go_quiet (fail)
        go_wp2_with fail
        go_ret
        exact ⟨by rw [b1, b3]; rfl, by first | exact HK.out | exact HK.out.drewN _ | exact (HK.out.drewN _).drewN _⟩

set_option maxRecDepth 100000 in
set_option maxHeartbeats 2000000 in
theorem ref_4 {w : World} {hb k1 k2 k3 k4 : Nat} {s : HsD} (h : HMem w hb k1 k2 k3 k4 s)  (po re id li nn : Int) (dv : Value) (_hr : okI re) :
    Calls Tryd.prog 60 #[.pointer (some ⟨hb, 0, none⟩), .agg #[.int .i64 4, .int .i64 po, .int .i64 re, .int .i64 id, .int .i64 li, .int .i64 nn, dv]] w (ValEnd (.bool (refB s 4 re)) w) := by
  rw [show refB s 4 re = ((s.task != 0) && s.begun && (re == s.task)) from rfl]
  obtain ⟨q, hq⟩ : ∃ q, w.heap.size = q := ⟨_, rfl⟩
  obtain ⟨wz, hwz⟩ : ∃ wz, w.alloc (.cells #[.int .i64 4, .int .i64 po, .int .i64 re, .int .i64 id, .int .i64 li, .int .i64 nn, dv] 24) = wz := ⟨_, rfl⟩
  have hz : HMem wz hb k1 k2 k3 k4 s := hwz ▸ h.at_alloc _
  have pe : Blk wz q 24 #[.int .i64 4, .int .i64 po, .int .i64 re, .int .i64 id, .int .i64 li, .int .i64 nn, dv] := hwz ▸ hq ▸ Blk.new w 24 _
  have kz : Kept NoBlk w wz := hwz ▸ (Kept.refl NoBlk w).alloc _
  have p0 : wz.cell? ⟨q, 0, none⟩ = some (.int .i64 4) := pe.cell 0
  have p2 : wz.cell? ⟨q, 0 + 2, none⟩ = some (.int .i64 re) := pe.cell 2
  have d5 : wz.cell? ⟨hb, 0 + 5, none⟩ = some (.int .i64 s.task) := hz.box.cell 5
  have d6 : wz.cell? ⟨hb, 0 + 6, none⟩ = some (.bool s.begun) := hz.box.cell 6
  have HK := Lib.hid kz
  have HZ := Lib.hid hz
  clear hz pe kz h
  obtain ⟨tk, htk⟩ : ∃ tk, s.task = tk := ⟨_, rfl⟩
  obtain ⟨bg, hbg⟩ : ∃ bg, s.begun = bg := ⟨_, rfl⟩
  rw [htk, hbg]
  rw [htk] at d5
  rw [hbg] at d6
  clear htk hbg
  go_enter Tryd.func60, Tryd.ntmps60
  go_upto_region 1 with fail
  clear hwz hq
  cases b1 : (tk != 0)
  · go_wp2_with fail
    go_quiet (fail)
    go_wp2_with fail
    go_ret
    exact ⟨by rw [b1]; rfl, by first | exact HK.out | exact HK.out.drewN _ | exact (HK.out.drewN _).drewN _⟩
  · cases bg
    · cases b3 : (re == tk)
      all_goals
        go_wp2_with fail
        go_quiet (fail)
        go_wp2_with fail
        go_ret
        exact ⟨by rw [b1, b3]; rfl, by first | exact HK.out | exact HK.out.drewN _ | exact (HK.out.drewN _).drewN _⟩
    · cases b3 : (re == tk)
      all_goals
        go_wp2_with fail
        go_quiet (fail)
        go_wp2_with fail
        go_ret
        exact ⟨by rw [b1, b3]; rfl, by first | exact HK.out | exact HK.out.drewN _ | exact (HK.out.drewN _).drewN _⟩

set_option maxRecDepth 100000 in
set_option maxHeartbeats 2000000 in
theorem ref_5 {w : World} {hb k1 k2 k3 k4 : Nat} {s : HsD} (h : HMem w hb k1 k2 k3 k4 s)  (po re id li nn : Int) (dv : Value) (_hr : okI re) :
    Calls Tryd.prog 60 #[.pointer (some ⟨hb, 0, none⟩), .agg #[.int .i64 5, .int .i64 po, .int .i64 re, .int .i64 id, .int .i64 li, .int .i64 nn, dv]] w (ValEnd (.bool (refB s 5 re)) w) := by
  rw [show refB s 5 re = ((s.task != 0) && s.begun && (re == s.task)) from rfl]
  obtain ⟨q, hq⟩ : ∃ q, w.heap.size = q := ⟨_, rfl⟩
  obtain ⟨wz, hwz⟩ : ∃ wz, w.alloc (.cells #[.int .i64 5, .int .i64 po, .int .i64 re, .int .i64 id, .int .i64 li, .int .i64 nn, dv] 24) = wz := ⟨_, rfl⟩
  have hz : HMem wz hb k1 k2 k3 k4 s := hwz ▸ h.at_alloc _
  have pe : Blk wz q 24 #[.int .i64 5, .int .i64 po, .int .i64 re, .int .i64 id, .int .i64 li, .int .i64 nn, dv] := hwz ▸ hq ▸ Blk.new w 24 _
  have kz : Kept NoBlk w wz := hwz ▸ (Kept.refl NoBlk w).alloc _
  have p0 : wz.cell? ⟨q, 0, none⟩ = some (.int .i64 5) := pe.cell 0
  have p2 : wz.cell? ⟨q, 0 + 2, none⟩ = some (.int .i64 re) := pe.cell 2
  have d5 : wz.cell? ⟨hb, 0 + 5, none⟩ = some (.int .i64 s.task) := hz.box.cell 5
  have d6 : wz.cell? ⟨hb, 0 + 6, none⟩ = some (.bool s.begun) := hz.box.cell 6
  have HK := Lib.hid kz
  have HZ := Lib.hid hz
  clear hz pe kz h
  obtain ⟨tk, htk⟩ : ∃ tk, s.task = tk := ⟨_, rfl⟩
  obtain ⟨bg, hbg⟩ : ∃ bg, s.begun = bg := ⟨_, rfl⟩
  rw [htk, hbg]
  rw [htk] at d5
  rw [hbg] at d6
  clear htk hbg
  go_enter Tryd.func60, Tryd.ntmps60
  go_upto_region 1 with fail
  clear hwz hq
  cases b1 : (tk != 0)
  · go_wp2_with fail
    go_quiet (fail)
    go_wp2_with fail
    go_ret
    exact ⟨by rw [b1]; rfl, by first | exact HK.out | exact HK.out.drewN _ | exact (HK.out.drewN _).drewN _⟩
  · cases bg
    · cases b3 : (re == tk)
      all_goals
        go_wp2_with fail
        go_quiet (fail)
        go_wp2_with fail
        go_ret
        exact ⟨by rw [b1, b3]; rfl, by first | exact HK.out | exact HK.out.drewN _ | exact (HK.out.drewN _).drewN _⟩
    · cases b3 : (re == tk)
      all_goals
        go_wp2_with fail
        go_quiet (fail)
        go_wp2_with fail
        go_ret
        exact ⟨by rw [b1, b3]; rfl, by first | exact HK.out | exact HK.out.drewN _ | exact (HK.out.drewN _).drewN _⟩

set_option maxRecDepth 100000 in
set_option maxHeartbeats 2000000 in
theorem ref_6 {w : World} {hb k1 k2 k3 k4 : Nat} {s : HsD} (h : HMem w hb k1 k2 k3 k4 s)  (po re id li nn : Int) (dv : Value) (_hr : okI re) :
    Calls Tryd.prog 60 #[.pointer (some ⟨hb, 0, none⟩), .agg #[.int .i64 6, .int .i64 po, .int .i64 re, .int .i64 id, .int .i64 li, .int .i64 nn, dv]] w (ValEnd (.bool (refB s 6 re)) w) := by
  rw [show refB s 6 re = ((s.task != 0) && s.begun && (re == s.task)) from rfl]
  obtain ⟨q, hq⟩ : ∃ q, w.heap.size = q := ⟨_, rfl⟩
  obtain ⟨wz, hwz⟩ : ∃ wz, w.alloc (.cells #[.int .i64 6, .int .i64 po, .int .i64 re, .int .i64 id, .int .i64 li, .int .i64 nn, dv] 24) = wz := ⟨_, rfl⟩
  have hz : HMem wz hb k1 k2 k3 k4 s := hwz ▸ h.at_alloc _
  have pe : Blk wz q 24 #[.int .i64 6, .int .i64 po, .int .i64 re, .int .i64 id, .int .i64 li, .int .i64 nn, dv] := hwz ▸ hq ▸ Blk.new w 24 _
  have kz : Kept NoBlk w wz := hwz ▸ (Kept.refl NoBlk w).alloc _
  have p0 : wz.cell? ⟨q, 0, none⟩ = some (.int .i64 6) := pe.cell 0
  have p2 : wz.cell? ⟨q, 0 + 2, none⟩ = some (.int .i64 re) := pe.cell 2
  have d5 : wz.cell? ⟨hb, 0 + 5, none⟩ = some (.int .i64 s.task) := hz.box.cell 5
  have d6 : wz.cell? ⟨hb, 0 + 6, none⟩ = some (.bool s.begun) := hz.box.cell 6
  have HK := Lib.hid kz
  have HZ := Lib.hid hz
  clear hz pe kz h
  obtain ⟨tk, htk⟩ : ∃ tk, s.task = tk := ⟨_, rfl⟩
  obtain ⟨bg, hbg⟩ : ∃ bg, s.begun = bg := ⟨_, rfl⟩
  rw [htk, hbg]
  rw [htk] at d5
  rw [hbg] at d6
  clear htk hbg
  go_enter Tryd.func60, Tryd.ntmps60
  go_upto_region 1 with fail
  clear hwz hq
  cases b1 : (tk != 0)
  · go_wp2_with fail
    go_quiet (fail)
    go_wp2_with fail
    go_ret
    exact ⟨by rw [b1]; rfl, by first | exact HK.out | exact HK.out.drewN _ | exact (HK.out.drewN _).drewN _⟩
  · cases bg
    · cases b3 : (re == tk)
      all_goals
        go_wp2_with fail
        go_quiet (fail)
        go_wp2_with fail
        go_ret
        exact ⟨by rw [b1, b3]; rfl, by first | exact HK.out | exact HK.out.drewN _ | exact (HK.out.drewN _).drewN _⟩
    · cases b3 : (re == tk)
      all_goals
        go_wp2_with fail
        go_quiet (fail)
        go_wp2_with fail
        go_ret
        exact ⟨by rw [b1, b3]; rfl, by first | exact HK.out | exact HK.out.drewN _ | exact (HK.out.drewN _).drewN _⟩

set_option maxRecDepth 100000 in
set_option maxHeartbeats 2000000 in
theorem ref_8 {w : World} {hb k1 k2 k3 k4 : Nat} {s : HsD} (h : HMem w hb k1 k2 k3 k4 s)  (po re id li nn : Int) (dv : Value) (hr : okI re) :
    Calls Tryd.prog 60 #[.pointer (some ⟨hb, 0, none⟩), .agg #[.int .i64 8, .int .i64 po, .int .i64 re, .int .i64 id, .int .i64 li, .int .i64 nn, dv]] w (ValEnd (.bool (refB s 8 re)) w) := by
  rw [show refB s 8 re = (((aget s.kinds re).getD 0 == 7) && !(aget s.frm re).isSome) from rfl]
  obtain ⟨q, hq⟩ : ∃ q, w.heap.size = q := ⟨_, rfl⟩
  obtain ⟨wz, hwz⟩ : ∃ wz, w.alloc (.cells #[.int .i64 8, .int .i64 po, .int .i64 re, .int .i64 id, .int .i64 li, .int .i64 nn, dv] 24) = wz := ⟨_, rfl⟩
  have hz : HMem wz hb k1 k2 k3 k4 s := hwz ▸ h.at_alloc _
  have pe : Blk wz q 24 #[.int .i64 8, .int .i64 po, .int .i64 re, .int .i64 id, .int .i64 li, .int .i64 nn, dv] := hwz ▸ hq ▸ Blk.new w 24 _
  have kz : Kept NoBlk w wz := hwz ▸ (Kept.refl NoBlk w).alloc _
  have p0 : wz.cell? ⟨q, 0, none⟩ = some (.int .i64 8) := pe.cell 0
  have p2 : wz.cell? ⟨q, 0 + 2, none⟩ = some (.int .i64 re) := pe.cell 2
  have d3 : wz.cell? ⟨hb, 0 + 3, none⟩ = some (.map (some k1)) := hz.box.cell 3
  have d8 : wz.cell? ⟨hb, 0 + 8, none⟩ = some (.map (some k4)) := hz.box.cell 8
  have L1 : ∀ n, (Instr.lookup 80 (.map (some k1)) (.int .i64 re) false).run Tryd.prog (wz.drewN n) = .ok (.int .i64 ((aget s.kinds re).getD 0)) (wz.drewN n) := fun n => (hz.at_drewN n).kinds.look (wf_of hr)
  have L2 : ∀ n, (Instr.lookup 80 (.map (some k4)) (.int .i64 re) true).run Tryd.prog (wz.drewN n) = .ok (.tuple #[.int .i64 ((aget s.frm re).getD 0), .bool (aget s.frm re).isSome]) (wz.drewN n) := fun n => (hz.at_drewN n).frm.look2 (wf_of hr)
  have HK := Lib.hid kz
  have HZ := Lib.hid hz
  clear hz pe kz h
  obtain ⟨kv, hkv⟩ : ∃ kv, (aget s.kinds re).getD 0 = kv := ⟨_, rfl⟩
  obtain ⟨fv, hfv⟩ : ∃ fv, (aget s.frm re).getD 0 = fv := ⟨_, rfl⟩
  obtain ⟨fs, hfs⟩ : ∃ fs, (aget s.frm re).isSome = fs := ⟨_, rfl⟩
  rw [hkv, hfs]
  simp only [hkv] at L1
  simp only [hfv, hfs] at L2
  clear hkv hfv hfs
  go_enter Tryd.func60, Tryd.ntmps60
  go_upto_region 1 with fail
  clear hwz hq
  cases b1 : (kv == 7)
  all_goals
    cases fs
    all_goals
      go_wp2_with fail
      go_quiet (fail)
      go_wp2_with fail
      go_quiet (fail)
      go_wp2_with fail
      go_ret
      exact ⟨by rw [b1]; rfl, by first | exact HK.out | exact HK.out.drewN _ | exact (HK.out.drewN _).drewN _⟩

set_option maxRecDepth 100000 in
set_option maxHeartbeats 2000000 in
theorem ref_9 {w : World} {hb k1 k2 k3 k4 : Nat} {s : HsD} (h : HMem w hb k1 k2 k3 k4 s)  (po re id li nn : Int) (dv : Value) (hr : okI re) :
    Calls Tryd.prog 60 #[.pointer (some ⟨hb, 0, none⟩), .agg #[.int .i64 9, .int .i64 po, .int .i64 re, .int .i64 id, .int .i64 li, .int .i64 nn, dv]] w (ValEnd (.bool (refB s 9 re)) w) := by
  rw [show refB s 9 re = (((aget s.of_ re).getD 0 != 0)) from rfl]
  obtain ⟨q, hq⟩ : ∃ q, w.heap.size = q := ⟨_, rfl⟩
  obtain ⟨wz, hwz⟩ : ∃ wz, w.alloc (.cells #[.int .i64 9, .int .i64 po, .int .i64 re, .int .i64 id, .int .i64 li, .int .i64 nn, dv] 24) = wz := ⟨_, rfl⟩
  have hz : HMem wz hb k1 k2 k3 k4 s := hwz ▸ h.at_alloc _
  have pe : Blk wz q 24 #[.int .i64 9, .int .i64 po, .int .i64 re, .int .i64 id, .int .i64 li, .int .i64 nn, dv] := hwz ▸ hq ▸ Blk.new w 24 _
  have kz : Kept NoBlk w wz := hwz ▸ (Kept.refl NoBlk w).alloc _
  have p0 : wz.cell? ⟨q, 0, none⟩ = some (.int .i64 9) := pe.cell 0
  have p2 : wz.cell? ⟨q, 0 + 2, none⟩ = some (.int .i64 re) := pe.cell 2
  have d7 : wz.cell? ⟨hb, 0 + 7, none⟩ = some (.map (some k3)) := hz.box.cell 7
  have L1 : ∀ n, (Instr.lookup 80 (.map (some k3)) (.int .i64 re) false).run Tryd.prog (wz.drewN n) = .ok (.int .i64 ((aget s.of_ re).getD 0)) (wz.drewN n) := fun n => (hz.at_drewN n).of_.look (wf_of hr)
  have HK := Lib.hid kz
  have HZ := Lib.hid hz
  clear hz pe kz h
  obtain ⟨kv, hkv⟩ : ∃ kv, (aget s.of_ re).getD 0 = kv := ⟨_, rfl⟩
  rw [hkv]
  simp only [hkv] at L1
  clear hkv
  go_enter Tryd.func60, Tryd.ntmps60
  go_upto_region 1 with fail
  clear hwz hq
  go_wp2_with fail
  go_quiet (fail)
  go_wp2_with fail
  go_ret
  exact ⟨by rfl, by first | exact HK.out | exact HK.out.drewN _ | exact (HK.out.drewN _).drewN _⟩

set_option maxRecDepth 100000 in
set_option maxHeartbeats 2000000 in
theorem ref_10 {w : World} {hb k1 k2 k3 k4 : Nat} {s : HsD} (h : HMem w hb k1 k2 k3 k4 s)  (po re id li nn : Int) (dv : Value) (hr : okI re) :
    Calls Tryd.prog 60 #[.pointer (some ⟨hb, 0, none⟩), .agg #[.int .i64 10, .int .i64 po, .int .i64 re, .int .i64 id, .int .i64 li, .int .i64 nn, dv]] w (ValEnd (.bool (refB s 10 re)) w) := by
  rw [show refB s 10 re = (((aget s.of_ re).getD 0 != 0)) from rfl]
  obtain ⟨q, hq⟩ : ∃ q, w.heap.size = q := ⟨_, rfl⟩
  obtain ⟨wz, hwz⟩ : ∃ wz, w.alloc (.cells #[.int .i64 10, .int .i64 po, .int .i64 re, .int .i64 id, .int .i64 li, .int .i64 nn, dv] 24) = wz := ⟨_, rfl⟩
  have hz : HMem wz hb k1 k2 k3 k4 s := hwz ▸ h.at_alloc _
  have pe : Blk wz q 24 #[.int .i64 10, .int .i64 po, .int .i64 re, .int .i64 id, .int .i64 li, .int .i64 nn, dv] := hwz ▸ hq ▸ Blk.new w 24 _
  have kz : Kept NoBlk w wz := hwz ▸ (Kept.refl NoBlk w).alloc _
  have p0 : wz.cell? ⟨q, 0, none⟩ = some (.int .i64 10) := pe.cell 0
  have p2 : wz.cell? ⟨q, 0 + 2, none⟩ = some (.int .i64 re) := pe.cell 2
  have d7 : wz.cell? ⟨hb, 0 + 7, none⟩ = some (.map (some k3)) := hz.box.cell 7
  have L1 : ∀ n, (Instr.lookup 80 (.map (some k3)) (.int .i64 re) false).run Tryd.prog (wz.drewN n) = .ok (.int .i64 ((aget s.of_ re).getD 0)) (wz.drewN n) := fun n => (hz.at_drewN n).of_.look (wf_of hr)
  have HK := Lib.hid kz
  have HZ := Lib.hid hz
  clear hz pe kz h
  obtain ⟨kv, hkv⟩ : ∃ kv, (aget s.of_ re).getD 0 = kv := ⟨_, rfl⟩
  rw [hkv]
  simp only [hkv] at L1
  clear hkv
  go_enter Tryd.func60, Tryd.ntmps60
  go_upto_region 1 with fail
  clear hwz hq
  go_wp2_with fail
  go_quiet (fail)
  go_wp2_with fail
  go_ret
  exact ⟨by rfl, by first | exact HK.out | exact HK.out.drewN _ | exact (HK.out.drewN _).drewN _⟩

set_option maxRecDepth 100000 in
set_option maxHeartbeats 2000000 in
theorem ref_11 {w : World} {hb k1 k2 k3 k4 : Nat} {s : HsD} (h : HMem w hb k1 k2 k3 k4 s)  (po re id li nn : Int) (dv : Value) (hr : okI re) :
    Calls Tryd.prog 60 #[.pointer (some ⟨hb, 0, none⟩), .agg #[.int .i64 11, .int .i64 po, .int .i64 re, .int .i64 id, .int .i64 li, .int .i64 nn, dv]] w (ValEnd (.bool (refB s 11 re)) w) := by
  rw [show refB s 11 re = (((aget s.of_ re).getD 0 != 0)) from rfl]
  obtain ⟨q, hq⟩ : ∃ q, w.heap.size = q := ⟨_, rfl⟩
  obtain ⟨wz, hwz⟩ : ∃ wz, w.alloc (.cells #[.int .i64 11, .int .i64 po, .int .i64 re, .int .i64 id, .int .i64 li, .int .i64 nn, dv] 24) = wz := ⟨_, rfl⟩
  have hz : HMem wz hb k1 k2 k3 k4 s := hwz ▸ h.at_alloc _
  have pe : Blk wz q 24 #[.int .i64 11, .int .i64 po, .int .i64 re, .int .i64 id, .int .i64 li, .int .i64 nn, dv] := hwz ▸ hq ▸ Blk.new w 24 _
  have kz : Kept NoBlk w wz := hwz ▸ (Kept.refl NoBlk w).alloc _
  have p0 : wz.cell? ⟨q, 0, none⟩ = some (.int .i64 11) := pe.cell 0
  have p2 : wz.cell? ⟨q, 0 + 2, none⟩ = some (.int .i64 re) := pe.cell 2
  have d7 : wz.cell? ⟨hb, 0 + 7, none⟩ = some (.map (some k3)) := hz.box.cell 7
  have L1 : ∀ n, (Instr.lookup 80 (.map (some k3)) (.int .i64 re) false).run Tryd.prog (wz.drewN n) = .ok (.int .i64 ((aget s.of_ re).getD 0)) (wz.drewN n) := fun n => (hz.at_drewN n).of_.look (wf_of hr)
  have HK := Lib.hid kz
  have HZ := Lib.hid hz
  clear hz pe kz h
  obtain ⟨kv, hkv⟩ : ∃ kv, (aget s.of_ re).getD 0 = kv := ⟨_, rfl⟩
  rw [hkv]
  simp only [hkv] at L1
  clear hkv
  go_enter Tryd.func60, Tryd.ntmps60
  go_upto_region 1 with fail
  clear hwz hq
  go_wp2_with fail
  go_quiet (fail)
  go_wp2_with fail
  go_ret
  exact ⟨by rfl, by first | exact HK.out | exact HK.out.drewN _ | exact (HK.out.drewN _).drewN _⟩

set_option maxRecDepth 100000 in
set_option maxHeartbeats 2000000 in
theorem ref_13 {w : World} {hb k1 k2 k3 k4 : Nat} {s : HsD} (h : HMem w hb k1 k2 k3 k4 s)  (po re id li nn : Int) (dv : Value) (hr : okI re) :
    Calls Tryd.prog 60 #[.pointer (some ⟨hb, 0, none⟩), .agg #[.int .i64 13, .int .i64 po, .int .i64 re, .int .i64 id, .int .i64 li, .int .i64 nn, dv]] w (ValEnd (.bool (refB s 13 re)) w) := by
  rw [show refB s 13 re = (((aget s.kinds re).getD 0 == 12)) from rfl]
  obtain ⟨q, hq⟩ : ∃ q, w.heap.size = q := ⟨_, rfl⟩
  obtain ⟨wz, hwz⟩ : ∃ wz, w.alloc (.cells #[.int .i64 13, .int .i64 po, .int .i64 re, .int .i64 id, .int .i64 li, .int .i64 nn, dv] 24) = wz := ⟨_, rfl⟩
  have hz : HMem wz hb k1 k2 k3 k4 s := hwz ▸ h.at_alloc _
  have pe : Blk wz q 24 #[.int .i64 13, .int .i64 po, .int .i64 re, .int .i64 id, .int .i64 li, .int .i64 nn, dv] := hwz ▸ hq ▸ Blk.new w 24 _
  have kz : Kept NoBlk w wz := hwz ▸ (Kept.refl NoBlk w).alloc _
  have p0 : wz.cell? ⟨q, 0, none⟩ = some (.int .i64 13) := pe.cell 0
  have p2 : wz.cell? ⟨q, 0 + 2, none⟩ = some (.int .i64 re) := pe.cell 2
  have d3 : wz.cell? ⟨hb, 0 + 3, none⟩ = some (.map (some k1)) := hz.box.cell 3
  have L1 : ∀ n, (Instr.lookup 80 (.map (some k1)) (.int .i64 re) false).run Tryd.prog (wz.drewN n) = .ok (.int .i64 ((aget s.kinds re).getD 0)) (wz.drewN n) := fun n => (hz.at_drewN n).kinds.look (wf_of hr)
  have HK := Lib.hid kz
  have HZ := Lib.hid hz
  clear hz pe kz h
  obtain ⟨kv, hkv⟩ : ∃ kv, (aget s.kinds re).getD 0 = kv := ⟨_, rfl⟩
  rw [hkv]
  simp only [hkv] at L1
  clear hkv
  go_enter Tryd.func60, Tryd.ntmps60
  go_upto_region 1 with fail
  clear hwz hq
  go_wp2_with fail
  go_quiet (fail)
  go_wp2_with fail
  go_ret
  exact ⟨by rfl, by first | exact HK.out | exact HK.out.drewN _ | exact (HK.out.drewN _).drewN _⟩

set_option maxRecDepth 100000 in
set_option maxHeartbeats 2000000 in
theorem ref_14 {w : World} {hb k1 k2 k3 k4 : Nat} {s : HsD} (h : HMem w hb k1 k2 k3 k4 s)  (po re id li nn : Int) (dv : Value) (hr : okI re) :
    Calls Tryd.prog 60 #[.pointer (some ⟨hb, 0, none⟩), .agg #[.int .i64 14, .int .i64 po, .int .i64 re, .int .i64 id, .int .i64 li, .int .i64 nn, dv]] w (ValEnd (.bool (refB s 14 re)) w) := by
  rw [show refB s 14 re = (((aget s.kinds re).getD 0 == 12)) from rfl]
  obtain ⟨q, hq⟩ : ∃ q, w.heap.size = q := ⟨_, rfl⟩
  obtain ⟨wz, hwz⟩ : ∃ wz, w.alloc (.cells #[.int .i64 14, .int .i64 po, .int .i64 re, .int .i64 id, .int .i64 li, .int .i64 nn, dv] 24) = wz := ⟨_, rfl⟩
  have hz : HMem wz hb k1 k2 k3 k4 s := hwz ▸ h.at_alloc _
  have pe : Blk wz q 24 #[.int .i64 14, .int .i64 po, .int .i64 re, .int .i64 id, .int .i64 li, .int .i64 nn, dv] := hwz ▸ hq ▸ Blk.new w 24 _
  have kz : Kept NoBlk w wz := hwz ▸ (Kept.refl NoBlk w).alloc _
  have p0 : wz.cell? ⟨q, 0, none⟩ = some (.int .i64 14) := pe.cell 0
  have p2 : wz.cell? ⟨q, 0 + 2, none⟩ = some (.int .i64 re) := pe.cell 2
  have d3 : wz.cell? ⟨hb, 0 + 3, none⟩ = some (.map (some k1)) := hz.box.cell 3
  have L1 : ∀ n, (Instr.lookup 80 (.map (some k1)) (.int .i64 re) false).run Tryd.prog (wz.drewN n) = .ok (.int .i64 ((aget s.kinds re).getD 0)) (wz.drewN n) := fun n => (hz.at_drewN n).kinds.look (wf_of hr)
  have HK := Lib.hid kz
  have HZ := Lib.hid hz
  clear hz pe kz h
  obtain ⟨kv, hkv⟩ : ∃ kv, (aget s.kinds re).getD 0 = kv := ⟨_, rfl⟩
  rw [hkv]
  simp only [hkv] at L1
  clear hkv
  go_enter Tryd.func60, Tryd.ntmps60
  go_upto_region 1 with fail
  clear hwz hq
  go_wp2_with fail
  go_quiet (fail)
  go_wp2_with fail
  go_ret
  exact ⟨by rfl, by first | exact HK.out | exact HK.out.drewN _ | exact (HK.out.drewN _).drewN _⟩

set_option maxRecDepth 100000 in
set_option maxHeartbeats 2000000 in
theorem ref_18 {w : World} {hb k1 k2 k3 k4 : Nat} {s : HsD} (h : HMem w hb k1 k2 k3 k4 s)  (po re id li nn : Int) (dv : Value) (hr : okI re) :
    Calls Tryd.prog 60 #[.pointer (some ⟨hb, 0, none⟩), .agg #[.int .i64 18, .int .i64 po, .int .i64 re, .int .i64 id, .int .i64 li, .int .i64 nn, dv]] w (ValEnd (.bool (refB s 18 re)) w) := by
  rw [show refB s 18 re = (((aget s.kinds re).getD 0 == 17)) from rfl]
  obtain ⟨q, hq⟩ : ∃ q, w.heap.size = q := ⟨_, rfl⟩
  obtain ⟨wz, hwz⟩ : ∃ wz, w.alloc (.cells #[.int .i64 18, .int .i64 po, .int .i64 re, .int .i64 id, .int .i64 li, .int .i64 nn, dv] 24) = wz := ⟨_, rfl⟩
  have hz : HMem wz hb k1 k2 k3 k4 s := hwz ▸ h.at_alloc _
  have pe : Blk wz q 24 #[.int .i64 18, .int .i64 po, .int .i64 re, .int .i64 id, .int .i64 li, .int .i64 nn, dv] := hwz ▸ hq ▸ Blk.new w 24 _
  have kz : Kept NoBlk w wz := hwz ▸ (Kept.refl NoBlk w).alloc _
  have p0 : wz.cell? ⟨q, 0, none⟩ = some (.int .i64 18) := pe.cell 0
  have p2 : wz.cell? ⟨q, 0 + 2, none⟩ = some (.int .i64 re) := pe.cell 2
  have d3 : wz.cell? ⟨hb, 0 + 3, none⟩ = some (.map (some k1)) := hz.box.cell 3
  have L1 : ∀ n, (Instr.lookup 80 (.map (some k1)) (.int .i64 re) false).run Tryd.prog (wz.drewN n) = .ok (.int .i64 ((aget s.kinds re).getD 0)) (wz.drewN n) := fun n => (hz.at_drewN n).kinds.look (wf_of hr)
  have HK := Lib.hid kz
  have HZ := Lib.hid hz
  clear hz pe kz h
  obtain ⟨kv, hkv⟩ : ∃ kv, (aget s.kinds re).getD 0 = kv := ⟨_, rfl⟩
  rw [hkv]
  simp only [hkv] at L1
  clear hkv
  go_enter Tryd.func60, Tryd.ntmps60
  go_upto_region 1 with fail
  clear hwz hq
  go_wp2_with fail
  go_quiet (fail)
  go_wp2_with fail
  go_ret
  exact ⟨by rfl, by first | exact HK.out | exact HK.out.drewN _ | exact (HK.out.drewN _).drewN _⟩

set_option maxRecDepth 100000 in
set_option maxHeartbeats 2000000 in
theorem ref_other {w : World} {hb k1 k2 k3 k4 : Nat} {s : HsD} (h : HMem w hb k1 k2 k3 k4 s) {ki : Int} (n3 : ¬ ki = 3) (n4 : ¬ ki = 4) (n5 : ¬ ki = 5) (n6 : ¬ ki = 6) (n8 : ¬ ki = 8) (n9 : ¬ ki = 9) (n10 : ¬ ki = 10) (n11 : ¬ ki = 11) (n13 : ¬ ki = 13) (n14 : ¬ ki = 14) (n18 : ¬ ki = 18) (po re id li nn : Int) (dv : Value) (_hr : okI re) :
    Calls Tryd.prog 60 #[.pointer (some ⟨hb, 0, none⟩), .agg #[.int .i64 ki, .int .i64 po, .int .i64 re, .int .i64 id, .int .i64 li, .int .i64 nn, dv]] w (ValEnd (.bool (refB s ki re)) w) := by
  have hB : refB s ki re = (re == 0) := by
    unfold refB
    rw [if_neg n3, if_neg (by omega), if_neg n8, if_neg (by omega), if_neg (by omega), if_neg n18]
  rw [hB]
  clear hB
  obtain ⟨q, hq⟩ : ∃ q, w.heap.size = q := ⟨_, rfl⟩
  obtain ⟨wz, hwz⟩ : ∃ wz, w.alloc (.cells #[.int .i64 ki, .int .i64 po, .int .i64 re, .int .i64 id, .int .i64 li, .int .i64 nn, dv] 24) = wz := ⟨_, rfl⟩
  have hz : HMem wz hb k1 k2 k3 k4 s := hwz ▸ h.at_alloc _
  have pe : Blk wz q 24 #[.int .i64 ki, .int .i64 po, .int .i64 re, .int .i64 id, .int .i64 li, .int .i64 nn, dv] := hwz ▸ hq ▸ Blk.new w 24 _
  have kz : Kept NoBlk w wz := hwz ▸ (Kept.refl NoBlk w).alloc _
  have p0 : wz.cell? ⟨q, 0, none⟩ = some (.int .i64 ki) := pe.cell 0
  have p2 : wz.cell? ⟨q, 0 + 2, none⟩ = some (.int .i64 re) := pe.cell 2
  have HK := Lib.hid kz
  have HZ := Lib.hid hz
  clear hz pe kz h
  go_enter Tryd.func60, Tryd.ntmps60
  go_upto_region 1 with fail
  clear hwz hq
  go_wp2_with fail
  go_ret
  exact ⟨by first | rfl | simp, by first | exact HK.out | exact HK.out.drewN _ | exact (HK.out.drewN _).drewN _⟩

theorem ref_any {w : World} {hb k1 k2 k3 k4 : Nat} {s : HsD} (h : HMem w hb k1 k2 k3 k4 s) (e : EvD) (dv : Value) (hr : okI e.ref) :
    Calls Tryd.prog 60 #[.pointer (some ⟨hb, 0, none⟩), aggE e dv] w (ValEnd (.bool (refB s e.kind e.ref)) w) := by
  obtain ⟨ki, po, re, id, li, nn, bs⟩ := e
  unfold aggE
  by_cases n3 : ki = 3
  · subst n3; exact ref_3 h po re id li nn dv hr
  by_cases n4 : ki = 4
  · subst n4; exact ref_4 h po re id li nn dv hr
  by_cases n5 : ki = 5
  · subst n5; exact ref_5 h po re id li nn dv hr
  by_cases n6 : ki = 6
  · subst n6; exact ref_6 h po re id li nn dv hr
  by_cases n8 : ki = 8
  · subst n8; exact ref_8 h po re id li nn dv hr
  by_cases n9 : ki = 9
  · subst n9; exact ref_9 h po re id li nn dv hr
  by_cases n10 : ki = 10
  · subst n10; exact ref_10 h po re id li nn dv hr
  by_cases n11 : ki = 11
  · subst n11; exact ref_11 h po re id li nn dv hr
  by_cases n13 : ki = 13
  · subst n13; exact ref_13 h po re id li nn dv hr
  by_cases n14 : ki = 14
  · subst n14; exact ref_14 h po re id li nn dv hr
  by_cases n18 : ki = 18
  · subst n18; exact ref_18 h po re id li nn dv hr
  exact ref_other h n3 n4 n5 n6 n8 n9 n10 n11 n13 n14 n18 po re id li nn dv hr
#print axioms ref_any
end Go.Proofs.YtndnbjpcjlbcjaaDoor
