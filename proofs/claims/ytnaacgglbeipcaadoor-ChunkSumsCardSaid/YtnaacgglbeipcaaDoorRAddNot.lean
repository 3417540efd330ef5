/- The document's Builder.Add where the piece is not taken. -/
import Derived.Test.YtnaacgglbeipcaaDoorAddBad
namespace Go.Proofs.YtnaacgglbeipcaaDoor
open Go.RowKit

def RAddBad (r : Int) (w : World) (e : Ending) (w' : World) : Prop := e = .returned (.tuple #[.bool false, .int .i64 r]) ∧ Kept NoBlk w w'

set_option maxRecDepth 100000 in
set_option maxHeartbeats 2000000 in
theorem radd_bad {w : World} {bb : Nat} {pi pp pt pu : Int} {A' : Option Addr} {L c' : Nat} (hL : L ≤ 140737488351232) (hbad : badN pi pp pt L) :
    Calls Tryd.prog 18 #[.pointer (some ⟨bb, 0, none⟩), .agg #[.int .i64 pi, .int .i64 pp, .int .i64 pt, .int .u32 pu, .slice A' L c']] w (RAddBad 1 w) := by
  have HBad := Lib.hid (badN_steps hbad)
  clear hbad
  go_enter Tryd.func18, Tryd.ntmps18
  go_upto_region 1 with fail
  go_cut [53] (fun u wx => u = .bool true ∧ Kept NoBlk w wx)
  case first =>
    rcases HBad.out with q1 | ⟨q1, q2⟩ | ⟨q1, q2, q3⟩ | ⟨q1, q2, q3, q4⟩ | ⟨q1, q2, q3, q4, q5⟩ | ⟨q1, q2, q3, q4, q5, q6, q7⟩ | ⟨q1, q2, q3, q4, q5, q6 | ⟨q6, q7⟩, q8⟩
    all_goals
      go_wp2_with fail
      go_meet
      exact ⟨by simp; try omega, (Kept.refl NoBlk w).alloc _⟩
  case rest =>
    obtain ⟨hv, hK⟩ := hcut
    rw [hv]
    go_wp2_with fail
    go_ret2
    exact ⟨rfl, hK⟩

set_option maxRecDepth 100000 in
set_option maxHeartbeats 4000000 in
theorem radd_old {w : World} {bb : Nat} {s : BlD} (h : RBld w bb s) {pi pt pu : Int} {A' : Option Addr} {pos L c' : Nat} (hbad : ¬ badN pi pos pt L) (hold : pi < s.id) :
    Calls Tryd.prog 18 #[.pointer (some ⟨bb, 0, none⟩), .agg #[.int .i64 pi, .int .i64 pos, .int .i64 pt, .int .u32 pu, .slice A' L c']] w (RAddBad 6 w) := by
  have H := Lib.hid h
  unfold badN at hbad
  simp only [not_or] at hbad
  obtain ⟨b1, b2, b3, b4, b5, b6, b7⟩ := hbad
  obtain ⟨A, c, h1, h2, h3⟩ := h
  have hlt := h1.lt
  have hne : bb ≠ w.heap.size := by omega
  obtain ⟨i, hi⟩ : ∃ i, s.id = i := ⟨_, rfl⟩
  obtain ⟨sd, hsd⟩ : ∃ sd, s.data.length = sd := ⟨_, rfl⟩
  obtain ⟨st, hst⟩ : ∃ st, s.total = st := ⟨_, rfl⟩
  obtain ⟨su, hsu⟩ : ∃ su, s.sum = su := ⟨_, rfl⟩
  rw [hsd] at h3
  rw [hi] at hold
  have hid : ¬ i < pi := by omega
  have HI := Lib.hid hi
  have HSD := Lib.hid hsd
  have HST := Lib.hid hst
  have HSU := Lib.hid hsu
  have H6 := Lib.hid b6
  clear h1 h2 hi b6 hsd hst hsu
  go_enter Tryd.func18, Tryd.ntmps18
  go_upto_region 1 with fail
  go_cut [53] (fun u wx => u = .bool false ∧ RBld wx bb s ∧ Blk wx w.heap.size 37 #[.int .i64 pi, .int .i64 pos, .int .i64 pt, .int .u32 pu, .slice A' L c'] ∧ Kept NoBlk w wx)
  case first =>
    have k0 : Kept NoBlk w (w.alloc (.cells #[.int .i64 pi, .int .i64 pos, .int .i64 pt, .int .u32 pu, .slice A' L c'] 37)) := (Kept.refl NoBlk w).alloc _
    have K0 := Lib.hid k0
    clear k0
    have q : ((L : Int) == 0) = false ∨ (((L : Int) == 0) = true ∧ (pt != 0) = false) := by
      have := H6.out
      simp only [beq_iff_eq, beq_eq_false_iff_ne, bne_eq_false_iff_eq, ne_eq]
      omega
    rcases q with q | ⟨q, q'⟩
    all_goals
      go_wp2_with fail
      go_meet
      exact ⟨by simp; try omega, H.out.same K0.out, Blk.new w 37 _, K0.out⟩
  case rest =>
    obtain ⟨hv, hB, hP, hK⟩ := hcut
    rw [hv]
    have HB := Lib.hid hB
    have HP := Lib.hid hP
    have HK := Lib.hid hK
    have p0 : wc.cell? ⟨w.heap.size, 0, none⟩ = some (.int .i64 pi) := hP.cell 0
    have p1 : wc.cell? ⟨w.heap.size, 0 + 1, none⟩ = some (.int .i64 pos) := hP.cell 1
    have p2 : wc.cell? ⟨w.heap.size, 0 + 2, none⟩ = some (.int .i64 pt) := hP.cell 2
    have p3 : wc.cell? ⟨w.heap.size, 0 + 3, none⟩ = some (.int .u32 pu) := hP.cell 3
    have p4 : wc.cell? ⟨w.heap.size, 0 + 4, none⟩ = some (.slice A' L c') := hP.cell 4
    clear hB hP hK hv
    obtain ⟨A1, c1, g1, _, _⟩ := HB.out
    have d0 : wc.cell? ⟨bb, 0, none⟩ = some (.int .i64 s.id) := g1.cell 0
    have d1 : wc.cell? ⟨bb, 0 + 1, none⟩ = some (.int .i64 s.total) := g1.cell 1
    have d2 : wc.cell? ⟨bb, 0 + 2, none⟩ = some (.int .u32 s.sum) := g1.cell 2
    have d3 : wc.cell? ⟨bb, 0 + 3, none⟩ = some (.slice A1 s.data.length c1) := g1.cell 3
    rw [HI.out] at d0
    rw [HST.out] at d1
    rw [HSU.out] at d2
    rw [HSD.out] at d3
    have f0 := g1.frozen
    have G1 := Lib.hid g1
    clear g1
    go_wp2_with fail
    go_quiet (fail)
    go_wp2_with fail
    go_ret2
    exact ⟨rfl, by first | exact HK.out.drewN _ | exact (HK.out.drewN _).drewN _ | exact ((HK.out.drewN _).drewN _).drewN _⟩
set_option maxRecDepth 100000 in
set_option maxHeartbeats 4000000 in
theorem radd_form1 {w : World} {bb : Nat} {s : BlD} (h : RBld w bb s) {pi pt pu : Int} {A' : Option Addr} {pos L c' : Nat} (hbad : ¬ badN pi pos pt L) (heq : pi = s.id) (hf : pt ≠ s.total) :
    Calls Tryd.prog 18 #[.pointer (some ⟨bb, 0, none⟩), .agg #[.int .i64 pi, .int .i64 pos, .int .i64 pt, .int .u32 pu, .slice A' L c']] w (RAddBad 8 w) := by
  have H := Lib.hid h
  unfold badN at hbad
  simp only [not_or] at hbad
  obtain ⟨b1, b2, b3, b4, b5, b6, b7⟩ := hbad
  obtain ⟨A, c, h1, h2, h3⟩ := h
  have hlt := h1.lt
  have hne : bb ≠ w.heap.size := by omega
  obtain ⟨i, hi⟩ : ∃ i, s.id = i := ⟨_, rfl⟩
  obtain ⟨sd, hsd⟩ : ∃ sd, s.data.length = sd := ⟨_, rfl⟩
  obtain ⟨st, hst⟩ : ∃ st, s.total = st := ⟨_, rfl⟩
  obtain ⟨su, hsu⟩ : ∃ su, s.sum = su := ⟨_, rfl⟩
  rw [hsd] at h3
  rw [hst] at hf
  have hf1 : (st != pt) = true := by simpa using fun e => hf e.symm
  clear hf
  obtain rfl : pi = i := by rw [heq, hi]
  have hid : ¬ pi < pi := by omega
  clear heq
  have HI := Lib.hid hi
  have HSD := Lib.hid hsd
  have HST := Lib.hid hst
  have HSU := Lib.hid hsu
  have H6 := Lib.hid b6
  clear h1 h2 hi b6 hsd hst hsu
  go_enter Tryd.func18, Tryd.ntmps18
  go_upto_region 1 with fail
  go_cut [53] (fun u wx => u = .bool false ∧ RBld wx bb s ∧ Blk wx w.heap.size 37 #[.int .i64 pi, .int .i64 pos, .int .i64 pt, .int .u32 pu, .slice A' L c'] ∧ Kept NoBlk w wx)
  case first =>
    have k0 : Kept NoBlk w (w.alloc (.cells #[.int .i64 pi, .int .i64 pos, .int .i64 pt, .int .u32 pu, .slice A' L c'] 37)) := (Kept.refl NoBlk w).alloc _
    have K0 := Lib.hid k0
    clear k0
    have q : ((L : Int) == 0) = false ∨ (((L : Int) == 0) = true ∧ (pt != 0) = false) := by
      have := H6.out
      simp only [beq_iff_eq, beq_eq_false_iff_ne, bne_eq_false_iff_eq, ne_eq]
      omega
    rcases q with q | ⟨q, q'⟩
    all_goals
      go_wp2_with fail
      go_meet
      exact ⟨by simp; try omega, H.out.same K0.out, Blk.new w 37 _, K0.out⟩
  case rest =>
    obtain ⟨hv, hB, hP, hK⟩ := hcut
    rw [hv]
    have HB := Lib.hid hB
    have HP := Lib.hid hP
    have HK := Lib.hid hK
    have p0 : wc.cell? ⟨w.heap.size, 0, none⟩ = some (.int .i64 pi) := hP.cell 0
    have p1 : wc.cell? ⟨w.heap.size, 0 + 1, none⟩ = some (.int .i64 pos) := hP.cell 1
    have p2 : wc.cell? ⟨w.heap.size, 0 + 2, none⟩ = some (.int .i64 pt) := hP.cell 2
    have p3 : wc.cell? ⟨w.heap.size, 0 + 3, none⟩ = some (.int .u32 pu) := hP.cell 3
    have p4 : wc.cell? ⟨w.heap.size, 0 + 4, none⟩ = some (.slice A' L c') := hP.cell 4
    clear hB hP hK hv
    obtain ⟨A1, c1, g1, _, _⟩ := HB.out
    have d0 : wc.cell? ⟨bb, 0, none⟩ = some (.int .i64 s.id) := g1.cell 0
    have d1 : wc.cell? ⟨bb, 0 + 1, none⟩ = some (.int .i64 s.total) := g1.cell 1
    have d2 : wc.cell? ⟨bb, 0 + 2, none⟩ = some (.int .u32 s.sum) := g1.cell 2
    have d3 : wc.cell? ⟨bb, 0 + 3, none⟩ = some (.slice A1 s.data.length c1) := g1.cell 3
    rw [HI.out] at d0
    rw [HST.out] at d1
    rw [HSU.out] at d2
    rw [HSD.out] at d3
    have f0 := g1.frozen
    have G1 := Lib.hid g1
    clear g1
    go_wp2_with fail
    go_quiet (fail)
    go_wp2_with fail
    go_quiet (fail)
    go_wp2_with fail
    go_ret2
    exact ⟨rfl, by first | exact HK.out.drewN _ | exact (HK.out.drewN _).drewN _ | exact ((HK.out.drewN _).drewN _).drewN _⟩
set_option maxRecDepth 100000 in
set_option maxHeartbeats 4000000 in
theorem radd_form2 {w : World} {bb : Nat} {s : BlD} (h : RBld w bb s) {pi pt pu : Int} {A' : Option Addr} {pos L c' : Nat} (hbad : ¬ badN pi pos pt L) (heq : pi = s.id) (hf0 : pt = s.total) (hf : pu ≠ s.sum) :
    Calls Tryd.prog 18 #[.pointer (some ⟨bb, 0, none⟩), .agg #[.int .i64 pi, .int .i64 pos, .int .i64 pt, .int .u32 pu, .slice A' L c']] w (RAddBad 8 w) := by
  have H := Lib.hid h
  unfold badN at hbad
  simp only [not_or] at hbad
  obtain ⟨b1, b2, b3, b4, b5, b6, b7⟩ := hbad
  obtain ⟨A, c, h1, h2, h3⟩ := h
  have hlt := h1.lt
  have hne : bb ≠ w.heap.size := by omega
  obtain ⟨i, hi⟩ : ∃ i, s.id = i := ⟨_, rfl⟩
  obtain ⟨sd, hsd⟩ : ∃ sd, s.data.length = sd := ⟨_, rfl⟩
  obtain ⟨st, hst⟩ : ∃ st, s.total = st := ⟨_, rfl⟩
  obtain ⟨su, hsu⟩ : ∃ su, s.sum = su := ⟨_, rfl⟩
  rw [hsd] at h3
  rw [hst] at hf0
  rw [hsu] at hf
  have hf2 : (su != pu) = true := by simpa using fun e => hf e.symm
  clear hf
  obtain rfl : pt = st := hf0
  obtain rfl : pi = i := by rw [heq, hi]
  have hid : ¬ pi < pi := by omega
  clear heq
  have HI := Lib.hid hi
  have HSD := Lib.hid hsd
  have HST := Lib.hid hst
  have HSU := Lib.hid hsu
  have H6 := Lib.hid b6
  clear h1 h2 hi b6 hsd hst hsu
  go_enter Tryd.func18, Tryd.ntmps18
  go_upto_region 1 with fail
  go_cut [53] (fun u wx => u = .bool false ∧ RBld wx bb s ∧ Blk wx w.heap.size 37 #[.int .i64 pi, .int .i64 pos, .int .i64 pt, .int .u32 pu, .slice A' L c'] ∧ Kept NoBlk w wx)
  case first =>
    have k0 : Kept NoBlk w (w.alloc (.cells #[.int .i64 pi, .int .i64 pos, .int .i64 pt, .int .u32 pu, .slice A' L c'] 37)) := (Kept.refl NoBlk w).alloc _
    have K0 := Lib.hid k0
    clear k0
    have q : ((L : Int) == 0) = false ∨ (((L : Int) == 0) = true ∧ (pt != 0) = false) := by
      have := H6.out
      simp only [beq_iff_eq, beq_eq_false_iff_ne, bne_eq_false_iff_eq, ne_eq]
      omega
    rcases q with q | ⟨q, q'⟩
    all_goals
      go_wp2_with fail
      go_meet
      exact ⟨by simp; try omega, H.out.same K0.out, Blk.new w 37 _, K0.out⟩
  case rest =>
    obtain ⟨hv, hB, hP, hK⟩ := hcut
    rw [hv]
    have HB := Lib.hid hB
    have HP := Lib.hid hP
    have HK := Lib.hid hK
    have p0 : wc.cell? ⟨w.heap.size, 0, none⟩ = some (.int .i64 pi) := hP.cell 0
    have p1 : wc.cell? ⟨w.heap.size, 0 + 1, none⟩ = some (.int .i64 pos) := hP.cell 1
    have p2 : wc.cell? ⟨w.heap.size, 0 + 2, none⟩ = some (.int .i64 pt) := hP.cell 2
    have p3 : wc.cell? ⟨w.heap.size, 0 + 3, none⟩ = some (.int .u32 pu) := hP.cell 3
    have p4 : wc.cell? ⟨w.heap.size, 0 + 4, none⟩ = some (.slice A' L c') := hP.cell 4
    clear hB hP hK hv
    obtain ⟨A1, c1, g1, _, _⟩ := HB.out
    have d0 : wc.cell? ⟨bb, 0, none⟩ = some (.int .i64 s.id) := g1.cell 0
    have d1 : wc.cell? ⟨bb, 0 + 1, none⟩ = some (.int .i64 s.total) := g1.cell 1
    have d2 : wc.cell? ⟨bb, 0 + 2, none⟩ = some (.int .u32 s.sum) := g1.cell 2
    have d3 : wc.cell? ⟨bb, 0 + 3, none⟩ = some (.slice A1 s.data.length c1) := g1.cell 3
    rw [HI.out] at d0
    rw [HST.out] at d1
    rw [HSU.out] at d2
    rw [HSD.out] at d3
    have f0 := g1.frozen
    have G1 := Lib.hid g1
    clear g1
    go_wp2_with fail
    go_quiet (fail)
    go_wp2_with fail
    go_quiet (fail)
    go_wp2_with fail
    go_ret2
    exact ⟨rfl, by first | exact HK.out.drewN _ | exact (HK.out.drewN _).drewN _ | exact ((HK.out.drewN _).drewN _).drewN _⟩
set_option maxRecDepth 100000 in
set_option maxHeartbeats 4000000 in
theorem radd_far_new {w : World} {bb : Nat} {s : BlD} (h : RBld w bb s) {pi pt pu : Int} {A' : Option Addr} {pos L c' : Nat} (hbad : ¬ badN pi pos pt L) (hnew : s.id < pi) (hfar : ¬ pos ≤ 0) :
    Calls Tryd.prog 18 #[.pointer (some ⟨bb, 0, none⟩), .agg #[.int .i64 pi, .int .i64 pos, .int .i64 pt, .int .u32 pu, .slice A' L c']] w (RAddBad 6 w) := by
  have H := Lib.hid h
  unfold badN at hbad
  simp only [not_or] at hbad
  obtain ⟨b1, b2, b3, b4, b5, b6, b7⟩ := hbad
  obtain ⟨A, c, h1, h2, h3⟩ := h
  have hlt := h1.lt
  have hne : bb ≠ w.heap.size := by omega
  obtain ⟨i, hi⟩ : ∃ i, s.id = i := ⟨_, rfl⟩
  obtain ⟨sd, hsd⟩ : ∃ sd, s.data.length = sd := ⟨_, rfl⟩
  obtain ⟨st, hst⟩ : ∃ st, s.total = st := ⟨_, rfl⟩
  obtain ⟨su, hsu⟩ : ∃ su, s.sum = su := ⟨_, rfl⟩
  rw [hsd] at h3
  rw [hi] at hnew
  have hb1 : (i == pi) = false := by simp; omega
  have hb2 : (0 : Int) < (pos : Int) := by omega
  have HI := Lib.hid hi
  have HSD := Lib.hid hsd
  have HST := Lib.hid hst
  have HSU := Lib.hid hsu
  have H6 := Lib.hid b6
  clear h1 h2 hi b6 hsd hst hsu
  go_enter Tryd.func18, Tryd.ntmps18
  go_upto_region 1 with fail
  go_cut [53] (fun u wx => u = .bool false ∧ RBld wx bb s ∧ Blk wx w.heap.size 37 #[.int .i64 pi, .int .i64 pos, .int .i64 pt, .int .u32 pu, .slice A' L c'] ∧ Kept NoBlk w wx)
  case first =>
    have k0 : Kept NoBlk w (w.alloc (.cells #[.int .i64 pi, .int .i64 pos, .int .i64 pt, .int .u32 pu, .slice A' L c'] 37)) := (Kept.refl NoBlk w).alloc _
    have K0 := Lib.hid k0
    clear k0
    have q : ((L : Int) == 0) = false ∨ (((L : Int) == 0) = true ∧ (pt != 0) = false) := by
      have := H6.out
      simp only [beq_iff_eq, beq_eq_false_iff_ne, bne_eq_false_iff_eq, ne_eq]
      omega
    rcases q with q | ⟨q, q'⟩
    all_goals
      go_wp2_with fail
      go_meet
      exact ⟨by simp; try omega, H.out.same K0.out, Blk.new w 37 _, K0.out⟩
  case rest =>
    obtain ⟨hv, hB, hP, hK⟩ := hcut
    rw [hv]
    have HB := Lib.hid hB
    have HP := Lib.hid hP
    have HK := Lib.hid hK
    have p0 : wc.cell? ⟨w.heap.size, 0, none⟩ = some (.int .i64 pi) := hP.cell 0
    have p1 : wc.cell? ⟨w.heap.size, 0 + 1, none⟩ = some (.int .i64 pos) := hP.cell 1
    have p2 : wc.cell? ⟨w.heap.size, 0 + 2, none⟩ = some (.int .i64 pt) := hP.cell 2
    have p3 : wc.cell? ⟨w.heap.size, 0 + 3, none⟩ = some (.int .u32 pu) := hP.cell 3
    have p4 : wc.cell? ⟨w.heap.size, 0 + 4, none⟩ = some (.slice A' L c') := hP.cell 4
    clear hB hP hK hv
    obtain ⟨A1, c1, g1, _, _⟩ := HB.out
    have d0 : wc.cell? ⟨bb, 0, none⟩ = some (.int .i64 s.id) := g1.cell 0
    have d1 : wc.cell? ⟨bb, 0 + 1, none⟩ = some (.int .i64 s.total) := g1.cell 1
    have d2 : wc.cell? ⟨bb, 0 + 2, none⟩ = some (.int .u32 s.sum) := g1.cell 2
    have d3 : wc.cell? ⟨bb, 0 + 3, none⟩ = some (.slice A1 s.data.length c1) := g1.cell 3
    rw [HI.out] at d0
    rw [HST.out] at d1
    rw [HSU.out] at d2
    rw [HSD.out] at d3
    have f0 := g1.frozen
    have G1 := Lib.hid g1
    clear g1
    go_wp2_with fail
    go_quiet (fail)
    go_wp2_with fail
    go_quiet (fail)
    go_wp2_with fail
    go_quiet (fail)
    go_wp2_with fail
    go_ret2
    exact ⟨rfl, by first | exact HK.out.drewN _ | exact (HK.out.drewN _).drewN _ | exact ((HK.out.drewN _).drewN _).drewN _⟩
set_option maxRecDepth 100000 in
set_option maxHeartbeats 4000000 in
theorem radd_far_same {w : World} {bb : Nat} {s : BlD} (h : RBld w bb s) {pi pt pu : Int} {A' : Option Addr} {pos L c' : Nat} (hbad : ¬ badN pi pos pt L) (heq : pi = s.id) (hf0 : pt = s.total) (hf : pu = s.sum) (hfar : ¬ pos ≤ s.data.length) :
    Calls Tryd.prog 18 #[.pointer (some ⟨bb, 0, none⟩), .agg #[.int .i64 pi, .int .i64 pos, .int .i64 pt, .int .u32 pu, .slice A' L c']] w (RAddBad 6 w) := by
  have H := Lib.hid h
  unfold badN at hbad
  simp only [not_or] at hbad
  obtain ⟨b1, b2, b3, b4, b5, b6, b7⟩ := hbad
  obtain ⟨A, c, h1, h2, h3⟩ := h
  have hlt := h1.lt
  have hne : bb ≠ w.heap.size := by omega
  obtain ⟨i, hi⟩ : ∃ i, s.id = i := ⟨_, rfl⟩
  obtain ⟨sd, hsd⟩ : ∃ sd, s.data.length = sd := ⟨_, rfl⟩
  obtain ⟨st, hst⟩ : ∃ st, s.total = st := ⟨_, rfl⟩
  obtain ⟨su, hsu⟩ : ∃ su, s.sum = su := ⟨_, rfl⟩
  rw [hsd] at h3
  rw [hsd] at hfar
  rw [hst] at hf0
  rw [hsu] at hf
  obtain rfl : pt = st := hf0
  obtain rfl : pu = su := hf
  obtain rfl : pi = i := by rw [heq, hi]
  have hid : ¬ pi < pi := by omega
  have hb2 : (sd : Int) < (pos : Int) := by omega
  clear heq
  have HI := Lib.hid hi
  have HSD := Lib.hid hsd
  have HST := Lib.hid hst
  have HSU := Lib.hid hsu
  have H6 := Lib.hid b6
  clear h1 h2 hi b6 hsd hst hsu
  go_enter Tryd.func18, Tryd.ntmps18
  go_upto_region 1 with fail
  go_cut [53] (fun u wx => u = .bool false ∧ RBld wx bb s ∧ Blk wx w.heap.size 37 #[.int .i64 pi, .int .i64 pos, .int .i64 pt, .int .u32 pu, .slice A' L c'] ∧ Kept NoBlk w wx)
  case first =>
    have k0 : Kept NoBlk w (w.alloc (.cells #[.int .i64 pi, .int .i64 pos, .int .i64 pt, .int .u32 pu, .slice A' L c'] 37)) := (Kept.refl NoBlk w).alloc _
    have K0 := Lib.hid k0
    clear k0
    have q : ((L : Int) == 0) = false ∨ (((L : Int) == 0) = true ∧ (pt != 0) = false) := by
      have := H6.out
      simp only [beq_iff_eq, beq_eq_false_iff_ne, bne_eq_false_iff_eq, ne_eq]
      omega
    rcases q with q | ⟨q, q'⟩
    all_goals
      go_wp2_with fail
      go_meet
      exact ⟨by simp; try omega, H.out.same K0.out, Blk.new w 37 _, K0.out⟩
  case rest =>
    obtain ⟨hv, hB, hP, hK⟩ := hcut
    rw [hv]
    have HB := Lib.hid hB
    have HP := Lib.hid hP
    have HK := Lib.hid hK
    have p0 : wc.cell? ⟨w.heap.size, 0, none⟩ = some (.int .i64 pi) := hP.cell 0
    have p1 : wc.cell? ⟨w.heap.size, 0 + 1, none⟩ = some (.int .i64 pos) := hP.cell 1
    have p2 : wc.cell? ⟨w.heap.size, 0 + 2, none⟩ = some (.int .i64 pt) := hP.cell 2
    have p3 : wc.cell? ⟨w.heap.size, 0 + 3, none⟩ = some (.int .u32 pu) := hP.cell 3
    have p4 : wc.cell? ⟨w.heap.size, 0 + 4, none⟩ = some (.slice A' L c') := hP.cell 4
    clear hB hP hK hv
    obtain ⟨A1, c1, g1, _, _⟩ := HB.out
    have d0 : wc.cell? ⟨bb, 0, none⟩ = some (.int .i64 s.id) := g1.cell 0
    have d1 : wc.cell? ⟨bb, 0 + 1, none⟩ = some (.int .i64 s.total) := g1.cell 1
    have d2 : wc.cell? ⟨bb, 0 + 2, none⟩ = some (.int .u32 s.sum) := g1.cell 2
    have d3 : wc.cell? ⟨bb, 0 + 3, none⟩ = some (.slice A1 s.data.length c1) := g1.cell 3
    rw [HI.out] at d0
    rw [HST.out] at d1
    rw [HSU.out] at d2
    rw [HSD.out] at d3
    have f0 := g1.frozen
    have G1 := Lib.hid g1
    clear g1
    go_wp2_with fail
    go_quiet (fail)
    go_wp2_with fail
    go_quiet (fail)
    go_wp2_with fail
    go_quiet (fail)
    go_wp2_with fail
    go_ret2
    exact ⟨rfl, by first | exact HK.out.drewN _ | exact (HK.out.drewN _).drewN _ | exact ((HK.out.drewN _).drewN _).drewN _⟩
end Go.Proofs.YtnaacgglbeipcaaDoor
