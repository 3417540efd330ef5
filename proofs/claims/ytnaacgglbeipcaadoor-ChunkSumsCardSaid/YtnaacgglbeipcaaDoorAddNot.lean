/- Builder.add where the piece may be, but is not taken. -/
import Derived.Test.YtnaacgglbeipcaaDoorAddBad
namespace Go.Proofs.YtnaacgglbeipcaaDoor
open Go.RowKit

set_option maxRecDepth 100000 in
set_option maxHeartbeats 4000000 in
theorem add_old {w : World} {bb : Nat} {s : BlD} (h : Bld w bb s) {pi pt pu : Int} {A' : Option Addr} {pos L c' : Nat} (hbad : ¬ badN pi pos pt L) (hold : pi < s.id) :
    Calls Tryd.prog 30 #[.pointer (some ⟨bb, 0, none⟩), .agg #[.int .i64 pi, .int .i64 pos, .int .i64 pt, .int .u32 pu, .slice A' L c']] w (AddBad 6 w) := by
  have H := Lib.hid h
  unfold badN at hbad
  simp only [not_or] at hbad
  obtain ⟨b1, b2, b3, b4, b5, b6, b7⟩ := hbad
  obtain ⟨A, c, h1, h2, h3⟩ := h
  have c0 : w.cell? ⟨bb, 0, none⟩ = some (.int .i64 s.id) := h1.cell 0
  have c4 : w.cell? ⟨bb, 0 + 4, none⟩ = some (.slice A s.data.length c) := h1.cell 4
  have hlt := h1.lt
  obtain ⟨i, hi⟩ : ∃ i, s.id = i := ⟨_, rfl⟩
  obtain ⟨sd, hsd⟩ : ∃ sd, s.data.length = sd := ⟨_, rfl⟩
  obtain ⟨st, hst⟩ : ∃ st, s.total = st := ⟨_, rfl⟩
  obtain ⟨su, hsu⟩ : ∃ su, s.sum = su := ⟨_, rfl⟩
  rw [hi] at c0 hold
  rw [hsd] at c4 h3
  have hid : ¬ i < pi := by omega
  have HI := Lib.hid hi
  have HSD := Lib.hid hsd
  have HST := Lib.hid hst
  have HSU := Lib.hid hsu
  have H6 := Lib.hid b6
  clear h1 h2 hi b6 hsd hst hsu
  go_enter Tryd.func30, Tryd.ntmps30
  go_wp2_with fail
  go_quiet (fail)
  go_upto_region 4 with fail
  go_cut [5, 21] (fun v u wx => v = .int .i64 (sd : Int) ∧ u = .bool false ∧ Bld wx bb s ∧ Blk wx w.heap.size 36 #[.int .i64 pi, .int .i64 pos, .int .i64 pt, .int .u32 pu, .slice A' L c'] ∧ Kept NoBlk w wx)
  case first =>
    have k0 : Kept NoBlk w (w.alloc (.cells #[.int .i64 pi, .int .i64 pos, .int .i64 pt, .int .u32 pu, .slice A' L c'] 36)) := (Kept.refl NoBlk w).alloc _
    have K0 := Lib.hid k0
    clear k0
    have q : ((L : Int) == 0) = false ∨ (((L : Int) == 0) = true ∧ (pt != 0) = false) := by
      have := H6.out
      simp only [beq_iff_eq, beq_eq_false_iff_ne, bne_eq_false_iff_eq, ne_eq]
      omega
    rcases q with q | ⟨q, q'⟩
    all_goals
      go_wp2_with fail
      go_meet
      exact ⟨rfl, by simp; omega, (H.out.same K0.out).same ((Kept.refl NoBlk _).drewN _), (Blk.new w 36 _).drewN _, K0.out.drewN _⟩
  case rest =>
    obtain ⟨hu, hv, hB, hP, hK⟩ := hcut
    rw [hu, hv]
    have HB := Lib.hid hB
    have HP := Lib.hid hP
    have HK := Lib.hid hK
    have p0 : wc.cell? ⟨w.heap.size, 0, none⟩ = some (.int .i64 pi) := hP.cell 0
    have p1 : wc.cell? ⟨w.heap.size, 0 + 1, none⟩ = some (.int .i64 pos) := hP.cell 1
    have p2 : wc.cell? ⟨w.heap.size, 0 + 2, none⟩ = some (.int .i64 pt) := hP.cell 2
    have p3 : wc.cell? ⟨w.heap.size, 0 + 3, none⟩ = some (.int .u32 pu) := hP.cell 3
    clear hB hP hK hu hv c0 c4
    obtain ⟨A1, c1, g1, _, _⟩ := HB.out
    have d0 : wc.cell? ⟨bb, 0, none⟩ = some (.int .i64 s.id) := g1.cell 0
    have d2 : wc.cell? ⟨bb, 0 + 2, none⟩ = some (.int .i64 s.total) := g1.cell 2
    have d3 : wc.cell? ⟨bb, 0 + 3, none⟩ = some (.int .u32 s.sum) := g1.cell 3
    rw [HI.out] at d0
    rw [HST.out] at d2
    rw [HSU.out] at d3
    clear g1
    go_wp2_with fail
    go_quiet (fail)
    go_wp2_with fail
    go_ret
    exact ⟨rfl, by first | exact HK.out.drewN _ | exact (HK.out.drewN _).drewN _⟩
set_option maxRecDepth 100000 in
set_option maxHeartbeats 4000000 in
theorem add_form1 {w : World} {bb : Nat} {s : BlD} (h : Bld w bb s) {pi pt pu : Int} {A' : Option Addr} {pos L c' : Nat} (hbad : ¬ badN pi pos pt L) (heq : pi = s.id) (hf : pt ≠ s.total) :
    Calls Tryd.prog 30 #[.pointer (some ⟨bb, 0, none⟩), .agg #[.int .i64 pi, .int .i64 pos, .int .i64 pt, .int .u32 pu, .slice A' L c']] w (AddBad 8 w) := by
  have H := Lib.hid h
  unfold badN at hbad
  simp only [not_or] at hbad
  obtain ⟨b1, b2, b3, b4, b5, b6, b7⟩ := hbad
  obtain ⟨A, c, h1, h2, h3⟩ := h
  have c0 : w.cell? ⟨bb, 0, none⟩ = some (.int .i64 s.id) := h1.cell 0
  have c4 : w.cell? ⟨bb, 0 + 4, none⟩ = some (.slice A s.data.length c) := h1.cell 4
  have hlt := h1.lt
  obtain ⟨i, hi⟩ : ∃ i, s.id = i := ⟨_, rfl⟩
  obtain ⟨sd, hsd⟩ : ∃ sd, s.data.length = sd := ⟨_, rfl⟩
  obtain ⟨st, hst⟩ : ∃ st, s.total = st := ⟨_, rfl⟩
  obtain ⟨su, hsu⟩ : ∃ su, s.sum = su := ⟨_, rfl⟩
  rw [hi] at c0
  rw [hsd] at c4 h3
  rw [hst] at hf
  have hf1 : (pt != st) = true := by simpa using hf
  clear hf
  obtain rfl : pi = i := by rw [heq, hi]
  have hid : ¬ pi < pi := by omega
  clear heq
  have HI := Lib.hid hi
  have HSD := Lib.hid hsd
  have HST := Lib.hid hst
  have HSU := Lib.hid hsu
  have H6 := Lib.hid b6
  clear h1 h2 hi b6 hsd hst hsu
  go_enter Tryd.func30, Tryd.ntmps30
  go_wp2_with fail
  go_quiet (fail)
  go_upto_region 4 with fail
  go_cut [5, 21] (fun v u wx => v = .int .i64 (sd : Int) ∧ u = .bool false ∧ Bld wx bb s ∧ Blk wx w.heap.size 36 #[.int .i64 pi, .int .i64 pos, .int .i64 pt, .int .u32 pu, .slice A' L c'] ∧ Kept NoBlk w wx)
  case first =>
    have k0 : Kept NoBlk w (w.alloc (.cells #[.int .i64 pi, .int .i64 pos, .int .i64 pt, .int .u32 pu, .slice A' L c'] 36)) := (Kept.refl NoBlk w).alloc _
    have K0 := Lib.hid k0
    clear k0
    have q : ((L : Int) == 0) = false ∨ (((L : Int) == 0) = true ∧ (pt != 0) = false) := by
      have := H6.out
      simp only [beq_iff_eq, beq_eq_false_iff_ne, bne_eq_false_iff_eq, ne_eq]
      omega
    rcases q with q | ⟨q, q'⟩
    all_goals
      go_wp2_with fail
      go_meet
      exact ⟨rfl, by simp; omega, (H.out.same K0.out).same ((Kept.refl NoBlk _).drewN _), (Blk.new w 36 _).drewN _, K0.out.drewN _⟩
  case rest =>
    obtain ⟨hu, hv, hB, hP, hK⟩ := hcut
    rw [hu, hv]
    have HB := Lib.hid hB
    have HP := Lib.hid hP
    have HK := Lib.hid hK
    have p0 : wc.cell? ⟨w.heap.size, 0, none⟩ = some (.int .i64 pi) := hP.cell 0
    have p1 : wc.cell? ⟨w.heap.size, 0 + 1, none⟩ = some (.int .i64 pos) := hP.cell 1
    have p2 : wc.cell? ⟨w.heap.size, 0 + 2, none⟩ = some (.int .i64 pt) := hP.cell 2
    have p3 : wc.cell? ⟨w.heap.size, 0 + 3, none⟩ = some (.int .u32 pu) := hP.cell 3
    clear hB hP hK hu hv c0 c4
    obtain ⟨A1, c1, g1, _, _⟩ := HB.out
    have d0 : wc.cell? ⟨bb, 0, none⟩ = some (.int .i64 s.id) := g1.cell 0
    have d2 : wc.cell? ⟨bb, 0 + 2, none⟩ = some (.int .i64 s.total) := g1.cell 2
    have d3 : wc.cell? ⟨bb, 0 + 3, none⟩ = some (.int .u32 s.sum) := g1.cell 3
    rw [HI.out] at d0
    rw [HST.out] at d2
    rw [HSU.out] at d3
    clear g1
    go_wp2_with fail
    go_quiet (fail)
    go_wp2_with fail
    go_quiet (fail)
    go_wp2_with fail
    go_ret
    exact ⟨rfl, by first | exact HK.out.drewN _ | exact (HK.out.drewN _).drewN _⟩
set_option maxRecDepth 100000 in
set_option maxHeartbeats 4000000 in
theorem add_form2 {w : World} {bb : Nat} {s : BlD} (h : Bld w bb s) {pi pt pu : Int} {A' : Option Addr} {pos L c' : Nat} (hbad : ¬ badN pi pos pt L) (heq : pi = s.id) (hf0 : pt = s.total) (hf : pu ≠ s.sum) :
    Calls Tryd.prog 30 #[.pointer (some ⟨bb, 0, none⟩), .agg #[.int .i64 pi, .int .i64 pos, .int .i64 pt, .int .u32 pu, .slice A' L c']] w (AddBad 8 w) := by
  have H := Lib.hid h
  unfold badN at hbad
  simp only [not_or] at hbad
  obtain ⟨b1, b2, b3, b4, b5, b6, b7⟩ := hbad
  obtain ⟨A, c, h1, h2, h3⟩ := h
  have c0 : w.cell? ⟨bb, 0, none⟩ = some (.int .i64 s.id) := h1.cell 0
  have c4 : w.cell? ⟨bb, 0 + 4, none⟩ = some (.slice A s.data.length c) := h1.cell 4
  have hlt := h1.lt
  obtain ⟨i, hi⟩ : ∃ i, s.id = i := ⟨_, rfl⟩
  obtain ⟨sd, hsd⟩ : ∃ sd, s.data.length = sd := ⟨_, rfl⟩
  obtain ⟨st, hst⟩ : ∃ st, s.total = st := ⟨_, rfl⟩
  obtain ⟨su, hsu⟩ : ∃ su, s.sum = su := ⟨_, rfl⟩
  rw [hi] at c0
  rw [hsd] at c4 h3
  rw [hst] at hf0
  rw [hsu] at hf
  have hf2 : (pu != su) = true := by simpa using hf
  clear hf
  obtain rfl : pt = st := hf0
  obtain rfl : pi = i := by rw [heq, hi]
  have hid : ¬ pi < pi := by omega
  clear heq
  have HI := Lib.hid hi
  have HSD := Lib.hid hsd
  have HST := Lib.hid hst
  have HSU := Lib.hid hsu
  have H6 := Lib.hid b6
  clear h1 h2 hi b6 hsd hst hsu
  go_enter Tryd.func30, Tryd.ntmps30
  go_wp2_with fail
  go_quiet (fail)
  go_upto_region 4 with fail
  go_cut [5, 21] (fun v u wx => v = .int .i64 (sd : Int) ∧ u = .bool false ∧ Bld wx bb s ∧ Blk wx w.heap.size 36 #[.int .i64 pi, .int .i64 pos, .int .i64 pt, .int .u32 pu, .slice A' L c'] ∧ Kept NoBlk w wx)
  case first =>
    have k0 : Kept NoBlk w (w.alloc (.cells #[.int .i64 pi, .int .i64 pos, .int .i64 pt, .int .u32 pu, .slice A' L c'] 36)) := (Kept.refl NoBlk w).alloc _
    have K0 := Lib.hid k0
    clear k0
    have q : ((L : Int) == 0) = false ∨ (((L : Int) == 0) = true ∧ (pt != 0) = false) := by
      have := H6.out
      simp only [beq_iff_eq, beq_eq_false_iff_ne, bne_eq_false_iff_eq, ne_eq]
      omega
    rcases q with q | ⟨q, q'⟩
    all_goals
      go_wp2_with fail
      go_meet
      exact ⟨rfl, by simp; omega, (H.out.same K0.out).same ((Kept.refl NoBlk _).drewN _), (Blk.new w 36 _).drewN _, K0.out.drewN _⟩
  case rest =>
    obtain ⟨hu, hv, hB, hP, hK⟩ := hcut
    rw [hu, hv]
    have HB := Lib.hid hB
    have HP := Lib.hid hP
    have HK := Lib.hid hK
    have p0 : wc.cell? ⟨w.heap.size, 0, none⟩ = some (.int .i64 pi) := hP.cell 0
    have p1 : wc.cell? ⟨w.heap.size, 0 + 1, none⟩ = some (.int .i64 pos) := hP.cell 1
    have p2 : wc.cell? ⟨w.heap.size, 0 + 2, none⟩ = some (.int .i64 pt) := hP.cell 2
    have p3 : wc.cell? ⟨w.heap.size, 0 + 3, none⟩ = some (.int .u32 pu) := hP.cell 3
    clear hB hP hK hu hv c0 c4
    obtain ⟨A1, c1, g1, _, _⟩ := HB.out
    have d0 : wc.cell? ⟨bb, 0, none⟩ = some (.int .i64 s.id) := g1.cell 0
    have d2 : wc.cell? ⟨bb, 0 + 2, none⟩ = some (.int .i64 s.total) := g1.cell 2
    have d3 : wc.cell? ⟨bb, 0 + 3, none⟩ = some (.int .u32 s.sum) := g1.cell 3
    rw [HI.out] at d0
    rw [HST.out] at d2
    rw [HSU.out] at d3
    clear g1
    go_wp2_with fail
    go_quiet (fail)
    go_wp2_with fail
    go_quiet (fail)
    go_wp2_with fail
    go_ret
    exact ⟨rfl, by first | exact HK.out.drewN _ | exact (HK.out.drewN _).drewN _⟩
set_option maxRecDepth 100000 in
set_option maxHeartbeats 4000000 in
theorem add_far_new {w : World} {bb : Nat} {s : BlD} (h : Bld w bb s) {pi pt pu : Int} {A' : Option Addr} {pos L c' : Nat} (hbad : ¬ badN pi pos pt L) (hnew : s.id < pi) (hfar : ¬ pos ≤ 0) :
    Calls Tryd.prog 30 #[.pointer (some ⟨bb, 0, none⟩), .agg #[.int .i64 pi, .int .i64 pos, .int .i64 pt, .int .u32 pu, .slice A' L c']] w (AddBad 6 w) := by
  have H := Lib.hid h
  unfold badN at hbad
  simp only [not_or] at hbad
  obtain ⟨b1, b2, b3, b4, b5, b6, b7⟩ := hbad
  obtain ⟨A, c, h1, h2, h3⟩ := h
  have c0 : w.cell? ⟨bb, 0, none⟩ = some (.int .i64 s.id) := h1.cell 0
  have c4 : w.cell? ⟨bb, 0 + 4, none⟩ = some (.slice A s.data.length c) := h1.cell 4
  have hlt := h1.lt
  obtain ⟨i, hi⟩ : ∃ i, s.id = i := ⟨_, rfl⟩
  obtain ⟨sd, hsd⟩ : ∃ sd, s.data.length = sd := ⟨_, rfl⟩
  obtain ⟨st, hst⟩ : ∃ st, s.total = st := ⟨_, rfl⟩
  obtain ⟨su, hsu⟩ : ∃ su, s.sum = su := ⟨_, rfl⟩
  rw [hi] at c0 hnew
  rw [hsd] at c4 h3
  have hb1 : (pi == i) = false := by simp; omega
  have hb2 : (0 : Int) < (pos : Int) := by omega
  have HI := Lib.hid hi
  have HSD := Lib.hid hsd
  have HST := Lib.hid hst
  have HSU := Lib.hid hsu
  have H6 := Lib.hid b6
  clear h1 h2 hi b6 hsd hst hsu
  go_enter Tryd.func30, Tryd.ntmps30
  go_wp2_with fail
  go_quiet (fail)
  go_upto_region 4 with fail
  go_cut [5, 21] (fun v u wx => v = .int .i64 0 ∧ u = .bool false ∧ Bld wx bb s ∧ Blk wx w.heap.size 36 #[.int .i64 pi, .int .i64 pos, .int .i64 pt, .int .u32 pu, .slice A' L c'] ∧ Kept NoBlk w wx)
  case first =>
    have k0 : Kept NoBlk w (w.alloc (.cells #[.int .i64 pi, .int .i64 pos, .int .i64 pt, .int .u32 pu, .slice A' L c'] 36)) := (Kept.refl NoBlk w).alloc _
    have K0 := Lib.hid k0
    clear k0
    have q : ((L : Int) == 0) = false ∨ (((L : Int) == 0) = true ∧ (pt != 0) = false) := by
      have := H6.out
      simp only [beq_iff_eq, beq_eq_false_iff_ne, bne_eq_false_iff_eq, ne_eq]
      omega
    rcases q with q | ⟨q, q'⟩
    all_goals
      go_wp2_with fail
      go_meet
      exact ⟨rfl, by simp; omega, (H.out.same K0.out).same ((Kept.refl NoBlk _).drewN _), (Blk.new w 36 _).drewN _, K0.out.drewN _⟩
  case rest =>
    obtain ⟨hu, hv, hB, hP, hK⟩ := hcut
    rw [hu, hv]
    have HB := Lib.hid hB
    have HP := Lib.hid hP
    have HK := Lib.hid hK
    have p0 : wc.cell? ⟨w.heap.size, 0, none⟩ = some (.int .i64 pi) := hP.cell 0
    have p1 : wc.cell? ⟨w.heap.size, 0 + 1, none⟩ = some (.int .i64 pos) := hP.cell 1
    have p2 : wc.cell? ⟨w.heap.size, 0 + 2, none⟩ = some (.int .i64 pt) := hP.cell 2
    have p3 : wc.cell? ⟨w.heap.size, 0 + 3, none⟩ = some (.int .u32 pu) := hP.cell 3
    clear hB hP hK hu hv c0 c4
    obtain ⟨A1, c1, g1, _, _⟩ := HB.out
    have d0 : wc.cell? ⟨bb, 0, none⟩ = some (.int .i64 s.id) := g1.cell 0
    have d2 : wc.cell? ⟨bb, 0 + 2, none⟩ = some (.int .i64 s.total) := g1.cell 2
    have d3 : wc.cell? ⟨bb, 0 + 3, none⟩ = some (.int .u32 s.sum) := g1.cell 3
    rw [HI.out] at d0
    rw [HST.out] at d2
    rw [HSU.out] at d3
    clear g1
    go_wp2_with fail
    go_quiet (fail)
    go_wp2_with fail
    go_quiet (fail)
    go_wp2_with fail
    go_ret
    exact ⟨rfl, by first | exact HK.out.drewN _ | exact (HK.out.drewN _).drewN _⟩
set_option maxRecDepth 100000 in
set_option maxHeartbeats 4000000 in
theorem add_far_same {w : World} {bb : Nat} {s : BlD} (h : Bld w bb s) {pi pt pu : Int} {A' : Option Addr} {pos L c' : Nat} (hbad : ¬ badN pi pos pt L) (heq : pi = s.id) (hf0 : pt = s.total) (hf : pu = s.sum) (hfar : ¬ pos ≤ s.data.length) :
    Calls Tryd.prog 30 #[.pointer (some ⟨bb, 0, none⟩), .agg #[.int .i64 pi, .int .i64 pos, .int .i64 pt, .int .u32 pu, .slice A' L c']] w (AddBad 6 w) := by
  have H := Lib.hid h
  unfold badN at hbad
  simp only [not_or] at hbad
  obtain ⟨b1, b2, b3, b4, b5, b6, b7⟩ := hbad
  obtain ⟨A, c, h1, h2, h3⟩ := h
  have c0 : w.cell? ⟨bb, 0, none⟩ = some (.int .i64 s.id) := h1.cell 0
  have c4 : w.cell? ⟨bb, 0 + 4, none⟩ = some (.slice A s.data.length c) := h1.cell 4
  have hlt := h1.lt
  obtain ⟨i, hi⟩ : ∃ i, s.id = i := ⟨_, rfl⟩
  obtain ⟨sd, hsd⟩ : ∃ sd, s.data.length = sd := ⟨_, rfl⟩
  obtain ⟨st, hst⟩ : ∃ st, s.total = st := ⟨_, rfl⟩
  obtain ⟨su, hsu⟩ : ∃ su, s.sum = su := ⟨_, rfl⟩
  rw [hi] at c0
  rw [hsd] at c4 h3 hfar
  rw [hst] at hf0
  rw [hsu] at hf
  obtain rfl : pt = st := hf0
  obtain rfl : pu = su := hf
  obtain rfl : pi = i := by rw [heq, hi]
  have hid : ¬ pi < pi := by omega
  have hb2 : (sd : Int) < (pos : Int) := by omega
  clear heq
  have HI := Lib.hid hi
  have HSD := Lib.hid hsd
  have HST := Lib.hid hst
  have HSU := Lib.hid hsu
  have H6 := Lib.hid b6
  clear h1 h2 hi b6 hsd hst hsu
  go_enter Tryd.func30, Tryd.ntmps30
  go_wp2_with fail
  go_quiet (fail)
  go_upto_region 4 with fail
  go_cut [5, 21] (fun v u wx => v = .int .i64 (sd : Int) ∧ u = .bool false ∧ Bld wx bb s ∧ Blk wx w.heap.size 36 #[.int .i64 pi, .int .i64 pos, .int .i64 pt, .int .u32 pu, .slice A' L c'] ∧ Kept NoBlk w wx)
  case first =>
    have k0 : Kept NoBlk w (w.alloc (.cells #[.int .i64 pi, .int .i64 pos, .int .i64 pt, .int .u32 pu, .slice A' L c'] 36)) := (Kept.refl NoBlk w).alloc _
    have K0 := Lib.hid k0
    clear k0
    have q : ((L : Int) == 0) = false ∨ (((L : Int) == 0) = true ∧ (pt != 0) = false) := by
      have := H6.out
      simp only [beq_iff_eq, beq_eq_false_iff_ne, bne_eq_false_iff_eq, ne_eq]
      omega
    rcases q with q | ⟨q, q'⟩
    all_goals
      go_wp2_with fail
      go_meet
      exact ⟨rfl, by simp; omega, (H.out.same K0.out).same ((Kept.refl NoBlk _).drewN _), (Blk.new w 36 _).drewN _, K0.out.drewN _⟩
  case rest =>
    obtain ⟨hu, hv, hB, hP, hK⟩ := hcut
    rw [hu, hv]
    have HB := Lib.hid hB
    have HP := Lib.hid hP
    have HK := Lib.hid hK
    have p0 : wc.cell? ⟨w.heap.size, 0, none⟩ = some (.int .i64 pi) := hP.cell 0
    have p1 : wc.cell? ⟨w.heap.size, 0 + 1, none⟩ = some (.int .i64 pos) := hP.cell 1
    have p2 : wc.cell? ⟨w.heap.size, 0 + 2, none⟩ = some (.int .i64 pt) := hP.cell 2
    have p3 : wc.cell? ⟨w.heap.size, 0 + 3, none⟩ = some (.int .u32 pu) := hP.cell 3
    clear hB hP hK hu hv c0 c4
    obtain ⟨A1, c1, g1, _, _⟩ := HB.out
    have d0 : wc.cell? ⟨bb, 0, none⟩ = some (.int .i64 s.id) := g1.cell 0
    have d2 : wc.cell? ⟨bb, 0 + 2, none⟩ = some (.int .i64 s.total) := g1.cell 2
    have d3 : wc.cell? ⟨bb, 0 + 3, none⟩ = some (.int .u32 s.sum) := g1.cell 3
    rw [HI.out] at d0
    rw [HST.out] at d2
    rw [HSU.out] at d3
    clear g1
    go_wp2_with fail
    go_quiet (fail)
    go_wp2_with fail
    go_quiet (fail)
    go_wp2_with fail
    go_ret
    exact ⟨rfl, by first | exact HK.out.drewN _ | exact (HK.out.drewN _).drewN _⟩

end Go.Proofs.YtnaacgglbeipcaaDoor
