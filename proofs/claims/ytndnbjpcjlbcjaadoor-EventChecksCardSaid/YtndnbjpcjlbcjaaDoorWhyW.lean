/- The document's word Why: what the code computes. Printed by wip/tpl/whygen.py. -/
import Derived.Test.YtndnbjpcjlbcjaaDoorRefs
import Derived.StillTailTactics
namespace Go.Proofs.YtndnbjpcjlbcjaaDoor
open Go.RowKit

theorem any_snoc (f : EvD → Bool) {xs : List EvD} {k : Nat} {a : EvD} (ha : xs[k]? = some a) : (xs.take (k + 1)).any f = ((xs.take k).any f || f a) := by
  rw [take_snoc ha, List.any_append]
  simp
theorem any_hit (f : EvD → Bool) {xs : List EvD} {k : Nat} {a : EvD} (ha : xs[k]? = some a) (h : f a = true) : xs.any f = true := List.any_eq_true.2 ⟨a, List.mem_of_getElem? ha, h⟩
theorem range_snoc (f : Nat → Bool) (k : Nat) : (List.range (k + 1)).any f = ((List.range k).any f || f k) := by
  rw [List.range_succ, List.any_append]
  simp
theorem range_hit (f : Nat → Bool) {k n : Nat} (hk : k < n) (h : f k = true) : (List.range n).any f = true := List.any_eq_true.2 ⟨k, List.mem_range.2 hk, h⟩
theorem same_at {xs : List EvD} {e a : EvD} {k : Nat} (ha : xs[k]? = some a) : sameR xs e k = ((a.kind == e.kind) && (a.id == e.id) && openR xs ((k : Int) + 1)) := by
  unfold sameR
  rw [ha, beq_dec, beq_dec]

/-- What Why says, test by test. -/
structure Says (n : Nat) (xs : List EvD) (e : EvD) (R : ByteArray) : Prop where
  bad : rightB e = false → R = wEvent
  time : rightB e = true → 0 < n → e.pos < atR EvD.pos xs (n : Nat) → R = wTime
  first : rightB e = true → ¬ (0 < n ∧ e.pos < atR EvD.pos xs (n : Nat)) → (((n : Int) == 0) != (e.kind == 1)) = true → R = wFirst
  rest : rightB e = true → ¬ (0 < n ∧ e.pos < atR EvD.pos xs (n : Nat)) → (((n : Int) == 0) != (e.kind == 1)) = false → (xs.any (fun x => closesB x.kind) = true → R = wClosed) ∧ (xs.any (fun x => closesB x.kind) = false → (refsR xs e = false → R = wRef) ∧ (refsR xs e = true →
      (e.kind = 2 ∧ (taskR xs).1 ≠ 0 → R = wTask) ∧ (¬ (e.kind = 2 ∧ (taskR xs).1 ≠ 0) → ((e.kind = 7 ∨ e.kind = 12 ∨ e.kind = 17) ∧ (List.range n).any (sameR xs e) = true → R = wId) ∧ (¬ ((e.kind = 7 ∨ e.kind = 12 ∨ e.kind = 17) ∧ (List.range n).any (sameR xs e) = true) → R = wNone))))
theorem says {n : Nat} {xs : List EvD} (hn : xs.length = n) (e : EvD) : Says n xs e (whyR xs e) := by
  have hz : (decide (n = 0) != decide (e.kind = 1)) = (((n : Int) == 0) != (e.kind == 1)) := by
    rw [beq_dec, beq_dec]
    congr 2
    simp
  refine ⟨fun h => ?_, fun h0 h1 h2 => ?_, fun h0 h1 h2 => ?_, fun h0 h1 h2 => ?_⟩
  all_goals
    unfold whyR
    rw [hn, hz]
  · rw [if_pos h]
  · rw [h0, if_neg (by decide), if_pos ⟨h1, h2⟩]
  · rw [h0, if_neg (by decide), if_neg h1, if_pos h2]
  · rw [h0, if_neg (by decide), if_neg h1, if_neg (by rw [h2]; decide)]
    refine ⟨fun h2 => by rw [if_pos h2], fun h2 => ?_⟩
    rw [if_neg (by rw [h2]; decide)]
    refine ⟨fun h3 => by rw [if_pos h3], fun h3 => ?_⟩
    rw [if_neg (by rw [h3]; decide)]
    refine ⟨fun h4 => by rw [if_pos h4], fun h4 => ?_⟩
    rw [if_neg h4]
    exact ⟨fun h5 => by rw [if_pos h5], fun h5 => by rw [if_neg h5]⟩

set_option maxRecDepth 100000 in
set_option maxHeartbeats 4000000 in
theorem why_event (c n : Nat) (A : Option Addr) (xs : List EvD) (w : World) (h : Evs w A n xs) (ki : Int) (po re id li nn : Int) (bs : List UInt8) (A' : Option Addr) (L c' : Nat) (hl : bs.length = L) {R : ByteArray} (hS : Says n xs ⟨ki, po, re, id, li, nn, bs⟩ R) (hr : rightB ⟨ki, po, re, id, li, nn, bs⟩ = false) :
    Calls Tryd.prog 17 #[.slice A n c, .agg #[.int .i64 ki, .int .i64 po, .int .i64 re, .int .i64 id, .int .i64 li, .int .i64 nn, .slice A' L c']] w (ValEnd (.string R) w) := by
  have hRight := fun W => right14_any ⟨ki, po, re, id, li, nn, bs⟩ A' L c' hl W
  rw [hr] at hRight
  unfold aggE at hRight
  simp only at hRight
  have HRight := Lib.hid hRight
  have hn := h.2.1
  have HS := Lib.hid hS
  clear hRight hl hS
  obtain ⟨q, hq⟩ : ∃ q, w.heap.size = q := ⟨_, rfl⟩
  obtain ⟨wz, hwz⟩ : ∃ wz, w.alloc (.cells #[.int .i64 ki, .int .i64 po, .int .i64 re, .int .i64 id, .int .i64 li, .int .i64 nn, .slice A' L c'] 24) = wz := ⟨_, rfl⟩
  have HP := Lib.hid (show Blk wz q 24 #[.int .i64 ki, .int .i64 po, .int .i64 re, .int .i64 id, .int .i64 li, .int .i64 nn, .slice A' L c'] from hwz ▸ hq ▸ Blk.new w 24 _)
  have HK := Lib.hid (show Kept NoBlk w wz from hwz ▸ (Kept.refl NoBlk w).alloc _)
  have H := Lib.hid (h.kept HK.out (NoCells.none _))
  have p0 : wz.cell? ⟨q, 0, none⟩ = some (.int .i64 ki) := HP.out.cell 0
  have p1 : wz.cell? ⟨q, 0 + 1, none⟩ = some (.int .i64 po) := HP.out.cell 1
  have p2 : wz.cell? ⟨q, 0 + 2, none⟩ = some (.int .i64 re) := HP.out.cell 2
  have p3 : wz.cell? ⟨q, 0 + 3, none⟩ = some (.int .i64 id) := HP.out.cell 3
  have p4 : wz.cell? ⟨q, 0 + 4, none⟩ = some (.int .i64 li) := HP.out.cell 4
  have p5 : wz.cell? ⟨q, 0 + 5, none⟩ = some (.int .i64 nn) := HP.out.cell 5
  have p6 : wz.cell? ⟨q, 0 + 6, none⟩ = some (.slice A' L c') := HP.out.cell 6
  clear h
  go_enter Tryd.func17, Tryd.ntmps17
  go_upto_region 1 with fail
  clear hwz hq
  go_wp2_with fail
  refine (HRight.out _).mono ?_
  rintro e1 w1 ⟨rfl, hk1⟩
  have HP1 := Lib.hid (HP.out.kept hk1 (fun e => e.elim))
  have HK1 := Lib.hid (HK.out.trans hk1)
  have H1 := Lib.hid (H.out.kept hk1 (NoCells.none _))
  clear p0 p1 p2 p3 p4 p5 p6 hk1 HP HK H HRight
  have p0 : w1.cell? ⟨q, 0, none⟩ = some (.int .i64 ki) := HP1.out.cell 0
  have p1 : w1.cell? ⟨q, 0 + 1, none⟩ = some (.int .i64 po) := HP1.out.cell 1
  have HW := Lib.hid (HS.out.bad hr)
  go_wp2_with fail
  go_ret
  exact ⟨by rw [HW.out]; rfl, by first | exact HK1.out.drewN _ | exact HK1.out⟩

set_option maxRecDepth 100000 in
set_option maxHeartbeats 4000000 in
theorem why_time (c m : Nat) (b off : Nat) (xs : List EvD) (w : World) (h : Evs w (some ⟨b, off, none⟩) (m + 1) xs) (ki : Int) (po re id li nn : Int) (bs : List UInt8) (A' : Option Addr) (L c' : Nat) (hl : bs.length = L) {R : ByteArray} (hS : Says (m + 1) xs ⟨ki, po, re, id, li, nn, bs⟩ R) (hr : rightB ⟨ki, po, re, id, li, nn, bs⟩ = true) (ht : po < atR EvD.pos xs ((m + 1 : Nat) : Int)) :
    Calls Tryd.prog 17 #[.slice (some ⟨b, off, none⟩) (m + 1) c, .agg #[.int .i64 ki, .int .i64 po, .int .i64 re, .int .i64 id, .int .i64 li, .int .i64 nn, .slice A' L c']] w (ValEnd (.string R) w) := by
  have hRight := fun W => right14_any ⟨ki, po, re, id, li, nn, bs⟩ A' L c' hl W
  rw [hr] at hRight
  unfold aggE at hRight
  simp only at hRight
  have HRight := Lib.hid hRight
  have hn := h.2.1
  have HS := Lib.hid hS
  have HT := Lib.hid ht
  clear ht
  clear hRight hl hS
  obtain ⟨q, hq⟩ : ∃ q, w.heap.size = q := ⟨_, rfl⟩
  obtain ⟨wz, hwz⟩ : ∃ wz, w.alloc (.cells #[.int .i64 ki, .int .i64 po, .int .i64 re, .int .i64 id, .int .i64 li, .int .i64 nn, .slice A' L c'] 24) = wz := ⟨_, rfl⟩
  have HP := Lib.hid (show Blk wz q 24 #[.int .i64 ki, .int .i64 po, .int .i64 re, .int .i64 id, .int .i64 li, .int .i64 nn, .slice A' L c'] from hwz ▸ hq ▸ Blk.new w 24 _)
  have HK := Lib.hid (show Kept NoBlk w wz from hwz ▸ (Kept.refl NoBlk w).alloc _)
  have H := Lib.hid (h.kept HK.out (NoCells.none _))
  have p0 : wz.cell? ⟨q, 0, none⟩ = some (.int .i64 ki) := HP.out.cell 0
  have p1 : wz.cell? ⟨q, 0 + 1, none⟩ = some (.int .i64 po) := HP.out.cell 1
  have p2 : wz.cell? ⟨q, 0 + 2, none⟩ = some (.int .i64 re) := HP.out.cell 2
  have p3 : wz.cell? ⟨q, 0 + 3, none⟩ = some (.int .i64 id) := HP.out.cell 3
  have p4 : wz.cell? ⟨q, 0 + 4, none⟩ = some (.int .i64 li) := HP.out.cell 4
  have p5 : wz.cell? ⟨q, 0 + 5, none⟩ = some (.int .i64 nn) := HP.out.cell 5
  have p6 : wz.cell? ⟨q, 0 + 6, none⟩ = some (.slice A' L c') := HP.out.cell 6
  clear h
  go_enter Tryd.func17, Tryd.ntmps17
  go_upto_region 1 with fail
  clear hwz hq
  go_wp2_with fail
  refine (HRight.out _).mono ?_
  rintro e1 w1 ⟨rfl, hk1⟩
  have HP1 := Lib.hid (HP.out.kept hk1 (fun e => e.elim))
  have HK1 := Lib.hid (HK.out.trans hk1)
  have H1 := Lib.hid (H.out.kept hk1 (NoCells.none _))
  clear p0 p1 p2 p3 p4 p5 p6 hk1 HP HK H HRight
  have p0 : w1.cell? ⟨q, 0, none⟩ = some (.int .i64 ki) := HP1.out.cell 0
  have p1 : w1.cell? ⟨q, 0 + 1, none⟩ = some (.int .i64 po) := HP1.out.cell 1
  have HW := Lib.hid (HS.out.time hr (by omega) HT.out)
  obtain ⟨b3, off3, a, v, hA, ha, _, c1, _⟩ := H1.out.at_ (k := m) (by omega)
  cases hA
  have hlp := atR_in (f := EvD.pos) ha
  obtain ⟨lp, hlp2⟩ : ∃ x, a.pos = x := ⟨_, rfl⟩
  rw [hlp2] at hlp c1
  have HLp := Lib.hid (show atR EvD.pos xs ((m + 1 : Nat) : Int) = lp from hlp)
  clear ha hlp hlp2
  have hd2 : po < lp := HLp.out ▸ HT.out
  have z2 : IntKind.i64.wrap ((m : Int) + 1 - 1) = (m : Int) := by rw [IntKind.wrap_i64]; omega
  have z0 : ((m : Int) + 1 == 0) = false := by rw [beq_eq_false_iff_ne]; omega
  have z3 : (0 : Int) ≤ (m : Int) := by omega
  have z4 : (m : Int) < (m : Int) + 1 := by omega
  have z5 : (0 : Int) < (m : Int) + 1 := by omega
  go_wp2_with fail
  go_quiet (fail)
  go_wp2_with fail
  go_ret
  exact ⟨by rw [HW.out]; rfl, by first | exact HK1.out.drewN _ | exact HK1.out⟩

set_option maxRecDepth 100000 in
set_option maxHeartbeats 4000000 in
theorem why_first0 (c : Nat) (A : Option Addr) (xs : List EvD) (w : World) (h : Evs w A 0 xs) (ki : Int) (po re id li nn : Int) (bs : List UInt8) (A' : Option Addr) (L c' : Nat) (hl : bs.length = L) {R : ByteArray} (hS : Says 0 xs ⟨ki, po, re, id, li, nn, bs⟩ R) (hr : rightB ⟨ki, po, re, id, li, nn, bs⟩ = true) (bk : (ki == 1) = false) :
    Calls Tryd.prog 17 #[.slice A 0 c, .agg #[.int .i64 ki, .int .i64 po, .int .i64 re, .int .i64 id, .int .i64 li, .int .i64 nn, .slice A' L c']] w (ValEnd (.string R) w) := by
  have hRight := fun W => right14_any ⟨ki, po, re, id, li, nn, bs⟩ A' L c' hl W
  rw [hr] at hRight
  unfold aggE at hRight
  simp only at hRight
  have HRight := Lib.hid hRight
  have hn := h.2.1
  have HS := Lib.hid hS
  clear hRight hl hS
  obtain ⟨q, hq⟩ : ∃ q, w.heap.size = q := ⟨_, rfl⟩
  obtain ⟨wz, hwz⟩ : ∃ wz, w.alloc (.cells #[.int .i64 ki, .int .i64 po, .int .i64 re, .int .i64 id, .int .i64 li, .int .i64 nn, .slice A' L c'] 24) = wz := ⟨_, rfl⟩
  have HP := Lib.hid (show Blk wz q 24 #[.int .i64 ki, .int .i64 po, .int .i64 re, .int .i64 id, .int .i64 li, .int .i64 nn, .slice A' L c'] from hwz ▸ hq ▸ Blk.new w 24 _)
  have HK := Lib.hid (show Kept NoBlk w wz from hwz ▸ (Kept.refl NoBlk w).alloc _)
  have H := Lib.hid (h.kept HK.out (NoCells.none _))
  have p0 : wz.cell? ⟨q, 0, none⟩ = some (.int .i64 ki) := HP.out.cell 0
  have p1 : wz.cell? ⟨q, 0 + 1, none⟩ = some (.int .i64 po) := HP.out.cell 1
  have p2 : wz.cell? ⟨q, 0 + 2, none⟩ = some (.int .i64 re) := HP.out.cell 2
  have p3 : wz.cell? ⟨q, 0 + 3, none⟩ = some (.int .i64 id) := HP.out.cell 3
  have p4 : wz.cell? ⟨q, 0 + 4, none⟩ = some (.int .i64 li) := HP.out.cell 4
  have p5 : wz.cell? ⟨q, 0 + 5, none⟩ = some (.int .i64 nn) := HP.out.cell 5
  have p6 : wz.cell? ⟨q, 0 + 6, none⟩ = some (.slice A' L c') := HP.out.cell 6
  clear h
  go_enter Tryd.func17, Tryd.ntmps17
  go_upto_region 1 with fail
  clear hwz hq
  go_wp2_with fail
  refine (HRight.out _).mono ?_
  rintro e1 w1 ⟨rfl, hk1⟩
  have HP1 := Lib.hid (HP.out.kept hk1 (fun e => e.elim))
  have HK1 := Lib.hid (HK.out.trans hk1)
  have H1 := Lib.hid (H.out.kept hk1 (NoCells.none _))
  clear p0 p1 p2 p3 p4 p5 p6 hk1 HP HK H HRight
  have p0 : w1.cell? ⟨q, 0, none⟩ = some (.int .i64 ki) := HP1.out.cell 0
  have p1 : w1.cell? ⟨q, 0 + 1, none⟩ = some (.int .i64 po) := HP1.out.cell 1
  have HW := Lib.hid (HS.out.first hr (by omega) (by rw [bk]; rfl))
  go_wp2_with fail
  go_quiet (fail)
  go_wp2_with fail
  go_ret
  exact ⟨by rw [HW.out]; rfl, by first | exact HK1.out.drewN _ | exact HK1.out⟩

set_option maxRecDepth 100000 in
set_option maxHeartbeats 4000000 in
theorem why_first1 (c m : Nat) (b off : Nat) (xs : List EvD) (w : World) (h : Evs w (some ⟨b, off, none⟩) (m + 1) xs) (ki : Int) (po re id li nn : Int) (bs : List UInt8) (A' : Option Addr) (L c' : Nat) (hl : bs.length = L) {R : ByteArray} (hS : Says (m + 1) xs ⟨ki, po, re, id, li, nn, bs⟩ R) (hr : rightB ⟨ki, po, re, id, li, nn, bs⟩ = true) (ht : ¬ po < atR EvD.pos xs ((m + 1 : Nat) : Int)) (bk : (ki == 1) = true) :
    Calls Tryd.prog 17 #[.slice (some ⟨b, off, none⟩) (m + 1) c, .agg #[.int .i64 ki, .int .i64 po, .int .i64 re, .int .i64 id, .int .i64 li, .int .i64 nn, .slice A' L c']] w (ValEnd (.string R) w) := by
  have hRight := fun W => right14_any ⟨ki, po, re, id, li, nn, bs⟩ A' L c' hl W
  rw [hr] at hRight
  unfold aggE at hRight
  simp only at hRight
  have HRight := Lib.hid hRight
  have hn := h.2.1
  have HS := Lib.hid hS
  have HT := Lib.hid ht
  clear ht
  clear hRight hl hS
  obtain ⟨q, hq⟩ : ∃ q, w.heap.size = q := ⟨_, rfl⟩
  obtain ⟨wz, hwz⟩ : ∃ wz, w.alloc (.cells #[.int .i64 ki, .int .i64 po, .int .i64 re, .int .i64 id, .int .i64 li, .int .i64 nn, .slice A' L c'] 24) = wz := ⟨_, rfl⟩
  have HP := Lib.hid (show Blk wz q 24 #[.int .i64 ki, .int .i64 po, .int .i64 re, .int .i64 id, .int .i64 li, .int .i64 nn, .slice A' L c'] from hwz ▸ hq ▸ Blk.new w 24 _)
  have HK := Lib.hid (show Kept NoBlk w wz from hwz ▸ (Kept.refl NoBlk w).alloc _)
  have H := Lib.hid (h.kept HK.out (NoCells.none _))
  have p0 : wz.cell? ⟨q, 0, none⟩ = some (.int .i64 ki) := HP.out.cell 0
  have p1 : wz.cell? ⟨q, 0 + 1, none⟩ = some (.int .i64 po) := HP.out.cell 1
  have p2 : wz.cell? ⟨q, 0 + 2, none⟩ = some (.int .i64 re) := HP.out.cell 2
  have p3 : wz.cell? ⟨q, 0 + 3, none⟩ = some (.int .i64 id) := HP.out.cell 3
  have p4 : wz.cell? ⟨q, 0 + 4, none⟩ = some (.int .i64 li) := HP.out.cell 4
  have p5 : wz.cell? ⟨q, 0 + 5, none⟩ = some (.int .i64 nn) := HP.out.cell 5
  have p6 : wz.cell? ⟨q, 0 + 6, none⟩ = some (.slice A' L c') := HP.out.cell 6
  clear h
  go_enter Tryd.func17, Tryd.ntmps17
  go_upto_region 1 with fail
  clear hwz hq
  go_wp2_with fail
  refine (HRight.out _).mono ?_
  rintro e1 w1 ⟨rfl, hk1⟩
  have HP1 := Lib.hid (HP.out.kept hk1 (fun e => e.elim))
  have HK1 := Lib.hid (HK.out.trans hk1)
  have H1 := Lib.hid (H.out.kept hk1 (NoCells.none _))
  clear p0 p1 p2 p3 p4 p5 p6 hk1 HP HK H HRight
  have p0 : w1.cell? ⟨q, 0, none⟩ = some (.int .i64 ki) := HP1.out.cell 0
  have p1 : w1.cell? ⟨q, 0 + 1, none⟩ = some (.int .i64 po) := HP1.out.cell 1
  have HW := Lib.hid (HS.out.first hr (fun h => absurd h.2 (Int.not_lt.2 HT.out)) (by rw [bk, show (((m + 1 : Nat) : Int) == 0) = false by rw [beq_eq_false_iff_ne]; omega]; rfl))
  obtain ⟨b3, off3, a, v, hA, ha, _, c1, _⟩ := H1.out.at_ (k := m) (by omega)
  cases hA
  have hlp := atR_in (f := EvD.pos) ha
  obtain ⟨lp, hlp2⟩ : ∃ x, a.pos = x := ⟨_, rfl⟩
  rw [hlp2] at hlp c1
  have HLp := Lib.hid (show atR EvD.pos xs ((m + 1 : Nat) : Int) = lp from hlp)
  clear ha hlp hlp2
  have hd2 : ¬ po < lp := HLp.out ▸ (Int.not_lt.2 HT.out : ¬ po < atR EvD.pos xs ((m + 1 : Nat) : Int))
  have z2 : IntKind.i64.wrap ((m : Int) + 1 - 1) = (m : Int) := by rw [IntKind.wrap_i64]; omega
  have z0 : ((m : Int) + 1 == 0) = false := by rw [beq_eq_false_iff_ne]; omega
  have z3 : (0 : Int) ≤ (m : Int) := by omega
  have z4 : (m : Int) < (m : Int) + 1 := by omega
  have z5 : (0 : Int) < (m : Int) + 1 := by omega
  go_wp2_with fail
  go_quiet (fail)
  go_wp2_with fail
  go_ret
  exact ⟨by rw [HW.out]; rfl, by first | exact HK1.out.drewN _ | exact HK1.out⟩

set_option maxRecDepth 100000 in
set_option maxHeartbeats 4000000 in
theorem why_rest0 (c : Nat) (A : Option Addr) (xs : List EvD) (w : World) (h : Evs w A 0 xs)  (po re id li nn : Int) (bs : List UInt8) (A' : Option Addr) (L c' : Nat) (hl : bs.length = L) {R : ByteArray} (hS : Says 0 xs ⟨1, po, re, id, li, nn, bs⟩ R) (hr : rightB ⟨1, po, re, id, li, nn, bs⟩ = true)  :
    Calls Tryd.prog 17 #[.slice A 0 c, .agg #[.int .i64 1, .int .i64 po, .int .i64 re, .int .i64 id, .int .i64 li, .int .i64 nn, .slice A' L c']] w (ValEnd (.string R) w) := by
  have hRight := fun W => right14_any ⟨1, po, re, id, li, nn, bs⟩ A' L c' hl W
  rw [hr] at hRight
  unfold aggE at hRight
  simp only at hRight
  have HRight := Lib.hid hRight
  have hn := h.2.1
  have HS := Lib.hid hS
  clear hRight hl hS
  obtain ⟨q, hq⟩ : ∃ q, w.heap.size = q := ⟨_, rfl⟩
  obtain ⟨wz, hwz⟩ : ∃ wz, w.alloc (.cells #[.int .i64 1, .int .i64 po, .int .i64 re, .int .i64 id, .int .i64 li, .int .i64 nn, .slice A' L c'] 24) = wz := ⟨_, rfl⟩
  have HP := Lib.hid (show Blk wz q 24 #[.int .i64 1, .int .i64 po, .int .i64 re, .int .i64 id, .int .i64 li, .int .i64 nn, .slice A' L c'] from hwz ▸ hq ▸ Blk.new w 24 _)
  have HK := Lib.hid (show Kept NoBlk w wz from hwz ▸ (Kept.refl NoBlk w).alloc _)
  have H := Lib.hid (h.kept HK.out (NoCells.none _))
  have p0 : wz.cell? ⟨q, 0, none⟩ = some (.int .i64 1) := HP.out.cell 0
  have p1 : wz.cell? ⟨q, 0 + 1, none⟩ = some (.int .i64 po) := HP.out.cell 1
  have p2 : wz.cell? ⟨q, 0 + 2, none⟩ = some (.int .i64 re) := HP.out.cell 2
  have p3 : wz.cell? ⟨q, 0 + 3, none⟩ = some (.int .i64 id) := HP.out.cell 3
  have p4 : wz.cell? ⟨q, 0 + 4, none⟩ = some (.int .i64 li) := HP.out.cell 4
  have p5 : wz.cell? ⟨q, 0 + 5, none⟩ = some (.int .i64 nn) := HP.out.cell 5
  have p6 : wz.cell? ⟨q, 0 + 6, none⟩ = some (.slice A' L c') := HP.out.cell 6
  clear h
  go_enter Tryd.func17, Tryd.ntmps17
  go_upto_region 1 with fail
  clear hwz hq
  go_wp2_with fail
  refine (HRight.out _).mono ?_
  rintro e1 w1 ⟨rfl, hk1⟩
  have HP1 := Lib.hid (HP.out.kept hk1 (fun e => e.elim))
  have HK1 := Lib.hid (HK.out.trans hk1)
  have H1 := Lib.hid (H.out.kept hk1 (NoCells.none _))
  clear p0 p1 p2 p3 p4 p5 p6 hk1 HP HK H HRight
  have p0 : w1.cell? ⟨q, 0, none⟩ = some (.int .i64 1) := HP1.out.cell 0
  have p1 : w1.cell? ⟨q, 0 + 1, none⟩ = some (.int .i64 po) := HP1.out.cell 1
  have HR := Lib.hid (HS.out.rest hr (by omega) rfl)
  simp only at HR
  go_wp2_with fail
  go_quiet (fail)
  go_wp2_with fail
  obtain ⟨w2, hw2⟩ : ∃ w2, w1.drewN nq = w2 := ⟨_, rfl⟩
  have HP2 := Lib.hid (show Blk w2 q 24 #[.int .i64 1, .int .i64 po, .int .i64 re, .int .i64 id, .int .i64 li, .int .i64 nn, .slice A' L c'] from hw2 ▸ HP1.out.drewN _)
  have HK2 := Lib.hid (show Kept NoBlk w w2 from hw2 ▸ HK1.out.drewN _)
  have H2 := Lib.hid (H1.out.kept (hw2 ▸ (Kept.refl NoBlk w1).drewN _ : Kept NoBlk w1 w2) (NoCells.none _))
  rw [hw2]
  clear hw2 p0 p1
  go_loopg [5] 0 (fun g v wr => v = .int .i64 0 ∧ wr = w2)
  case atStart => exact ⟨rfl, rfl⟩
  case round =>
    obtain ⟨rfl, hwr⟩ := hrel
    rw [hwr]
    clear hwr
    have hxs : xs = [] := List.length_eq_zero_iff.1 H2.out.1
    · have hcf : xs.any (fun x => closesB x.kind) = false := by rw [hxs]; rfl
      have HR2 := Lib.hid (HR.out.2 hcf)
      have hRefs := fun (W : World) (H : Evs W A 0 xs) => refs_any A 0 c xs W H ⟨1, po, re, id, li, nn, bs⟩ (.slice A' L c')
      obtain ⟨fb, hfb⟩ : ∃ b, refsR xs ⟨1, po, re, id, li, nn, bs⟩ = b := ⟨_, rfl⟩
      rw [hfb] at hRefs HR2
      unfold aggE at hRefs
      have HRefs := Lib.hid hRefs
      clear hcf hRefs hfb
      have p0 : w2.cell? ⟨q, 0, none⟩ = some (.int .i64 1) := HP2.out.cell 0
      have p1 : w2.cell? ⟨q, 0 + 1, none⟩ = some (.int .i64 po) := HP2.out.cell 1
      have p2 : w2.cell? ⟨q, 0 + 2, none⟩ = some (.int .i64 re) := HP2.out.cell 2
      have p3 : w2.cell? ⟨q, 0 + 3, none⟩ = some (.int .i64 id) := HP2.out.cell 3
      have p4 : w2.cell? ⟨q, 0 + 4, none⟩ = some (.int .i64 li) := HP2.out.cell 4
      have p5 : w2.cell? ⟨q, 0 + 5, none⟩ = some (.int .i64 nn) := HP2.out.cell 5
      have p6 : w2.cell? ⟨q, 0 + 6, none⟩ = some (.slice A' L c') := HP2.out.cell 6
      go_wp2_with fail
      refine (HRefs.out _ H2.out).mono ?_
      rintro e3 w3 ⟨rfl, hk3⟩
      have HP3 := Lib.hid (HP2.out.kept hk3 (fun e => e.elim))
      have HK3 := Lib.hid (HK2.out.trans hk3)
      have H3 := Lib.hid (H2.out.kept hk3 (NoCells.none _))
      clear p0 p1 p2 p3 p4 p5 p6 hk3
      cases fb
      · have HW := Lib.hid (HR2.out.1 rfl)
        go_wp2_with fail
        go_ret
        exact ⟨by rw [HW.out]; rfl, HK3.out⟩
      have HR3 := Lib.hid (HR2.out.2 rfl)
      have hTask := fun (W : World) (H : Evs W A 0 xs) => task36_any A 0 c xs W H
      obtain ⟨ti, hti⟩ : ∃ b, (taskR xs).1 = b := ⟨_, rfl⟩
      obtain ⟨tp, htp⟩ : ∃ b, (taskR xs).2 = b := ⟨_, rfl⟩
      simp only [hti, htp] at hTask
      rw [hti] at HR3
      have HTask := Lib.hid hTask
      clear hTask hti htp
      go_wp2_with fail
      refine (HTask.out _ H3.out).mono ?_
      rintro e4 w4 ⟨rfl, hk4⟩
      have HP4 := Lib.hid (HP3.out.kept hk4 (fun e => e.elim))
      have HK4 := Lib.hid (HK3.out.trans hk4)
      have H4 := Lib.hid (H3.out.kept hk4 (NoCells.none _))
      have p0 : w4.cell? ⟨q, 0, none⟩ = some (.int .i64 1) := HP4.out.cell 0
      have p3 : w4.cell? ⟨q, 0 + 3, none⟩ = some (.int .i64 id) := HP4.out.cell 3
      clear hk4
      have HW := Lib.hid ((HR3.out.2 (fun h => by have := h.1; omega)).2 (fun h => by have := h.1; omega))
      go_wp2_with fail
      go_ret
      exact ⟨by rw [HW.out]; rfl, HK4.out⟩

set_option maxRecDepth 100000 in
set_option maxHeartbeats 4000000 in
theorem why_rest_2 (c m : Nat) (b off : Nat) (xs : List EvD) (w : World) (h : Evs w (some ⟨b, off, none⟩) (m + 1) xs)  (po re id li nn : Int) (bs : List UInt8) (A' : Option Addr) (L c' : Nat) (hl : bs.length = L) {R : ByteArray} (hS : Says (m + 1) xs ⟨2, po, re, id, li, nn, bs⟩ R) (hr : rightB ⟨2, po, re, id, li, nn, bs⟩ = true) (ht : ¬ po < atR EvD.pos xs ((m + 1 : Nat) : Int)) :
    Calls Tryd.prog 17 #[.slice (some ⟨b, off, none⟩) (m + 1) c, .agg #[.int .i64 2, .int .i64 po, .int .i64 re, .int .i64 id, .int .i64 li, .int .i64 nn, .slice A' L c']] w (ValEnd (.string R) w) := by
  have hRight := fun W => right14_any ⟨2, po, re, id, li, nn, bs⟩ A' L c' hl W
  rw [hr] at hRight
  unfold aggE at hRight
  simp only at hRight
  have HRight := Lib.hid hRight
  have hn := h.2.1
  have HS := Lib.hid hS
  have HT := Lib.hid ht
  clear ht
  clear hRight hl hS
  obtain ⟨q, hq⟩ : ∃ q, w.heap.size = q := ⟨_, rfl⟩
  obtain ⟨wz, hwz⟩ : ∃ wz, w.alloc (.cells #[.int .i64 2, .int .i64 po, .int .i64 re, .int .i64 id, .int .i64 li, .int .i64 nn, .slice A' L c'] 24) = wz := ⟨_, rfl⟩
  have HP := Lib.hid (show Blk wz q 24 #[.int .i64 2, .int .i64 po, .int .i64 re, .int .i64 id, .int .i64 li, .int .i64 nn, .slice A' L c'] from hwz ▸ hq ▸ Blk.new w 24 _)
  have HK := Lib.hid (show Kept NoBlk w wz from hwz ▸ (Kept.refl NoBlk w).alloc _)
  have H := Lib.hid (h.kept HK.out (NoCells.none _))
  have p0 : wz.cell? ⟨q, 0, none⟩ = some (.int .i64 2) := HP.out.cell 0
  have p1 : wz.cell? ⟨q, 0 + 1, none⟩ = some (.int .i64 po) := HP.out.cell 1
  have p2 : wz.cell? ⟨q, 0 + 2, none⟩ = some (.int .i64 re) := HP.out.cell 2
  have p3 : wz.cell? ⟨q, 0 + 3, none⟩ = some (.int .i64 id) := HP.out.cell 3
  have p4 : wz.cell? ⟨q, 0 + 4, none⟩ = some (.int .i64 li) := HP.out.cell 4
  have p5 : wz.cell? ⟨q, 0 + 5, none⟩ = some (.int .i64 nn) := HP.out.cell 5
  have p6 : wz.cell? ⟨q, 0 + 6, none⟩ = some (.slice A' L c') := HP.out.cell 6
  clear h
  go_enter Tryd.func17, Tryd.ntmps17
  go_upto_region 1 with fail
  clear hwz hq
  go_wp2_with fail
  refine (HRight.out _).mono ?_
  rintro e1 w1 ⟨rfl, hk1⟩
  have HP1 := Lib.hid (HP.out.kept hk1 (fun e => e.elim))
  have HK1 := Lib.hid (HK.out.trans hk1)
  have H1 := Lib.hid (H.out.kept hk1 (NoCells.none _))
  clear p0 p1 p2 p3 p4 p5 p6 hk1 HP HK H HRight
  have p0 : w1.cell? ⟨q, 0, none⟩ = some (.int .i64 2) := HP1.out.cell 0
  have p1 : w1.cell? ⟨q, 0 + 1, none⟩ = some (.int .i64 po) := HP1.out.cell 1
  have HR := Lib.hid (HS.out.rest hr (fun h => absurd h.2 (Int.not_lt.2 HT.out)) (by rw [ show (((m + 1 : Nat) : Int) == 0) = false by rw [beq_eq_false_iff_ne]; omega]; rfl))
  simp only at HR
  obtain ⟨b3, off3, a, v, hA, ha, _, c1, _⟩ := H1.out.at_ (k := m) (by omega)
  cases hA
  have hlp := atR_in (f := EvD.pos) ha
  obtain ⟨lp, hlp2⟩ : ∃ x, a.pos = x := ⟨_, rfl⟩
  rw [hlp2] at hlp c1
  have HLp := Lib.hid (show atR EvD.pos xs ((m + 1 : Nat) : Int) = lp from hlp)
  clear ha hlp hlp2
  have hd2 : ¬ po < lp := HLp.out ▸ (Int.not_lt.2 HT.out : ¬ po < atR EvD.pos xs ((m + 1 : Nat) : Int))
  have z2 : IntKind.i64.wrap ((m : Int) + 1 - 1) = (m : Int) := by rw [IntKind.wrap_i64]; omega
  have z0 : ((m : Int) + 1 == 0) = false := by rw [beq_eq_false_iff_ne]; omega
  have z3 : (0 : Int) ≤ (m : Int) := by omega
  have z4 : (m : Int) < (m : Int) + 1 := by omega
  have z5 : (0 : Int) < (m : Int) + 1 := by omega
  go_wp2_with fail
  go_quiet (fail)
  go_wp2_with fail
  obtain ⟨w2, hw2⟩ : ∃ w2, w1.drewN nq = w2 := ⟨_, rfl⟩
  have HP2 := Lib.hid (show Blk w2 q 24 #[.int .i64 2, .int .i64 po, .int .i64 re, .int .i64 id, .int .i64 li, .int .i64 nn, .slice A' L c'] from hw2 ▸ HP1.out.drewN _)
  have HK2 := Lib.hid (show Kept NoBlk w w2 from hw2 ▸ HK1.out.drewN _)
  have H2 := Lib.hid (H1.out.kept (hw2 ▸ (Kept.refl NoBlk w1).drewN _ : Kept NoBlk w1 w2) (NoCells.none _))
  rw [hw2]
  clear hw2 p0 p1
  go_loopg [5] (m + 1) (fun g v wr => ∃ k : Nat, g + k = (m + 1) ∧ v = .int .i64 k ∧ (xs.take k).any (fun x => closesB x.kind) = false ∧ wr = w2)
  case atStart => exact ⟨0, by omega, rfl, rfl, rfl⟩
  case round =>
    obtain ⟨k, hgk, rfl, h0, hwr⟩ := hrel
    rw [hwr]
    clear hwr
    have Hgk := Lib.hid hgk
    have H0 := Lib.hid h0
    clear hgk h0
    by_cases hlt : k < (m + 1)
    · obtain ⟨b2, off2, a, v, hA2, ha, c0, _⟩ := H2.out.at_ hlt
      have HA := Lib.hid ha
      cases hA2
      have zk3 : (0 : Int) ≤ (k : Int) := by omega
      have zk4 : (k : Int) < ((m : Int) + 1) := by omega
      have hcl := fun W => closes12_any a.kind W
      obtain ⟨ak, hak⟩ : ∃ x, a.kind = x := ⟨_, rfl⟩
      obtain ⟨ac, hac⟩ : ∃ x, closesB ak = x := ⟨_, rfl⟩
      rw [hak] at c0
      simp only [hak, hac] at hcl
      have HCl := Lib.hid hcl
      have HAc := Lib.hid (show closesB a.kind = ac by rw [hak, hac])
      clear hcl hac hak ha
      go_wp2_with fail
      refine (HCl.out _).mono ?_
      rintro e2 w3 ⟨rfl, rfl⟩
      cases ac
      · go_wp2_with fail
        go_roundg ((m + 1) - (k + 1))
        case measure => have := Hgk.out; omega
        case rel => exact ⟨k + 1, by omega, by go_num, by rw [any_snoc _ HA.out, H0.out, HAc.out]; rfl, rfl⟩
      · have HW := Lib.hid (HR.out.1 (any_hit _ HA.out HAc.out))
        go_wp2_with fail
        go_ret
        exact ⟨by rw [HW.out]; rfl, HK2.out⟩
    · have hall : xs.take k = xs := by rw [List.take_of_length_le (by rw [H2.out.1]; omega)]
      have hcf : xs.any (fun x => closesB x.kind) = false := by
        have := H0.out
        rw [hall] at this
        exact this
      have zk4 : ¬ (k : Int) < ((m : Int) + 1) := fun h => hlt (by omega)
      have HR2 := Lib.hid (HR.out.2 hcf)
      have hRefs := fun (W : World) (H : Evs W (some ⟨b, off, none⟩) (m + 1) xs) => refs_any (some ⟨b, off, none⟩) (m + 1) c xs W H ⟨2, po, re, id, li, nn, bs⟩ (.slice A' L c')
      obtain ⟨fb, hfb⟩ : ∃ b, refsR xs ⟨2, po, re, id, li, nn, bs⟩ = b := ⟨_, rfl⟩
      rw [hfb] at hRefs HR2
      unfold aggE at hRefs
      have HRefs := Lib.hid hRefs
      clear hall hcf hlt hRefs hfb
      have p0 : w2.cell? ⟨q, 0, none⟩ = some (.int .i64 2) := HP2.out.cell 0
      have p1 : w2.cell? ⟨q, 0 + 1, none⟩ = some (.int .i64 po) := HP2.out.cell 1
      have p2 : w2.cell? ⟨q, 0 + 2, none⟩ = some (.int .i64 re) := HP2.out.cell 2
      have p3 : w2.cell? ⟨q, 0 + 3, none⟩ = some (.int .i64 id) := HP2.out.cell 3
      have p4 : w2.cell? ⟨q, 0 + 4, none⟩ = some (.int .i64 li) := HP2.out.cell 4
      have p5 : w2.cell? ⟨q, 0 + 5, none⟩ = some (.int .i64 nn) := HP2.out.cell 5
      have p6 : w2.cell? ⟨q, 0 + 6, none⟩ = some (.slice A' L c') := HP2.out.cell 6
      go_wp2_with fail
      refine (HRefs.out _ H2.out).mono ?_
      rintro e3 w3 ⟨rfl, hk3⟩
      have HP3 := Lib.hid (HP2.out.kept hk3 (fun e => e.elim))
      have HK3 := Lib.hid (HK2.out.trans hk3)
      have H3 := Lib.hid (H2.out.kept hk3 (NoCells.none _))
      clear p0 p1 p2 p3 p4 p5 p6 hk3
      cases fb
      · have HW := Lib.hid (HR2.out.1 rfl)
        go_wp2_with fail
        go_ret
        exact ⟨by rw [HW.out]; rfl, HK3.out⟩
      have HR3 := Lib.hid (HR2.out.2 rfl)
      have hTask := fun (W : World) (H : Evs W (some ⟨b, off, none⟩) (m + 1) xs) => task36_any (some ⟨b, off, none⟩) (m + 1) c xs W H
      obtain ⟨ti, hti⟩ : ∃ b, (taskR xs).1 = b := ⟨_, rfl⟩
      obtain ⟨tp, htp⟩ : ∃ b, (taskR xs).2 = b := ⟨_, rfl⟩
      simp only [hti, htp] at hTask
      rw [hti] at HR3
      have HTask := Lib.hid hTask
      clear hTask hti htp
      go_wp2_with fail
      refine (HTask.out _ H3.out).mono ?_
      rintro e4 w4 ⟨rfl, hk4⟩
      have HP4 := Lib.hid (HP3.out.kept hk4 (fun e => e.elim))
      have HK4 := Lib.hid (HK3.out.trans hk4)
      have H4 := Lib.hid (H3.out.kept hk4 (NoCells.none _))
      have p0 : w4.cell? ⟨q, 0, none⟩ = some (.int .i64 2) := HP4.out.cell 0
      have p3 : w4.cell? ⟨q, 0 + 3, none⟩ = some (.int .i64 id) := HP4.out.cell 3
      clear hk4
      cases bt : (ti == 0)
      · have hbt : (ti != 0) = true := by rw [bne, bt]; rfl
        have HW := Lib.hid (HR3.out.1 ⟨by first | rfl | trivial, by simpa using bt⟩)
        go_wp2_with fail
        go_ret
        exact ⟨by rw [HW.out]; rfl, HK4.out⟩
      · have hbt : (ti != 0) = false := by rw [bne, bt]; rfl
        have HW := Lib.hid ((HR3.out.2 (fun h => h.2 (by simpa using bt))).2 (fun h => by have := h.1; omega))
        go_wp2_with fail
        go_ret
        exact ⟨by rw [HW.out]; rfl, HK4.out⟩

set_option maxRecDepth 100000 in
set_option maxHeartbeats 4000000 in
theorem why_rest_7 (c m : Nat) (b off : Nat) (xs : List EvD) (w : World) (h : Evs w (some ⟨b, off, none⟩) (m + 1) xs)  (po re id li nn : Int) (bs : List UInt8) (A' : Option Addr) (L c' : Nat) (hl : bs.length = L) {R : ByteArray} (hS : Says (m + 1) xs ⟨7, po, re, id, li, nn, bs⟩ R) (hr : rightB ⟨7, po, re, id, li, nn, bs⟩ = true) (ht : ¬ po < atR EvD.pos xs ((m + 1 : Nat) : Int)) :
    Calls Tryd.prog 17 #[.slice (some ⟨b, off, none⟩) (m + 1) c, .agg #[.int .i64 7, .int .i64 po, .int .i64 re, .int .i64 id, .int .i64 li, .int .i64 nn, .slice A' L c']] w (ValEnd (.string R) w) := by
  have hRight := fun W => right14_any ⟨7, po, re, id, li, nn, bs⟩ A' L c' hl W
  rw [hr] at hRight
  unfold aggE at hRight
  simp only at hRight
  have HRight := Lib.hid hRight
  have hn := h.2.1
  have HS := Lib.hid hS
  have HT := Lib.hid ht
  clear ht
  clear hRight hl hS
  obtain ⟨q, hq⟩ : ∃ q, w.heap.size = q := ⟨_, rfl⟩
  obtain ⟨wz, hwz⟩ : ∃ wz, w.alloc (.cells #[.int .i64 7, .int .i64 po, .int .i64 re, .int .i64 id, .int .i64 li, .int .i64 nn, .slice A' L c'] 24) = wz := ⟨_, rfl⟩
  have HP := Lib.hid (show Blk wz q 24 #[.int .i64 7, .int .i64 po, .int .i64 re, .int .i64 id, .int .i64 li, .int .i64 nn, .slice A' L c'] from hwz ▸ hq ▸ Blk.new w 24 _)
  have HK := Lib.hid (show Kept NoBlk w wz from hwz ▸ (Kept.refl NoBlk w).alloc _)
  have H := Lib.hid (h.kept HK.out (NoCells.none _))
  have p0 : wz.cell? ⟨q, 0, none⟩ = some (.int .i64 7) := HP.out.cell 0
  have p1 : wz.cell? ⟨q, 0 + 1, none⟩ = some (.int .i64 po) := HP.out.cell 1
  have p2 : wz.cell? ⟨q, 0 + 2, none⟩ = some (.int .i64 re) := HP.out.cell 2
  have p3 : wz.cell? ⟨q, 0 + 3, none⟩ = some (.int .i64 id) := HP.out.cell 3
  have p4 : wz.cell? ⟨q, 0 + 4, none⟩ = some (.int .i64 li) := HP.out.cell 4
  have p5 : wz.cell? ⟨q, 0 + 5, none⟩ = some (.int .i64 nn) := HP.out.cell 5
  have p6 : wz.cell? ⟨q, 0 + 6, none⟩ = some (.slice A' L c') := HP.out.cell 6
  clear h
  go_enter Tryd.func17, Tryd.ntmps17
  go_upto_region 1 with fail
  clear hwz hq
  go_wp2_with fail
  refine (HRight.out _).mono ?_
  rintro e1 w1 ⟨rfl, hk1⟩
  have HP1 := Lib.hid (HP.out.kept hk1 (fun e => e.elim))
  have HK1 := Lib.hid (HK.out.trans hk1)
  have H1 := Lib.hid (H.out.kept hk1 (NoCells.none _))
  clear p0 p1 p2 p3 p4 p5 p6 hk1 HP HK H HRight
  have p0 : w1.cell? ⟨q, 0, none⟩ = some (.int .i64 7) := HP1.out.cell 0
  have p1 : w1.cell? ⟨q, 0 + 1, none⟩ = some (.int .i64 po) := HP1.out.cell 1
  have HR := Lib.hid (HS.out.rest hr (fun h => absurd h.2 (Int.not_lt.2 HT.out)) (by rw [ show (((m + 1 : Nat) : Int) == 0) = false by rw [beq_eq_false_iff_ne]; omega]; rfl))
  simp only at HR
  obtain ⟨b3, off3, a, v, hA, ha, _, c1, _⟩ := H1.out.at_ (k := m) (by omega)
  cases hA
  have hlp := atR_in (f := EvD.pos) ha
  obtain ⟨lp, hlp2⟩ : ∃ x, a.pos = x := ⟨_, rfl⟩
  rw [hlp2] at hlp c1
  have HLp := Lib.hid (show atR EvD.pos xs ((m + 1 : Nat) : Int) = lp from hlp)
  clear ha hlp hlp2
  have hd2 : ¬ po < lp := HLp.out ▸ (Int.not_lt.2 HT.out : ¬ po < atR EvD.pos xs ((m + 1 : Nat) : Int))
  have z2 : IntKind.i64.wrap ((m : Int) + 1 - 1) = (m : Int) := by rw [IntKind.wrap_i64]; omega
  have z0 : ((m : Int) + 1 == 0) = false := by rw [beq_eq_false_iff_ne]; omega
  have z3 : (0 : Int) ≤ (m : Int) := by omega
  have z4 : (m : Int) < (m : Int) + 1 := by omega
  have z5 : (0 : Int) < (m : Int) + 1 := by omega
  go_wp2_with fail
  go_quiet (fail)
  go_wp2_with fail
  obtain ⟨w2, hw2⟩ : ∃ w2, w1.drewN nq = w2 := ⟨_, rfl⟩
  have HP2 := Lib.hid (show Blk w2 q 24 #[.int .i64 7, .int .i64 po, .int .i64 re, .int .i64 id, .int .i64 li, .int .i64 nn, .slice A' L c'] from hw2 ▸ HP1.out.drewN _)
  have HK2 := Lib.hid (show Kept NoBlk w w2 from hw2 ▸ HK1.out.drewN _)
  have H2 := Lib.hid (H1.out.kept (hw2 ▸ (Kept.refl NoBlk w1).drewN _ : Kept NoBlk w1 w2) (NoCells.none _))
  rw [hw2]
  clear hw2 p0 p1
  go_loopg [5] (m + 1) (fun g v wr => ∃ k : Nat, g + k = (m + 1) ∧ v = .int .i64 k ∧ (xs.take k).any (fun x => closesB x.kind) = false ∧ wr = w2)
  case atStart => exact ⟨0, by omega, rfl, rfl, rfl⟩
  case round =>
    obtain ⟨k, hgk, rfl, h0, hwr⟩ := hrel
    rw [hwr]
    clear hwr
    have Hgk := Lib.hid hgk
    have H0 := Lib.hid h0
    clear hgk h0
    by_cases hlt : k < (m + 1)
    · obtain ⟨b2, off2, a, v, hA2, ha, c0, _⟩ := H2.out.at_ hlt
      have HA := Lib.hid ha
      cases hA2
      have zk3 : (0 : Int) ≤ (k : Int) := by omega
      have zk4 : (k : Int) < ((m : Int) + 1) := by omega
      have hcl := fun W => closes12_any a.kind W
      obtain ⟨ak, hak⟩ : ∃ x, a.kind = x := ⟨_, rfl⟩
      obtain ⟨ac, hac⟩ : ∃ x, closesB ak = x := ⟨_, rfl⟩
      rw [hak] at c0
      simp only [hak, hac] at hcl
      have HCl := Lib.hid hcl
      have HAc := Lib.hid (show closesB a.kind = ac by rw [hak, hac])
      clear hcl hac hak ha
      go_wp2_with fail
      refine (HCl.out _).mono ?_
      rintro e2 w3 ⟨rfl, rfl⟩
      cases ac
      · go_wp2_with fail
        go_roundg ((m + 1) - (k + 1))
        case measure => have := Hgk.out; omega
        case rel => exact ⟨k + 1, by omega, by go_num, by rw [any_snoc _ HA.out, H0.out, HAc.out]; rfl, rfl⟩
      · have HW := Lib.hid (HR.out.1 (any_hit _ HA.out HAc.out))
        go_wp2_with fail
        go_ret
        exact ⟨by rw [HW.out]; rfl, HK2.out⟩
    · have hall : xs.take k = xs := by rw [List.take_of_length_le (by rw [H2.out.1]; omega)]
      have hcf : xs.any (fun x => closesB x.kind) = false := by
        have := H0.out
        rw [hall] at this
        exact this
      have zk4 : ¬ (k : Int) < ((m : Int) + 1) := fun h => hlt (by omega)
      have HR2 := Lib.hid (HR.out.2 hcf)
      have hRefs := fun (W : World) (H : Evs W (some ⟨b, off, none⟩) (m + 1) xs) => refs_any (some ⟨b, off, none⟩) (m + 1) c xs W H ⟨7, po, re, id, li, nn, bs⟩ (.slice A' L c')
      obtain ⟨fb, hfb⟩ : ∃ b, refsR xs ⟨7, po, re, id, li, nn, bs⟩ = b := ⟨_, rfl⟩
      rw [hfb] at hRefs HR2
      unfold aggE at hRefs
      have HRefs := Lib.hid hRefs
      clear hall hcf hlt hRefs hfb
      have p0 : w2.cell? ⟨q, 0, none⟩ = some (.int .i64 7) := HP2.out.cell 0
      have p1 : w2.cell? ⟨q, 0 + 1, none⟩ = some (.int .i64 po) := HP2.out.cell 1
      have p2 : w2.cell? ⟨q, 0 + 2, none⟩ = some (.int .i64 re) := HP2.out.cell 2
      have p3 : w2.cell? ⟨q, 0 + 3, none⟩ = some (.int .i64 id) := HP2.out.cell 3
      have p4 : w2.cell? ⟨q, 0 + 4, none⟩ = some (.int .i64 li) := HP2.out.cell 4
      have p5 : w2.cell? ⟨q, 0 + 5, none⟩ = some (.int .i64 nn) := HP2.out.cell 5
      have p6 : w2.cell? ⟨q, 0 + 6, none⟩ = some (.slice A' L c') := HP2.out.cell 6
      go_wp2_with fail
      refine (HRefs.out _ H2.out).mono ?_
      rintro e3 w3 ⟨rfl, hk3⟩
      have HP3 := Lib.hid (HP2.out.kept hk3 (fun e => e.elim))
      have HK3 := Lib.hid (HK2.out.trans hk3)
      have H3 := Lib.hid (H2.out.kept hk3 (NoCells.none _))
      clear p0 p1 p2 p3 p4 p5 p6 hk3
      cases fb
      · have HW := Lib.hid (HR2.out.1 rfl)
        go_wp2_with fail
        go_ret
        exact ⟨by rw [HW.out]; rfl, HK3.out⟩
      have HR3 := Lib.hid (HR2.out.2 rfl)
      have hTask := fun (W : World) (H : Evs W (some ⟨b, off, none⟩) (m + 1) xs) => task36_any (some ⟨b, off, none⟩) (m + 1) c xs W H
      obtain ⟨ti, hti⟩ : ∃ b, (taskR xs).1 = b := ⟨_, rfl⟩
      obtain ⟨tp, htp⟩ : ∃ b, (taskR xs).2 = b := ⟨_, rfl⟩
      simp only [hti, htp] at hTask
      rw [hti] at HR3
      have HTask := Lib.hid hTask
      clear hTask hti htp
      go_wp2_with fail
      refine (HTask.out _ H3.out).mono ?_
      rintro e4 w4 ⟨rfl, hk4⟩
      have HP4 := Lib.hid (HP3.out.kept hk4 (fun e => e.elim))
      have HK4 := Lib.hid (HK3.out.trans hk4)
      have H4 := Lib.hid (H3.out.kept hk4 (NoCells.none _))
      have p0 : w4.cell? ⟨q, 0, none⟩ = some (.int .i64 7) := HP4.out.cell 0
      have p3 : w4.cell? ⟨q, 0 + 3, none⟩ = some (.int .i64 id) := HP4.out.cell 3
      clear hk4
      have HR4 := Lib.hid (HR3.out.2 (fun h => by have := h.1; omega))
      go_wp2_with fail
      go_loopg [8] (m + 1) (fun g v wr => ∃ k : Nat, g + k = (m + 1) ∧ v = .int .i64 k ∧ (List.range k).any (sameR xs ⟨7, po, re, id, li, nn, bs⟩) = false ∧ Kept NoBlk w4 wr)
      case atStart => exact ⟨0, by omega, rfl, rfl, Kept.refl _ _⟩
      case round =>
        obtain ⟨j, hgj, rfl, h0, hkr⟩ := hrel
        obtain ⟨wx, hwx⟩ : ∃ wx, wr = wx := ⟨_, rfl⟩
        rw [hwx] at hkr
        have Hgj := Lib.hid hgj
        have H0 := Lib.hid h0
        have HKr := Lib.hid hkr
        have HP5 := Lib.hid (HP4.out.kept HKr.out (fun e => e.elim))
        have H5 := Lib.hid (H4.out.kept HKr.out (NoCells.none _))
        rw [hwx]
        clear hgj h0 hkr hwx p0 p3
        by_cases hlj : j < (m + 1)
        · obtain ⟨b4, off4, a, v, hA4, ha, hev⟩ := H5.out.at_ hlj
          cases hA4
          have HEv := Lib.hid hev
          have hsa := same_at (e := ⟨7, po, re, id, li, nn, bs⟩) ha
          have c0 := hev.1
          have c3 := hev.2.2.2.1
          have zk3 : (0 : Int) ≤ (j : Int) := by omega
          have zj4 : (j : Int) < ((m : Int) + 1) := by omega
          have p0 : wx.cell? ⟨q, 0, none⟩ = some (.int .i64 7) := HP5.out.cell 0
          have p3 : wx.cell? ⟨q, 0 + 3, none⟩ = some (.int .i64 id) := HP5.out.cell 3
          obtain ⟨ak, hak⟩ : ∃ x, a.kind = x := ⟨_, rfl⟩
          obtain ⟨ai, hai⟩ : ∃ x, a.id = x := ⟨_, rfl⟩
          obtain ⟨ob, hob⟩ : ∃ x, openR xs ((j : Int) + 1) = x := ⟨_, rfl⟩
          have hop := fun (W : World) (H : Evs W (some ⟨b, off, none⟩) (m + 1) xs) => open37_any (some ⟨b, off, none⟩) (m + 1) c xs W H ((j : Int) + 1)
          simp only [hob] at hop
          have HOp := Lib.hid hop
          rw [hak] at c0
          rw [hai] at c3
          simp only [hak, hai, hob] at hsa
          clear hop hob hai hak ha hev
          cases b1 : (ak == 7)
          · rw [b1] at hsa
            have HSa := Lib.hid (show sameR xs ⟨7, po, re, id, li, nn, bs⟩ j = false from hsa)
            clear hsa
            go_wp2_with fail
            go_quiet (fail)
            go_wp2_with fail
            go_roundg ((m + 1) - (j + 1))
            case measure => have := Hgj.out; omega
            case rel => exact ⟨j + 1, by omega, by go_num, by rw [range_snoc, H0.out, HSa.out]; rfl, by first | exact HKr.out.drewN _ | exact HKr.out⟩
          rw [b1] at hsa
          cases b2 : (ai == id)
          · rw [b2] at hsa
            have HSa := Lib.hid (show sameR xs ⟨7, po, re, id, li, nn, bs⟩ j = false from hsa)
            clear hsa
            go_wp2_with fail
            go_quiet (fail)
            go_wp2_with fail
            go_roundg ((m + 1) - (j + 1))
            case measure => have := Hgj.out; omega
            case rel => exact ⟨j + 1, by omega, by go_num, by rw [range_snoc, H0.out, HSa.out]; rfl, by first | exact HKr.out.drewN _ | exact HKr.out⟩
          rw [b2] at hsa
          have HSa := Lib.hid (show sameR xs ⟨7, po, re, id, li, nn, bs⟩ j = ob from hsa)
          have HD := Lib.hid (show ∀ d, Evs (wx.drewN d) (some ⟨b, off, none⟩) (m + 1) xs from fun d => H5.out.kept ((Kept.refl NoBlk wx).drewN d) (NoCells.none _))
          clear hsa
          go_wp2_with fail
          go_still_tail 22, (by kernel_rfl)
          change wpList _ _ _ _ _ wx.drew
          obtain ⟨w5, hw5⟩ : ∃ w5, wx.drew = w5 := ⟨_, rfl⟩
          have HE5 := Lib.hid (show Evs w5 (some ⟨b, off, none⟩) (m + 1) xs from hw5 ▸ HD.out 1)
          have HK5 := Lib.hid (show Kept NoBlk wx w5 from hw5 ▸ (Kept.refl NoBlk wx).drew)
          rw [hw5]
          clear hw5 c0 c3 p0 p3
          go_wp2_with fail
          refine (HOp.out _ HE5.out).mono ?_
          rintro e6 w6 ⟨rfl, hk6⟩
          have k6 := Lib.hid (HK5.out.trans hk6)
          clear hk6
          cases ob
          · go_wp2_with fail
            go_roundg ((m + 1) - (j + 1))
            case measure => have := Hgj.out; omega
            case rel => exact ⟨j + 1, by omega, by go_num, by rw [range_snoc, H0.out, HSa.out]; rfl, HKr.out.trans k6.out⟩
          · have HW := Lib.hid (HR4.out.1 ⟨by first | omega | trivial | simp, range_hit _ hlj HSa.out⟩)
            go_wp2_with fail
            go_ret
            exact ⟨by rw [HW.out]; rfl, (HK4.out.trans HKr.out).trans k6.out⟩
        · have hj : j = (m + 1) := by have := Hgj.out; omega
          have hub : (List.range (m + 1)).any (sameR xs ⟨7, po, re, id, li, nn, bs⟩) = false := by rw [← hj]; exact H0.out
          have HW := Lib.hid (HR4.out.2 (fun h => by rw [hub] at h; cases h.2))
          have zj4 : ¬ (j : Int) < ((m : Int) + 1) := fun h => hlj (by omega)
          clear hj hub hlj
          go_wp2_with fail
          go_ret
          exact ⟨by rw [HW.out]; rfl, HK4.out.trans HKr.out⟩
set_option maxRecDepth 100000 in
set_option maxHeartbeats 4000000 in
theorem why_rest_12 (c m : Nat) (b off : Nat) (xs : List EvD) (w : World) (h : Evs w (some ⟨b, off, none⟩) (m + 1) xs)  (po re id li nn : Int) (bs : List UInt8) (A' : Option Addr) (L c' : Nat) (hl : bs.length = L) {R : ByteArray} (hS : Says (m + 1) xs ⟨12, po, re, id, li, nn, bs⟩ R) (hr : rightB ⟨12, po, re, id, li, nn, bs⟩ = true) (ht : ¬ po < atR EvD.pos xs ((m + 1 : Nat) : Int)) :
    Calls Tryd.prog 17 #[.slice (some ⟨b, off, none⟩) (m + 1) c, .agg #[.int .i64 12, .int .i64 po, .int .i64 re, .int .i64 id, .int .i64 li, .int .i64 nn, .slice A' L c']] w (ValEnd (.string R) w) := by
  have hRight := fun W => right14_any ⟨12, po, re, id, li, nn, bs⟩ A' L c' hl W
  rw [hr] at hRight
  unfold aggE at hRight
  simp only at hRight
  have HRight := Lib.hid hRight
  have hn := h.2.1
  have HS := Lib.hid hS
  have HT := Lib.hid ht
  clear ht
  clear hRight hl hS
  obtain ⟨q, hq⟩ : ∃ q, w.heap.size = q := ⟨_, rfl⟩
  obtain ⟨wz, hwz⟩ : ∃ wz, w.alloc (.cells #[.int .i64 12, .int .i64 po, .int .i64 re, .int .i64 id, .int .i64 li, .int .i64 nn, .slice A' L c'] 24) = wz := ⟨_, rfl⟩
  have HP := Lib.hid (show Blk wz q 24 #[.int .i64 12, .int .i64 po, .int .i64 re, .int .i64 id, .int .i64 li, .int .i64 nn, .slice A' L c'] from hwz ▸ hq ▸ Blk.new w 24 _)
  have HK := Lib.hid (show Kept NoBlk w wz from hwz ▸ (Kept.refl NoBlk w).alloc _)
  have H := Lib.hid (h.kept HK.out (NoCells.none _))
  have p0 : wz.cell? ⟨q, 0, none⟩ = some (.int .i64 12) := HP.out.cell 0
  have p1 : wz.cell? ⟨q, 0 + 1, none⟩ = some (.int .i64 po) := HP.out.cell 1
  have p2 : wz.cell? ⟨q, 0 + 2, none⟩ = some (.int .i64 re) := HP.out.cell 2
  have p3 : wz.cell? ⟨q, 0 + 3, none⟩ = some (.int .i64 id) := HP.out.cell 3
  have p4 : wz.cell? ⟨q, 0 + 4, none⟩ = some (.int .i64 li) := HP.out.cell 4
  have p5 : wz.cell? ⟨q, 0 + 5, none⟩ = some (.int .i64 nn) := HP.out.cell 5
  have p6 : wz.cell? ⟨q, 0 + 6, none⟩ = some (.slice A' L c') := HP.out.cell 6
  clear h
  go_enter Tryd.func17, Tryd.ntmps17
  go_upto_region 1 with fail
  clear hwz hq
  go_wp2_with fail
  refine (HRight.out _).mono ?_
  rintro e1 w1 ⟨rfl, hk1⟩
  have HP1 := Lib.hid (HP.out.kept hk1 (fun e => e.elim))
  have HK1 := Lib.hid (HK.out.trans hk1)
  have H1 := Lib.hid (H.out.kept hk1 (NoCells.none _))
  clear p0 p1 p2 p3 p4 p5 p6 hk1 HP HK H HRight
  have p0 : w1.cell? ⟨q, 0, none⟩ = some (.int .i64 12) := HP1.out.cell 0
  have p1 : w1.cell? ⟨q, 0 + 1, none⟩ = some (.int .i64 po) := HP1.out.cell 1
  have HR := Lib.hid (HS.out.rest hr (fun h => absurd h.2 (Int.not_lt.2 HT.out)) (by rw [ show (((m + 1 : Nat) : Int) == 0) = false by rw [beq_eq_false_iff_ne]; omega]; rfl))
  simp only at HR
  obtain ⟨b3, off3, a, v, hA, ha, _, c1, _⟩ := H1.out.at_ (k := m) (by omega)
  cases hA
  have hlp := atR_in (f := EvD.pos) ha
  obtain ⟨lp, hlp2⟩ : ∃ x, a.pos = x := ⟨_, rfl⟩
  rw [hlp2] at hlp c1
  have HLp := Lib.hid (show atR EvD.pos xs ((m + 1 : Nat) : Int) = lp from hlp)
  clear ha hlp hlp2
  have hd2 : ¬ po < lp := HLp.out ▸ (Int.not_lt.2 HT.out : ¬ po < atR EvD.pos xs ((m + 1 : Nat) : Int))
  have z2 : IntKind.i64.wrap ((m : Int) + 1 - 1) = (m : Int) := by rw [IntKind.wrap_i64]; omega
  have z0 : ((m : Int) + 1 == 0) = false := by rw [beq_eq_false_iff_ne]; omega
  have z3 : (0 : Int) ≤ (m : Int) := by omega
  have z4 : (m : Int) < (m : Int) + 1 := by omega
  have z5 : (0 : Int) < (m : Int) + 1 := by omega
  go_wp2_with fail
  go_quiet (fail)
  go_wp2_with fail
  obtain ⟨w2, hw2⟩ : ∃ w2, w1.drewN nq = w2 := ⟨_, rfl⟩
  have HP2 := Lib.hid (show Blk w2 q 24 #[.int .i64 12, .int .i64 po, .int .i64 re, .int .i64 id, .int .i64 li, .int .i64 nn, .slice A' L c'] from hw2 ▸ HP1.out.drewN _)
  have HK2 := Lib.hid (show Kept NoBlk w w2 from hw2 ▸ HK1.out.drewN _)
  have H2 := Lib.hid (H1.out.kept (hw2 ▸ (Kept.refl NoBlk w1).drewN _ : Kept NoBlk w1 w2) (NoCells.none _))
  rw [hw2]
  clear hw2 p0 p1
  go_loopg [5] (m + 1) (fun g v wr => ∃ k : Nat, g + k = (m + 1) ∧ v = .int .i64 k ∧ (xs.take k).any (fun x => closesB x.kind) = false ∧ wr = w2)
  case atStart => exact ⟨0, by omega, rfl, rfl, rfl⟩
  case round =>
    obtain ⟨k, hgk, rfl, h0, hwr⟩ := hrel
    rw [hwr]
    clear hwr
    have Hgk := Lib.hid hgk
    have H0 := Lib.hid h0
    clear hgk h0
    by_cases hlt : k < (m + 1)
    · obtain ⟨b2, off2, a, v, hA2, ha, c0, _⟩ := H2.out.at_ hlt
      have HA := Lib.hid ha
      cases hA2
      have zk3 : (0 : Int) ≤ (k : Int) := by omega
      have zk4 : (k : Int) < ((m : Int) + 1) := by omega
      have hcl := fun W => closes12_any a.kind W
      obtain ⟨ak, hak⟩ : ∃ x, a.kind = x := ⟨_, rfl⟩
      obtain ⟨ac, hac⟩ : ∃ x, closesB ak = x := ⟨_, rfl⟩
      rw [hak] at c0
      simp only [hak, hac] at hcl
      have HCl := Lib.hid hcl
      have HAc := Lib.hid (show closesB a.kind = ac by rw [hak, hac])
      clear hcl hac hak ha
      go_wp2_with fail
      refine (HCl.out _).mono ?_
      rintro e2 w3 ⟨rfl, rfl⟩
      cases ac
      · go_wp2_with fail
        go_roundg ((m + 1) - (k + 1))
        case measure => have := Hgk.out; omega
        case rel => exact ⟨k + 1, by omega, by go_num, by rw [any_snoc _ HA.out, H0.out, HAc.out]; rfl, rfl⟩
      · have HW := Lib.hid (HR.out.1 (any_hit _ HA.out HAc.out))
        go_wp2_with fail
        go_ret
        exact ⟨by rw [HW.out]; rfl, HK2.out⟩
    · have hall : xs.take k = xs := by rw [List.take_of_length_le (by rw [H2.out.1]; omega)]
      have hcf : xs.any (fun x => closesB x.kind) = false := by
        have := H0.out
        rw [hall] at this
        exact this
      have zk4 : ¬ (k : Int) < ((m : Int) + 1) := fun h => hlt (by omega)
      have HR2 := Lib.hid (HR.out.2 hcf)
      have hRefs := fun (W : World) (H : Evs W (some ⟨b, off, none⟩) (m + 1) xs) => refs_any (some ⟨b, off, none⟩) (m + 1) c xs W H ⟨12, po, re, id, li, nn, bs⟩ (.slice A' L c')
      obtain ⟨fb, hfb⟩ : ∃ b, refsR xs ⟨12, po, re, id, li, nn, bs⟩ = b := ⟨_, rfl⟩
      rw [hfb] at hRefs HR2
      unfold aggE at hRefs
      have HRefs := Lib.hid hRefs
      clear hall hcf hlt hRefs hfb
      have p0 : w2.cell? ⟨q, 0, none⟩ = some (.int .i64 12) := HP2.out.cell 0
      have p1 : w2.cell? ⟨q, 0 + 1, none⟩ = some (.int .i64 po) := HP2.out.cell 1
      have p2 : w2.cell? ⟨q, 0 + 2, none⟩ = some (.int .i64 re) := HP2.out.cell 2
      have p3 : w2.cell? ⟨q, 0 + 3, none⟩ = some (.int .i64 id) := HP2.out.cell 3
      have p4 : w2.cell? ⟨q, 0 + 4, none⟩ = some (.int .i64 li) := HP2.out.cell 4
      have p5 : w2.cell? ⟨q, 0 + 5, none⟩ = some (.int .i64 nn) := HP2.out.cell 5
      have p6 : w2.cell? ⟨q, 0 + 6, none⟩ = some (.slice A' L c') := HP2.out.cell 6
      go_wp2_with fail
      refine (HRefs.out _ H2.out).mono ?_
      rintro e3 w3 ⟨rfl, hk3⟩
      have HP3 := Lib.hid (HP2.out.kept hk3 (fun e => e.elim))
      have HK3 := Lib.hid (HK2.out.trans hk3)
      have H3 := Lib.hid (H2.out.kept hk3 (NoCells.none _))
      clear p0 p1 p2 p3 p4 p5 p6 hk3
      cases fb
      · have HW := Lib.hid (HR2.out.1 rfl)
        go_wp2_with fail
        go_ret
        exact ⟨by rw [HW.out]; rfl, HK3.out⟩
      have HR3 := Lib.hid (HR2.out.2 rfl)
      have hTask := fun (W : World) (H : Evs W (some ⟨b, off, none⟩) (m + 1) xs) => task36_any (some ⟨b, off, none⟩) (m + 1) c xs W H
      obtain ⟨ti, hti⟩ : ∃ b, (taskR xs).1 = b := ⟨_, rfl⟩
      obtain ⟨tp, htp⟩ : ∃ b, (taskR xs).2 = b := ⟨_, rfl⟩
      simp only [hti, htp] at hTask
      rw [hti] at HR3
      have HTask := Lib.hid hTask
      clear hTask hti htp
      go_wp2_with fail
      refine (HTask.out _ H3.out).mono ?_
      rintro e4 w4 ⟨rfl, hk4⟩
      have HP4 := Lib.hid (HP3.out.kept hk4 (fun e => e.elim))
      have HK4 := Lib.hid (HK3.out.trans hk4)
      have H4 := Lib.hid (H3.out.kept hk4 (NoCells.none _))
      have p0 : w4.cell? ⟨q, 0, none⟩ = some (.int .i64 12) := HP4.out.cell 0
      have p3 : w4.cell? ⟨q, 0 + 3, none⟩ = some (.int .i64 id) := HP4.out.cell 3
      clear hk4
      have HR4 := Lib.hid (HR3.out.2 (fun h => by have := h.1; omega))
      go_wp2_with fail
      go_loopg [8] (m + 1) (fun g v wr => ∃ k : Nat, g + k = (m + 1) ∧ v = .int .i64 k ∧ (List.range k).any (sameR xs ⟨12, po, re, id, li, nn, bs⟩) = false ∧ Kept NoBlk w4 wr)
      case atStart => exact ⟨0, by omega, rfl, rfl, Kept.refl _ _⟩
      case round =>
        obtain ⟨j, hgj, rfl, h0, hkr⟩ := hrel
        obtain ⟨wx, hwx⟩ : ∃ wx, wr = wx := ⟨_, rfl⟩
        rw [hwx] at hkr
        have Hgj := Lib.hid hgj
        have H0 := Lib.hid h0
        have HKr := Lib.hid hkr
        have HP5 := Lib.hid (HP4.out.kept HKr.out (fun e => e.elim))
        have H5 := Lib.hid (H4.out.kept HKr.out (NoCells.none _))
        rw [hwx]
        clear hgj h0 hkr hwx p0 p3
        by_cases hlj : j < (m + 1)
        · obtain ⟨b4, off4, a, v, hA4, ha, hev⟩ := H5.out.at_ hlj
          cases hA4
          have HEv := Lib.hid hev
          have hsa := same_at (e := ⟨12, po, re, id, li, nn, bs⟩) ha
          have c0 := hev.1
          have c3 := hev.2.2.2.1
          have zk3 : (0 : Int) ≤ (j : Int) := by omega
          have zj4 : (j : Int) < ((m : Int) + 1) := by omega
          have p0 : wx.cell? ⟨q, 0, none⟩ = some (.int .i64 12) := HP5.out.cell 0
          have p3 : wx.cell? ⟨q, 0 + 3, none⟩ = some (.int .i64 id) := HP5.out.cell 3
          obtain ⟨ak, hak⟩ : ∃ x, a.kind = x := ⟨_, rfl⟩
          obtain ⟨ai, hai⟩ : ∃ x, a.id = x := ⟨_, rfl⟩
          obtain ⟨ob, hob⟩ : ∃ x, openR xs ((j : Int) + 1) = x := ⟨_, rfl⟩
          have hop := fun (W : World) (H : Evs W (some ⟨b, off, none⟩) (m + 1) xs) => open37_any (some ⟨b, off, none⟩) (m + 1) c xs W H ((j : Int) + 1)
          simp only [hob] at hop
          have HOp := Lib.hid hop
          rw [hak] at c0
          rw [hai] at c3
          simp only [hak, hai, hob] at hsa
          clear hop hob hai hak ha hev
          cases b1 : (ak == 12)
          · rw [b1] at hsa
            have HSa := Lib.hid (show sameR xs ⟨12, po, re, id, li, nn, bs⟩ j = false from hsa)
            clear hsa
            go_wp2_with fail
            go_quiet (fail)
            go_wp2_with fail
            go_roundg ((m + 1) - (j + 1))
            case measure => have := Hgj.out; omega
            case rel => exact ⟨j + 1, by omega, by go_num, by rw [range_snoc, H0.out, HSa.out]; rfl, by first | exact HKr.out.drewN _ | exact HKr.out⟩
          rw [b1] at hsa
          cases b2 : (ai == id)
          · rw [b2] at hsa
            have HSa := Lib.hid (show sameR xs ⟨12, po, re, id, li, nn, bs⟩ j = false from hsa)
            clear hsa
            go_wp2_with fail
            go_quiet (fail)
            go_wp2_with fail
            go_roundg ((m + 1) - (j + 1))
            case measure => have := Hgj.out; omega
            case rel => exact ⟨j + 1, by omega, by go_num, by rw [range_snoc, H0.out, HSa.out]; rfl, by first | exact HKr.out.drewN _ | exact HKr.out⟩
          rw [b2] at hsa
          have HSa := Lib.hid (show sameR xs ⟨12, po, re, id, li, nn, bs⟩ j = ob from hsa)
          have HD := Lib.hid (show ∀ d, Evs (wx.drewN d) (some ⟨b, off, none⟩) (m + 1) xs from fun d => H5.out.kept ((Kept.refl NoBlk wx).drewN d) (NoCells.none _))
          clear hsa
          go_wp2_with fail
          go_still_tail 22, (by kernel_rfl)
          change wpList _ _ _ _ _ wx.drew
          obtain ⟨w5, hw5⟩ : ∃ w5, wx.drew = w5 := ⟨_, rfl⟩
          have HE5 := Lib.hid (show Evs w5 (some ⟨b, off, none⟩) (m + 1) xs from hw5 ▸ HD.out 1)
          have HK5 := Lib.hid (show Kept NoBlk wx w5 from hw5 ▸ (Kept.refl NoBlk wx).drew)
          rw [hw5]
          clear hw5 c0 c3 p0 p3
          go_wp2_with fail
          refine (HOp.out _ HE5.out).mono ?_
          rintro e6 w6 ⟨rfl, hk6⟩
          have k6 := Lib.hid (HK5.out.trans hk6)
          clear hk6
          cases ob
          · go_wp2_with fail
            go_roundg ((m + 1) - (j + 1))
            case measure => have := Hgj.out; omega
            case rel => exact ⟨j + 1, by omega, by go_num, by rw [range_snoc, H0.out, HSa.out]; rfl, HKr.out.trans k6.out⟩
          · have HW := Lib.hid (HR4.out.1 ⟨by first | omega | trivial | simp, range_hit _ hlj HSa.out⟩)
            go_wp2_with fail
            go_ret
            exact ⟨by rw [HW.out]; rfl, (HK4.out.trans HKr.out).trans k6.out⟩
        · have hj : j = (m + 1) := by have := Hgj.out; omega
          have hub : (List.range (m + 1)).any (sameR xs ⟨12, po, re, id, li, nn, bs⟩) = false := by rw [← hj]; exact H0.out
          have HW := Lib.hid (HR4.out.2 (fun h => by rw [hub] at h; cases h.2))
          have zj4 : ¬ (j : Int) < ((m : Int) + 1) := fun h => hlj (by omega)
          clear hj hub hlj
          go_wp2_with fail
          go_ret
          exact ⟨by rw [HW.out]; rfl, HK4.out.trans HKr.out⟩
set_option maxRecDepth 100000 in
set_option maxHeartbeats 4000000 in
theorem why_rest_17 (c m : Nat) (b off : Nat) (xs : List EvD) (w : World) (h : Evs w (some ⟨b, off, none⟩) (m + 1) xs)  (po re id li nn : Int) (bs : List UInt8) (A' : Option Addr) (L c' : Nat) (hl : bs.length = L) {R : ByteArray} (hS : Says (m + 1) xs ⟨17, po, re, id, li, nn, bs⟩ R) (hr : rightB ⟨17, po, re, id, li, nn, bs⟩ = true) (ht : ¬ po < atR EvD.pos xs ((m + 1 : Nat) : Int)) :
    Calls Tryd.prog 17 #[.slice (some ⟨b, off, none⟩) (m + 1) c, .agg #[.int .i64 17, .int .i64 po, .int .i64 re, .int .i64 id, .int .i64 li, .int .i64 nn, .slice A' L c']] w (ValEnd (.string R) w) := by
  have hRight := fun W => right14_any ⟨17, po, re, id, li, nn, bs⟩ A' L c' hl W
  rw [hr] at hRight
  unfold aggE at hRight
  simp only at hRight
  have HRight := Lib.hid hRight
  have hn := h.2.1
  have HS := Lib.hid hS
  have HT := Lib.hid ht
  clear ht
  clear hRight hl hS
  obtain ⟨q, hq⟩ : ∃ q, w.heap.size = q := ⟨_, rfl⟩
  obtain ⟨wz, hwz⟩ : ∃ wz, w.alloc (.cells #[.int .i64 17, .int .i64 po, .int .i64 re, .int .i64 id, .int .i64 li, .int .i64 nn, .slice A' L c'] 24) = wz := ⟨_, rfl⟩
  have HP := Lib.hid (show Blk wz q 24 #[.int .i64 17, .int .i64 po, .int .i64 re, .int .i64 id, .int .i64 li, .int .i64 nn, .slice A' L c'] from hwz ▸ hq ▸ Blk.new w 24 _)
  have HK := Lib.hid (show Kept NoBlk w wz from hwz ▸ (Kept.refl NoBlk w).alloc _)
  have H := Lib.hid (h.kept HK.out (NoCells.none _))
  have p0 : wz.cell? ⟨q, 0, none⟩ = some (.int .i64 17) := HP.out.cell 0
  have p1 : wz.cell? ⟨q, 0 + 1, none⟩ = some (.int .i64 po) := HP.out.cell 1
  have p2 : wz.cell? ⟨q, 0 + 2, none⟩ = some (.int .i64 re) := HP.out.cell 2
  have p3 : wz.cell? ⟨q, 0 + 3, none⟩ = some (.int .i64 id) := HP.out.cell 3
  have p4 : wz.cell? ⟨q, 0 + 4, none⟩ = some (.int .i64 li) := HP.out.cell 4
  have p5 : wz.cell? ⟨q, 0 + 5, none⟩ = some (.int .i64 nn) := HP.out.cell 5
  have p6 : wz.cell? ⟨q, 0 + 6, none⟩ = some (.slice A' L c') := HP.out.cell 6
  clear h
  go_enter Tryd.func17, Tryd.ntmps17
  go_upto_region 1 with fail
  clear hwz hq
  go_wp2_with fail
  refine (HRight.out _).mono ?_
  rintro e1 w1 ⟨rfl, hk1⟩
  have HP1 := Lib.hid (HP.out.kept hk1 (fun e => e.elim))
  have HK1 := Lib.hid (HK.out.trans hk1)
  have H1 := Lib.hid (H.out.kept hk1 (NoCells.none _))
  clear p0 p1 p2 p3 p4 p5 p6 hk1 HP HK H HRight
  have p0 : w1.cell? ⟨q, 0, none⟩ = some (.int .i64 17) := HP1.out.cell 0
  have p1 : w1.cell? ⟨q, 0 + 1, none⟩ = some (.int .i64 po) := HP1.out.cell 1
  have HR := Lib.hid (HS.out.rest hr (fun h => absurd h.2 (Int.not_lt.2 HT.out)) (by rw [ show (((m + 1 : Nat) : Int) == 0) = false by rw [beq_eq_false_iff_ne]; omega]; rfl))
  simp only at HR
  obtain ⟨b3, off3, a, v, hA, ha, _, c1, _⟩ := H1.out.at_ (k := m) (by omega)
  cases hA
  have hlp := atR_in (f := EvD.pos) ha
  obtain ⟨lp, hlp2⟩ : ∃ x, a.pos = x := ⟨_, rfl⟩
  rw [hlp2] at hlp c1
  have HLp := Lib.hid (show atR EvD.pos xs ((m + 1 : Nat) : Int) = lp from hlp)
  clear ha hlp hlp2
  have hd2 : ¬ po < lp := HLp.out ▸ (Int.not_lt.2 HT.out : ¬ po < atR EvD.pos xs ((m + 1 : Nat) : Int))
  have z2 : IntKind.i64.wrap ((m : Int) + 1 - 1) = (m : Int) := by rw [IntKind.wrap_i64]; omega
  have z0 : ((m : Int) + 1 == 0) = false := by rw [beq_eq_false_iff_ne]; omega
  have z3 : (0 : Int) ≤ (m : Int) := by omega
  have z4 : (m : Int) < (m : Int) + 1 := by omega
  have z5 : (0 : Int) < (m : Int) + 1 := by omega
  go_wp2_with fail
  go_quiet (fail)
  go_wp2_with fail
  obtain ⟨w2, hw2⟩ : ∃ w2, w1.drewN nq = w2 := ⟨_, rfl⟩
  have HP2 := Lib.hid (show Blk w2 q 24 #[.int .i64 17, .int .i64 po, .int .i64 re, .int .i64 id, .int .i64 li, .int .i64 nn, .slice A' L c'] from hw2 ▸ HP1.out.drewN _)
  have HK2 := Lib.hid (show Kept NoBlk w w2 from hw2 ▸ HK1.out.drewN _)
  have H2 := Lib.hid (H1.out.kept (hw2 ▸ (Kept.refl NoBlk w1).drewN _ : Kept NoBlk w1 w2) (NoCells.none _))
  rw [hw2]
  clear hw2 p0 p1
  go_loopg [5] (m + 1) (fun g v wr => ∃ k : Nat, g + k = (m + 1) ∧ v = .int .i64 k ∧ (xs.take k).any (fun x => closesB x.kind) = false ∧ wr = w2)
  case atStart => exact ⟨0, by omega, rfl, rfl, rfl⟩
  case round =>
    obtain ⟨k, hgk, rfl, h0, hwr⟩ := hrel
    rw [hwr]
    clear hwr
    have Hgk := Lib.hid hgk
    have H0 := Lib.hid h0
    clear hgk h0
    by_cases hlt : k < (m + 1)
    · obtain ⟨b2, off2, a, v, hA2, ha, c0, _⟩ := H2.out.at_ hlt
      have HA := Lib.hid ha
      cases hA2
      have zk3 : (0 : Int) ≤ (k : Int) := by omega
      have zk4 : (k : Int) < ((m : Int) + 1) := by omega
      have hcl := fun W => closes12_any a.kind W
      obtain ⟨ak, hak⟩ : ∃ x, a.kind = x := ⟨_, rfl⟩
      obtain ⟨ac, hac⟩ : ∃ x, closesB ak = x := ⟨_, rfl⟩
      rw [hak] at c0
      simp only [hak, hac] at hcl
      have HCl := Lib.hid hcl
      have HAc := Lib.hid (show closesB a.kind = ac by rw [hak, hac])
      clear hcl hac hak ha
      go_wp2_with fail
      refine (HCl.out _).mono ?_
      rintro e2 w3 ⟨rfl, rfl⟩
      cases ac
      · go_wp2_with fail
        go_roundg ((m + 1) - (k + 1))
        case measure => have := Hgk.out; omega
        case rel => exact ⟨k + 1, by omega, by go_num, by rw [any_snoc _ HA.out, H0.out, HAc.out]; rfl, rfl⟩
      · have HW := Lib.hid (HR.out.1 (any_hit _ HA.out HAc.out))
        go_wp2_with fail
        go_ret
        exact ⟨by rw [HW.out]; rfl, HK2.out⟩
    · have hall : xs.take k = xs := by rw [List.take_of_length_le (by rw [H2.out.1]; omega)]
      have hcf : xs.any (fun x => closesB x.kind) = false := by
        have := H0.out
        rw [hall] at this
        exact this
      have zk4 : ¬ (k : Int) < ((m : Int) + 1) := fun h => hlt (by omega)
      have HR2 := Lib.hid (HR.out.2 hcf)
      have hRefs := fun (W : World) (H : Evs W (some ⟨b, off, none⟩) (m + 1) xs) => refs_any (some ⟨b, off, none⟩) (m + 1) c xs W H ⟨17, po, re, id, li, nn, bs⟩ (.slice A' L c')
      obtain ⟨fb, hfb⟩ : ∃ b, refsR xs ⟨17, po, re, id, li, nn, bs⟩ = b := ⟨_, rfl⟩
      rw [hfb] at hRefs HR2
      unfold aggE at hRefs
      have HRefs := Lib.hid hRefs
      clear hall hcf hlt hRefs hfb
      have p0 : w2.cell? ⟨q, 0, none⟩ = some (.int .i64 17) := HP2.out.cell 0
      have p1 : w2.cell? ⟨q, 0 + 1, none⟩ = some (.int .i64 po) := HP2.out.cell 1
      have p2 : w2.cell? ⟨q, 0 + 2, none⟩ = some (.int .i64 re) := HP2.out.cell 2
      have p3 : w2.cell? ⟨q, 0 + 3, none⟩ = some (.int .i64 id) := HP2.out.cell 3
      have p4 : w2.cell? ⟨q, 0 + 4, none⟩ = some (.int .i64 li) := HP2.out.cell 4
      have p5 : w2.cell? ⟨q, 0 + 5, none⟩ = some (.int .i64 nn) := HP2.out.cell 5
      have p6 : w2.cell? ⟨q, 0 + 6, none⟩ = some (.slice A' L c') := HP2.out.cell 6
      go_wp2_with fail
      refine (HRefs.out _ H2.out).mono ?_
      rintro e3 w3 ⟨rfl, hk3⟩
      have HP3 := Lib.hid (HP2.out.kept hk3 (fun e => e.elim))
      have HK3 := Lib.hid (HK2.out.trans hk3)
      have H3 := Lib.hid (H2.out.kept hk3 (NoCells.none _))
      clear p0 p1 p2 p3 p4 p5 p6 hk3
      cases fb
      · have HW := Lib.hid (HR2.out.1 rfl)
        go_wp2_with fail
        go_ret
        exact ⟨by rw [HW.out]; rfl, HK3.out⟩
      have HR3 := Lib.hid (HR2.out.2 rfl)
      have hTask := fun (W : World) (H : Evs W (some ⟨b, off, none⟩) (m + 1) xs) => task36_any (some ⟨b, off, none⟩) (m + 1) c xs W H
      obtain ⟨ti, hti⟩ : ∃ b, (taskR xs).1 = b := ⟨_, rfl⟩
      obtain ⟨tp, htp⟩ : ∃ b, (taskR xs).2 = b := ⟨_, rfl⟩
      simp only [hti, htp] at hTask
      rw [hti] at HR3
      have HTask := Lib.hid hTask
      clear hTask hti htp
      go_wp2_with fail
      refine (HTask.out _ H3.out).mono ?_
      rintro e4 w4 ⟨rfl, hk4⟩
      have HP4 := Lib.hid (HP3.out.kept hk4 (fun e => e.elim))
      have HK4 := Lib.hid (HK3.out.trans hk4)
      have H4 := Lib.hid (H3.out.kept hk4 (NoCells.none _))
      have p0 : w4.cell? ⟨q, 0, none⟩ = some (.int .i64 17) := HP4.out.cell 0
      have p3 : w4.cell? ⟨q, 0 + 3, none⟩ = some (.int .i64 id) := HP4.out.cell 3
      clear hk4
      have HR4 := Lib.hid (HR3.out.2 (fun h => by have := h.1; omega))
      go_wp2_with fail
      go_loopg [8] (m + 1) (fun g v wr => ∃ k : Nat, g + k = (m + 1) ∧ v = .int .i64 k ∧ (List.range k).any (sameR xs ⟨17, po, re, id, li, nn, bs⟩) = false ∧ Kept NoBlk w4 wr)
      case atStart => exact ⟨0, by omega, rfl, rfl, Kept.refl _ _⟩
      case round =>
        obtain ⟨j, hgj, rfl, h0, hkr⟩ := hrel
        obtain ⟨wx, hwx⟩ : ∃ wx, wr = wx := ⟨_, rfl⟩
        rw [hwx] at hkr
        have Hgj := Lib.hid hgj
        have H0 := Lib.hid h0
        have HKr := Lib.hid hkr
        have HP5 := Lib.hid (HP4.out.kept HKr.out (fun e => e.elim))
        have H5 := Lib.hid (H4.out.kept HKr.out (NoCells.none _))
        rw [hwx]
        clear hgj h0 hkr hwx p0 p3
        by_cases hlj : j < (m + 1)
        · obtain ⟨b4, off4, a, v, hA4, ha, hev⟩ := H5.out.at_ hlj
          cases hA4
          have HEv := Lib.hid hev
          have hsa := same_at (e := ⟨17, po, re, id, li, nn, bs⟩) ha
          have c0 := hev.1
          have c3 := hev.2.2.2.1
          have zk3 : (0 : Int) ≤ (j : Int) := by omega
          have zj4 : (j : Int) < ((m : Int) + 1) := by omega
          have p0 : wx.cell? ⟨q, 0, none⟩ = some (.int .i64 17) := HP5.out.cell 0
          have p3 : wx.cell? ⟨q, 0 + 3, none⟩ = some (.int .i64 id) := HP5.out.cell 3
          obtain ⟨ak, hak⟩ : ∃ x, a.kind = x := ⟨_, rfl⟩
          obtain ⟨ai, hai⟩ : ∃ x, a.id = x := ⟨_, rfl⟩
          obtain ⟨ob, hob⟩ : ∃ x, openR xs ((j : Int) + 1) = x := ⟨_, rfl⟩
          have hop := fun (W : World) (H : Evs W (some ⟨b, off, none⟩) (m + 1) xs) => open37_any (some ⟨b, off, none⟩) (m + 1) c xs W H ((j : Int) + 1)
          simp only [hob] at hop
          have HOp := Lib.hid hop
          rw [hak] at c0
          rw [hai] at c3
          simp only [hak, hai, hob] at hsa
          clear hop hob hai hak ha hev
          cases b1 : (ak == 17)
          · rw [b1] at hsa
            have HSa := Lib.hid (show sameR xs ⟨17, po, re, id, li, nn, bs⟩ j = false from hsa)
            clear hsa
            go_wp2_with fail
            go_quiet (fail)
            go_wp2_with fail
            go_roundg ((m + 1) - (j + 1))
            case measure => have := Hgj.out; omega
            case rel => exact ⟨j + 1, by omega, by go_num, by rw [range_snoc, H0.out, HSa.out]; rfl, by first | exact HKr.out.drewN _ | exact HKr.out⟩
          rw [b1] at hsa
          cases b2 : (ai == id)
          · rw [b2] at hsa
            have HSa := Lib.hid (show sameR xs ⟨17, po, re, id, li, nn, bs⟩ j = false from hsa)
            clear hsa
            go_wp2_with fail
            go_quiet (fail)
            go_wp2_with fail
            go_roundg ((m + 1) - (j + 1))
            case measure => have := Hgj.out; omega
            case rel => exact ⟨j + 1, by omega, by go_num, by rw [range_snoc, H0.out, HSa.out]; rfl, by first | exact HKr.out.drewN _ | exact HKr.out⟩
          rw [b2] at hsa
          have HSa := Lib.hid (show sameR xs ⟨17, po, re, id, li, nn, bs⟩ j = ob from hsa)
          have HD := Lib.hid (show ∀ d, Evs (wx.drewN d) (some ⟨b, off, none⟩) (m + 1) xs from fun d => H5.out.kept ((Kept.refl NoBlk wx).drewN d) (NoCells.none _))
          clear hsa
          go_wp2_with fail
          go_still_tail 22, (by kernel_rfl)
          change wpList _ _ _ _ _ wx.drew
          obtain ⟨w5, hw5⟩ : ∃ w5, wx.drew = w5 := ⟨_, rfl⟩
          have HE5 := Lib.hid (show Evs w5 (some ⟨b, off, none⟩) (m + 1) xs from hw5 ▸ HD.out 1)
          have HK5 := Lib.hid (show Kept NoBlk wx w5 from hw5 ▸ (Kept.refl NoBlk wx).drew)
          rw [hw5]
          clear hw5 c0 c3 p0 p3
          go_wp2_with fail
          refine (HOp.out _ HE5.out).mono ?_
          rintro e6 w6 ⟨rfl, hk6⟩
          have k6 := Lib.hid (HK5.out.trans hk6)
          clear hk6
          cases ob
          · go_wp2_with fail
            go_roundg ((m + 1) - (j + 1))
            case measure => have := Hgj.out; omega
            case rel => exact ⟨j + 1, by omega, by go_num, by rw [range_snoc, H0.out, HSa.out]; rfl, HKr.out.trans k6.out⟩
          · have HW := Lib.hid (HR4.out.1 ⟨by first | omega | trivial | simp, range_hit _ hlj HSa.out⟩)
            go_wp2_with fail
            go_ret
            exact ⟨by rw [HW.out]; rfl, (HK4.out.trans HKr.out).trans k6.out⟩
        · have hj : j = (m + 1) := by have := Hgj.out; omega
          have hub : (List.range (m + 1)).any (sameR xs ⟨17, po, re, id, li, nn, bs⟩) = false := by rw [← hj]; exact H0.out
          have HW := Lib.hid (HR4.out.2 (fun h => by rw [hub] at h; cases h.2))
          have zj4 : ¬ (j : Int) < ((m : Int) + 1) := fun h => hlj (by omega)
          clear hj hub hlj
          go_wp2_with fail
          go_ret
          exact ⟨by rw [HW.out]; rfl, HK4.out.trans HKr.out⟩
set_option maxRecDepth 100000 in
set_option maxHeartbeats 4000000 in
theorem why_rest_other (c m : Nat) (b off : Nat) (xs : List EvD) (w : World) (h : Evs w (some ⟨b, off, none⟩) (m + 1) xs) (ki : Int) (po re id li nn : Int) (bs : List UInt8) (A' : Option Addr) (L c' : Nat) (hl : bs.length = L) {R : ByteArray} (hS : Says (m + 1) xs ⟨ki, po, re, id, li, nn, bs⟩ R) (hr : rightB ⟨ki, po, re, id, li, nn, bs⟩ = true) (ht : ¬ po < atR EvD.pos xs ((m + 1 : Nat) : Int)) (bk : (ki == 1) = false) (hk : ki ≠ 2 ∧ ki ≠ 7 ∧ ki ≠ 12 ∧ ki ≠ 17) :
    Calls Tryd.prog 17 #[.slice (some ⟨b, off, none⟩) (m + 1) c, .agg #[.int .i64 ki, .int .i64 po, .int .i64 re, .int .i64 id, .int .i64 li, .int .i64 nn, .slice A' L c']] w (ValEnd (.string R) w) := by
  have hRight := fun W => right14_any ⟨ki, po, re, id, li, nn, bs⟩ A' L c' hl W
  rw [hr] at hRight
  unfold aggE at hRight
  simp only at hRight
  have HRight := Lib.hid hRight
  have hn := h.2.1
  have HS := Lib.hid hS
  have HT := Lib.hid ht
  clear ht
  clear hRight hl hS
  obtain ⟨q, hq⟩ : ∃ q, w.heap.size = q := ⟨_, rfl⟩
  obtain ⟨wz, hwz⟩ : ∃ wz, w.alloc (.cells #[.int .i64 ki, .int .i64 po, .int .i64 re, .int .i64 id, .int .i64 li, .int .i64 nn, .slice A' L c'] 24) = wz := ⟨_, rfl⟩
  have HP := Lib.hid (show Blk wz q 24 #[.int .i64 ki, .int .i64 po, .int .i64 re, .int .i64 id, .int .i64 li, .int .i64 nn, .slice A' L c'] from hwz ▸ hq ▸ Blk.new w 24 _)
  have HK := Lib.hid (show Kept NoBlk w wz from hwz ▸ (Kept.refl NoBlk w).alloc _)
  have H := Lib.hid (h.kept HK.out (NoCells.none _))
  have p0 : wz.cell? ⟨q, 0, none⟩ = some (.int .i64 ki) := HP.out.cell 0
  have p1 : wz.cell? ⟨q, 0 + 1, none⟩ = some (.int .i64 po) := HP.out.cell 1
  have p2 : wz.cell? ⟨q, 0 + 2, none⟩ = some (.int .i64 re) := HP.out.cell 2
  have p3 : wz.cell? ⟨q, 0 + 3, none⟩ = some (.int .i64 id) := HP.out.cell 3
  have p4 : wz.cell? ⟨q, 0 + 4, none⟩ = some (.int .i64 li) := HP.out.cell 4
  have p5 : wz.cell? ⟨q, 0 + 5, none⟩ = some (.int .i64 nn) := HP.out.cell 5
  have p6 : wz.cell? ⟨q, 0 + 6, none⟩ = some (.slice A' L c') := HP.out.cell 6
  clear h
  go_enter Tryd.func17, Tryd.ntmps17
  go_upto_region 1 with fail
  clear hwz hq
  go_wp2_with fail
  refine (HRight.out _).mono ?_
  rintro e1 w1 ⟨rfl, hk1⟩
  have HP1 := Lib.hid (HP.out.kept hk1 (fun e => e.elim))
  have HK1 := Lib.hid (HK.out.trans hk1)
  have H1 := Lib.hid (H.out.kept hk1 (NoCells.none _))
  clear p0 p1 p2 p3 p4 p5 p6 hk1 HP HK H HRight
  have p0 : w1.cell? ⟨q, 0, none⟩ = some (.int .i64 ki) := HP1.out.cell 0
  have p1 : w1.cell? ⟨q, 0 + 1, none⟩ = some (.int .i64 po) := HP1.out.cell 1
  have HR := Lib.hid (HS.out.rest hr (fun h => absurd h.2 (Int.not_lt.2 HT.out)) (by rw [bk, show (((m + 1 : Nat) : Int) == 0) = false by rw [beq_eq_false_iff_ne]; omega]; rfl))
  simp only at HR
  obtain ⟨b3, off3, a, v, hA, ha, _, c1, _⟩ := H1.out.at_ (k := m) (by omega)
  cases hA
  have hlp := atR_in (f := EvD.pos) ha
  obtain ⟨lp, hlp2⟩ : ∃ x, a.pos = x := ⟨_, rfl⟩
  rw [hlp2] at hlp c1
  have HLp := Lib.hid (show atR EvD.pos xs ((m + 1 : Nat) : Int) = lp from hlp)
  clear ha hlp hlp2
  have hd2 : ¬ po < lp := HLp.out ▸ (Int.not_lt.2 HT.out : ¬ po < atR EvD.pos xs ((m + 1 : Nat) : Int))
  have z2 : IntKind.i64.wrap ((m : Int) + 1 - 1) = (m : Int) := by rw [IntKind.wrap_i64]; omega
  have z0 : ((m : Int) + 1 == 0) = false := by rw [beq_eq_false_iff_ne]; omega
  have z3 : (0 : Int) ≤ (m : Int) := by omega
  have z4 : (m : Int) < (m : Int) + 1 := by omega
  have z5 : (0 : Int) < (m : Int) + 1 := by omega
  go_wp2_with fail
  go_quiet (fail)
  go_wp2_with fail
  obtain ⟨w2, hw2⟩ : ∃ w2, w1.drewN nq = w2 := ⟨_, rfl⟩
  have HP2 := Lib.hid (show Blk w2 q 24 #[.int .i64 ki, .int .i64 po, .int .i64 re, .int .i64 id, .int .i64 li, .int .i64 nn, .slice A' L c'] from hw2 ▸ HP1.out.drewN _)
  have HK2 := Lib.hid (show Kept NoBlk w w2 from hw2 ▸ HK1.out.drewN _)
  have H2 := Lib.hid (H1.out.kept (hw2 ▸ (Kept.refl NoBlk w1).drewN _ : Kept NoBlk w1 w2) (NoCells.none _))
  rw [hw2]
  clear hw2 p0 p1
  go_loopg [5] (m + 1) (fun g v wr => ∃ k : Nat, g + k = (m + 1) ∧ v = .int .i64 k ∧ (xs.take k).any (fun x => closesB x.kind) = false ∧ wr = w2)
  case atStart => exact ⟨0, by omega, rfl, rfl, rfl⟩
  case round =>
    obtain ⟨k, hgk, rfl, h0, hwr⟩ := hrel
    rw [hwr]
    clear hwr
    have Hgk := Lib.hid hgk
    have H0 := Lib.hid h0
    clear hgk h0
    by_cases hlt : k < (m + 1)
    · obtain ⟨b2, off2, a, v, hA2, ha, c0, _⟩ := H2.out.at_ hlt
      have HA := Lib.hid ha
      cases hA2
      have zk3 : (0 : Int) ≤ (k : Int) := by omega
      have zk4 : (k : Int) < ((m : Int) + 1) := by omega
      have hcl := fun W => closes12_any a.kind W
      obtain ⟨ak, hak⟩ : ∃ x, a.kind = x := ⟨_, rfl⟩
      obtain ⟨ac, hac⟩ : ∃ x, closesB ak = x := ⟨_, rfl⟩
      rw [hak] at c0
      simp only [hak, hac] at hcl
      have HCl := Lib.hid hcl
      have HAc := Lib.hid (show closesB a.kind = ac by rw [hak, hac])
      clear hcl hac hak ha
      go_wp2_with fail
      refine (HCl.out _).mono ?_
      rintro e2 w3 ⟨rfl, rfl⟩
      cases ac
      · go_wp2_with fail
        go_roundg ((m + 1) - (k + 1))
        case measure => have := Hgk.out; omega
        case rel => exact ⟨k + 1, by omega, by go_num, by rw [any_snoc _ HA.out, H0.out, HAc.out]; rfl, rfl⟩
      · have HW := Lib.hid (HR.out.1 (any_hit _ HA.out HAc.out))
        go_wp2_with fail
        go_ret
        exact ⟨by rw [HW.out]; rfl, HK2.out⟩
    · have hall : xs.take k = xs := by rw [List.take_of_length_le (by rw [H2.out.1]; omega)]
      have hcf : xs.any (fun x => closesB x.kind) = false := by
        have := H0.out
        rw [hall] at this
        exact this
      have zk4 : ¬ (k : Int) < ((m : Int) + 1) := fun h => hlt (by omega)
      have HR2 := Lib.hid (HR.out.2 hcf)
      have hRefs := fun (W : World) (H : Evs W (some ⟨b, off, none⟩) (m + 1) xs) => refs_any (some ⟨b, off, none⟩) (m + 1) c xs W H ⟨ki, po, re, id, li, nn, bs⟩ (.slice A' L c')
      obtain ⟨fb, hfb⟩ : ∃ b, refsR xs ⟨ki, po, re, id, li, nn, bs⟩ = b := ⟨_, rfl⟩
      rw [hfb] at hRefs HR2
      unfold aggE at hRefs
      have HRefs := Lib.hid hRefs
      clear hall hcf hlt hRefs hfb
      have p0 : w2.cell? ⟨q, 0, none⟩ = some (.int .i64 ki) := HP2.out.cell 0
      have p1 : w2.cell? ⟨q, 0 + 1, none⟩ = some (.int .i64 po) := HP2.out.cell 1
      have p2 : w2.cell? ⟨q, 0 + 2, none⟩ = some (.int .i64 re) := HP2.out.cell 2
      have p3 : w2.cell? ⟨q, 0 + 3, none⟩ = some (.int .i64 id) := HP2.out.cell 3
      have p4 : w2.cell? ⟨q, 0 + 4, none⟩ = some (.int .i64 li) := HP2.out.cell 4
      have p5 : w2.cell? ⟨q, 0 + 5, none⟩ = some (.int .i64 nn) := HP2.out.cell 5
      have p6 : w2.cell? ⟨q, 0 + 6, none⟩ = some (.slice A' L c') := HP2.out.cell 6
      go_wp2_with fail
      refine (HRefs.out _ H2.out).mono ?_
      rintro e3 w3 ⟨rfl, hk3⟩
      have HP3 := Lib.hid (HP2.out.kept hk3 (fun e => e.elim))
      have HK3 := Lib.hid (HK2.out.trans hk3)
      have H3 := Lib.hid (H2.out.kept hk3 (NoCells.none _))
      clear p0 p1 p2 p3 p4 p5 p6 hk3
      cases fb
      · have HW := Lib.hid (HR2.out.1 rfl)
        go_wp2_with fail
        go_ret
        exact ⟨by rw [HW.out]; rfl, HK3.out⟩
      have HR3 := Lib.hid (HR2.out.2 rfl)
      have hTask := fun (W : World) (H : Evs W (some ⟨b, off, none⟩) (m + 1) xs) => task36_any (some ⟨b, off, none⟩) (m + 1) c xs W H
      obtain ⟨ti, hti⟩ : ∃ b, (taskR xs).1 = b := ⟨_, rfl⟩
      obtain ⟨tp, htp⟩ : ∃ b, (taskR xs).2 = b := ⟨_, rfl⟩
      simp only [hti, htp] at hTask
      rw [hti] at HR3
      have HTask := Lib.hid hTask
      clear hTask hti htp
      go_wp2_with fail
      refine (HTask.out _ H3.out).mono ?_
      rintro e4 w4 ⟨rfl, hk4⟩
      have HP4 := Lib.hid (HP3.out.kept hk4 (fun e => e.elim))
      have HK4 := Lib.hid (HK3.out.trans hk4)
      have H4 := Lib.hid (H3.out.kept hk4 (NoCells.none _))
      have p0 : w4.cell? ⟨q, 0, none⟩ = some (.int .i64 ki) := HP4.out.cell 0
      have p3 : w4.cell? ⟨q, 0 + 3, none⟩ = some (.int .i64 id) := HP4.out.cell 3
      clear hk4
      obtain ⟨g2, g7, g12, g17⟩ := hk
      have f2 : (ki == 2) = false := by simpa using g2
      have f7 : (ki == 7) = false := by simpa using g7
      have f12 : (ki == 12) = false := by simpa using g12
      have f17 : (ki == 17) = false := by simpa using g17
      have HW := Lib.hid ((HR3.out.2 (fun h => by have := h.1; omega)).2 (fun h => by have := h.1; omega))
      go_wp2_with fail
      go_ret
      exact ⟨by rw [HW.out]; rfl, HK4.out⟩

theorem why17_any (A : Option Addr) (n c : Nat) (xs : List EvD) (w : World) (h : Evs w A n xs) (e : EvD) (A' : Option Addr) (L c' : Nat) (hl : e.data.length = L) :
    Calls Tryd.prog 17 #[.slice A n c, aggE e (.slice A' L c')] w (ValEnd (.string (whyR xs e)) w) := by
  have hS := says h.1 e
  cases hr : rightB e
  · exact why_event c n A xs w h e.kind e.pos e.ref e.id e.list e.n e.data A' L c' hl hS hr
  rcases Nat.eq_zero_or_pos n with rfl | hpos
  · by_cases hk : e.kind = 1
    · obtain ⟨ki, po, re, id, li, nn, bs⟩ := e
      cases hk
      exact why_rest0 c A xs w h po re id li nn bs A' L c' hl hS hr
    · exact why_first0 c A xs w h e.kind e.pos e.ref e.id e.list e.n e.data A' L c' hl hS hr (by simpa using hk)
  · obtain ⟨m, rfl⟩ : ∃ m, n = m + 1 := ⟨n - 1, by omega⟩
    obtain ⟨b, off, _, _, rfl, _⟩ := h.at_ (k := m) (by omega)
    by_cases ht : e.pos < atR EvD.pos xs ((m + 1 : Nat) : Int)
    · exact why_time c m b off xs w h e.kind e.pos e.ref e.id e.list e.n e.data A' L c' hl hS hr ht
    by_cases hk : e.kind = 1
    · exact why_first1 c m b off xs w h e.kind e.pos e.ref e.id e.list e.n e.data A' L c' hl hS hr ht (by simpa using hk)
    obtain ⟨ki, po, re, id, li, nn, bs⟩ := e
    by_cases k2 : ki = 2
    · subst k2; exact why_rest_2 c m b off xs w h po re id li nn bs A' L c' hl hS hr ht
    by_cases k7 : ki = 7
    · subst k7; exact why_rest_7 c m b off xs w h po re id li nn bs A' L c' hl hS hr ht
    by_cases k12 : ki = 12
    · subst k12; exact why_rest_12 c m b off xs w h po re id li nn bs A' L c' hl hS hr ht
    by_cases k17 : ki = 17
    · subst k17; exact why_rest_17 c m b off xs w h po re id li nn bs A' L c' hl hS hr ht
    exact why_rest_other c m b off xs w h ki po re id li nn bs A' L c' hl hS hr ht (by simpa using hk) ⟨k2, k7, k12, k17⟩
#print axioms why17_any

end Go.Proofs.YtndnbjpcjlbcjaaDoor