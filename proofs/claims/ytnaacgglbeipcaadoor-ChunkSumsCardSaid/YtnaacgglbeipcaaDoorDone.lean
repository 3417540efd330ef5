/- Builder.Done and Builder.Add, with the errors that they hand back. -/
import Derived.Test.YtnaacgglbeipcaaDoorAddAny
import Derived.Test.YtnaacgglbeipcaaDoorRAddNot
namespace Go.Proofs.YtnaacgglbeipcaaDoor
open Go.RowKit

def doneErr (s : BlD) : Int := if s.id < 0 ∨ (s.data.length : Int) < s.total then 6 else if sumOf s.data ≠ s.sum then 9 else 0
def doneTo (s : BlD) : BlD := if s.id < 0 ∨ (s.data.length : Int) < s.total then s else BlD.none_

/-- An error of this package. -/
def IsB (w : World) (eb : Nat) (id r : Int) : Prop := Blk w eb 65 #[.int .i64 id, .iface 63 (.int .i64 r)]
def DoneBad (bb : Nat) (s s' : BlD) (r : Int) (w : World) (e : Ending) (w' : World) : Prop :=
  ∃ eb, e = .returned (.tuple #[.slice none 0 0, .iface 62 (.pointer (some ⟨eb, 0, none⟩))]) ∧ IsB w' eb s.id r ∧ Bld w' bb s' ∧ Kept (Only bb) w w'
def DoneOk (bb : Nat) (s : BlD) (w : World) (e : Ending) (w' : World) : Prop :=
  ∃ v, e = .returned (.tuple #[v, .nilIface]) ∧ (RdB w' v s.data ∧ w'.ownsRow 0 5 1 v s.data.length (s.data.map bv)) ∧ Bld w' bb BlD.none_ ∧ Kept (Only bb) w w'

theorem isB_two (w : World) (o : Obj) (id r : Int) : IsB (((w.alloc o).alloc (.cells #[.int .i64 id, .iface 63 (.int .i64 r)] 65)).drew) (w.heap.size + 1) id r := by
  have h := Blk.new (w.alloc o) 65 #[.int .i64 id, .iface 63 (.int .i64 r)]
  have e : (w.alloc o).heap.size = w.heap.size + 1 := by simp
  rw [e] at h
  exact h
theorem isB_one (w : World) (id r : Int) : IsB ((w.alloc (.cells #[.int .i64 id, .iface 63 (.int .i64 r)] 65)).drew) w.heap.size id r := Blk.new w 65 _

set_option maxRecDepth 100000 in
set_option maxHeartbeats 2000000 in
theorem done_not {w : World} {bb : Nat} {s : BlD} (h : Bld w bb s) (hn : s.id < 0 ∨ (s.data.length : Int) < s.total) : Calls Tryd.prog 14 #[.pointer (some ⟨bb, 0, none⟩)] w (DoneBad bb s s 6 w) := by
  have H := Lib.hid h
  obtain ⟨A, c, h1, h2, h3⟩ := h
  have c0 : w.cell? ⟨bb, 0, none⟩ = some (.int .i64 s.id) := h1.cell 0
  have c1 : w.cell? ⟨bb, 0 + 1, none⟩ = some (.int .i64 0) := h1.cell 1
  have c2 : w.cell? ⟨bb, 0 + 2, none⟩ = some (.int .i64 s.total) := h1.cell 2
  have c3 : w.cell? ⟨bb, 0 + 3, none⟩ = some (.int .u32 s.sum) := h1.cell 3
  have c4 : w.cell? ⟨bb, 0 + 4, none⟩ = some (.slice A s.data.length c) := h1.cell 4
  have hlt := h1.lt
  clear h1 h2
  have q : s.id < 0 ∨ (¬ s.id < 0 ∧ (s.data.length : Int) < s.total) := by omega
  rcases q with q1 | ⟨q1, q2⟩
  all_goals
    clear hn
    go_enter Tryd.func14, Tryd.ntmps14
    go_wp2_with fail
    go_region
    all_goals
      go_wp2_with fail
      go_ret2
      exact ⟨_, rfl, isB_two _ _ _ _, H.out.same (((Kept.refl NoBlk w).alloc _).alloc _).drew, (((Kept.refl (Only bb) w).alloc _).alloc _).drew⟩

def DoneYes (bb : Nat) (s : BlD) (w : World) (e : Ending) (w' : World) : Prop := if sumOf s.data = s.sum then DoneOk bb s w e w' else DoneBad bb s BlD.none_ 9 w e w'
set_option maxRecDepth 100000 in
set_option maxHeartbeats 2000000 in
theorem done_yes {w : World} {bb : Nat} {s : BlD} (h : Bld w bb s) (q1 : ¬ s.id < 0) (q2 : ¬ (s.data.length : Int) < s.total) : Calls Tryd.prog 14 #[.pointer (some ⟨bb, 0, none⟩)] w (DoneYes bb s w) := by
  have H := Lib.hid h
  obtain ⟨A, c, h1, h2, h3⟩ := h
  have c0 : w.cell? ⟨bb, 0, none⟩ = some (.int .i64 s.id) := h1.cell 0
  have c1 : w.cell? ⟨bb, 0 + 1, none⟩ = some (.int .i64 0) := h1.cell 1
  have c2 : w.cell? ⟨bb, 0 + 2, none⟩ = some (.int .i64 s.total) := h1.cell 2
  have c3 : w.cell? ⟨bb, 0 + 3, none⟩ = some (.int .u32 s.sum) := h1.cell 3
  have c4 : w.cell? ⟨bb, 0 + 4, none⟩ = some (.slice A s.data.length c) := h1.cell 4
  have hlt := h1.lt
  have hne : w.heap.size ≠ bb := by omega
  have O2 := Lib.hid h2
  clear h1 h2
  go_enter Tryd.func14, Tryd.ntmps14
  go_wp2_with fail
  refine (drop_any (H.out.same ((Kept.refl NoBlk w).alloc _))).mono ?_
  rintro e w1 ⟨rfl, hB1, hk1⟩
  have hx := (Blk.new w 36 #[.int .i64 s.id, .int .i64 0, .int .i64 s.total, .int .u32 s.sum, .slice A s.data.length c]).kept hk1 hne
  have hown := ownsRow_no5 (O2.out.alloc _) hk1 (H.out.same ((Kept.refl NoBlk w).alloc _)).no5
  have hrd : RdB w1 (.slice A s.data.length c) s.data := RdB.of_own hown (by omega)
  have HOWN := Lib.hid hown
  clear hown
  have x0 : w1.cell? ⟨w.heap.size, 0, none⟩ = some (.int .i64 s.id) := hx.cell 0
  have x3 : w1.cell? ⟨w.heap.size, 0 + 3, none⟩ = some (.int .u32 s.sum) := hx.cell 3
  have x4 : w1.cell? ⟨w.heap.size, 0 + 4, none⟩ = some (.slice A s.data.length c) := hx.cell 4
  have HX := Lib.hid hx
  have HRD := Lib.hid hrd
  have HB1 := Lib.hid hB1
  have HK1 := Lib.hid (((Kept.refl (Only bb) w).alloc _).trans hk1)
  clear hx hrd hB1 hk1 c0 c1 c2 c3 c4
  have hsum : ∀ W, RdB W (.slice A s.data.length c) s.data → Calls Tryd.prog 21 #[.slice A s.data.length c] W (SumEnd (sumOf s.data) W) := fun W h => sum_any h
  obtain ⟨z, hz⟩ : ∃ z, sumOf s.data = z := ⟨_, rfl⟩
  rw [hz] at hsum
  have HS := Lib.hid hsum
  have HZ := Lib.hid hz
  clear hsum hz
  obtain ⟨su, hsu⟩ : ∃ su, s.sum = su := ⟨_, rfl⟩
  rw [hsu] at x3
  have HSU := Lib.hid hsu
  clear hsu
  by_cases hzs : z = su
  · have hb : (z != su) = false := by simpa using hzs
    have HZS := Lib.hid hzs
    clear hzs
    go_wp2_with fail
    go_region_held3 (fun w' => w'.cell? ⟨w.heap.size, 3, none⟩ = some (.int .u32 su) ∧ w'.cell? ⟨w.heap.size, 4, none⟩ = some (.slice A s.data.length c)) (first
      | exact ⟨x3, x4⟩
      | exact ⟨y3, y4⟩)
      (first
      | (go_at_call 21; refine (HS.out _ (HRD.out.kept ((Kept.refl NoBlk w1).drewN _) (NoCells.none _))).mono ?_; rintro e w2 ⟨rfl, hk2⟩; have k2 : Kept NoBlk w1 w2 := ((Kept.refl NoBlk w1).drewN _).trans hk2; have K2 := Lib.hid k2; have y0 : w2.cell? ⟨w.heap.size, 0, none⟩ = some (.int .i64 s.id) := (HX.out.kept k2 (fun e => e.elim)).cell 0; have y3 : w2.cell? ⟨w.heap.size, 3, none⟩ = some (.int .u32 su) := by { have := (HX.out.kept k2 (fun e => e.elim)).cell 3; rw [HSU.out] at this; exact this }; have y4 : w2.cell? ⟨w.heap.size, 4, none⟩ = some (.slice A s.data.length c) := (HX.out.kept k2 (fun e => e.elim)).cell 4; clear hk2 k2))
    all_goals
      go_wp2_with fail
      go_ret2
      have e : sumOf s.data = s.sum := by rw [HZ.out, HSU.out, HZS.out]
      unfold DoneYes
      rw [if_pos e]
      exact ⟨_, rfl, ⟨HRD.out.kept K2.out (NoCells.none _), ownsRow_no5 HOWN.out K2.out (No5.none _)⟩, HB1.out.same K2.out, HK1.out.inner K2.out (fun _ e => e.elim)⟩
  · have hb : (z != su) = true := by simpa using hzs
    have HZS := Lib.hid hzs
    clear hzs
    go_wp2_with fail
    go_region_held3 (fun w' => w'.cell? ⟨w.heap.size, 3, none⟩ = some (.int .u32 su) ∧ w'.cell? ⟨w.heap.size, 4, none⟩ = some (.slice A s.data.length c)) (first
      | exact ⟨x3, x4⟩
      | exact ⟨y3, y4⟩)
      (first
      | (go_at_call 21; refine (HS.out _ (HRD.out.kept ((Kept.refl NoBlk w1).drewN _) (NoCells.none _))).mono ?_; rintro e w2 ⟨rfl, hk2⟩; have k2 : Kept NoBlk w1 w2 := ((Kept.refl NoBlk w1).drewN _).trans hk2; have K2 := Lib.hid k2; have y0 : w2.cell? ⟨w.heap.size, 0, none⟩ = some (.int .i64 s.id) := (HX.out.kept k2 (fun e => e.elim)).cell 0; have y3 : w2.cell? ⟨w.heap.size, 3, none⟩ = some (.int .u32 su) := by { have := (HX.out.kept k2 (fun e => e.elim)).cell 3; rw [HSU.out] at this; exact this }; have y4 : w2.cell? ⟨w.heap.size, 4, none⟩ = some (.slice A s.data.length c) := (HX.out.kept k2 (fun e => e.elim)).cell 4; clear hk2 k2))
    all_goals
      go_wp2_with fail
      go_region
      all_goals
        go_wp2_with fail
        go_ret2
        have e : ¬ sumOf s.data = s.sum := by rw [HZ.out, HSU.out]; exact HZS.out
        unfold DoneYes
        rw [if_neg e]
        exact ⟨_, rfl, isB_one _ _ _, HB1.out.same (K2.out.alloc _).drew, (HK1.out.inner K2.out (fun _ e => e.elim)).alloc _ |>.drew⟩

/-- Done, whatever is built. -/
def DoneEnd (bb : Nat) (s : BlD) (w : World) (e : Ending) (w' : World) : Prop := if doneErr s = 0 then DoneOk bb s w e w' else DoneBad bb s (doneTo s) (doneErr s) w e w'
theorem done_any {w : World} {bb : Nat} {s : BlD} (h : Bld w bb s) : Calls Tryd.prog 14 #[.pointer (some ⟨bb, 0, none⟩)] w (DoneEnd bb s w) := by
  by_cases hn : s.id < 0 ∨ (s.data.length : Int) < s.total
  · have e : doneErr s = 6 := by unfold doneErr; rw [if_pos hn]
    have e2 : doneTo s = s := by unfold doneTo; rw [if_pos hn]
    refine (done_not h hn).mono fun e' w' h1 => ?_
    unfold DoneEnd
    rw [e, e2, if_neg (by decide)]
    exact h1
  · have e2 : doneTo s = BlD.none_ := by unfold doneTo; rw [if_neg hn]
    refine (done_yes h (by omega) (by omega)).mono fun e w' h1 => ?_
    unfold DoneYes at h1
    unfold DoneEnd
    by_cases hs : sumOf s.data = s.sum
    · have e1 : doneErr s = 0 := by unfold doneErr; rw [if_neg hn, if_neg (fun h => h hs)]
      rw [if_pos hs] at h1
      rw [if_pos e1]
      exact h1
    · have e1 : doneErr s = 9 := by unfold doneErr; rw [if_neg hn, if_pos hs]
      rw [if_neg hs] at h1
      rw [e1, e2, if_neg (by decide)]
      exact h1

/-! ### Add -/
def AddPBad (bb : Nat) (s : BlD) (id r : Int) (w : World) (e : Ending) (w' : World) : Prop :=
  ∃ eb, e = .returned (.tuple #[.bool false, .iface 62 (.pointer (some ⟨eb, 0, none⟩))]) ∧ IsB w' eb id r ∧ Bld w' bb s ∧ Kept (Only bb) w w'
def AddPOk (bb : Nat) (s : BlD) (w : World) (e : Ending) (w' : World) : Prop :=
  e = .returned (.tuple #[.bool (decide ((s.data.length : Int) = s.total)), .nilIface]) ∧ Bld w' bb s ∧ Kept (Only bb) w w'

set_option maxRecDepth 100000 in
set_option maxHeartbeats 2000000 in
theorem addP_ok {w : World} {bb base : Nat} {s : BlD} (h : Bld w bb s) {p : PcD} {dv : Value} (hd : RdU w base dv p.data) (hbb : base ≤ bb) (hz : addErr s p = 0) :
    Calls Tryd.prog 13 #[.pointer (some ⟨bb, 0, none⟩), aggP p dv] w (AddPOk bb (addTo s p) w) := by
  have hlt := h.lt
  have hc : ∀ o, Calls Tryd.prog 30 #[.pointer (some ⟨bb, 0, none⟩), aggP p dv] (w.alloc o) (AddEnd bb (addErr s p) (addTo s p) (w.alloc o)) := fun o => add_any (h.same ((Kept.refl NoBlk w).alloc o)) (hd.kept ((Kept.refl NoBlk w).alloc o) (fun _ e => e.elim)) hbb
  rw [hz] at hc
  obtain ⟨s', hs'⟩ : ∃ s', addTo s p = s' := ⟨_, rfl⟩
  rw [hs'] at hc ⊢
  clear h hd hz hs'
  unfold aggP at hc ⊢
  have HC := Lib.hid hc
  clear hc
  go_enter Tryd.func13, Tryd.ntmps13
  go_wp2_with fail
  refine (HC.out _).mono ?_
  rintro e w1 ⟨rfl, hB1, hk1⟩
  have HB1 := Lib.hid hB1
  have HK1 := Lib.hid (((Kept.refl (Only bb) w).alloc _).trans hk1)
  obtain ⟨A, c, g1, _, _⟩ := hB1
  have d2 : w1.cell? ⟨bb, 0 + 2, none⟩ = some (.int .i64 s'.total) := g1.cell 2
  have d4 : w1.cell? ⟨bb, 0 + 4, none⟩ = some (.slice A s'.data.length c) := g1.cell 4
  clear g1 hk1
  go_wp2_with fail
  go_quiet (fail)
  go_wp2_with fail
  go_ret2
  exact ⟨rfl, HB1.out.same ((Kept.refl NoBlk _).drewN _), HK1.out.drewN _⟩

set_option maxRecDepth 100000 in
set_option maxHeartbeats 2000000 in
theorem addP_bad {w : World} {bb base : Nat} {s : BlD} (h : Bld w bb s) {p : PcD} {dv : Value} (hd : RdU w base dv p.data) (hbb : base ≤ bb) (hz : addErr s p ≠ 0) :
    Calls Tryd.prog 13 #[.pointer (some ⟨bb, 0, none⟩), aggP p dv] w (AddPBad bb s p.id (addErr s p) w) := by
  have hlt := h.lt
  have hne : w.heap.size ≠ bb := by omega
  have hc : ∀ o, Calls Tryd.prog 30 #[.pointer (some ⟨bb, 0, none⟩), aggP p dv] (w.alloc o) (AddEnd bb (addErr s p) (addTo s p) (w.alloc o)) := fun o => add_any (h.same ((Kept.refl NoBlk w).alloc o)) (hd.kept ((Kept.refl NoBlk w).alloc o) (fun _ e => e.elim)) hbb
  have e0 : addTo s p = s := by unfold addTo; rw [if_neg hz]
  rw [e0] at hc
  obtain ⟨r, hr⟩ : ∃ r, addErr s p = r := ⟨_, rfl⟩
  rw [hr] at hc hz ⊢
  have hrb : (r != 0) = true := by simpa using hz
  clear h hd hz e0 hr
  unfold aggP at hc ⊢
  have HC := Lib.hid hc
  clear hc
  go_enter Tryd.func13, Tryd.ntmps13
  go_wp2_with fail
  refine (HC.out _).mono ?_
  rintro e w1 ⟨rfl, hB1, hk1⟩
  have HB1 := Lib.hid hB1
  have HK1 := Lib.hid (((Kept.refl (Only bb) w).alloc _).trans hk1)
  have x0 : w1.cell? ⟨w.heap.size, 0, none⟩ = some (.int .i64 p.id) := ((Blk.new w 36 #[.int .i64 p.id, .int .i64 p.pos, .int .i64 p.total, .int .u32 p.sum, dv]).kept hk1 hne).cell 0
  clear hB1 hk1
  go_wp2_with fail
  go_region
  all_goals
    go_wp2_with fail
    go_ret2
    exact ⟨_, rfl, isB_one _ _ _, HB1.out.same ((Kept.refl NoBlk _).alloc _).drew, (HK1.out.alloc _).drew⟩
end Go.Proofs.YtnaacgglbeipcaaDoor
