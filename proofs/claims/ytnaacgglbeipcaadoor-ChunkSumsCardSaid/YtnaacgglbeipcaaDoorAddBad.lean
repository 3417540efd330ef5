/- Builder.add where the piece does not fit. -/
import Derived.Test.YtnaacgglbeipcaaDoorAdd
namespace Go.Proofs.YtnaacgglbeipcaaDoor
open Go.RowKit

theorem badN_steps {pi pp pt : Int} {L : Nat} (h : badN pi pp pt L) : pp < 0 ∨ (¬ pp < 0 ∧ pt < 0) ∨ (¬ pp < 0 ∧ ¬ pt < 0 ∧ 1048576 < pt) ∨ (¬ pp < 0 ∧ ¬ pt < 0 ∧ ¬ 1048576 < pt ∧ pt < pp) ∨
    (¬ pp < 0 ∧ ¬ pt < 0 ∧ ¬ 1048576 < pt ∧ ¬ pt < pp ∧ pt - pp < L) ∨ (¬ pp < 0 ∧ ¬ pt < 0 ∧ ¬ 1048576 < pt ∧ ¬ pt < pp ∧ ¬ pt - pp < L ∧ ((L : Int) == 0) = true ∧ (pt != 0) = true) ∨
    (¬ pp < 0 ∧ ¬ pt < 0 ∧ ¬ 1048576 < pt ∧ ¬ pt < pp ∧ ¬ pt - pp < L ∧ (((L : Int) == 0) = false ∨ (((L : Int) == 0) = true ∧ (pt != 0) = false)) ∧ pi < 0) := by
  unfold badN at h
  simp only [beq_iff_eq, bne_iff_ne, beq_eq_false_iff_ne, bne_eq_false_iff_eq, ne_eq]
  omega

def AddBad (r : Int) (w : World) (e : Ending) (w' : World) : Prop := e = .returned (.int .i64 r) ∧ Kept NoBlk w w'
def SomeI (v : Value) : Prop := ∃ x : Int, v = .int .i64 x

set_option maxRecDepth 100000 in
set_option maxHeartbeats 2000000 in
theorem add_bad {w : World} {bb : Nat} {s : BlD} (h : Bld w bb s) {pi pp pt pu : Int} {A' : Option Addr} {L c' : Nat} (hL : L ≤ 140737488351232) (hbad : badN pi pp pt L) :
    Calls Tryd.prog 30 #[.pointer (some ⟨bb, 0, none⟩), .agg #[.int .i64 pi, .int .i64 pp, .int .i64 pt, .int .u32 pu, .slice A' L c']] w (AddBad 1 w) := by
  obtain ⟨A, c, h1, h2, h3⟩ := h
  have c0 : w.cell? ⟨bb, 0, none⟩ = some (.int .i64 s.id) := h1.cell 0
  have c4 : w.cell? ⟨bb, 0 + 4, none⟩ = some (.slice A s.data.length c) := h1.cell 4
  have hlt := h1.lt
  obtain ⟨i, hi⟩ : ∃ i, s.id = i := ⟨_, rfl⟩
  rw [hi] at c0
  clear h1 h2 hi
  have HBad := Lib.hid (badN_steps hbad)
  clear hbad
  by_cases hid : i < pi
  all_goals
    go_enter Tryd.func30, Tryd.ntmps30
    go_wp2_with fail
    go_quiet (fail)
    go_upto_region 4 with fail
    go_cut [5, 21] (fun v u wx => SomeI v ∧ u = .bool true ∧ Kept NoBlk w wx)
    case first =>
      rcases HBad.out with q1 | ⟨q1, q2⟩ | ⟨q1, q2, q3⟩ | ⟨q1, q2, q3, q4⟩ | ⟨q1, q2, q3, q4, q5⟩ | ⟨q1, q2, q3, q4, q5, q6, q7⟩ | ⟨q1, q2, q3, q4, q5, q6 | ⟨q6, q7⟩, q8⟩
      all_goals
        go_wp2_with fail
        go_meet
        exact ⟨⟨_, rfl⟩, by simp; try omega, ((Kept.refl NoBlk w).alloc _).drewN _⟩
    case rest =>
      obtain ⟨_, hv, hK⟩ := hcut
      rw [hv]
      go_wp2_with fail
      go_ret
      exact ⟨rfl, hK⟩
end Go.Proofs.YtnaacgglbeipcaaDoor
