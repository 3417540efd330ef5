/- 'same' says true of two pieces that read alike. -/
import Derived.Test.YtnaacgglbeipcaaDoorRefCutNil
import Derived.Test.YtnaacgglbeipcaaDoorIsBroken
namespace Go.Proofs.YtnaacgglbeipcaaDoor
open Go.RowKit

def aggP (p : PcD) (dv : Value) : Value := .agg #[.int .i64 p.id, .int .i64 p.pos, .int .i64 p.total, .int .u32 p.sum, dv]

set_option maxRecDepth 100000 in
set_option maxHeartbeats 1000000 in
theorem same_any {w : World} {p : PcD} {dv dv' : Value} (h : RdB w dv p.data) (h' : RdB w dv' p.data) : Calls Tryd.prog 11 #[aggP p dv, aggP p dv'] w (TrueEnd w) := by
  obtain ⟨i, a, t, s, d⟩ := p
  obtain ⟨A, n, c, hdv⟩ : ∃ A n c, dv = .slice A n c := by obtain ⟨A, n, c, e, _⟩ := h; exact ⟨A, n, c, e⟩
  obtain ⟨A', n', c', hdv'⟩ : ∃ A n c, dv' = .slice A n c := by obtain ⟨A, n, c, e, _⟩ := h'; exact ⟨A, n, c, e⟩
  subst hdv
  subst hdv'
  have k : ∀ o o', Kept NoBlk w ((w.alloc o).alloc o') := fun o o' => ((Kept.refl NoBlk w).alloc o).alloc o'
  have s1 := fun o o' => str_run (h.kept (k o o') (NoCells.none w))
  have s2 := fun o o' => str_run (h'.kept (k o o') (NoCells.none w))
  have K := Lib.hid k
  clear k h h'
  unfold aggP
  go_enter Tryd.func11, Tryd.ntmps11
  go_wp2_with fail
  go_ret
  exact ⟨by simp, K.out _ _⟩
end Go.Proofs.YtnaacgglbeipcaaDoor
