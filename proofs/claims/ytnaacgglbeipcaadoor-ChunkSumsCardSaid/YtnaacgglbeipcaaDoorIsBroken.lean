/- 'broken' says true of the error that Cut, Add and Done hand back. -/
import Derived.Test.YtnaacgglbeipcaaDoorBroken
namespace Go.Proofs.YtnaacgglbeipcaaDoor
open Go.RowKit

def TrueEnd (w : World) (e : Ending) (w' : World) : Prop := e = .returned (.bool true) ∧ Kept NoBlk w w'

set_option maxRecDepth 100000 in
set_option maxHeartbeats 1000000 in
theorem broken_nil (id : Int) (w : World) : Calls Tryd.prog 10 #[.nilIface, .int .i64 id, .int .i64 0] w (TrueEnd w) := by
  go_enter Tryd.func10, Tryd.ntmps10
  go_wp2_with fail
  go_ret
  exact ⟨rfl, Kept.refl _ _⟩

set_option maxRecDepth 100000 in
set_option maxHeartbeats 2000000 in
theorem broken_any {w : World} {eb : Nat} {id num : Int} (hb : Blk w eb 65 #[.int .i64 id, .iface 63 (.int .i64 num)]) (hn : IsErr num) (hi : okId id) (he : Env w) :
    Calls Tryd.prog 10 #[.iface 62 (.pointer (some ⟨eb, 0, none⟩)), .int .i64 id, .int .i64 num] w (TrueEnd w) := by
  have hn0 : ¬ num = 0 := by unfold IsErr at hn; omega
  have HB := Lib.hid hb
  have HN := Lib.hid hn
  have HI := Lib.hid hi
  have HE := Lib.hid he
  clear hb hn hi he
  have hl := Lib.itoa_length_le id HI.out.1 HI.out.2
  obtain ⟨s0, hs0⟩ : ∃ s0 : ByteArray, (⟨(Lib.itoa id).toArray⟩ : ByteArray) = s0 := ⟨_, rfl⟩
  obtain ⟨s1, hs1⟩ : ∃ s1 : ByteArray, (⟨(errT num).toArray⟩ : ByteArray) = s1 := ⟨_, rfl⟩
  have z0 : s0.size ≤ 21 := by rw [← hs0]; simpa [ByteArray.size] using hl
  have z1 : s1.size ≤ 4 := by rw [← hs1]; simpa [ByteArray.size] using errT_len num
  have f0 : (⟨#[99, 104, 117, 110, 107, 32]⟩ : ByteArray).size = 6 := rfl
  have f00 : (⟨#[58, 32]⟩ : ByteArray).size = 2 := rfl
  have f1 : (⟨#[99, 104, 117, 110, 107, 32]⟩ : ByteArray).size + s0.size ≤ 9223372036854775807 := by omega
  have f2 : ((⟨#[99, 104, 117, 110, 107, 32]⟩ : ByteArray) ++ s0).size + (⟨#[58, 32]⟩ : ByteArray).size ≤ 9223372036854775807 := by rw [ByteArray.size_append]; omega
  have f3 : ((⟨#[99, 104, 117, 110, 107, 32]⟩ : ByteArray) ++ s0 ++ ⟨#[58, 32]⟩).size + s1.size ≤ 9223372036854775807 := by rw [ByteArray.size_append, ByteArray.size_append]; omega
  have r1 := fun wx => run_string_add_sum (P := Tryd.prog) wx _ _ f1
  have r2 := fun wx => run_string_add_sum (P := Tryd.prog) wx _ _ f2
  have r3 := fun wx => run_string_add_sum (P := Tryd.prog) wx _ _ f3
  obtain ⟨sv, hsv⟩ : ∃ sv : ByteArray, (⟨(brokenT id num).toArray⟩ : ByteArray) = sv := ⟨_, rfl⟩
  have hv : (⟨#[99, 104, 117, 110, 107, 32]⟩ : ByteArray) ++ s0 ++ ⟨#[58, 32]⟩ ++ s1 = sv := by
    rw [← hs0, ← hs1, ← hsv]
    unfold brokenT
    rw [← str_app, ← str_app, ← str_app]
  have Hv := Lib.hid hv
  have hde : ∀ wx, Calls Tryd.prog 29 #[.int .i64 id] wx fun e w' => e = .returned (.string s0) ∧ Kept NoBlk wx w' := by
    intro wx
    have := decimal_any id HI.out.1 HI.out.2 wx
    unfold DecEnd at this
    rw [hs0] at this
    exact this
  have hen : ∀ wx, Calls Tryd.prog 26 #[.int .i64 num] wx fun e w' => e = .returned (.string s1) ∧ w' = wx := by
    intro wx
    have := errno_any HN.out wx
    rw [hs1] at this
    exact this
  have hbe : ∀ wx, Kept NoBlk w wx → Calls Tryd.prog 28 #[.pointer (some ⟨eb, 0, none⟩)] wx fun e w' => e = .returned (.string sv) ∧ Kept NoBlk wx w' := by
    intro wx hx
    have := brokenErr_any (HB.out.kept hx (fun e => e.elim)) HN.out HI.out (HE.out.kept hx)
    unfold BErrEnd at this
    rw [hsv] at this
    exact this
  have Hde := Lib.hid hde
  have Hen := Lib.hid hen
  have Hbe := Lib.hid hbe
  clear hs0 hs1 hl hde hen hbe f0 f00 z0 z1 f1 f2 f3 hv hsv
  go_enter Tryd.func10, Tryd.ntmps10
  go_wp2_with fail
  have ka : Kept NoBlk w (w.alloc (.cells #[.pointer none] 62)) := (Kept.refl NoBlk w).alloc _
  refine (as_broken (HE.out.kept ka).errs ⟨eb, 0, none⟩ (Blk.new w 62 #[.pointer none])).mono ?_
  rintro e w1 ⟨rfl, hb1, hk1⟩
  have k1 : Kept NoBlk w w1 := ka.inner hk1 (fun k e => Or.inr (by omega))
  have hbw1 := HB.out.kept k1 (fun e => e.elim)
  have c0 : w1.cell? ⟨w.heap.size, 0, none⟩ = some (.pointer (some ⟨eb, 0, none⟩)) := hb1.cell 0
  have c1 : w1.cell? ⟨eb, 0, none⟩ = some (.int .i64 id) := hbw1.cell 0
  have K1 := Lib.hid k1
  have HB1 := Lib.hid hb1
  have HBw1 := Lib.hid hbw1
  clear ka hk1 k1 hbw1 hb1
  go_wp2_with fail
  refine (is_broken HBw1.out).mono ?_
  rintro e w2 ⟨rfl, rfl⟩
  go_wp2_with fail
  refine (Hen.out _).mono ?_
  rintro e w2 ⟨rfl, rfl⟩
  go_wp2_with fail
  have kb : Kept NoBlk w2 (w2.alloc (.cells #[.pointer none] 72)) := (Kept.refl NoBlk w2).alloc _
  refine (as_fault ((HE.out.kept K1.out).kept kb).errs (HBw1.out.kept kb (fun e => e.elim)) (Blk.new w2 72 #[.pointer none])).mono ?_
  rintro e w3 ⟨rfl, hk3⟩
  have k3 : Kept NoBlk w w3 := (K1.out.trans kb).trans hk3
  have c2 : w3.cell? ⟨w.heap.size, 0, none⟩ = some (.pointer (some ⟨eb, 0, none⟩)) := (HB1.out.kept (kb.trans hk3) (fun e => e.elim)).cell 0
  have K3 := Lib.hid k3
  clear kb hk3 k3 c0 c1
  go_wp2_with fail
  refine (Hbe.out _ K3.out).mono ?_
  rintro e w4 ⟨rfl, hk4⟩
  have K4 := Lib.hid (K3.out.trans hk4)
  clear hk4 c2
  go_wp2_with fail
  refine (Hde.out _).mono ?_
  rintro e w5 ⟨rfl, hk5⟩
  have K5 := Lib.hid (K4.out.trans hk5)
  clear hk5
  go_wp2_with fail
  go_ret
  rw [Hv.out]
  exact ⟨by simp, K5.out⟩
end Go.Proofs.YtnaacgglbeipcaaDoor
