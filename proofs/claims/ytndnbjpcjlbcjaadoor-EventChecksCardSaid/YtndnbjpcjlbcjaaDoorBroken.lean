/- What a *Broken says; the status of events. -/
import Derived.Test.YtndnbjpcjlbcjaaDoorErr
import Derived.Test.YtndnbjpcjlbcjaaDoorItoa
import Derived.Test.YtndnbjpcjlbcjaaDoorEvs
import Derived.Lib.ItoaLen
import Derived.Deep.RegionWith
namespace Go.Proofs.YtndnbjpcjlbcjaaDoor
open Go.RowKit

/-- What the library reads of its own: the table of Itoa, errors' variable. -/
structure Env (w : World) : Prop where
  errs : Errs w
  tab : Lib.TabIs Tryd.prog w "internal/strconv.uint64pow10" .u64 Lib.pow10Tab
theorem pow_at : Tryd.prog.globalNamed "internal/strconv.uint64pow10" = some 1 := by kernel_rfl
theorem Env.kept {w w' : World} (h : Env w) (hk : Kept NoBlk w w') : Env w' := by
  refine ⟨h.errs.kept hk, ?_⟩
  have ht := h.tab
  unfold Lib.TabIs World.var? at ht ⊢
  rw [pow_at] at ht ⊢
  simp only [Option.bind_some] at ht ⊢
  have hlt : 1 < w.heap.size := by
    rcases Nat.lt_or_ge 1 w.heap.size with h | h
    · exact h
    · rw [Array.getElem?_eq_none h] at ht
      cases ht
  rw [hk.block 1 hlt (fun e => e.elim)]
  exact ht

theorem str_app (a b : List UInt8) : (⟨a.toArray⟩ : ByteArray) ++ ⟨b.toArray⟩ = ⟨(a ++ b).toArray⟩ := by
  apply ByteArray.ext
  rw [ByteArray.data_append]
  simp

/-- "event 3: ref". -/
def brokenT (pos : Int) (why : ByteArray) : ByteArray := (⟨#[101, 118, 101, 110, 116, 32]⟩ : ByteArray) ++ ⟨(Lib.itoa pos).toArray⟩ ++ ⟨#[58, 32]⟩ ++ why

set_option maxRecDepth 100000 in
set_option maxHeartbeats 1000000 in
theorem brokenErr_any {w : World} {eb : Nat} {pos : Int} {why : ByteArray} {x : Value} (hb : Blk w eb 53 #[.int .i64 pos, .string why, x]) (hw : why.size ≤ 100) (hi : okI pos) (he : Env w) :
    Calls Tryd.prog 19 #[.pointer (some ⟨eb, 0, none⟩)] w (ValEnd (.string (brokenT pos why)) w) := by
  have c0 : w.cell? ⟨eb, 0, none⟩ = some (.int .i64 pos) := hb.cell 0
  have c1 : w.cell? ⟨eb, 0 + 1, none⟩ = some (.string why) := hb.cell 1
  have HB := Lib.hid hb
  have HI := Lib.hid hi
  have HE := Lib.hid he
  clear hb hi he
  have hl := Lib.itoa_length_le pos HI.out.1 HI.out.2
  obtain ⟨s0, hs0⟩ : ∃ s0 : ByteArray, (⟨(Lib.itoa pos).toArray⟩ : ByteArray) = s0 := ⟨_, rfl⟩
  have z0 : s0.size ≤ 21 := by rw [← hs0]; simpa [ByteArray.size] using hl
  have f0 : (⟨#[101, 118, 101, 110, 116, 32]⟩ : ByteArray).size = 6 := rfl
  have f00 : (⟨#[58, 32]⟩ : ByteArray).size = 2 := rfl
  have f1 : (⟨#[101, 118, 101, 110, 116, 32]⟩ : ByteArray).size + s0.size ≤ 9223372036854775807 := by omega
  have f2 : ((⟨#[101, 118, 101, 110, 116, 32]⟩ : ByteArray) ++ s0).size + (⟨#[58, 32]⟩ : ByteArray).size ≤ 9223372036854775807 := by rw [ByteArray.size_append]; omega
  have f3 : ((⟨#[101, 118, 101, 110, 116, 32]⟩ : ByteArray) ++ s0 ++ ⟨#[58, 32]⟩).size + why.size ≤ 9223372036854775807 := by rw [ByteArray.size_append, ByteArray.size_append]; omega
  have hv : Ending.returned (.string ((⟨#[101, 118, 101, 110, 116, 32]⟩ : ByteArray) ++ s0 ++ ⟨#[58, 32]⟩ ++ why)) = .returned (.string (brokenT pos why)) := by
    rw [← hs0]
    rfl
  have Hv := Lib.hid hv
  clear hv
  have hit : ∀ wx, Env wx → Calls Tryd.prog 42 #[.int .i64 pos] wx fun e w' => e = .returned (.string s0) ∧ Kept NoBlk wx w' := by
    intro wx hx
    have := itoa_any pos HI.out.1 HI.out.2 wx hx.tab
    unfold ItoaEnd at this
    rw [hs0] at this
    exact this
  have Hit := Lib.hid hit
  have r1 := fun wx => run_string_add_sum (P := Tryd.prog) wx _ _ f1
  have r2 := fun wx => run_string_add_sum (P := Tryd.prog) wx _ _ f2
  have r3 := fun wx => run_string_add_sum (P := Tryd.prog) wx _ _ f3
  clear hs0 hl hit f0 f00 z0 f1 f2 f3 hw
  go_enter Tryd.func19, Tryd.ntmps19
  go_upto_region 1 with fail
  go_region_with (first
    | (go_at_call 42; refine (Hit.out _ (HE.out.kept ((Kept.refl NoBlk _).drewN _))).mono ?_; rintro e w1 ⟨rfl, hk1⟩; have k1 : Kept NoBlk w w1 := ((Kept.refl NoBlk w).drewN _).trans hk1; have d0 : w1.cell? ⟨eb, 0, none⟩ = some (.int .i64 pos) := (HB.out.kept k1 (fun e => e.elim)).cell 0; have d1 : w1.cell? ⟨eb, 0 + 1, none⟩ = some (.string why) := (HB.out.kept k1 (fun e => e.elim)).cell 1))
  all_goals
    go_wp2_with fail
    go_ret
    exact ⟨Hv.out, by first | exact k1 | exact k1.drewN _ | exact k1.drew⟩
end Go.Proofs.YtndnbjpcjlbcjaaDoor
