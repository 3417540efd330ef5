/- What a *Broken says; 'broken' finds it. -/
import Derived.Test.YtnaacgglbeipcaaDoorErr
import Derived.Test.YtnaacgglbeipcaaDoorDecimal
import Derived.Deep.RegionWith
namespace Go.Proofs.YtnaacgglbeipcaaDoor
open Go.RowKit

/-- What the library reads of its own: the table of Itoa, errors' variable. -/
structure Env (w : World) : Prop where
  errs : Errs w
  tab : Lib.TabIs Tryd.prog w "internal/strconv.uint64pow10" .u64 Lib.pow10Tab
theorem pow_at : Tryd.prog.globalNamed "internal/strconv.uint64pow10" = some 1 := by kernel_rfl
theorem Env.kept {w w' : World} (h : Env w) (hk : Kept NoBlk w w') : Env w' := by
  refine ⟨h.errs.kept hk, ?_⟩
  have ht := h.tab
  unfold Lib.TabIs World.var? at ht ⊢
  rw [pow_at] at ht ⊢
  simp only [Option.bind_some] at ht ⊢
  have hlt : 1 < w.heap.size := by
    rcases Nat.lt_or_ge 1 w.heap.size with h | h
    · exact h
    · rw [Array.getElem?_eq_none h] at ht
      cases ht
  rw [hk.block 1 hlt (fun e => e.elim)]
  exact ht

def IsErr (n : Int) : Prop := n = 1 ∨ n = 6 ∨ n = 8 ∨ n = 9 ∨ n = 10
def errT (n : Int) : List UInt8 := if n = 1 then [97, 114, 103] else if n = 6 then [110, 111, 116] else if n = 8 then [102, 111, 114, 109] else if n = 9 then [115, 117, 109] else [108, 111, 110, 103]

theorem errT_len (n : Int) : (errT n).length ≤ 4 := by
  unfold errT
  repeat' split
  all_goals decide

set_option maxRecDepth 100000 in
set_option maxHeartbeats 1000000 in
theorem errno_any {num : Int} (h : IsErr num) (w : World) : Calls Tryd.prog 26 #[.int .i64 num] w fun e w' => e = .returned (.string ⟨(errT num).toArray⟩) ∧ w' = w := by
  rcases h with rfl | rfl | rfl | rfl | rfl
  all_goals
    go_enter Tryd.func26, Tryd.ntmps26
    go_wp2_with fail
    go_ret
    exact ⟨rfl, rfl⟩

/-- "chunk 3: arg". -/
def brokenT (id num : Int) : List UInt8 := [99, 104, 117, 110, 107, 32] ++ Lib.itoa id ++ [58, 32] ++ errT num
def okId (id : Int) : Prop := -9223372036854775808 ≤ id ∧ id ≤ 9223372036854775807

def BErrEnd (id num : Int) (w : World) (e : Ending) (w' : World) : Prop := e = .returned (.string ⟨(brokenT id num).toArray⟩) ∧ Kept NoBlk w w'

set_option maxRecDepth 100000 in
set_option maxHeartbeats 1000000 in
theorem brokenErr_any {w : World} {eb : Nat} {id num : Int} (hb : Blk w eb 65 #[.int .i64 id, .iface 63 (.int .i64 num)]) (hn : IsErr num) (hi : okId id) (he : Env w) :
    Calls Tryd.prog 28 #[.pointer (some ⟨eb, 0, none⟩)] w (BErrEnd id num w) := by
  have c0 : w.cell? ⟨eb, 0, none⟩ = some (.int .i64 id) := hb.cell 0
  have c1 : w.cell? ⟨eb, 0 + 1, none⟩ = some (.iface 63 (.int .i64 num)) := hb.cell 1
  have HB := Lib.hid hb
  have HN := Lib.hid hn
  have HI := Lib.hid hi
  have HE := Lib.hid he
  have mE := Tryd.methodError
  clear hb hn hi he
  have hl := Lib.itoa_length_le id HI.out.1 HI.out.2
  obtain ⟨s0, hs0⟩ : ∃ s0 : ByteArray, (⟨(Lib.itoa id).toArray⟩ : ByteArray) = s0 := ⟨_, rfl⟩
  obtain ⟨s1, hs1⟩ : ∃ s1 : ByteArray, (⟨(errT num).toArray⟩ : ByteArray) = s1 := ⟨_, rfl⟩
  have z0 : s0.size ≤ 21 := by rw [← hs0]; simpa [ByteArray.size] using hl
  have z1 : s1.size ≤ 4 := by rw [← hs1]; simpa [ByteArray.size] using errT_len num
  have f0 : (⟨#[99, 104, 117, 110, 107, 32]⟩ : ByteArray).size = 6 := rfl
  have f00 : (⟨#[58, 32]⟩ : ByteArray).size = 2 := rfl
  have f1 : (⟨#[99, 104, 117, 110, 107, 32]⟩ : ByteArray).size + s0.size ≤ 9223372036854775807 := by omega
  have f2 : ((⟨#[99, 104, 117, 110, 107, 32]⟩ : ByteArray) ++ s0).size + (⟨#[58, 32]⟩ : ByteArray).size ≤ 9223372036854775807 := by rw [ByteArray.size_append]; omega
  have f3 : ((⟨#[99, 104, 117, 110, 107, 32]⟩ : ByteArray) ++ s0 ++ ⟨#[58, 32]⟩).size + s1.size ≤ 9223372036854775807 := by rw [ByteArray.size_append, ByteArray.size_append]; omega
  have hv : Ending.returned (.string ((⟨#[99, 104, 117, 110, 107, 32]⟩ : ByteArray) ++ s0 ++ ⟨#[58, 32]⟩ ++ s1)) = .returned (.string ⟨(brokenT id num).toArray⟩) := by
    rw [← hs0, ← hs1]
    unfold brokenT
    rw [← str_app, ← str_app, ← str_app]
  have Hv := Lib.hid hv
  clear hv
  have hit : ∀ wx, Env wx → Calls Tryd.prog 38 #[.int .i64 id] wx fun e w' => e = .returned (.string s0) ∧ Kept NoBlk wx w' := by
    intro wx hx
    have := itoa_any id HI.out.1 HI.out.2 wx hx.tab
    unfold ItoaEnd at this
    rw [hs0] at this
    exact this
  have hen : ∀ wx, Calls Tryd.prog 26 #[.int .i64 num] wx fun e w' => e = .returned (.string s1) ∧ w' = wx := by
    intro wx
    have := errno_any HN.out wx
    rw [hs1] at this
    exact this
  have Hit := Lib.hid hit
  have Hen := Lib.hid hen
  have r1 := fun wx => run_string_add_sum (P := Tryd.prog) wx _ _ f1
  have r2 := fun wx => run_string_add_sum (P := Tryd.prog) wx _ _ f2
  have r3 := fun wx => run_string_add_sum (P := Tryd.prog) wx _ _ f3
  clear hs0 hs1 hl hit hen f0 f00 z0 z1 f1 f2 f3
  go_enter Tryd.func28, Tryd.ntmps28
  go_upto_region 1 with fail
  go_region_with (first
    | (go_at_call 38; refine (Hit.out _ (HE.out.kept ((Kept.refl NoBlk _).drewN _))).mono ?_; rintro e w1 ⟨rfl, hk1⟩; have k1 : Kept NoBlk w w1 := ((Kept.refl NoBlk w).drewN _).trans hk1; have d0 : w1.cell? ⟨eb, 0, none⟩ = some (.int .i64 id) := (HB.out.kept k1 (fun e => e.elim)).cell 0; have d1 : w1.cell? ⟨eb, 0 + 1, none⟩ = some (.iface 63 (.int .i64 num)) := (HB.out.kept k1 (fun e => e.elim)).cell 1)
    | (go_at_call 26; refine (Hen.out _).mono ?_; rintro e w2 ⟨rfl, rfl⟩))
  all_goals
    go_wp2_with fail
    go_ret
    exact ⟨Hv.out, by first | exact k1 | exact k1.drewN _ | exact k1.drew⟩
end Go.Proofs.YtnaacgglbeipcaaDoor
