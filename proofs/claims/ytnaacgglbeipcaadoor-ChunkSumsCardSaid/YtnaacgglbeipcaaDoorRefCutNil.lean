/- The document's Cut at nil; at whatever bytes. -/
import Derived.Test.YtnaacgglbeipcaaDoorRefCut
namespace Go.Proofs.YtnaacgglbeipcaaDoor
open Go.RowKit

set_option maxRecDepth 100000 in
set_option maxHeartbeats 2000000 in
theorem refcut_nil (id : Int) (size : Nat) (w : World) (hid : 0 ≤ id) (h1 : 1 ≤ size) (h2 : size ≤ 65536) :
    Calls Tryd.prog 9 #[.int .i64 id, .slice none 0 0, .int .i64 (size : Int)] w (RefCutEnd w.heap.size (cutD id [] size) 0 w) := by
  have q0 : ¬ id < 0 := by omega
  have q1 : ¬ (size : Int) < 1 := by omega
  have q2 : ¬ 65536 < (size : Int) := by omega
  have q3 : 0 < (size : Int) := by omega
  have q4 : ((size : Int) == 0) = false := by
    have : ¬ (size : Int) = 0 := by omega
    simpa using this
  have q5 : ¬ (size : Int) < 0 := by omega
  obtain ⟨i0, hi, hz0, hz1, hz2⟩ := info_parts refpiece_info
  have Hi := Lib.hid hi
  have Hz0 := Lib.hid hz0
  have Hz1 := Lib.hid hz1
  have Hz2 := Lib.hid hz2
  clear hi hz0 hz1 hz2
  go_enter Tryd.func9, Tryd.ntmps9
  go_wp2_with fail
  refine (sumRef_any (RdB.nil_ w)).mono ?_
  rintro e w1 ⟨rfl, hk1⟩
  obtain ⟨s, hs⟩ : ∃ s, sumOf [] = s := ⟨_, rfl⟩
  rw [hs]
  have Hs := Lib.hid hs
  have HK1 := Lib.hid hk1
  clear hs hk1
  go_wp2_with fail
  refine wp_loop_rounds 2 ?_
  rw [rounds_succ]
  go_upto_region 13 with fail
  have hrow : ((w1.alloc (.cells #[] 5)).alloc (.cells #[.int .i64 id, .int .i64 0, .int .i64 0, .int .u32 s, .slice (some ⟨w1.heap.size, 0, none⟩) 0 0] 37)).ownsRow w.heap.size 37 5 (.slice none 0 0) 0 [] := ⟨rfl, Or.inl ⟨rfl, rfl⟩⟩
  have ea : (w1.alloc (.cells #[] 5)).heap.size = w1.heap.size + 1 := by simp
  have Ea := Lib.hid ea
  clear ea
  have hbase : w.heap.size ≤ w1.heap.size := HK1.out.size
  go_wp2_with (at_builtin; refine wpList_append_own _ rfl (.tmp 49) (.tmp 64) 29 rfl w.heap.size 37 i0 (.agg #[.int .i64 0, .int .i64 0, .int .i64 0, .int .u32 0, .slice none 0 0]) 5 56 Tryd.underlying29 Hi.out Hz0.out Hz1.out Hz2.out rfl (by decide) _ _ _ rfl hrow ⟨(w1.alloc (.cells #[] 5)).heap.size, 0, none⟩ 1 1 [.int .i64 id, .int .i64 0, .int .i64 0, .int .u32 s, .slice (some ⟨w1.heap.size, 0, none⟩) 0 0] (by rw [Ea.out]; rfl) rfl (World.news_of_block (cs := #[.int .i64 id, .int .i64 0, .int .i64 0, .int .u32 s, .slice (some ⟨w1.heap.size, 0, none⟩) 0 0]) (t := 37) (fr := (0, 0)) (heap_alloc_new (w1.alloc (.cells #[] 5)) _)) (by simp [Value.oneCell']) (by unfold maxLen; omega) (by omega) (by simp; omega) ?_; intro v' w3 hown3 hg3 _; have R3 := Lib.hid hown3; have G3 := Lib.hid hg3; clear hown3 hg3)
  rw [rounds_succ]
  go_wp2_with fail
  go_ret2
  have hp : (pieceAt id [] size 0) = ⟨id, 0, 0, s, []⟩ := by
    unfold pieceAt
    rw [Hs.out]
    simp
  have hN : cutD id [] size = [pieceAt id [] size 0] := rfl
  have hown : (w1.alloc (.cells #[] 5)).ownsRow w1.heap.size 5 1 (.slice (some ⟨w1.heap.size, 0, none⟩) 0 0) 0 [] := World.ownsRow_made (e := 5) (size := 1) w1 #[] 0 (Nat.le_refl _) (Nat.zero_le _) rfl
  refine ⟨v', (fun i => if i = ([] : List PcD).length then .slice (some ⟨w1.heap.size, 0, none⟩) 0 0 else .nilIface), rfl, ?_, ((HK1.out.alloc _).alloc _).grown G3.out (fun g hg => by cases hg)⟩
  rw [hN, hp]
  refine (Pcs.nil_ w1 w.heap.size 37 (fun _ => .nilIface)).snoc (by decide) (p := ⟨id, 0, 0, s, []⟩) (S := fun g => (Value.slice none 0 0).ownBlock = some g) ((Kept.refl NoBlk w1).alloc _) ?_ HK1.out.size (by simp) ?_ (((Kept.refl _ _).alloc _).grown G3.out (fun g hg => Or.inl hg)) (fun g hg => hg)
  · exact hown
  · exact R3.out

theorem refcut_any {id : Int} {v : Value} {size : Nat} {bs : List UInt8} {w : World} (h : RdB w v bs) (hn : bs.length ≤ 1048576) (hid : 0 ≤ id) (h1 : 1 ≤ size) (h2 : size ≤ 65536) :
    Calls Tryd.prog 9 #[.int .i64 id, v, .int .i64 (size : Int)] w (RefCutEnd w.heap.size (cutD id bs size) 0 w) := by
  obtain ⟨A, n, c, rfl, g1, g2, g3, g4, g5⟩ := h
  have hl : bs.length = n := by simpa using g5.1
  cases A with
  | none =>
    obtain ⟨rfl, rfl⟩ := g4 rfl
    have hb : bs = [] := List.eq_nil_of_length_eq_zero hl
    subst hb
    exact refcut_nil id size w hid h1 h2
  | some ad => exact refcut_some id ad n c size bs w g5 g1 g2 (by omega) hid h1 h2
end Go.Proofs.YtnaacgglbeipcaaDoor
