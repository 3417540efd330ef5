/- chunk.Cut at nil, and where it cannot be. -/
import Derived.Test.YtnaacgglbeipcaaDoorCut
namespace Go.Proofs.YtnaacgglbeipcaaDoor
open Go.RowKit

set_option maxRecDepth 100000 in
set_option maxHeartbeats 2000000 in
theorem cut_nil (id : Int) (size : Nat) (w : World) (hid : 0 ≤ id) (h1 : 1 ≤ size) (h2 : size ≤ 65536) :
    Calls Tryd.prog 8 #[.int .i64 id, .slice none 0 0, .int .i64 (size : Int)] w (CutEnd w.heap.size (cutD id [] size) w) := by
  have q0 : ¬ id < 0 := by omega
  have q1 : ¬ (size : Int) < 1 := by omega
  have q2 : ¬ 65536 < (size : Int) := by omega
  have q3 : min (size : Int) 0 = 0 := by omega
  have q4 : ¬ (size : Int) < 0 := by omega
  obtain ⟨i0, hi, hz0, hz1, hz2⟩ := info_parts piece_info
  have Hi := Lib.hid hi
  have Hz0 := Lib.hid hz0
  have Hz1 := Lib.hid hz1
  have Hz2 := Lib.hid hz2
  clear hi hz0 hz1 hz2
  go_enter Tryd.func8, Tryd.ntmps8
  go_wp2_with fail
  go_step3
  go_wp2_with fail
  refine (sum_any (RdB.nil_ w)).mono ?_
  rintro e w1 ⟨rfl, hk1⟩
  obtain ⟨s, hs⟩ : ∃ s, sumOf [] = s := ⟨_, rfl⟩
  rw [hs]
  have Hs := Lib.hid hs
  have HK1 := Lib.hid hk1
  clear hs hk1
  go_wp2_with fail
  go_step3
  go_wp2_with fail
  refine wp_loop_rounds 1 ?_
  rw [rounds_succ]
  go_wp2_with fail
  all_goals
    refine (clone_any _ [] _ (RdB.nil_ _)).mono ?_
    rintro e w2 ⟨dv, rfl, hrd2, hk2, hown⟩
    obtain ⟨A2, n2, c2, hdv⟩ : ∃ A2 n2 c2, dv = .slice A2 n2 c2 := by
      obtain ⟨A2, n2, c2, e, _⟩ := hrd2
      exact ⟨A2, n2, c2, e⟩
    rw [hdv] at hown ⊢
    have hrow : (w2.alloc (.cells #[.int .i64 id, .int .i64 0, .int .i64 0, .int .u32 s, .slice A2 n2 c2] 36)).ownsRow w.heap.size 36 5 (.slice none 0 0) 0 [] := ⟨rfl, Or.inl ⟨rfl, rfl⟩⟩
    have hbase : w.heap.size ≤ w2.heap.size := (HK1.out.trans hk2).size
    have Hown := Lib.hid hown
    have HK2 := Lib.hid hk2
    clear hrd2 hdv hown hk2
    go_wp2_with (at_builtin; refine wpList_append_own _ rfl (.tmp 48) (.tmp 60) 24 rfl w.heap.size 36 i0 (.agg #[.int .i64 0, .int .i64 0, .int .i64 0, .int .u32 0, .slice none 0 0]) 5 56 Tryd.underlying24 Hi.out Hz0.out Hz1.out Hz2.out rfl (by decide) _ _ _ rfl hrow ⟨w2.heap.size, 0, none⟩ 1 1 [.int .i64 id, .int .i64 0, .int .i64 0, .int .u32 s, .slice A2 n2 c2] rfl rfl (World.news_of_block (cs := #[.int .i64 id, .int .i64 0, .int .i64 0, .int .u32 s, .slice A2 n2 c2]) (t := 36) (fr := (0, 0)) (heap_alloc_new w2 _)) (by simp [Value.oneCell']) (by unfold maxLen; omega) (by omega) (by simp; omega) ?_; intro v' w3 hown3 hg3 _; have R3 := Lib.hid hown3; have G3 := Lib.hid hg3; clear hown3 hg3)
    rw [Exit.noGoto_ret]
    go_ret2
    have hp : (pieceAt id [] size 0) = ⟨id, 0, 0, s, []⟩ := by
      unfold pieceAt
      rw [Hs.out]
      simp
    have hN : cutD id [] size = [pieceAt id [] size 0] := rfl
    refine ⟨v', (fun i => if i = ([] : List PcD).length then .slice A2 n2 c2 else .nilIface), rfl, ?_, ((HK1.out.trans HK2.out).alloc _).grown G3.out (fun g hg => by cases hg)⟩
    rw [hN, hp]
    refine (Pcs.nil_ w1 w.heap.size 36 (fun _ => .nilIface)).snoc (by decide) (p := ⟨id, 0, 0, s, []⟩) (S := fun g => (Value.slice none 0 0).ownBlock = some g) HK2.out ?_ HK1.out.size (by simp) ?_ (((Kept.refl _ w2).alloc _).grown G3.out (fun g hg => Or.inl hg)) (fun g hg => hg)
    · exact Hown.out
    · exact R3.out

def BadEnd (id num : Int) (w : World) (e : Ending) (w' : World) : Prop := ∃ eb, e = .returned (.tuple #[.slice none 0 0, .iface 62 (.pointer (some ⟨eb, 0, none⟩))]) ∧ Blk w' eb 65 #[.int .i64 id, .iface 63 (.int .i64 num)] ∧ Kept NoBlk w w'

set_option maxRecDepth 100000 in
set_option maxHeartbeats 2000000 in
theorem cut_bad (id : Int) (A : Option Addr) (n c : Nat) (size : Int) (w : World) (h : id < 0 ∨ size < 1 ∨ 65536 < size) :
    Calls Tryd.prog 8 #[.int .i64 id, .slice A n c, .int .i64 size] w (BadEnd id 1 w) := by
  have q : (id < 0) ∨ (¬ id < 0 ∧ size < 1) ∨ (¬ id < 0 ∧ ¬ size < 1 ∧ 65536 < size) := by omega
  clear h
  rcases q with q1 | ⟨q1, q2⟩ | ⟨q1, q2, q3⟩
  all_goals
    go_enter Tryd.func8, Tryd.ntmps8
    go_wp2_with fail
    go_step3
    go_wp2_with fail
    rw [Exit.noGoto_ret]
    go_ret2
    exact ⟨w.heap.size, rfl, Blk.new w 65 _, (Kept.refl _ w).alloc _⟩

theorem cut_any {id : Int} {v : Value} {size : Nat} {bs : List UInt8} {w : World} (h : RdB w v bs) (hn : bs.length ≤ 1048576) (hid : 0 ≤ id) (h1 : 1 ≤ size) (h2 : size ≤ 65536) :
    Calls Tryd.prog 8 #[.int .i64 id, v, .int .i64 (size : Int)] w (CutEnd w.heap.size (cutD id bs size) w) := by
  obtain ⟨A, n, c, rfl, g1, g2, g3, g4, g5⟩ := h
  have hl : bs.length = n := by simpa using g5.1
  cases A with
  | none =>
    obtain ⟨rfl, rfl⟩ := g4 rfl
    have hb : bs = [] := List.eq_nil_of_length_eq_zero hl
    subst hb
    exact cut_nil id size w hid h1 h2
  | some ad => exact cut_some id ad n c size bs w g5 g1 g2 (by omega) hid h1 h2
end Go.Proofs.YtnaacgglbeipcaaDoor
