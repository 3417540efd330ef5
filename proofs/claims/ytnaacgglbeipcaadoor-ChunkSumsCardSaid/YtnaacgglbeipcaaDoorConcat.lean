/- slices.Grow (the shelf's) and slices.Concat at two rows of bytes. -/
import Derived.Test.YtnaacgglbeipcaaDoorLay
import Derived.Laws.AppendOwnNone
import Derived.Test.YtnaacgglbeipcaaDoorRefCut
namespace Go.Proofs.YtnaacgglbeipcaaDoor
open Go.RowKit Go.Shelf

def GrowEnd (w : World) (e : Ending) (w' : World) : Prop := ∃ A n c, e = .returned (.slice A n c) ∧ w'.ownsRow w.heap.size 5 1 (.slice A n c) 0 [] ∧ Kept NoBlk w w'

theorem grow_any (n : Nat) (hn : n ≤ 140737488351232) (w : World) : Calls Tryd.prog 43 #[.slice none 0 0, .int .i64 (n : Int)] w (GrowEnd w) := by
  rcases Nat.eq_zero_or_pos n with rfl | hp
  · refine (Any8.slices_Grow_room Tryd.growB none 0 0 0 w (by omega) (by omega) (by omega) (by omega)).mono fun e w' h => ?_
    obtain ⟨he, rfl⟩ := h
    exact ⟨_, _, _, he, ⟨rfl, Or.inl ⟨rfl, rfl⟩⟩, Kept.refl _ _⟩
  · obtain ⟨i0, hi, hz0, hz1, hz2⟩ := info_parts u8_info
    refine (Any8.slices_Grow_grow Tryd.growB i0 (.int .u8 0) hi hz0 (by rw [hz1]; omega) none 0 0 n [] w (by omega) (by omega) (by rw [hz2]; omega) (by omega) (by simp) (fun _ => rfl) (fun a h => by cases h)).mono fun e w' ⟨he, hw⟩ => ?_
    subst he
    subst hw
    have e5 : Tryd.growB_ren.t 25 = 5 := rfl
    rw [e5]
    have h1 := grownCap_ge w (0 + n) 0 5
    have h2 := grownCap_le_maxLen w (0 + n) 0 5 (by unfold maxLen; omega)
    have hsz : ((#[] : Array Value) ++ Builtin.zeroCells (Value.int .u8 0).cells (0 + n - 0) ++ Builtin.zeroCells (Value.int .u8 0).cells (grownCap w (0 + n) 0 5 - (0 + n))).size = grownCap w (0 + n) 0 5 := by
      rw [Array.size_append, Array.size_append, size_zeroCells, size_zeroCells]
      have e1 : (Value.int IntKind.u8 0).cells.size = 1 := rfl
      have e2 : (#[] : Array Value).size = 0 := rfl
      rw [e1, e2]
      omega
    generalize ((#[] : Array Value) ++ Builtin.zeroCells (Value.int .u8 0).cells (0 + n - 0) ++ Builtin.zeroCells (Value.int .u8 0).cells (grownCap w (0 + n) 0 5 - (0 + n))) = C at hsz ⊢
    refine ⟨_, _, _, rfl, ⟨rfl, Or.inr ⟨w.heap.size, grownCap w (0 + n) 0 5, C, rfl, Nat.le_refl _, ?_, Nat.zero_le _, h2, by omega, by simp⟩⟩, ((Kept.refl NoBlk w).drew).alloc _⟩
    show (w.heap.push _)[w.heap.size]? = _
    simp

/-- 'append(s, b...)', s a row of bytes of our own, b any bytes (nil too). -/
theorem wpList_append_rdb {w : World} {ops : Array Oper} {rest : List Oper} {o : Oper} {a : Act} {Q : Exit → Act → World → Prop} (hgd : o.guard = none) (s x : Operand)
    (ho : o.op = .call { callee := .builtin .append, args := #[s, x], argTypes := #[22, 22] }) (base : Nat) (v : Value) (n : Nat) (xs : List Value) (hs : a.eval s = v) (hown : w.ownsRow base 5 1 v n xs)
    {cv : Value} {bs : List UInt8} (hx : a.eval x = cv) (hr : RdB w cv bs) (hn : n + bs.length ≤ 140737488355328) (hbase : base ≤ w.heap.size)
    (h : ∀ A m c w', w'.ownsRow base 5 1 (.slice A m c) (n + bs.length) (xs ++ bs.map bv) → w.grownBy w' v.ownBlock → wpList Tryd.prog ops Q rest (a.put o.dst (.slice A m c)) w') : wpList Tryd.prog ops Q (o :: rest) a w := by
  obtain ⟨i0, hi, hz0, hz1, hz2⟩ := info_parts u8_info
  have hr0 := hr
  obtain ⟨A, m, c, rfl, g1, g2, g3, g4, g5⟩ := hr
  have hl : bs.length = m := by simpa using g5.1
  cases A with
  | none =>
    obtain ⟨rfl, rfl⟩ := g4 rfl
    have hb : bs = [] := List.eq_nil_of_length_eq_zero hl
    subst hb
    refine wpList_append_own_none hgd s x 22 ho base 5 i0 1 Tryd.underlying22 hi v n xs hs hown hx ?_
    obtain ⟨A, m, c, hv⟩ : ∃ A m c, v = .slice A m c := by
      rcases hown.2 with ⟨e, _⟩ | ⟨g, cap, cur, e, _⟩
      · exact ⟨_, _, _, e⟩
      · exact ⟨_, _, _, e⟩
    subst hv
    exact h A m c w (by simpa using hown) ⟨rfl, rfl, rfl, Nat.le_refl _, fun _ _ _ => rfl⟩
  | some ad =>
    refine wpList_append_own w hgd s x 22 ho base 5 i0 (.int .u8 0) 1 1 Tryd.underlying22 hi hz0 hz1 hz2 rfl (by decide) v n xs hs hown ad m c (bs.map bv) hx (by simp; omega) hr0.cells (bv_one bs) (by unfold maxLen; omega) (by omega) hbase ?_
    intro v' w' h1 h2 _
    obtain ⟨A, m', c', hv⟩ : ∃ A m c, v' = .slice A m c := by
      rcases h1.2 with ⟨e, _⟩ | ⟨g, cap, cur, e, _⟩
      · exact ⟨_, _, _, e⟩
      · exact ⟨_, _, _, e⟩
    subst hv
    rw [← hl] at h1
    exact h A m' c' w' h1 h2

def ConcatEnd (bs : List UInt8) (w : World) (e : Ending) (w' : World) : Prop := ∃ v, e = .returned v ∧ w'.ownsRow w.heap.size 5 1 v bs.length (bs.map bv) ∧ Kept NoBlk w w'

set_option maxRecDepth 100000 in
set_option maxHeartbeats 2000000 in
theorem concat_some {w : World} {g : Nat} {v1 v2 : Value} {b1 b2 : List UInt8} (hg : Blk w g 22 #[v1, v2]) (h1 : RdB w v1 b1) (h2 : RdB w v2 b2) (hs : b1.length + b2.length ≤ 140737488351232) :
    Calls Tryd.prog 39 #[.slice (some ⟨g, 0, none⟩) 2 2] w (ConcatEnd (b1 ++ b2) w) := by
  have H1 := Lib.hid h1
  have H2 := Lib.hid h2
  obtain ⟨A1, n1, c1, rfl, _, _, _, _, r1⟩ := h1
  obtain ⟨A2, n2, c2, rfl, _, _, _, _, r2⟩ := h2
  have l1 : b1.length = n1 := by simpa using r1.1
  have l2 : b2.length = n2 := by simpa using r2.1
  have k0 : w.cell? ⟨g, 0, none⟩ = some (.slice A1 n1 c1) := hg.cell 0
  have k1 : w.cell? ⟨g, 0 + 1, none⟩ = some (.slice A2 n2 c2) := hg.cell 1
  rw [l1, l2] at hs
  have HG := Lib.hid hg
  have L1 := Lib.hid l1
  have L2 := Lib.hid l2
  clear r1 r2 l1 l2 hg
  have z0 : IntKind.i64.wrap ((n1 : Int) + (n2 : Int)) = ((n1 + n2 : Nat) : Int) := by rw [IntKind.wrap_i64]; omega
  have z1 : ¬ ((n1 : Int) < 0) := by omega
  have z2 : ¬ (((n1 + n2 : Nat) : Int) < 0) := by omega
  go_enter Tryd.func39, Tryd.ntmps39
  go_wp2_with fail
  refine wp_loop_rounds 3 ?_
  rw [rounds_succ]
  go_wp2_with fail
  rw [rounds_succ]
  go_wp2_with fail
  rw [rounds_succ]
  go_wp2_with fail
  obtain ⟨N, hN⟩ : ∃ N : Nat, n1 + n2 = N := ⟨_, rfl⟩
  rw [show ((n1 : Int) + (n2 : Int)) = (N : Int) by omega]
  refine (grow_any N (by omega) w).mono ?_
  rintro e w1 ⟨A, n, c, rfl, hown, hk1⟩
  have HN := Lib.hid (show n1 + n2 = N ∧ N ≤ 140737488351232 from ⟨hN, by omega⟩)
  have HK1 := Lib.hid hk1
  have Hown := Lib.hid hown
  have m0 : w1.cell? ⟨g, 0, none⟩ = some (.slice A1 n1 c1) := (HG.out.kept hk1 (fun e => e.elim)).cell 0
  have m1 : w1.cell? ⟨g, 0 + 1, none⟩ = some (.slice A2 n2 c2) := (HG.out.kept hk1 (fun e => e.elim)).cell 1
  clear hN hk1 hown k0 k1 z0 z1 z2 hs
  go_wp2_with fail
  refine wp_loop_rounds 3 ?_
  rw [rounds_succ]
  have hr1 := H1.out.kept HK1.out (NoCells.none w)
  have hrow1 := Hown.out
  have hbase1 : w.heap.size ≤ w1.heap.size := HK1.out.size
  have q1 : 0 + b1.length ≤ 140737488355328 := by have h3 := L1.out; have h4 := L2.out; have := HN.out; omega
  go_wp2_with (at_builtin; refine wpList_append_rdb rfl (.tmp 31) (.tmp 32) rfl w.heap.size _ 0 [] rfl hrow1 rfl hr1 q1 hbase1 ?_; intro A3 m3 c3 w2 hown2 hg2; have R2 := Lib.hid hown2; have G2 := Lib.hid hg2; clear hown2 hg2)
  have hk2 : Kept NoBlk w w2 := HK1.out.grown G2.out (fun k hk => Or.inr (ownsRow_lt hrow1 hk).2)
  have HK2 := Lib.hid hk2
  have hr2 := H2.out.kept hk2 (NoCells.none w)
  have hrow2 := R2.out
  have hbase2 : w.heap.size ≤ w2.heap.size := hk2.size
  have q2 : 0 + b1.length + b2.length ≤ 140737488355328 := by have h3 := L1.out; have h4 := L2.out; have := HN.out; omega
  have p1 : w2.cell? ⟨g, 0 + 1, none⟩ = some (.slice A2 n2 c2) := (HG.out.kept hk2 (fun e => e.elim)).cell 1
  clear hk2 m0 m1 hr1 hrow1 hbase1 q1
  rw [rounds_succ]
  go_wp2_with (at_builtin; refine wpList_append_rdb rfl (.tmp 31) (.tmp 32) rfl w.heap.size _ _ _ rfl hrow2 rfl hr2 q2 hbase2 ?_; intro A4 m4 c4 w3 hown3 hg3; have R3 := Lib.hid hown3; have G3 := Lib.hid hg3; clear hown3 hg3)
  rw [rounds_succ]
  go_wp2_with fail
  go_ret
  refine ⟨_, rfl, ?_, HK2.out.grown G3.out (fun k hk => Or.inr (ownsRow_lt hrow2 hk).2)⟩
  have := R3.out
  rw [List.length_append, List.map_append]
  simpa using this

/-- slices.Concat of two rows. -/
theorem concat_any {w : World} {g : Nat} {v1 v2 : Value} {b1 b2 : List UInt8} (hg : Blk w g 22 #[v1, v2]) (h1 : RdB w v1 b1) (h2 : RdB w v2 b2) (hs : b1.length + b2.length ≤ 140737488351232) :
    Calls Tryd.prog 39 #[.slice (some ⟨g, 0, none⟩) 2 2] w fun e w' => ∃ v, e = .returned v ∧ RdB w' v (b1 ++ b2) ∧ Kept NoBlk w w' := by
  refine (concat_some hg h1 h2 hs).mono fun e w' ⟨v, he, hown, hk⟩ => ⟨v, he, RdB.of_own hown ?_, hk⟩
  rw [List.length_append]
  exact hs
end Go.Proofs.YtnaacgglbeipcaaDoor
