/- Three rows of numbers that the call itself makes. -/
import Derived.Test.YtndnbjpcjlbcjaaDoorSortI
import Derived.Test.YtndnbjpcjlbcjaaDoorRng
import Derived.OwnWalk
namespace Go.Proofs.YtndnbjpcjlbcjaaDoor
open Go.RowKit Go.Maps Go.Sort

theorem OwnI.kept {S : Nat → Prop} {w w' : World} {base : Nat} {v : Value} {ts : List Int} (h : OwnI w base v ts) (hk : Kept S w w') (hs : ∀ b, v.ownBlock = some b → ¬ S b) : OwnI w' base v ts := by
  obtain ⟨hl, h⟩ := h
  refine ⟨hl, ?_⟩
  rcases h with h | ⟨g, cap, cur, rfl, hg, hb, h1⟩
  · exact Or.inl h
  · exact Or.inr ⟨g, cap, cur, rfl, hg, (hk.block g (heap_lt hb) (hs g rfl)).trans hb, h1⟩
theorem OwnI.lt {w : World} {base : Nat} {v : Value} {ts : List Int} (h : OwnI w base v ts) {b : Nat} (hb : v.ownBlock = some b) : base ≤ b ∧ b < w.heap.size := World.ownsRow.lt h b hb
theorem OwnI.nil_ (w : World) (base : Nat) : OwnI w base (.slice none 0 0) [] := ⟨rfl, Or.inl ⟨rfl, rfl⟩⟩
theorem ranges_keep {H : Type} {S : Nat → Prop} {w w' : World} {P : Program} {k : TypeId} {R : Value → Option (DataW H × List MemPlace)} {b r n : Nat} {D : DataW H} {left : Lit → Bool} {cnt : Nat} (h : w.ranges P k R b r n D left cnt) (hk : Kept S w w') (hb : ¬ S b) (hr : ¬ S r) : w'.ranges P k R b r n D left cnt := by
  obtain ⟨es, clock, since, seen, c0, h1, h2, h3, h4, h5, h6⟩ := h
  exact ⟨es, clock, since, seen, c0, (hk.block b (heap_lt h1) hb).trans h1, h2, h3, h4, (hk.block r (heap_lt h5) hr).trans h5, h6⟩

structure Lists (w : World) (base a2 a3 a4 : Nat) (v1 v2 v3 : Value) (L1 L2 L3 : List Int) : Prop where
  b1 : Blk w a2 47 #[v1]
  b2 : Blk w a3 47 #[v2]
  b3 : Blk w a4 47 #[v3]
  o1 : OwnI w base v1 L1
  o2 : OwnI w base v2 L2
  o3 : OwnI w base v3 L3
  d12 : ∀ b, v1.ownBlock = some b → v2.ownBlock ≠ some b
  d13 : ∀ b, v1.ownBlock = some b → v3.ownBlock ≠ some b
  d23 : ∀ b, v2.ownBlock = some b → v3.ownBlock ≠ some b
  lt : a2 < base ∧ a3 < base ∧ a4 < base
  ne : a2 ≠ a3 ∧ a2 ≠ a4 ∧ a3 ≠ a4
section
variable {w w' : World} {base a2 a3 a4 : Nat} {v1 v2 v3 : Value} {L1 L2 L3 : List Int}
theorem Lists.far {S : Nat → Prop} (h : Lists w base a2 a3 a4 v1 v2 v3 L1 L2 L3) (hk : Kept S w w') (hs : ∀ b, S b → b < base ∧ b ≠ a2 ∧ b ≠ a3 ∧ b ≠ a4) : Lists w' base a2 a3 a4 v1 v2 v3 L1 L2 L3 := by
  refine ⟨h.b1.kept hk (fun e => (hs _ e).2.1 rfl), h.b2.kept hk (fun e => (hs _ e).2.2.1 rfl), h.b3.kept hk (fun e => (hs _ e).2.2.2 rfl), h.o1.kept hk (fun b hb e => ?_), h.o2.kept hk (fun b hb e => ?_), h.o3.kept hk (fun b hb e => ?_), h.d12, h.d13, h.d23, h.lt, h.ne⟩
  · have := (h.o1.lt hb).1; have := (hs b e).1; omega
  · have := (h.o2.lt hb).1; have := (hs b e).1; omega
  · have := (h.o3.lt hb).1; have := (hs b e).1; omega
/-- One of them has grown: its cell a2, its row; the other two are as they were. -/
theorem Lists.grow1 {v1' : Value} {L1' : List Int} (h : Lists w base a2 a3 a4 v1 v2 v3 L1 L2 L3) (hk : Kept (fun b => b = a2 ∨ v1.ownBlock = some b) w w') (hb : Blk w' a2 47 #[v1']) (ho : OwnI w' base v1' L1') (hn : ∀ b, v1'.ownBlock = some b → v1.ownBlock = some b ∨ w.heap.size ≤ b) : Lists w' base a2 a3 a4 v1' v2 v3 L1' L2 L3 := by
  have ne := h.ne
  have lt := h.lt
  refine ⟨hb, h.b2.kept hk ?_, h.b3.kept hk ?_, ho, h.o2.kept hk (fun b hb e => ?_), h.o3.kept hk (fun b hb e => ?_), fun b hb => ?_, fun b hb => ?_, h.d23, h.lt, h.ne⟩
  · rintro (e | e)
    · exact ne.1 e.symm
    · have := (h.o1.lt e).1; omega
  · rintro (e | e)
    · exact ne.2.1 e.symm
    · have := (h.o1.lt e).1; omega
  · rcases e with e | e
    · have := (h.o2.lt hb).1; omega
    · exact h.d12 b e hb
  · rcases e with e | e
    · have := (h.o3.lt hb).1; omega
    · exact h.d13 b e hb
  · rcases hn b hb with h1 | h1
    · exact h.d12 b h1
    · intro e; have := (h.o2.lt e).2; omega
  · rcases hn b hb with h1 | h1
    · exact h.d13 b h1
    · intro e; have := (h.o3.lt e).2; omega
theorem Lists.swap12 (h : Lists w base a2 a3 a4 v1 v2 v3 L1 L2 L3) : Lists w base a3 a2 a4 v2 v1 v3 L2 L1 L3 :=
  ⟨h.b2, h.b1, h.b3, h.o2, h.o1, h.o3, fun b h1 h2 => h.d12 b h2 h1, h.d23, h.d13, ⟨h.lt.2.1, h.lt.1, h.lt.2.2⟩, ⟨fun e => h.ne.1 e.symm, h.ne.2.2, h.ne.2.1⟩⟩
theorem Lists.swap13 (h : Lists w base a2 a3 a4 v1 v2 v3 L1 L2 L3) : Lists w base a4 a3 a2 v3 v2 v1 L3 L2 L1 :=
  ⟨h.b3, h.b2, h.b1, h.o3, h.o2, h.o1, fun b h1 h2 => h.d23 b h2 h1, fun b h1 h2 => h.d13 b h2 h1, fun b h1 h2 => h.d12 b h2 h1, ⟨h.lt.2.2, h.lt.2.1, h.lt.1⟩, ⟨fun e => h.ne.2.2 e.symm, fun e => h.ne.2.1 e.symm, fun e => h.ne.1 e.symm⟩⟩
end

theorem i64_info : (Tryd.prog.info? 3).map (fun i => (i.zero, i.size, i.bytes)) = some (some (.int .i64 0), 1, 8) := by kernel_rfl
/-- append of one number to a row of the call's own: the run. -/
theorem append_one {w : World} {base : Nat} {v : Value} {ts : List Int} (ty : TypeId) (h : OwnI w base v ts) {q : Nat} {x : Int} (hq : Blk w q 3 #[.int .i64 x]) (hn : ts.length ≤ 1000) (hb : base ≤ w.heap.size) :
    ∃ g cap w', (Builtin.append_ #[47, 47] ty #[v, .slice (some ⟨q, 0, none⟩) 1 1]).run Tryd.prog w = .ok (.slice (some ⟨g, 0, none⟩) (ts.length + 1) cap) w' ∧ OwnI w' base (.slice (some ⟨g, 0, none⟩) (ts.length + 1) cap) (ts ++ [x]) ∧ Kept (fun b => v.ownBlock = some b) w w' ∧ (v.ownBlock = some g ∨ g = w.heap.size) := by
  obtain ⟨i0, hi, hz0, hz1, hz2⟩ := info_parts i64_info
  obtain ⟨g, cap, w', hr, h1, h2, h3, _⟩ := run_append_lies (P := Tryd.prog) w 47 ty base 3 i0 _ 1 8 Tryd.underlying47 hi hz0 hz1 hz2 rfl (by decide) v ts.length (ts.map (Value.int .i64)) h ⟨q, 0, none⟩ 1 1 [.int .i64 x] rfl
    (World.news_of_block hq) (by intro u hu; rw [List.mem_singleton.1 hu]; rfl) (by decide) (by unfold maxLen; omega) (by omega) hb w.heap.size rfl
  refine ⟨g, cap, w', hr, ?_, Kept.of_grown h2 (fun b e => e), h3⟩
  unfold OwnI
  simpa using h1
/-- The same, at a step of a region that draws. -/
theorem step_append_num {w : World} {ops : Array Oper} {o : Oper} {a : Act} {K : Act → World → Prop} {Q : Exit → Act → World → Prop} {E : Prop} (hgd : o.guard = none) (s x : Operand)
    (ho : o.op = .call { callee := .builtin .append, args := #[s, x], argTypes := #[47, 47] }) (base : Nat) (v : Value) (ts : List Int) (hs : a.eval s = v) (hown : OwnI w base v ts) (q : Nat) (y : Int) (hx : a.eval x = .slice (some ⟨q, 0, none⟩) 1 1) (hq : Blk w q 3 #[.int .i64 y]) (hn : ts.length ≤ 1000) (hb : base ≤ w.heap.size)
    (h : ∀ g cap w', OwnI w' base (.slice (some ⟨g, 0, none⟩) (ts.length + 1) cap) (ts ++ [y]) → Kept (fun b => v.ownBlock = some b) w w' → (v.ownBlock = some g ∨ g = w.heap.size) → K (a.put o.dst (.slice (some ⟨g, 0, none⟩) (ts.length + 1) cap)) w') :
    if Region.wanted o (yielded ops a.tmps) = true then Oper.wp Tryd.prog o a w K Q else E := by
  have hw : Region.wanted o (yielded ops a.tmps) = true := by simp [Region.wanted, hgd]
  rw [if_pos hw]
  obtain ⟨g, cap, w', hr, h2, h3, h4⟩ := append_one o.type hown hq hn hb
  unfold Oper.wp execOp
  simp only [ho, resolve, invoke, builtin, Sem.run_bind, Sem.run_pure, Result.andThen_ok, List.map_toArray, List.map_cons, List.map_nil, hs, hx, hr]
  exact h g cap w' h2 h3 h4
end Go.Proofs.YtndnbjpcjlbcjaaDoor
