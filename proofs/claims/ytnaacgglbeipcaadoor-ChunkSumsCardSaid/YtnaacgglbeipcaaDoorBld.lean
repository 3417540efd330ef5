/- The builder of pieces, in memory: the program's and the document's; NewBuilder, Drop, Next. -/
import Derived.Test.YtnaacgglbeipcaaDoorConcat
import Derived.Deep.QuietTactic
import Derived.BigQuiet
import Derived.Outline
namespace Go.Proofs.YtnaacgglbeipcaaDoor
open Go.RowKit

structure BlD where
  id : Int
  total : Int
  sum : Int
  data : List UInt8

def BlD.none_ : BlD := ⟨-1, 0, 0, []⟩

/-- The program's builder lies in block bb, the document's in rb. -/
def Bld (w : World) (bb : Nat) (s : BlD) : Prop := ∃ A c, Blk w bb 76 #[.int .i64 s.id, .int .i64 0, .int .i64 s.total, .int .u32 s.sum, .slice A s.data.length c] ∧ w.ownsRow 0 5 1 (.slice A s.data.length c) s.data.length (s.data.map bv) ∧ s.data.length ≤ 1048576
def RBld (w : World) (rb : Nat) (s : BlD) : Prop := ∃ A c, Blk w rb 51 #[.int .i64 s.id, .int .i64 s.total, .int .u32 s.sum, .slice A s.data.length c] ∧ w.ownsRow 0 5 1 (.slice A s.data.length c) s.data.length (s.data.map bv) ∧ s.data.length ≤ 1048576

/-- The blocks of S hold no bytes of our own. -/
def No5 (w : World) (S : Nat → Prop) : Prop := ∀ g, S g → ∀ cur, w.heap[g]? ≠ some (.cells cur 5 (0, 0))
def Only (b : Nat) : Nat → Prop := fun k => k = b

theorem Kept.at_ {b i : Nat} {a w : World} (h : Kept (Only b) a w) (u : Value) : Kept (Only b) a (w.setCell ⟨b, i, Option.none⟩ u) := h.setCell (p := ⟨b, i, Option.none⟩) (Or.inl (show Only b b from rfl)) u

theorem No5.none (w : World) : No5 w NoBlk := fun _ h => h.elim
theorem No5.of_blk {w : World} {b : Nat} {t : TypeId} {cs : Array Value} (h : Blk w b t cs) (ht : t ≠ 5) : No5 w (Only b) := by
  intro g hg cur hc
  unfold Only at hg
  subst hg
  unfold Blk at h
  rw [h] at hc
  injection hc with hc
  injection hc with _ hc _
  exact ht hc
theorem ownsRow_no5 {w w' : World} {S : Nat → Prop} {base n : Nat} {v : Value} {xs : List Value} (h : w.ownsRow base 5 1 v n xs) (hk : Kept S w w') (hs : No5 w S) : w'.ownsRow base 5 1 v n xs :=
  ownsRow_kept h hk (fun g hg hS => by
    obtain ⟨cur, hc⟩ := ownsRow_tag h hg
    exact hs g hS cur hc)

theorem Bld.kept {w w' : World} {S : Nat → Prop} {bb : Nat} {s : BlD} (h : Bld w bb s) (hk : Kept S w w') (hb : ¬ S bb) (hs : No5 w S) : Bld w' bb s := by
  obtain ⟨A, c, h1, h2, h3⟩ := h
  exact ⟨A, c, h1.kept hk hb, ownsRow_no5 h2 hk hs, h3⟩
theorem RBld.kept {w w' : World} {S : Nat → Prop} {rb : Nat} {s : BlD} (h : RBld w rb s) (hk : Kept S w w') (hb : ¬ S rb) (hs : No5 w S) : RBld w' rb s := by
  obtain ⟨A, c, h1, h2, h3⟩ := h
  exact ⟨A, c, h1.kept hk hb, ownsRow_no5 h2 hk hs, h3⟩
theorem Bld.same {w w' : World} {bb : Nat} {s : BlD} (h : Bld w bb s) (hk : Kept NoBlk w w') : Bld w' bb s := h.kept hk (fun e => e.elim) (No5.none w)
theorem RBld.same {w w' : World} {rb : Nat} {s : BlD} (h : RBld w rb s) (hk : Kept NoBlk w w') : RBld w' rb s := h.kept hk (fun e => e.elim) (No5.none w)
theorem Bld.no5 {w : World} {bb : Nat} {s : BlD} (h : Bld w bb s) : No5 w (Only bb) := by
  obtain ⟨A, c, h1, _⟩ := h
  exact No5.of_blk h1 (by decide)
theorem RBld.no5 {w : World} {bb : Nat} {s : BlD} (h : RBld w bb s) : No5 w (Only bb) := by
  obtain ⟨A, c, h1, _⟩ := h
  exact No5.of_blk h1 (by decide)
theorem Bld.lt {w : World} {bb : Nat} {s : BlD} (h : Bld w bb s) : bb < w.heap.size := by
  obtain ⟨A, c, h1, _⟩ := h
  exact h1.lt
theorem RBld.lt {w : World} {bb : Nat} {s : BlD} (h : RBld w bb s) : bb < w.heap.size := by
  obtain ⟨A, c, h1, _⟩ := h
  exact h1.lt
theorem bld_apart {w : World} {bb rb : Nat} {s r : BlD} (h : Bld w bb s) (h' : RBld w rb r) : bb ≠ rb := by
  obtain ⟨A, c, h1, _⟩ := h
  obtain ⟨A', c', h2, _⟩ := h'
  intro e
  subst e
  unfold Blk at h1 h2
  rw [h1] at h2
  injection h2 with h2
  injection h2 with _ h2 _
  cases h2
theorem Bld.far {w w' : World} {bb rb : Nat} {s r : BlD} (h : Bld w bb s) (h' : RBld w rb r) (hk : Kept (Only rb) w w') : Bld w' bb s :=
  h.kept hk (fun e => bld_apart h h' e) h'.no5
theorem RBld.far {w w' : World} {bb rb : Nat} {s r : BlD} (h : RBld w rb r) (h' : Bld w bb s) (hk : Kept (Only bb) w w') : RBld w' rb r :=
  h.kept hk (fun e => bld_apart h' h e.symm) h'.no5

def NewB (w : World) (e : Ending) (w' : World) : Prop := ∃ bb, e = .returned (.pointer (some ⟨bb, 0, none⟩)) ∧ Bld w' bb BlD.none_ ∧ w.heap.size ≤ bb ∧ Kept NoBlk w w'
set_option maxHeartbeats 400000 in
theorem newb_any (w : World) : Calls Tryd.prog 12 #[] w (NewB w) := by
  go_enter Tryd.func12, Tryd.ntmps12
  go_wp2_with fail
  go_ret
  refine ⟨_, rfl, ⟨none, 0, Blk.new w 76 _, ⟨rfl, Or.inl ⟨rfl, rfl⟩⟩, by decide⟩, Nat.le_refl _, (Kept.refl _ _).alloc _⟩

def NextEnd (s : BlD) (w : World) (e : Ending) (w' : World) : Prop := e = .returned (.tuple #[.int .i64 s.id, .int .i64 (s.data.length : Int)]) ∧ Kept NoBlk w w'
set_option maxHeartbeats 400000 in
theorem next_any {w : World} {bb : Nat} {s : BlD} (h : Bld w bb s) : Calls Tryd.prog 20 #[.pointer (some ⟨bb, 0, none⟩)] w (NextEnd s w) := by
  obtain ⟨A, c, h1, h2, h3⟩ := h
  have c0 : w.cell? ⟨bb, 0, none⟩ = some (.int .i64 s.id) := h1.cell 0
  have c4 : w.cell? ⟨bb, 0 + 4, none⟩ = some (.slice A s.data.length c) := h1.cell 4
  clear h1 h2
  go_enter Tryd.func20, Tryd.ntmps20
  go_wp2_with fail
  go_quiet (fail)
  go_wp2_with fail
  go_ret2
  exact ⟨rfl, (Kept.refl _ _).drewN _⟩

def DropEnd (bb : Nat) (w : World) (e : Ending) (w' : World) : Prop := e = .returned (.tuple #[]) ∧ Bld w' bb BlD.none_ ∧ Kept (Only bb) w w'
set_option maxHeartbeats 400000 in
theorem drop_any {w : World} {bb : Nat} {s : BlD} (h : Bld w bb s) : Calls Tryd.prog 17 #[.pointer (some ⟨bb, 0, none⟩)] w (DropEnd bb w) := by
  obtain ⟨A, c, h1, h2, h3⟩ := h
  have c0 : w.cell? ⟨bb, 0, none⟩ = some (.int .i64 s.id) := h1.cell 0
  have c1 : w.cell? ⟨bb, 0 + 1, none⟩ = some (.int .i64 0) := h1.cell 1
  have c2 : w.cell? ⟨bb, 0 + 2, none⟩ = some (.int .i64 s.total) := h1.cell 2
  have c3 : w.cell? ⟨bb, 0 + 3, none⟩ = some (.int .u32 s.sum) := h1.cell 3
  have c4 : w.cell? ⟨bb, 0 + 4, none⟩ = some (.slice A s.data.length c) := h1.cell 4
  have f0 := h1.frozen
  have HB := Lib.hid h1
  clear h1 h2
  go_enter Tryd.func17, Tryd.ntmps17
  go_wp2_with fail
  go_end0
  exact ⟨rfl, ⟨none, 0, by have := (((((HB.out.set_ 0 (.int .i64 (-1))).set_ 1 (.int .i64 0)).set_ 2 (.int .i64 0)).set_ 3 (.int .u32 0)).set_ 4 (.slice none 0 0)); exact this, ⟨rfl, Or.inl ⟨rfl, rfl⟩⟩, by decide⟩,
    (((((Kept.refl (Only bb) w).at_ _).at_ _).at_ _).at_ _).at_ _⟩
end Go.Proofs.YtnaacgglbeipcaaDoor
