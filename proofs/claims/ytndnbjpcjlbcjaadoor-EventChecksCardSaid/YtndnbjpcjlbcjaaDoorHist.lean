/- A history in memory: Begin, drop; the runs of the operations on its maps. -/
import Derived.Test.YtndnbjpcjlbcjaaDoorEvs
import Derived.Maps.Keyed
namespace Go.Proofs.YtndnbjpcjlbcjaaDoor
open Go.RowKit Go.Maps
open Go.ChangeMaps (setBlock)

theorem law3 : Keyed Tryd.prog 3 := int_keyed Tryd.underlying3
theorem zero3 (w : World) : (zeroValue 3).run Tryd.prog w = .ok (.int .i64 0) w := by kernel_rfl
def iv (x : Int) : Value := .int .i64 x
theorem iv_inj : ∀ a c : Int, iv a = iv c → a = c := by
  intro a c h
  injection h
def wf (x : Int) : Prop := (Lit.int .i64 x).wf = true
theorem wf_of {x : Int} (h : okI x) : wf x := WalkArith.wf_i64 ⟨h.1, h.2⟩
theorem key3 {x : Int} (h : wf x) : keyOf Tryd.prog 3 (iv x) = some (.int .i64 x) := keyOf_int_mk Tryd.underlying3 h

structure HsD where
  n : Int
  pos : Int
  closed : Int
  task : Int
  begun : Bool
  kinds : List (Int × Int)
  ids : List (Int × Int)
  of_ : List (Int × Int)
  frm : List (Int × Int)
def HsD.none_ : HsD := ⟨0, 0, 0, 0, false, [], [], [], []⟩

def IMap (w : World) (b : Nat) (E : List (Int × Int)) : Prop := MapOf Tryd.prog 3 iv (fun v (x : Int) => v = iv x) w b E

/-- The history's struct lies in block hb, its maps in k1 .. k4. -/
structure HMem (w : World) (hb k1 k2 k3 k4 : Nat) (s : HsD) : Prop where
  box : Blk w hb 82 #[.int .i64 s.n, .int .i64 s.pos, .int .i64 s.closed, .map (some k1), .map (some k2), .int .i64 s.task, .bool s.begun, .map (some k3), .map (some k4)]
  kinds : IMap w k1 s.kinds
  ids : IMap w k2 s.ids
  of_ : IMap w k3 s.of_
  frm : IMap w k4 s.frm
  apart : k1 ≠ k2 ∧ k1 ≠ k3 ∧ k1 ≠ k4 ∧ k2 ≠ k3 ∧ k2 ≠ k4 ∧ k3 ≠ k4

/-- The blocks of a history. -/
def HS (hb k1 k2 k3 k4 : Nat) : Nat → Prop := fun b => b = hb ∨ b = k1 ∨ b = k2 ∨ b = k3 ∨ b = k4

theorem HMem.kept {w w' : World} {hb k1 k2 k3 k4 : Nat} {s : HsD} (h : HMem w hb k1 k2 k3 k4 s) (hk : Kept NoBlk w w') : HMem w' hb k1 k2 k3 k4 s :=
  ⟨h.box.kept hk (fun e => e.elim), h.kinds.kept hk (fun e => e.elim), h.ids.kept hk (fun e => e.elim), h.of_.kept hk (fun e => e.elim), h.frm.kept hk (fun e => e.elim), h.apart⟩
theorem IMap.ne {w : World} {b g : Nat} {E : List (Int × Int)} {t : TypeId} {cs : Array Value} (h : IMap w b E) (hb : Blk w g t cs) : g ≠ b := by
  intro e
  subst e
  exact h.noCells _ _ _ hb

theorem setBlock_other {w : World} {b k : Nat} (o : Obj) (hne : k ≠ b) : (setBlock w b o).heap[k]? = w.heap[k]? := by
  simp only [setBlock, Array.getElem?_setIfInBounds]
  rw [if_neg (fun e => hne e.symm)]

/-- 'm[k]'. -/
theorem IMap.look {w : World} {b : Nat} {E : List (Int × Int)} (h : IMap w b E) {x : Int} (hx : wf x) : (Instr.lookup 80 (.map (some b)) (.int .i64 x) false).run Tryd.prog w = .ok (.int .i64 ((aget E x).getD 0)) w := by
  cases ha : aget E x with
  | none => exact h.look_none law3 Tryd.underlying80 iv_inj (zero3 w) (key3 hx) false ha
  | some y =>
    obtain ⟨v, hv, hrun⟩ := h.look_some law3 Tryd.underlying80 iv_inj (key3 hx) false ha
    subst hv
    exact hrun w rfl
/-- '_, ok := m[k]'. -/
theorem IMap.look2 {w : World} {b : Nat} {E : List (Int × Int)} (h : IMap w b E) {x : Int} (hx : wf x) : (Instr.lookup 80 (.map (some b)) (.int .i64 x) true).run Tryd.prog w = .ok (.tuple #[.int .i64 ((aget E x).getD 0), .bool (aget E x).isSome]) w := by
  cases ha : aget E x with
  | none => exact h.look_none law3 Tryd.underlying80 iv_inj (zero3 w) (key3 hx) true ha
  | some y =>
    obtain ⟨v, hv, hrun⟩ := h.look_some law3 Tryd.underlying80 iv_inj (key3 hx) true ha
    subst hv
    exact hrun w rfl

/-- 'delete(h.kinds, k)'. -/
theorem HMem.del_kinds {w : World} {hb k1 k2 k3 k4 : Nat} {s : HsD} (h : HMem w hb k1 k2 k3 k4 s) {x : Int} (hx : wf x) (ty : TypeId) :
    ∃ w', (Builtin.delete_ #[80, 3] ty #[.map (some k1), .int .i64 x]).run Tryd.prog w = .ok (.tuple #[]) w' ∧ HMem w' hb k1 k2 k3 k4 { s with kinds := adel s.kinds x } ∧ Kept (HS hb k1 k2 k3 k4) w w' := by
  obtain ⟨o, hrun, hmap⟩ := h.kinds.delete (ty := ty) law3 Tryd.underlying80 iv_inj (key3 hx)
  refine ⟨_, hrun, ⟨?_, hmap, h.ids.same (setBlock_other o (h.apart.1).symm), h.of_.same (setBlock_other o (h.apart.2.1).symm), h.frm.same (setBlock_other o (h.apart.2.2.1).symm), h.apart⟩, (Kept.refl _ w).setBlock (Or.inl (by unfold HS; simp)) o⟩
  exact (setBlock_other o (h.kinds.ne h.box)).trans h.box

/-- 'delete(h.ids, k)'. -/
theorem HMem.del_ids {w : World} {hb k1 k2 k3 k4 : Nat} {s : HsD} (h : HMem w hb k1 k2 k3 k4 s) {x : Int} (hx : wf x) (ty : TypeId) :
    ∃ w', (Builtin.delete_ #[80, 3] ty #[.map (some k2), .int .i64 x]).run Tryd.prog w = .ok (.tuple #[]) w' ∧ HMem w' hb k1 k2 k3 k4 { s with ids := adel s.ids x } ∧ Kept (HS hb k1 k2 k3 k4) w w' := by
  obtain ⟨o, hrun, hmap⟩ := h.ids.delete (ty := ty) law3 Tryd.underlying80 iv_inj (key3 hx)
  refine ⟨_, hrun, ⟨?_, h.kinds.same (setBlock_other o h.apart.1), hmap, h.of_.same (setBlock_other o (h.apart.2.2.2.1).symm), h.frm.same (setBlock_other o (h.apart.2.2.2.2.1).symm), h.apart⟩, (Kept.refl _ w).setBlock (Or.inl (by unfold HS; simp)) o⟩
  exact (setBlock_other o (h.ids.ne h.box)).trans h.box

/-- 'delete(h.of_, k)'. -/
theorem HMem.del_of_ {w : World} {hb k1 k2 k3 k4 : Nat} {s : HsD} (h : HMem w hb k1 k2 k3 k4 s) {x : Int} (hx : wf x) (ty : TypeId) :
    ∃ w', (Builtin.delete_ #[80, 3] ty #[.map (some k3), .int .i64 x]).run Tryd.prog w = .ok (.tuple #[]) w' ∧ HMem w' hb k1 k2 k3 k4 { s with of_ := adel s.of_ x } ∧ Kept (HS hb k1 k2 k3 k4) w w' := by
  obtain ⟨o, hrun, hmap⟩ := h.of_.delete (ty := ty) law3 Tryd.underlying80 iv_inj (key3 hx)
  refine ⟨_, hrun, ⟨?_, h.kinds.same (setBlock_other o h.apart.2.1), h.ids.same (setBlock_other o h.apart.2.2.2.1), hmap, h.frm.same (setBlock_other o (h.apart.2.2.2.2.2).symm), h.apart⟩, (Kept.refl _ w).setBlock (Or.inl (by unfold HS; simp)) o⟩
  exact (setBlock_other o (h.of_.ne h.box)).trans h.box

/-- 'delete(h.frm, k)'. -/
theorem HMem.del_frm {w : World} {hb k1 k2 k3 k4 : Nat} {s : HsD} (h : HMem w hb k1 k2 k3 k4 s) {x : Int} (hx : wf x) (ty : TypeId) :
    ∃ w', (Builtin.delete_ #[80, 3] ty #[.map (some k4), .int .i64 x]).run Tryd.prog w = .ok (.tuple #[]) w' ∧ HMem w' hb k1 k2 k3 k4 { s with frm := adel s.frm x } ∧ Kept (HS hb k1 k2 k3 k4) w w' := by
  obtain ⟨o, hrun, hmap⟩ := h.frm.delete (ty := ty) law3 Tryd.underlying80 iv_inj (key3 hx)
  refine ⟨_, hrun, ⟨?_, h.kinds.same (setBlock_other o h.apart.2.2.1), h.ids.same (setBlock_other o h.apart.2.2.2.2.1), h.of_.same (setBlock_other o h.apart.2.2.2.2.2), hmap, h.apart⟩, (Kept.refl _ w).setBlock (Or.inl (by unfold HS; simp)) o⟩
  exact (setBlock_other o (h.frm.ne h.box)).trans h.box

def BeginEnd (w : World) (e : Ending) (w' : World) : Prop := ∃ hb k1 k2 k3 k4, e = .returned (.pointer (some ⟨hb, 0, none⟩)) ∧ HMem w' hb k1 k2 k3 k4 HsD.none_ ∧ (∀ b, HS hb k1 k2 k3 k4 b → w.heap.size ≤ b) ∧ Kept NoBlk w w'
set_option maxHeartbeats 400000 in
theorem begin_any (w : World) : Calls Tryd.prog 33 #[] w (BeginEnd w) := by
  have hmm := @run_makeMap Tryd.prog
  go_enter Tryd.func33, Tryd.ntmps33
  go_wp2
  go_ret
  have k0 : ∀ (a : World) (o : Obj), Kept NoBlk a (a.alloc o) := fun a o => (Kept.refl NoBlk a).alloc o
  have e1 : (w.alloc (.map #[] 0)).heap.size = w.heap.size + 1 := by simp
  have e2 : ((w.alloc (.map #[] 0)).alloc (.map #[] 0)).heap.size = w.heap.size + 2 := by simp
  have e3 : (((w.alloc (.map #[] 0)).alloc (.map #[] 0)).alloc (.map #[] 0)).heap.size = w.heap.size + 3 := by simp
  have e4 : ((((w.alloc (.map #[] 0)).alloc (.map #[] 0)).alloc (.map #[] 0)).alloc (.map #[] 0)).heap.size = w.heap.size + 4 := by simp
  have m1 := MapOf.made Tryd.prog 3 iv (fun v (x : Int) => v = iv x) w
  have m2 := MapOf.made Tryd.prog 3 iv (fun v (x : Int) => v = iv x) (w.alloc (.map #[] 0))
  have m3 := MapOf.made Tryd.prog 3 iv (fun v (x : Int) => v = iv x) ((w.alloc (.map #[] 0)).alloc (.map #[] 0))
  have m4 := MapOf.made Tryd.prog 3 iv (fun v (x : Int) => v = iv x) (((w.alloc (.map #[] 0)).alloc (.map #[] 0)).alloc (.map #[] 0))
  have b5 := Blk.new ((((w.alloc (.map #[] 0)).alloc (.map #[] 0)).alloc (.map #[] 0)).alloc (.map #[] 0)) 82 #[.int .i64 0, .int .i64 0, .int .i64 0, .map (some w.heap.size), .map (some (w.heap.size + 1)), .int .i64 0, .bool false, .map (some (w.heap.size + 2)), .map (some (w.heap.size + 3))]
  rw [e1] at m2
  rw [e2] at m3
  rw [e3] at m4
  rw [e4] at b5
  refine ⟨w.heap.size + 4, w.heap.size, w.heap.size + 1, w.heap.size + 2, w.heap.size + 3, rfl, ⟨b5, m1.kept ((((k0 _ _).alloc _).alloc _).alloc _) (fun e => e.elim), m2.kept (((k0 _ _).alloc _).alloc _) (fun e => e.elim), m3.kept ((k0 _ _).alloc _) (fun e => e.elim), m4.kept (k0 _ _) (fun e => e.elim), by omega⟩, ?_, ((((k0 w _).alloc _).alloc _).alloc _).alloc _⟩
  · intro b hb
    unfold HS at hb
    omega

def DropEnd (hb k1 k2 k3 k4 : Nat) (s : HsD) (w : World) (e : Ending) (w' : World) : Prop := e = .returned (.tuple #[]) ∧ HMem w' hb k1 k2 k3 k4 s ∧ Kept (HS hb k1 k2 k3 k4) w w'
set_option maxHeartbeats 400000 in
theorem drop_any {w : World} {hb k1 k2 k3 k4 : Nat} {s : HsD} (h : HMem w hb k1 k2 k3 k4 s) {x : Int} (hx : okI x) :
    Calls Tryd.prog 49 #[.pointer (some ⟨hb, 0, none⟩), .int .i64 x] w (DropEnd hb k1 k2 k3 k4 { s with kinds := adel s.kinds x, ids := adel s.ids x } w) := by
  obtain ⟨w1, hrun1, h1, hk1⟩ := h.del_kinds (wf_of hx) 0
  obtain ⟨w2, hrun2, h2, hk2⟩ := h1.del_ids (wf_of hx) 0
  have c3 : w.cell? ⟨hb, 0 + 3, none⟩ = some (.map (some k1)) := h.box.cell 3
  have c4 : w1.cell? ⟨hb, 0 + 4, none⟩ = some (.map (some k2)) := h1.box.cell 4
  have H2 := Lib.hid h2
  have HK := Lib.hid (hk1.trans hk2)
  clear h h1 h2 hk1 hk2
  go_enter Tryd.func49, Tryd.ntmps49
  go_wp2
  go_end0
  exact ⟨rfl, H2.out, HK.out⟩
end Go.Proofs.YtndnbjpcjlbcjaaDoor
