/- A slice of acts that came in, read as a list. -/
import Derived.Test.YtnaacgglbeipcaaDoorActs
import Derived.Test.YtnaacgglbeipcaaDoorLaid
namespace Go.Proofs.YtnaacgglbeipcaaDoor
open Go.ChangeShapes Go.WideShapes Go.Deep Go.RowKit

section
variable {H : Type} {enc : TypeId × Value → H} {w : World} {spare : Nat → Bool} {held : Bool}

theorem Tryd.cells53 : Tryd.prog.cellsOf 53 = 6 := by kernel_rfl
theorem Tryd.cells36 : Tryd.prog.cellsOf 36 = 5 := by kernel_rfl
theorem Tryd.cells3 : Tryd.prog.cellsOf 3 = 1 := by kernel_rfl
theorem Tryd.cells34 : Tryd.prog.cellsOf 34 = 1 := by kernel_rfl
theorem Tryd.cells22 : Tryd.prog.cellsOf 22 = 1 := by kernel_rfl
theorem Tryd.cells5 : Tryd.prog.cellsOf 5 = 1 := by kernel_rfl
theorem Tryd.bytes5 : Tryd.prog.bytesOf 5 = 1 := by kernel_rfl

theorem six_of {α : Type} : ∀ {l : List α}, l.length = 6 → ∃ a b c d e f, l = [a, b, c, d, e, f]
  | [a, b, c, d, e, f], _ => ⟨a, b, c, d, e, f, rfl⟩

/-- The cells of an act that reads. -/
theorem open_act {fuel : Nat} {cs : List Value} {x : DataW H × List MemPlace} (h : DataW.trod enc Tryd.prog w 0 spare held fuel 53 cs = some x) (hl : Light Tryd.prog 53 x.1) :
    ∃ (a : ActC) (v : Value), cs = [.int .i64 a.op, .int .i64 a.p.id, .int .i64 a.p.pos, .int .i64 a.p.total, .int .u32 a.p.sum, v] ∧ RdB w v a.p.data ∧ okId a.p.id := by
  obtain ⟨xs, n, rfl, hx, hlen, hxl, hf⟩ := DataW.trod_struct Tryd.underlying53 h
  rw [Tryd.cells53] at hlen
  have f0 := hf 0 _ rfl
  have f1 := hf 1 _ rfl
  obtain ⟨c0, c1, c2, c3, c4, c5, rfl⟩ := six_of hlen
  · clear hlen
    have hx0 : xs[0]? = some (xs[0]'(by rw [hxl]; decide)) := List.getElem?_eq_getElem _
    have hx1 : xs[1]? = some (xs[1]'(by rw [hxl]; decide)) := List.getElem?_eq_getElem _
    have t0 : DataW.trod enc Tryd.prog w 0 spare held n 3 [c0] = some (xs[0]'(by rw [hxl]; decide)) := by
      rw [← hx0, ← f0]
      show _ = DataW.trod enc Tryd.prog w 0 spare held n 3 (List.take (Tryd.prog.cellsOf 3) _)
      rw [Tryd.cells3]
      rfl
    have t1 : DataW.trod enc Tryd.prog w 0 spare held n 36 [c1, c2, c3, c4, c5] = some (xs[1]'(by rw [hxl]; decide)) := by
      rw [← hx1, ← f1]
      show _ = DataW.trod enc Tryd.prog w 0 spare held n 36 (List.take (Tryd.prog.cellsOf 36) _)
      rw [Tryd.cells36]
      rfl
    obtain ⟨op, e0, _, _⟩ := DataW.trod_int Tryd.underlying3 t0
    obtain ⟨ys, m, rfl, hy, _, hyl, hg⟩ := DataW.trod_struct Tryd.underlying36 t1
    have g0 := hg 0 _ rfl
    have g1 := hg 1 _ rfl
    have g2 := hg 2 _ rfl
    have g3 := hg 3 _ rfl
    have g4 := hg 4 _ rfl
    have hy0 : ys[0]? = some (ys[0]'(by rw [hyl]; decide)) := List.getElem?_eq_getElem _
    have hy1 : ys[1]? = some (ys[1]'(by rw [hyl]; decide)) := List.getElem?_eq_getElem _
    have hy2 : ys[2]? = some (ys[2]'(by rw [hyl]; decide)) := List.getElem?_eq_getElem _
    have hy3 : ys[3]? = some (ys[3]'(by rw [hyl]; decide)) := List.getElem?_eq_getElem _
    have hy4 : ys[4]? = some (ys[4]'(by rw [hyl]; decide)) := List.getElem?_eq_getElem _
    have s0 : DataW.trod enc Tryd.prog w 0 spare held m 3 [c1] = some (ys[0]'(by rw [hyl]; decide)) := by
      rw [← hy0, ← g0]
      show _ = DataW.trod enc Tryd.prog w 0 spare held m 3 (List.take (Tryd.prog.cellsOf 3) _)
      rw [Tryd.cells3]
      rfl
    have s1 : DataW.trod enc Tryd.prog w 0 spare held m 3 [c2] = some (ys[1]'(by rw [hyl]; decide)) := by
      rw [← hy1, ← g1]
      show _ = DataW.trod enc Tryd.prog w 0 spare held m 3 (List.take (Tryd.prog.cellsOf 3) _)
      rw [Tryd.cells3]
      rfl
    have s2 : DataW.trod enc Tryd.prog w 0 spare held m 3 [c3] = some (ys[2]'(by rw [hyl]; decide)) := by
      rw [← hy2, ← g2]
      show _ = DataW.trod enc Tryd.prog w 0 spare held m 3 (List.take (Tryd.prog.cellsOf 3) _)
      rw [Tryd.cells3]
      rfl
    have s3 : DataW.trod enc Tryd.prog w 0 spare held m 34 [c4] = some (ys[3]'(by rw [hyl]; decide)) := by
      rw [← hy3, ← g3]
      show _ = DataW.trod enc Tryd.prog w 0 spare held m 34 (List.take (Tryd.prog.cellsOf 34) _)
      rw [Tryd.cells34]
      rfl
    have s4 : DataW.trod enc Tryd.prog w 0 spare held m 22 [c5] = some (ys[4]'(by rw [hyl]; decide)) := by
      rw [← hy4, ← g4]
      show _ = DataW.trod enc Tryd.prog w 0 spare held m 22 (List.take (Tryd.prog.cellsOf 22) _)
      rw [Tryd.cells22]
      rfl
    obtain ⟨p0, a0, _, w0⟩ := DataW.trod_int Tryd.underlying3 s0
    obtain ⟨p1, a1, _, _⟩ := DataW.trod_int Tryd.underlying3 s1
    obtain ⟨p2, a2, _, _⟩ := DataW.trod_int Tryd.underlying3 s2
    obtain ⟨p3, a3, _, _⟩ := DataW.trod_int Tryd.underlying34 s3
    have hl1 : Light Tryd.prog 36 (xs[1]'(by rw [hxl]; decide)).1 := by
      rw [hx] at hl
      exact light_field Tryd.underlying53 hl (j := 1) rfl (by rw [List.getElem?_map, hx1]; rfl)
    rw [hy] at hl1
    have hl4 : Light Tryd.prog 22 (ys[4]'(by rw [hyl]; decide)).1 := light_field Tryd.underlying36 hl1 (j := 4) rfl (by rw [List.getElem?_map, hy4]; rfl)
    obtain ⟨bs, hbs⟩ := open_bytes Tryd.underlying22 Tryd.underlying5 Tryd.cells5 Tryd.bytes5 s4 hl4
    simp only [List.cons.injEq, and_true] at e0 a0 a1 a2 a3
    subst e0 a0 a1 a2 a3
    exact ⟨⟨op, p0, p1, p2, p3, bs⟩, c5, rfl, hbs, wf_okId w0⟩

theorem open_actsC {fuel : Nat} {v : Value} {x : DataW H × List MemPlace} (h : DataW.trod enc Tryd.prog w 0 spare held fuel 47 [v] = some x) (hl : Light Tryd.prog 47 x.1) :
    ∃ A n c xs, v = .slice A n c ∧ ActsC w w.heap.size A n xs := by
  rcases open_slice Tryd.underlying47 h with ⟨hcs, _⟩ | ⟨a, len, cap, m, k, D, Pl, hcs, _, hlc, hm, hmm, hx, hf⟩
  · simp only [List.cons.injEq, and_true] at hcs
    subst hcs
    exact ⟨none, 0, 0, [], rfl, rfl, by decide, fun e => absurd e (by omega)⟩
  · simp only [List.cons.injEq, and_true] at hcs
    subst hcs
    rw [Tryd.cells53] at hf
    have hlm : len ≤ m := by rw [hmm]; split <;> omega
    have each : ∀ i, i < len → ∃ (act : ActC), ∃ v, w.cell? (a.add (i * 6)) = some (.int .i64 act.op) ∧ w.cell? (a.add (i * 6 + 1)) = some (.int .i64 act.p.id) ∧ w.cell? (a.add (i * 6 + 2)) = some (.int .i64 act.p.pos) ∧ w.cell? (a.add (i * 6 + 3)) = some (.int .i64 act.p.total) ∧
        w.cell? (a.add (i * 6 + 4)) = some (.int .u32 act.p.sum) ∧ w.cell? (a.add (i * 6 + 5)) = some v ∧ RdB w v act.p.data ∧ okId act.p.id := by
      intro i hi
      obtain ⟨cs', hc, ht⟩ := hf i (by omega)
      obtain ⟨_, _, hat⟩ := World.cells?_some hc
      have hlD : Light Tryd.prog 53 (D i, Pl i).1 := by
        rw [hx] at hl
        exact light_elem Tryd.underlying47 hl (List.mem_append_left _ (List.mem_map.2 ⟨i, by simpa using hi, rfl⟩))
      obtain ⟨act, v, rfl, hrd, hok⟩ := open_act ht hlD
      have e : ∀ j, j < 6 → w.cell? (a.add (i * 6 + j)) = [Value.int .i64 act.op, .int .i64 act.p.id, .int .i64 act.p.pos, .int .i64 act.p.total, .int .u32 act.p.sum, v][j]? := by
        intro j hj
        rw [← hat j hj, add_of_add]
      refine ⟨act, v, e 0 (by decide), e 1 (by decide), e 2 (by decide), e 3 (by decide), e 4 (by decide), e 5 (by decide), hrd, hok⟩
    rcases Nat.eq_zero_or_pos len with h0 | h0
    · subst h0
      exact ⟨some a, 0, cap, [], rfl, rfl, by decide, fun e => absurd e (by omega)⟩
    · obtain ⟨b, off, spot⟩ := a
      have hspot : spot = none := by
        obtain ⟨_, _, c0, _⟩ := each 0 h0
        simpa [Addr.add] using World.cell?_spot c0
      subst hspot
      obtain ⟨f, hf⟩ : ∃ f : Nat → ActC, ∀ i, i < len → ∃ v, ActAt w w.heap.size b off i v (f i) := by
        have hin : Inhabited ActC := ⟨⟨0, ⟨0, 0, 0, 0, []⟩⟩⟩
        refine choose_lt (p := fun i act => ∃ v, ActAt w w.heap.size b off i v act) (fun i hi => ?_)
        obtain ⟨act, v, h0, h1, h2, h3, h4, h5, h6, h7⟩ := each i hi
        have hp : ∀ k, (⟨b, off, none⟩ : Addr).add k = ⟨b, off + k, none⟩ := by
          intro k
          unfold Addr.add
          split
          · rename_i hk
            rw [hk]
            rfl
          · rfl
        rw [hp] at h0 h1 h2 h3 h4 h5
        exact ⟨act, v, h0, by rw [Nat.add_assoc]; exact h1, by rw [Nat.add_assoc]; exact h2, by rw [Nat.add_assoc]; exact h3, by rw [Nat.add_assoc]; exact h4, by rw [Nat.add_assoc]; exact h5, h6, h7⟩
      refine ⟨some ⟨b, off, none⟩, len, cap, (List.range len).map f, rfl, by simp, by unfold maxLen at hm; omega, fun _ => ⟨b, off, rfl, fun i act hi => ?_⟩⟩
      have hil : i < len := by
        have := (List.getElem?_eq_some_iff.1 hi).1
        simpa using this
      simp [hil] at hi
      subst hi
      exact hf i hil
end
end Go.Proofs.YtnaacgglbeipcaaDoor
