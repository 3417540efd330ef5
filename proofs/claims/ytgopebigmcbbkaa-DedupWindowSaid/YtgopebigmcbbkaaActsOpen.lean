/- A slice of acts that came in, read as a list. -/
import Derived.Test.YtgopebigmcbbkaaActs
import Derived.Test.YtgopebigmcbbkaaOpen
namespace Go.Proofs.Ytgopebigmcbbkaa
open Go.ChangeShapes Go.WideShapes Go.Deep Go.RowKit

section
variable {H : Type} {enc : TypeId × Value → H} {w : World} {spare : Nat → Bool} {held : Bool}

theorem one_cell {fuel : Nat} {t : TypeId} {v : Value} {y : DataW H × List MemPlace} (ht : Try.prog.underlying t = some (.int .i64)) (h : DataW.trod enc Try.prog w 0 spare held fuel t [v] = some y) : ∃ x, v = .int .i64 x := by
  obtain ⟨n, e, _⟩ := DataW.trod_int ht h
  simp at e
  exact ⟨n, e⟩

theorem Try.cells32 : Try.prog.cellsOf 32 = 4 := by kernel_rfl
theorem Try.cells5 : Try.prog.cellsOf 5 = 1 := by kernel_rfl
theorem Try.bytes5 : Try.prog.bytesOf 5 = 1 := by kernel_rfl
theorem Try.bytes32 : Try.prog.bytesOf 32 = 48 := by kernel_rfl

theorem open_acts {fuel : Nat} {v : Value} {x : DataW H × List MemPlace} (h : DataW.trod enc Try.prog w 0 spare held fuel 22 [v] = some x) (hl : Light Try.prog 22 x.1) :
    ∃ A n c xs, v = .slice A n c ∧ Acts w A n xs := by
  rcases open_slice_fields Try.underlying22 Try.underlying32 (by kernel_rfl) (by rw [Try.cells32]; rfl) h with ⟨hcs, _⟩ | ⟨a, len, cap, m, D, Pl, hcs, _, hlc, hm, hmm, hx, hf⟩
  · simp only [List.cons.injEq, and_true] at hcs
    subst hcs
    exact ⟨none, 0, 0, [], rfl, rfl, by decide, fun e => absurd e (by omega)⟩
  · simp only [List.cons.injEq, and_true] at hcs
    subst hcs
    have hlm : len ≤ m := by rw [hmm]; split <;> omega
    have each : ∀ i, i < len → ∃ (act : ActD), ∃ v, w.cell? (a.add (i * 4)) = some (.int .i64 act.op) ∧ w.cell? (a.add (i * 4 + 1)) = some (.int .i64 act.client) ∧ w.cell? (a.add (i * 4 + 2)) = some (.int .i64 act.seq) ∧ w.cell? (a.add (i * 4 + 3)) = some v ∧ RdB w v act.ans := by
      intro i hi
      obtain ⟨ys, n, hD, _, hys, hj⟩ := hf i (by omega)
      obtain ⟨v0, y0, c0, e0, t0⟩ := hj 0 _ rfl
      obtain ⟨v1, y1, c1, e1, t1⟩ := hj 1 _ rfl
      obtain ⟨v2, y2, c2, e2, t2⟩ := hj 2 _ rfl
      obtain ⟨v3, y3, c3, e3, t3⟩ := hj 3 _ rfl
      obtain ⟨x0, rfl⟩ := one_cell Try.underlying3 t0
      obtain ⟨x1, rfl⟩ := one_cell Try.underlying3 t1
      obtain ⟨x2, rfl⟩ := one_cell Try.underlying3 t2
      have hlD : Light Try.prog 32 (D i) := by
        rw [hx] at hl
        refine light_elem Try.underlying22 hl (List.mem_append_left _ (List.mem_map.2 ⟨i, by simpa using hi, rfl⟩))
      rw [hD] at hlD
      have hl3 : Light Try.prog 30 y3.1 := light_field Try.underlying32 hlD (j := 3) rfl (by simp [List.getElem?_map, e3])
      obtain ⟨bs, hbs⟩ := open_bytes Try.underlying30 Try.underlying5 Try.cells5 Try.bytes5 t3 hl3
      exact ⟨⟨x0, x1, x2, bs⟩, v3, c0, c1, c2, c3, hbs⟩
    rcases Nat.eq_zero_or_pos len with h0 | h0
    · subst h0
      exact ⟨some a, 0, cap, [], rfl, rfl, by decide, fun e => absurd e (by omega)⟩
    · obtain ⟨b, off, spot⟩ := a
      have hspot : spot = none := by
        obtain ⟨_, _, c0, _⟩ := each 0 h0
        simpa [Addr.add] using World.cell?_spot c0
      subst hspot
      obtain ⟨f, hf⟩ : ∃ f : Nat → ActD, ∀ i, i < len → ∃ v, ActAt w b off i v (f i) := by
        have hin : Inhabited ActD := ⟨⟨0, 0, 0, []⟩⟩
        refine choose_lt (p := fun i act => ∃ v, ActAt w b off i v act) (fun i hi => ?_)
        obtain ⟨act, v, h1, h2, h3, h4, h5⟩ := each i hi
        have hp : ∀ k, (⟨b, off, none⟩ : Addr).add k = ⟨b, off + k, none⟩ := by
          intro k
          unfold Addr.add
          split
          · rename_i hk
            rw [hk]
            rfl
          · rfl
        rw [hp] at h1 h2 h3 h4
        exact ⟨act, v, h1, by rw [Nat.add_assoc]; exact h2, by rw [Nat.add_assoc]; exact h3, by rw [Nat.add_assoc]; exact h4, h5⟩
      refine ⟨some ⟨b, off, none⟩, len, cap, (List.range len).map f, rfl, by simp, by unfold maxLen at hm; omega, fun _ => ⟨b, off, rfl, fun i act hi => ?_⟩⟩
      have hil : i < len := by
        have := (List.getElem?_eq_some_iff.1 hi).1
        simpa using this
      simp [hil] at hi
      subst hi
      exact hf i hil
end
end Go.Proofs.Ytgopebigmcbbkaa
