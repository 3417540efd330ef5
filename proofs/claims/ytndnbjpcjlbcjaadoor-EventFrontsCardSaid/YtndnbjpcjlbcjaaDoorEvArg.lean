/- An event that came in as an argument. -/
import Derived.Test.YtndnbjpcjlbcjaaDoorEvs
import Derived.Lib.SmallJoins
namespace Go.Proofs.YtndnbjpcjlbcjaaDoor
open Go.ChangeShapes Go.WideShapes Go.Deep Go.RowKit Go.Joins
section
variable {H : Type} {enc : TypeId × Value → H} {P : Program} {w : World} {base : Nat} {spare : Nat → Bool} {held : Bool}
theorem open_agg_fields {r : Reach} {b0 : Nat} {t : TypeId} {fs : Array Field} {v : Value} {d : DataW H} {p : List MemPlace} (ht : P.underlying t = some (.struct fs)) (hone : oneCellFields P fs = true) (hC : P.cellsOf t = fs.size)
    (hv : Value.okWide P w r b0 t v) (h : DataW.Trod enc P w base spare held t v d p) :
    ∃ (cs : Array Value) (ys : List (DataW H × List MemPlace)) (n : Nat), v = .agg cs ∧ cs.size = fs.size ∧ d = .agg (ys.map (·.1)) ∧
      ∀ (j : Nat) (f : Field), fs[j]? = some f → ∃ v y, cs.toList[j]? = some v ∧ ys[j]? = some y ∧ DataW.trod enc P w base spare held n f.type [v] = some y := by
  obtain ⟨cs, rfl, hsz⟩ := okWide_struct ht hv
  have hS : cs.size = fs.size := hsz.trans hC
  obtain ⟨fuel, hf⟩ := h
  obtain ⟨ys, n, hn, hy, hlen, hyl, hff⟩ := DataW.trod_struct ht hf
  simp only [Prod.mk.injEq] at hy
  refine ⟨cs, ys, n, rfl, hS, hy.1, fun j f hj => ?_⟩
  obtain ⟨ho, hk⟩ := hone_of hone j f hj
  have hjl : j < fs.size := (Array.getElem?_eq_some_iff.1 hj).1
  have h1 := hff j f hj
  rw [ho, hk] at h1
  have hcl : j < cs.toList.length := by rw [Array.length_toList, hS]; exact hjl
  have hone' : ((Value.agg cs).cells.toList.drop j).take 1 = [cs.toList[j]] := by
    show (cs.toList.drop j).take 1 = _
    rw [List.drop_eq_getElem_cons hcl]
    rfl
  rw [hone'] at h1
  have hys : ys[j]? = some (ys[j]'(by omega)) := List.getElem?_eq_getElem (by omega)
  exact ⟨_, _, List.getElem?_eq_getElem hcl, hys, h1.trans hys⟩
end
section
variable {H : Type} {enc : TypeId × Value → H} {w : World} {spare : Nat → Bool} {held : Bool}
set_option maxRecDepth 100000 in
theorem open_event {r : Reach} {b0 : Nat} {v : Value} {d : DataW H} {p : List MemPlace} (hv : Value.okWide Tryd.prog w r b0 24 v) (h : DataW.Trod enc Tryd.prog w 0 spare held 24 v d p) (hl : Light Tryd.prog 24 d) :
    ∃ e A n c, v = aggE e (.slice A n c) ∧ e.data.length = n ∧ RdB w (.slice A n c) e.data ∧ EvOk e := by
  obtain ⟨cs, ys, n, rfl, hC, rfl, each⟩ := open_agg_fields Tryd.underlying24 (by kernel_rfl) (by rw [Tryd.cells24]; rfl) hv h
  have hC : cs.size = 7 := hC
  obtain ⟨v0, y0, c0, e0, t0⟩ := each 0 _ rfl
  obtain ⟨v1, y1, c1, e1, t1⟩ := each 1 _ rfl
  obtain ⟨v2, y2, c2, e2, t2⟩ := each 2 _ rfl
  obtain ⟨v3, y3, c3, e3, t3⟩ := each 3 _ rfl
  obtain ⟨v4, y4, c4, e4, t4⟩ := each 4 _ rfl
  obtain ⟨v5, y5, c5, e5, t5⟩ := each 5 _ rfl
  obtain ⟨v6, y6, c6, e6, t6⟩ := each 6 _ rfl
  obtain ⟨x0, rfl, k0⟩ := one_cell Tryd.underlying3 t0
  obtain ⟨x1, rfl, k1⟩ := one_cell Tryd.underlying3 t1
  obtain ⟨x2, rfl, k2⟩ := one_cell Tryd.underlying3 t2
  obtain ⟨x3, rfl, k3⟩ := one_cell Tryd.underlying3 t3
  obtain ⟨x4, rfl, k4⟩ := one_cell Tryd.underlying3 t4
  obtain ⟨x5, rfl, k5⟩ := one_cell Tryd.underlying3 t5
  have hl6 : Light Tryd.prog 22 y6.1 := light_field Tryd.underlying24 hl (j := 6) rfl (by simp [List.getElem?_map, e6])
  obtain ⟨bs, hbs⟩ := open_bytes Tryd.underlying22 Tryd.underlying5 Tryd.cells5 Tryd.bytes5 t6 hl6
  have h0 := hbs
  obtain ⟨A, m, c, rfl, _⟩ := hbs
  have hcs : cs = #[.int .i64 x0, .int .i64 x1, .int .i64 x2, .int .i64 x3, .int .i64 x4, .int .i64 x5, .slice A m c] := by
    apply Array.ext'
    apply List.ext_getElem?
    intro i
    by_cases hi : i < 7
    · have : i = 0 ∨ i = 1 ∨ i = 2 ∨ i = 3 ∨ i = 4 ∨ i = 5 ∨ i = 6 := by omega
      rcases this with rfl | rfl | rfl | rfl | rfl | rfl | rfl
      · exact c0
      · exact c1
      · exact c2
      · exact c3
      · exact c4
      · exact c5
      · exact c6
    · rw [List.getElem?_eq_none (by simp [hC]; omega), List.getElem?_eq_none (by simp; omega)]
  subst hcs
  exact ⟨⟨x0, x1, x2, x3, x4, x5, bs⟩, A, m, c, rfl, h0.length, h0, ⟨k0, k1, k2, k3, k4, k5⟩⟩
end
end Go.Proofs.YtndnbjpcjlbcjaaDoor
