/- uses: whether an open one of a kind has an Id. -/
import Derived.Test.YtndnbjpcjlbcjaaDoorRng
namespace Go.Proofs.YtndnbjpcjlbcjaaDoor
open Go.RowKit Go.Maps

def usedBy (ids : List (Int × Int)) (kind id : Int) (p : Int × Int) : Bool := decide (p.2 = kind) && decide ((aget ids p.1).getD 0 = id)
def usesB (s : HsD) (kind id : Int) : Bool := s.kinds.any (usedBy s.ids kind id)
/-- An iterator in block r turns: the history stays. -/
theorem HMem.iter {w w' : World} {hb k1 k2 k3 k4 r : Nat} {s : HsD} (h : HMem w hb k1 k2 k3 k4 s) (hg : w.grownBy w' (some r)) (hr : ¬ HS hb k1 k2 k3 k4 r) : HMem w' hb k1 k2 k3 k4 s := by
  have hk : Kept (fun k => k = r) w w' := (Kept.refl _ w).grown hg (fun k e => by cases e; exact Or.inl rfl)
  refine ⟨h.box.kept hk ?_, h.kinds.kept hk ?_, h.ids.kept hk ?_, h.of_.kept hk ?_, h.frm.kept hk ?_, h.apart⟩ <;>
  · rintro rfl
    exact hr (by unfold HS; simp)

def UsesEnd (r : Bool) (w : World) (e : Ending) (w' : World) : Prop := e = .returned (.bool r) ∧ Kept NoBlk w w'

set_option maxRecDepth 100000 in
set_option maxHeartbeats 1000000 in
theorem uses_any {w : World} {hb k1 k2 k3 k4 : Nat} {s : HsD} (h : HMem w hb k1 k2 k3 k4 s) (hs : s.kinds.length ≤ 1000000) (kind id : Int) :
    Calls Tryd.prog 61 #[.pointer (some ⟨hb, 0, none⟩), .int .i64 kind, .int .i64 id] w (UsesEnd (usesB s kind id) w) := by
  obtain ⟨D0, hown, hrd⟩ := h.kinds.owns hs
  have c3 : w.cell? ⟨hb, 0 + 3, none⟩ = some (.map (some k1)) := h.box.cell 3
  have lt0 := h.box.lt
  have lt1 := h.kinds.lt
  have lt2 := h.ids.lt
  have lt3 := h.of_.lt
  have lt4 := h.frm.lt
  have hnot : ∀ r, w.heap.size ≤ r → ¬ HS hb k1 k2 k3 k4 r := by
    intro r hr hh
    unfold HS at hh
    omega
  have HNot := Lib.hid hnot
  have HRd := Lib.hid hrd
  have H := Lib.hid h
  have HOwn := Lib.hid hown
  clear h hs hrd hown lt0 lt1 lt2 lt3 lt4 hnot
  go_enter Tryd.func61, Tryd.ntmps61
  go_wp2_with (first | (at_range; refine wpList_range_own _ rfl _ 80 rfl 3 3 law3 Tryd.underlying80 _ k1 _ _ rfl HOwn.out ?_; intro w0 hrg0 hg0 hs0) | fail)
  go_frame
  obtain ⟨r, hr⟩ : ∃ r, w.heap.size = r := ⟨_, rfl⟩
  rw [hr] at hrg0 HNot ⊢
  have hw0 : HMem w0 hb k1 k2 k3 k4 s := H.out.kept ((Kept.refl NoBlk _).grown hg0 (fun k e => by cases e))
  have hk0 : Kept NoBlk w w0 := (Kept.refl NoBlk w).grown hg0 (fun k e => by cases e)
  have HSz := Lib.hid hr
  have HRg := Lib.hid hrg0
  have HW0 := Lib.hid hw0
  have HK0 := Lib.hid hk0
  clear hg0 hs0 hr hw0 hk0 hrg0 H c3 HOwn
  go_loopw [7, 8] (fun _ _ wr => ∃ (left : Lit → Bool) (cnt : Nat), wr.ranges Tryd.prog 3 intR k1 r s.kinds.length D0 left cnt ∧ HMem wr hb k1 k2 k3 k4 s ∧ Kept NoBlk w wr ∧ ∀ p, p ∈ came left s.kinds → usedBy s.ids kind id p = false)
    (fun _ _ wr => wr.rangeLeft k1 r)
  case atStart => exact ⟨_, _, HRg.out, HW0.out, HK0.out, by rw [came_none HRd.out]; intro p hp; cases hp⟩
  case round =>
    obtain ⟨left, cnt, hrg, hst, hkp, hall⟩ := hrel
    have HRg1 := Lib.hid hrg
    have HSt := Lib.hid hst
    have HKp := Lib.hid hkp
    have HAll := Lib.hid hall
    clear hrg hst hkp HRg HW0 HK0 hall
    obtain ⟨wn, hwn⟩ : ∃ wn, wr = wn := ⟨_, rfl⟩
    rw [hwn] at HRg1 HSt HKp ⊢
    have Hwn := Lib.hid hwn
    clear hwn
    go_wp2_with (at_next; refine wpList_next_ranges (α := Int) (β := Int) _ rfl _ rfl 3 law3 intR (Value.int .i64) (Value.int .i64) (fun key kl hkey => by obtain ⟨x, rfl, _⟩ := Maps.keyOf_int_inv Tryd.underlying3 hkey; exact ⟨x, rfl⟩) (fun v y hv => intR_inv hv) k1 r _ _ _ _ rfl HRg1.out ?_ ?_)
    · intro _ hl
      have hres : usesB s kind id = false := by
        unfold usesB
        rw [List.any_eq_false]
        intro p hp
        have := HAll.out p (by rw [came_all hl]; exact hp)
        simp [this]
      have HRes := Lib.hid hres
      clear hl hres
      go_wp2_with fail
      go_ret
      exact ⟨by rw [HRes.out]; rfl, HKp.out⟩
    · intro x c' kl y1 y2 w1 cnt1 hkey hlk hv hat hrg1 hlt hg1 hs1 hen
      obtain ⟨rfl, hwx⟩ := key3_inv hkey
      have hm : (x, c') ∈ s.kinds := HRd.out.one x c' (fun zd => (hat zd).trans (intR_val hv))
      have hst1 := HSt.out.iter hg1 (HNot.out r (Nat.le_refl _))
      have hk1 : Kept NoBlk w w1 := HKp.out.grown hg1 (fun k e => by cases e; exact Or.inr (by rw [HSz.out]; exact Nat.le_refl _))
      have hstep := came_step HRd.out.nodup hm hlk
      have c4 : w1.cell? ⟨hb, 0 + 4, none⟩ = some (.map (some k2)) := hst1.box.cell 4
      have hlook := hst1.ids.look hwx
      have HM := Lib.hid hm
      have HSt1 := Lib.hid hst1
      have HK1 := Lib.hid hk1
      have HStep := Lib.hid hstep
      have HRg2 := Lib.hid hrg1
      have HLt := Lib.hid hlt
      have hleft := hrg1.left_eq
      have HLeft := Lib.hid hleft
      clear hkey hlk hv hat hrg1 hg1 hs1 hst1 hm hk1 hstep hlt hleft
      by_cases hc : c' = kind
      · subst hc
        by_cases hi : (aget s.ids x).getD 0 = id
        · have hd : decide ((aget s.ids x).getD 0 = id) = true := decide_eq_true hi
          have hres : usesB s c' id = true := by
            unfold usesB
            rw [List.any_eq_true]
            exact ⟨_, HM.out, by simp [usedBy, hi]⟩
          have HRes := Lib.hid hres
          clear hres
          go_wp2_with fail
          go_ret
          exact ⟨by rw [HRes.out]; rfl, HK1.out⟩
        · have hd : decide ((aget s.ids x).getD 0 = id) = false := decide_eq_false hi
          have hub : usedBy s.ids c' id (x, c') = false := by simp [usedBy, hi]
          have HU := Lib.hid hub
          clear hub
          go_wp2_with fail
          refine ⟨⟨_, _, HRg2.out, HSt1.out, HK1.out, ?_⟩, ?_⟩
          · intro p hp
            rcases List.mem_cons.1 (HStep.out.mem_iff.1 hp) with rfl | hp'
            · exact HU.out
            · exact HAll.out p hp'
          · rw [HLeft.out, HRg1.out.left_eq]
            exact HLt.out
      · have hd : decide (c' = kind) = false := decide_eq_false hc
        have hub : usedBy s.ids kind id (x, c') = false := by simp [usedBy, hc]
        have HU := Lib.hid hub
        clear hub
        go_wp2_with fail
        refine ⟨⟨_, _, HRg2.out, HSt1.out, HK1.out, ?_⟩, ?_⟩
        · intro p hp
          rcases List.mem_cons.1 (HStep.out.mem_iff.1 hp) with rfl | hp'
          · exact HU.out
          · exact HAll.out p hp'
        · rw [HLeft.out, HRg1.out.left_eq]
          exact HLt.out
#print axioms uses_any
end Go.Proofs.YtndnbjpcjlbcjaaDoor
