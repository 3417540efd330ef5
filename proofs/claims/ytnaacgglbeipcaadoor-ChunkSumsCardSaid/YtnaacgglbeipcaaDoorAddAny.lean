/- Builder.add, at whatever piece. -/
import Derived.Test.YtnaacgglbeipcaaDoorAddNot
import Derived.Test.YtnaacgglbeipcaaDoorSameP
namespace Go.Proofs.YtnaacgglbeipcaaDoor
open Go.RowKit

instance (a b c : Int) (L : Nat) : Decidable (badN a b c L) := by unfold badN; infer_instance

/-- What Add answers: 0: it is taken. -/
def addErr (s : BlD) (p : PcD) : Int :=
  if badN p.id p.pos p.total p.data.length then 1 else if p.id < s.id then 6 else if p.id = s.id ∧ (p.total ≠ s.total ∨ p.sum ≠ s.sum) then 8
  else if ¬ p.pos ≤ ((restart s p.id p.total p.sum).data.length : Int) then 6 else 0
def addTo (s : BlD) (p : PcD) : BlD := if addErr s p = 0 then addData (restart s p.id p.total p.sum) p.pos.toNat p.data else s

theorem aggP_mk (p : PcD) (dv : Value) : aggP p dv = .agg #[.int .i64 p.id, .int .i64 p.pos, .int .i64 p.total, .int .u32 p.sum, dv] := rfl

/-- Builder.add, at whatever piece. -/
theorem add_any {w : World} {bb base : Nat} {s : BlD} (h : Bld w bb s) {p : PcD} {dv : Value} (hd : RdU w base dv p.data) (hbb : base ≤ bb) :
    Calls Tryd.prog 30 #[.pointer (some ⟨bb, 0, none⟩), aggP p dv] w (AddEnd bb (addErr s p) (addTo s p) w) := by
  obtain ⟨pi, pp, pt, pu, ps⟩ := p
  obtain ⟨A', L, c', rfl⟩ : ∃ A n c, dv = .slice A n c := by obtain ⟨A, n, c, e, _⟩ := hd; exact ⟨A, n, c, e⟩
  have hL : ps.length = L := hd.len
  have hsm : L ≤ 140737488351232 := by rw [← hL]; exact hd.small
  have stay : ∀ r : Int, r ≠ 0 → addErr s ⟨pi, pp, pt, pu, ps⟩ = r → Calls Tryd.prog 30 #[.pointer (some ⟨bb, 0, none⟩), aggP ⟨pi, pp, pt, pu, ps⟩ (.slice A' L c')] w (AddBad r w) →
      Calls Tryd.prog 30 #[.pointer (some ⟨bb, 0, none⟩), aggP ⟨pi, pp, pt, pu, ps⟩ (.slice A' L c')] w (AddEnd bb (addErr s ⟨pi, pp, pt, pu, ps⟩) (addTo s ⟨pi, pp, pt, pu, ps⟩) w) := by
    intro r hr he hc
    refine hc.mono fun e w' ⟨h1, h2⟩ => ?_
    unfold addTo
    rw [he, if_neg hr]
    exact ⟨h1, h.same h2, h2.none⟩
  by_cases hbad : badN pi pp pt L
  · refine stay 1 (by decide) ?_ (add_bad h hsm hbad)
    unfold addErr
    rw [if_pos (by show badN pi pp pt ps.length; rw [hL]; exact hbad)]
  · have hpp : 0 ≤ pp := by unfold badN at hbad; omega
    obtain ⟨pos, rfl⟩ : ∃ pos : Nat, pp = (pos : Int) := ⟨pp.toNat, by omega⟩
    have e1 : addErr s ⟨pi, pos, pt, pu, ps⟩ = if pi < s.id then 6 else if pi = s.id ∧ (pt ≠ s.total ∨ pu ≠ s.sum) then 8 else if ¬ (pos : Int) ≤ ((restart s pi pt pu).data.length : Int) then 6 else 0 := by
      unfold addErr
      rw [if_neg (by show ¬ badN pi pos pt ps.length; rw [hL]; exact hbad)]
    by_cases ho : pi < s.id
    · exact stay 6 (by decide) (by rw [e1, if_pos ho]) (add_old h hbad ho)
    · rw [if_neg ho] at e1
      by_cases hf : pi = s.id ∧ (pt ≠ s.total ∨ pu ≠ s.sum)
      · refine stay 8 (by decide) (by rw [e1, if_pos hf]) ?_
        by_cases ht : pt = s.total
        · exact add_form2 h hbad hf.1 ht (hf.2.resolve_left (fun e => e ht))
        · exact add_form1 h hbad hf.1 ht
      · rw [if_neg hf] at e1
        by_cases hfar : (pos : Int) ≤ ((restart s pi pt pu).data.length : Int)
        · rw [if_neg (fun e => e hfar)] at e1
          have e2 : addTo s ⟨pi, pos, pt, pu, ps⟩ = addData (restart s pi pt pu) pos ps := by unfold addTo; rw [if_pos e1]; rfl
          rw [e1, e2]
          have hsame : ¬ s.id < pi → pt = s.total ∧ pu = s.sum := by
            intro hn
            have he : pi = s.id := by omega
            refine ⟨Classical.byContradiction fun h1 => hf ⟨he, Or.inl h1⟩, Classical.byContradiction fun h1 => hf ⟨he, Or.inr h1⟩⟩
          by_cases hn : s.id < pi
          · exact add_ok_new h hd hbb hbad ho hn hsame (Int.ofNat_le.1 hfar)
          · exact add_ok_same h hd hbb hbad ho hn hsame (Int.ofNat_le.1 hfar)
        · refine stay 6 (by decide) (by rw [e1, if_pos hfar]) ?_
          by_cases hn : s.id < pi
          · refine add_far_new h hbad hn ?_
            unfold restart at hfar
            rw [if_pos hn] at hfar
            have : ¬ (pos : Int) ≤ 0 := hfar
            omega
          · have he : pi = s.id := by omega
            unfold restart at hfar
            rw [if_neg hn] at hfar
            exact add_far_same h hbad he (Classical.byContradiction fun h1 => hf ⟨he, Or.inl h1⟩) (Classical.byContradiction fun h1 => hf ⟨he, Or.inr h1⟩) (by omega)
end Go.Proofs.YtnaacgglbeipcaaDoor
