/- The document's Builder.Add at any piece; 'known'. -/
import Derived.Test.YtnaacgglbeipcaaDoorRAdd
import Derived.Test.YtnaacgglbeipcaaDoorRDone
import Derived.Test.YtnaacgglbeipcaaDoorCutBad
namespace Go.Proofs.YtnaacgglbeipcaaDoor
open Go.RowKit

def wholeR (s : BlD) (p : PcD) : Bool := if addErr s p = 0 then wholeB (addTo s p) else false
def RAddAnyEnd (bb : Nat) (s : BlD) (p : PcD) (w : World) (e : Ending) (w' : World) : Prop := e = .returned (.tuple #[.bool (wholeR s p), .int .i64 (addErr s p)]) ∧ RBld w' bb (addTo s p) ∧ Kept (Only bb) w w'

theorem radd_any {w : World} {bb base : Nat} {s : BlD} (h : RBld w bb s) {p : PcD} {dv : Value} (hd : RdU w base dv p.data) (hbb : base ≤ bb) :
    Calls Tryd.prog 18 #[.pointer (some ⟨bb, 0, none⟩), aggP p dv] w (RAddAnyEnd bb s p w) := by
  obtain ⟨pi, pp, pt, pu, ps⟩ := p
  obtain ⟨A', L, c', rfl⟩ : ∃ A n c, dv = .slice A n c := by obtain ⟨A, n, c, e, _⟩ := hd; exact ⟨A, n, c, e⟩
  have hL : ps.length = L := hd.len
  have hsm : L ≤ 140737488351232 := by rw [← hL]; exact hd.small
  have stay : ∀ r : Int, r ≠ 0 → addErr s ⟨pi, pp, pt, pu, ps⟩ = r → Calls Tryd.prog 18 #[.pointer (some ⟨bb, 0, none⟩), aggP ⟨pi, pp, pt, pu, ps⟩ (.slice A' L c')] w (RAddBad r w) →
      Calls Tryd.prog 18 #[.pointer (some ⟨bb, 0, none⟩), aggP ⟨pi, pp, pt, pu, ps⟩ (.slice A' L c')] w (RAddAnyEnd bb s ⟨pi, pp, pt, pu, ps⟩ w) := by
    intro r hr he hc
    refine hc.mono fun e w' ⟨h1, h2⟩ => ?_
    unfold RAddAnyEnd wholeR addTo
    rw [he, if_neg hr, if_neg hr]
    exact ⟨h1, h.same h2, h2.none⟩
  by_cases hbad : badN pi pp pt L
  · refine stay 1 (by decide) ?_ (radd_bad hsm hbad)
    unfold addErr
    rw [if_pos (by show badN pi pp pt ps.length; rw [hL]; exact hbad)]
  · have hpp : 0 ≤ pp := by unfold badN at hbad; omega
    obtain ⟨pos, rfl⟩ : ∃ pos : Nat, pp = (pos : Int) := ⟨pp.toNat, by omega⟩
    have e1 : addErr s ⟨pi, pos, pt, pu, ps⟩ = if pi < s.id then 6 else if pi = s.id ∧ (pt ≠ s.total ∨ pu ≠ s.sum) then 8 else if ¬ (pos : Int) ≤ ((restart s pi pt pu).data.length : Int) then 6 else 0 := by
      unfold addErr
      rw [if_neg (by show ¬ badN pi pos pt ps.length; rw [hL]; exact hbad)]
    by_cases ho : pi < s.id
    · exact stay 6 (by decide) (by rw [e1, if_pos ho]) (radd_old h hbad ho)
    · rw [if_neg ho] at e1
      by_cases hf : pi = s.id ∧ (pt ≠ s.total ∨ pu ≠ s.sum)
      · refine stay 8 (by decide) (by rw [e1, if_pos hf]) ?_
        by_cases ht : pt = s.total
        · exact radd_form2 h hbad hf.1 ht (hf.2.resolve_left (fun e => e ht))
        · exact radd_form1 h hbad hf.1 ht
      · rw [if_neg hf] at e1
        by_cases hfar : (pos : Int) ≤ ((restart s pi pt pu).data.length : Int)
        · rw [if_neg (fun e => e hfar)] at e1
          have e2 : addTo s ⟨pi, pos, pt, pu, ps⟩ = addData (restart s pi pt pu) pos ps := by unfold addTo; rw [if_pos e1]; rfl
          have hsame : ¬ s.id < pi → pt = s.total ∧ pu = s.sum := by
            intro hn
            have he : pi = s.id := by omega
            refine ⟨Classical.byContradiction fun h1 => hf ⟨he, Or.inl h1⟩, Classical.byContradiction fun h1 => hf ⟨he, Or.inr h1⟩⟩
          have fin : Calls Tryd.prog 18 #[.pointer (some ⟨bb, 0, none⟩), aggP ⟨pi, pos, pt, pu, ps⟩ (.slice A' L c')] w (RAddEnd bb (addData (restart s pi pt pu) pos ps) w) := by
            by_cases hn : s.id < pi
            · exact radd_ok_new h hbad hn hsame hd hbb (Int.ofNat_le.1 hfar)
            · exact radd_ok_same h hbad (by omega) hsame hd hbb (Int.ofNat_le.1 hfar)
          refine fin.mono fun e w' h1 => ?_
          unfold RAddAnyEnd wholeR
          rw [if_pos e1, e1, e2]
          exact h1
        · refine stay 6 (by decide) (by rw [e1, if_pos hfar]) ?_
          by_cases hn : s.id < pi
          · refine radd_far_new h hbad hn ?_
            unfold restart at hfar
            rw [if_pos hn] at hfar
            have : ¬ (pos : Int) ≤ 0 := hfar
            omega
          · have he : pi = s.id := by omega
            unfold restart at hfar
            rw [if_neg hn] at hfar
            exact radd_far_same h hbad he (Classical.byContradiction fun h1 => hf ⟨he, Or.inl h1⟩) (Classical.byContradiction fun h1 => hf ⟨he, Or.inr h1⟩) (by omega)

theorem addP_at {w : World} {bb base : Nat} {s : BlD} (h : Bld w bb s) {p : PcD} {dv : Value} (hd : RdU w base dv p.data) (hbb : base ≤ bb) (hz : addErr s p = 0) (s' : BlD) (hs : addTo s p = s') (b : Bool) (hb : wholeB s' = b) :
    Calls Tryd.prog 13 #[.pointer (some ⟨bb, 0, none⟩), aggP p dv] w fun e w' => e = .returned (.tuple #[.bool b, .nilIface]) ∧ Bld w' bb s' ∧ Kept (Only bb) w w' := by
  have h1 := addP_ok h hd hbb hz
  rw [hs] at h1
  rw [← hb]
  exact h1
theorem done_ok_at {w : World} {bb : Nat} {s : BlD} (h : Bld w bb s) (hz : doneErr s = 0) : Calls Tryd.prog 14 #[.pointer (some ⟨bb, 0, none⟩)] w (DoneOk bb s w) := by
  refine (done_any h).mono fun e w' h1 => ?_
  unfold DoneEnd at h1
  rw [if_pos hz] at h1
  exact h1
theorem done_bad_at {w : World} {bb : Nat} {s : BlD} (h : Bld w bb s) (r : Int) (hz : doneErr s = r) (hr : r ≠ 0) (s' : BlD) (hs : doneTo s = s') : Calls Tryd.prog 14 #[.pointer (some ⟨bb, 0, none⟩)] w (DoneBad bb s s' r w) := by
  refine (done_any h).mono fun e w' h1 => ?_
  unfold DoneEnd at h1
  rw [hz, if_neg hr, hs] at h1
  exact h1

/-! ### known -/
theorem cut_known : cutD 3 [97, 98, 99] 2 = [⟨3, 0, 3, sumOf [97, 98, 99], [97, 98]⟩, ⟨3, 2, 3, sumOf [97, 98, 99], [99]⟩] := by
  unfold cutD cutN
  have e : nP ([97, 98, 99] : List UInt8).length 2 = 2 := by decide
  rw [e]
  rfl

theorem known_1 (s : Int) : addErr BlD.none_ ⟨3, 0, 3, s, [97, 98]⟩ = 0 ∧ addTo BlD.none_ ⟨3, 0, 3, s, [97, 98]⟩ = ⟨3, 3, s, [97, 98]⟩ := by
  have h : addErr BlD.none_ ⟨3, 0, 3, s, [97, 98]⟩ = 0 := by
    unfold addErr
    rw [if_neg (by unfold badN; simp), if_neg (by simp [BlD.none_]), if_neg (by simp [BlD.none_]), if_neg (by simp)]
  refine ⟨h, ?_⟩
  unfold addTo
  rw [if_pos h]
  rfl
theorem known_2 (s : Int) : addErr ⟨3, 3, s, [97, 98]⟩ ⟨3, 2, 3, s, [99]⟩ = 0 ∧ addTo ⟨3, 3, s, [97, 98]⟩ ⟨3, 2, 3, s, [99]⟩ = ⟨3, 3, s, [97, 98, 99]⟩ := by
  have h : addErr ⟨3, 3, s, [97, 98]⟩ ⟨3, 2, 3, s, [99]⟩ = 0 := by
    unfold addErr
    rw [if_neg (by unfold badN; simp), if_neg (by simp), if_neg (by simp), if_neg (by simp [restart])]
  refine ⟨h, ?_⟩
  unfold addTo
  rw [if_pos h]
  rfl

set_option maxRecDepth 100000 in
set_option maxHeartbeats 2000000 in
theorem known_any {w : World} (he : Env w) : Calls Tryd.prog 7 #[] w (TrueEnd w) := by
  have HE := Lib.hid he
  clear he
  have kc := fun (w : World) (C : Array Value) (n c : Nat) => Lib.run_convert_bytes_const (P := Tryd.prog) w 22 5 C n c Tryd.underlying22 Tryd.underlying5
  obtain ⟨s, hs⟩ : ∃ s, sumOf [97, 98, 99] = s := ⟨_, rfl⟩
  have hck := cut_known
  rw [hs] at hck
  have HS := Lib.hid hs
  have hcut : ∀ W v, RdB W v [97, 98, 99] → Calls Tryd.prog 8 #[.int .i64 3, v, .int .i64 2] W (CutEnd W.heap.size [⟨3, 0, 3, s, [97, 98]⟩, ⟨3, 2, 3, s, [99]⟩] W) := by
    intro W v hv
    have := cut_any (id := 3) (size := 2) hv (by decide) (by decide) (by decide) (by decide)
    rw [hck] at this
    exact this
  have HC := Lib.hid hcut
  clear hs hck hcut
  go_enter Tryd.func7, Tryd.ntmps7
  go_wp2_with fail
  refine (HC.out _ _ (rd_new w [97, 98, 99] (by decide) 5 (3, 4) 3 rfl _ rfl)).mono ?_
  rintro e w1 ⟨v, ds, rfl, hp, hk1⟩
  obtain ⟨A, c, rfl⟩ := hp.len
  obtain ⟨g, p0, rfl, hg, e0, a0, a1, a2, a3, a4, r0⟩ := hp.at_ (k := 0) (by show 0 < 2; omega)
  obtain ⟨g', p1, e', _, e1, b0, b1, b2, b3, b4, r1⟩ := hp.at_ (k := 1) (by show 1 < 2; omega)
  cases e'
  simp only [List.getElem?_cons_zero, Option.some.injEq] at e0
  simp only [List.getElem?_cons_succ, List.getElem?_cons_zero, Option.some.injEq] at e1
  subst e0 e1
  have hgl : g < w1.heap.size := World.block_lt_of_cell? _ _ a0
  have R0 := Lib.hid r0
  have R1 := Lib.hid r1
  have HK1 := Lib.hid (((Kept.refl NoBlk w).alloc _).trans hk1)
  obtain ⟨d0, hd0⟩ : ∃ d0, ds 0 = d0 := ⟨_, rfl⟩
  obtain ⟨d1, hd1⟩ : ∃ d1, ds 1 = d1 := ⟨_, rfl⟩
  rw [hd0] at a4 R0
  rw [hd1] at b4 R1
  clear r0 r1 hp hk1 hd0 hd1 hg
  go_wp2_with fail
  refine (newb_any w1).mono ?_
  rintro e w2 ⟨bb, rfl, hB2, hbb, hk2⟩
  have R0b := Lib.hid (R0.out.upto.kept hk2 (fun _ e => e.elim))
  have R1b := Lib.hid (R1.out.upto.kept hk2 (fun _ e => e.elim))
  have HK2 := Lib.hid (HK1.out.trans hk2)
  have hbw : w.heap.size ≤ bb := by have := HK1.out.size; omega
  have a0 := hk2.cell a0 (fun e => e.elim)
  have a1 := hk2.cell a1 (fun e => e.elim)
  have a2 := hk2.cell a2 (fun e => e.elim)
  have a3 := hk2.cell a3 (fun e => e.elim)
  have a4 := hk2.cell a4 (fun e => e.elim)
  have b0 := hk2.cell b0 (fun e => e.elim)
  have b1 := hk2.cell b1 (fun e => e.elim)
  have b2 := hk2.cell b2 (fun e => e.elim)
  have b3 := hk2.cell b3 (fun e => e.elim)
  have b4 := hk2.cell b4 (fun e => e.elim)
  have hgb : g ≠ bb := by omega
  have NG : ¬ Only bb g := fun e => hgb e
  have hA1 := addP_at hB2 R0b.out hbb (known_1 s).1 ⟨3, 3, s, [97, 98]⟩ (known_1 s).2 false rfl
  unfold aggP at hA1
  have HA1 := Lib.hid hA1
  have HNG := Lib.hid NG
  clear hA1 hB2 hk2 NG
  go_wp2_with fail
  refine (HA1.out).mono ?_
  rintro e w3 ⟨rfl, hB3, hk3⟩
  have R1c := Lib.hid (R1b.out.kept hk3 (fun g hg => by unfold Only at hg; omega))
  have HK3 := Lib.hid (HK2.out.inner hk3 (fun g hg => by unfold Only at hg; omega))
  have b0 := hk3.cell b0 HNG.out
  have b1 := hk3.cell b1 HNG.out
  have b2 := hk3.cell b2 HNG.out
  have b3 := hk3.cell b3 HNG.out
  have b4 := hk3.cell b4 HNG.out
  have hA2 := addP_at hB3 R1c.out hbb (known_2 s).1 ⟨3, 3, s, [97, 98, 99]⟩ (known_2 s).2 true rfl
  unfold aggP at hA2
  have HA2 := Lib.hid hA2
  clear hA2 hB3 hk3 a0 a1 a2 a3 a4
  go_wp2_with fail
  refine (HA2.out).mono ?_
  rintro e w4 ⟨rfl, hB4, hk4⟩
  have HK4 := Lib.hid (HK3.out.inner hk4 (fun g hg => by unfold Only at hg; omega))
  have hD := done_ok_at hB4 (by show (if _ ∨ _ then _ else if sumOf [97, 98, 99] ≠ s then _ else _) = _; rw [HS.out]; simp)
  have HD := Lib.hid hD
  clear hD hB4 hk4 b0 b1 b2 b3 b4
  go_wp2_with fail
  refine (HD.out).mono ?_
  rintro e w5 ⟨v5, rfl, ⟨_, hr5⟩, hB5, hk5⟩
  have HK5 := Lib.hid (HK4.out.inner hk5 (fun g hg => by unfold Only at hg; omega))
  have R5 := Lib.hid hr5
  have N5 := Lib.hid hB5.no5
  have hD := done_bad_at hB5 6 (by simp [doneErr, BlD.none_]) (by decide) BlD.none_ (by simp [doneTo, BlD.none_])
  have HD := Lib.hid hD
  clear hD hB5 hk5 hr5
  go_wp2_with fail
  refine (HD.out).mono ?_
  rintro e w6 ⟨eb, rfl, hib, hB6, hk6⟩
  have HK6 := Lib.hid (HK5.out.inner hk6 (fun g hg => by unfold Only at hg; omega))
  have hst := str_run (RdB.of_own (ownsRow_no5 R5.out hk6 N5.out) (by decide))
  have HIB := Lib.hid hib
  clear hib hB6 hk6
  go_wp2_with fail
  refine (broken_any HIB.out (by unfold IsErr; omega) (by unfold okId BlD.none_; decide) (HE.out.kept HK6.out)).mono ?_
  rintro e w7 ⟨rfl, hk7⟩
  go_wp2_with fail
  go_ret
  exact ⟨by simp, HK6.out.trans hk7⟩
end Go.Proofs.YtnaacgglbeipcaaDoor
