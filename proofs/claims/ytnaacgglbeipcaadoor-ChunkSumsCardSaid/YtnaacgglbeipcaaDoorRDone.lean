/- The document's Builder.Done. -/
import Derived.Test.YtnaacgglbeipcaaDoorDone
namespace Go.Proofs.YtnaacgglbeipcaaDoor
open Go.RowKit

def RDoneEnd (bb : Nat) (s : BlD) (w : World) (e : Ending) (w' : World) : Prop :=
  ∃ v, e = .returned (.tuple #[v, .int .i64 s.id, .int .i64 (doneErr s)]) ∧ RdB w' v (if doneErr s = 0 then s.data else []) ∧ RBld w' bb (doneTo s) ∧ Kept (Only bb) w w'

set_option maxRecDepth 100000 in
set_option maxHeartbeats 2000000 in
theorem rdone_not {w : World} {bb : Nat} {s : BlD} (h : RBld w bb s) (hn : s.id < 0 ∨ (s.data.length : Int) < s.total) : Calls Tryd.prog 16 #[.pointer (some ⟨bb, 0, none⟩)] w (RDoneEnd bb s w) := by
  have e1 : doneErr s = 6 := by unfold doneErr; rw [if_pos hn]
  have e2 : doneTo s = s := by unfold doneTo; rw [if_pos hn]
  have E1 := Lib.hid e1
  have E2 := Lib.hid e2
  clear e1 e2
  have H := Lib.hid h
  obtain ⟨A, c, h1, h2, h3⟩ := h
  have c0 : w.cell? ⟨bb, 0, none⟩ = some (.int .i64 s.id) := h1.cell 0
  have c1 : w.cell? ⟨bb, 0 + 1, none⟩ = some (.int .i64 s.total) := h1.cell 1
  have c3 : w.cell? ⟨bb, 0 + 3, none⟩ = some (.slice A s.data.length c) := h1.cell 3
  clear h1 h2
  have q : s.id < 0 ∨ (¬ s.id < 0 ∧ (s.data.length : Int) < s.total) := by omega
  rcases q with q1 | ⟨q1, q2⟩
  · have b1 : decide (s.id < 0) = true := by simpa using q1
    clear hn
    go_enter Tryd.func16, Tryd.ntmps16
    go_wp2_with fail
    go_quiet (fail)
    go_wp2_with fail
    go_quiet (fail)
    go_wp2_with fail
    go_ret3
    refine ⟨_, by rw [E1.out]; rfl, by rw [E1.out, if_neg (by decide)]; exact RdB.nil_ _, by rw [E2.out]; exact H.out.same (((Kept.refl NoBlk _).drewN _).drewN _), ((Kept.refl (Only bb) w).drewN _).drewN _⟩
  · have b1 : decide (s.id < 0) = false := by simpa using q1
    have b2 : decide ((s.data.length : Int) < s.total) = true := by simpa using q2
    clear hn
    go_enter Tryd.func16, Tryd.ntmps16
    go_wp2_with fail
    go_quiet (fail)
    go_wp2_with fail
    go_quiet (fail)
    go_wp2_with fail
    go_ret3
    refine ⟨_, by rw [E1.out]; rfl, by rw [E1.out, if_neg (by decide)]; exact RdB.nil_ _, by rw [E2.out]; exact H.out.same (((Kept.refl NoBlk _).drewN _).drewN _), ((Kept.refl (Only bb) w).drewN _).drewN _⟩

theorem rbld_none {w : World} {bb : Nat} {a0 a1 a2 a3 : Value} (h : Blk w bb 51 #[a0, a1, a2, a3]) :
    RBld ((((w.setCell ⟨bb, 0, none⟩ (.int .i64 (-1))).setCell ⟨bb, 1, none⟩ (.int .i64 0)).setCell ⟨bb, 2, none⟩ (.int .u32 0)).setCell ⟨bb, 3, none⟩ (.slice none 0 0)) bb BlD.none_ := by
  refine ⟨none, 0, ?_, ⟨rfl, Or.inl ⟨rfl, rfl⟩⟩, by show 0 ≤ 1048576; omega⟩
  exact ((((h.set_ 0 (.int .i64 (-1))).set_ 1 (.int .i64 0)).set_ 2 (.int .u32 0)).set_ 3 (.slice none 0 0))

set_option maxRecDepth 100000 in
set_option maxHeartbeats 2000000 in
theorem rdone_yes {w : World} {bb : Nat} {s : BlD} (h : RBld w bb s) (q1 : ¬ s.id < 0) (q2 : ¬ (s.data.length : Int) < s.total) : Calls Tryd.prog 16 #[.pointer (some ⟨bb, 0, none⟩)] w (RDoneEnd bb s w) := by
  have e2 : doneTo s = BlD.none_ := by unfold doneTo; rw [if_neg (by omega)]
  have E2 := Lib.hid e2
  have e1 : doneErr s = if sumOf s.data ≠ s.sum then 9 else 0 := by unfold doneErr; rw [if_neg (by omega)]
  have E1 := Lib.hid e1
  clear e2 e1
  have H := Lib.hid h
  obtain ⟨A, c, h1, h2, h3⟩ := h
  have c0 : w.cell? ⟨bb, 0, none⟩ = some (.int .i64 s.id) := h1.cell 0
  have c1 : w.cell? ⟨bb, 0 + 1, none⟩ = some (.int .i64 s.total) := h1.cell 1
  have c2 : w.cell? ⟨bb, 0 + 2, none⟩ = some (.int .u32 s.sum) := h1.cell 2
  have c3 : w.cell? ⟨bb, 0 + 3, none⟩ = some (.slice A s.data.length c) := h1.cell 3
  have f0 := h1.frozen
  have O2 := Lib.hid h2
  have B2 := Lib.hid h1
  clear h1 h2
  have b1 : decide (s.id < 0) = false := by simpa using q1
  have b2 : decide ((s.data.length : Int) < s.total) = false := by simpa using q2
  obtain ⟨z, hz⟩ : ∃ z, sumOf s.data = z := ⟨_, rfl⟩
  obtain ⟨su, hsu⟩ : ∃ su, s.sum = su := ⟨_, rfl⟩
  have hsum : ∀ W, RdB W (.slice A s.data.length c) s.data → Calls Tryd.prog 23 #[.slice A s.data.length c] W (SumEnd z W) := fun W h => by rw [← hz]; exact sumRef_any h
  rw [hsu] at c2
  have HS := Lib.hid hsum
  have HZ := Lib.hid hz
  have HSU := Lib.hid hsu
  clear hsum hz hsu
  go_enter Tryd.func16, Tryd.ntmps16
  go_wp2_with fail
  go_quiet (fail)
  go_upto_region 6 with fail
  go_cut [] (fun wd => RBld wd bb BlD.none_ ∧ Kept (Only bb) w wd)
  case first =>
    go_wp2_with fail
    go_meet
    exact ⟨rbld_none (B2.out.drewN _), ((((Kept.refl (Only bb) w).drewN _).at_ _).at_ _).at_ _ |>.at_ _⟩
  case rest =>
    obtain ⟨hB, hK⟩ := hcut
    have HB := Lib.hid hB
    have HK := Lib.hid hK
    have HRD := Lib.hid (show RdB wc (.slice A s.data.length c) s.data from RdB.of_own (ownsRow_no5 O2.out hK H.out.no5) (by omega))
    clear hB hK
    by_cases hzs : z = su
    · have hb : (z != su) = false := by simpa using hzs
      have HZS := Lib.hid hzs
      clear hzs
      go_wp2_with fail
      refine (HS.out _ HRD.out).mono ?_
      rintro e w2 ⟨rfl, hk2⟩
      go_wp2_with fail
      go_ret3
      have e : doneErr s = 0 := by rw [E1.out, HZ.out, HSU.out, if_neg (fun h => h HZS.out)]
      exact ⟨_, by rw [e]; rfl, by rw [e, if_pos rfl]; exact HRD.out.kept hk2 (NoCells.none _), by rw [E2.out]; exact HB.out.same hk2, HK.out.inner hk2 (fun _ e => e.elim)⟩
    · have hb : (z != su) = true := by simpa using hzs
      have HZS := Lib.hid hzs
      clear hzs
      go_wp2_with fail
      refine (HS.out _ HRD.out).mono ?_
      rintro e w2 ⟨rfl, hk2⟩
      go_wp2_with fail
      go_ret3
      have e : doneErr s = 9 := by rw [E1.out, HZ.out, HSU.out, if_pos HZS.out]
      exact ⟨_, by rw [e]; rfl, by rw [e, if_neg (by decide)]; exact RdB.nil_ _, by rw [E2.out]; exact HB.out.same hk2, HK.out.inner hk2 (fun _ e => e.elim)⟩

theorem rdone_any {w : World} {bb : Nat} {s : BlD} (h : RBld w bb s) : Calls Tryd.prog 16 #[.pointer (some ⟨bb, 0, none⟩)] w (RDoneEnd bb s w) := by
  by_cases hn : s.id < 0 ∨ (s.data.length : Int) < s.total
  · exact rdone_not h hn
  · exact rdone_yes h (by omega) (by omega)

/-! ### of -/
theorem of_any {w : World} (p : PcD) (A : Option Addr) (n c : Nat) : Calls Tryd.prog 19 #[aggP p (.slice A n c)] w fun e w' => e = .returned (aggP p (.slice A n c)) ∧ Kept NoBlk w w' := by
  unfold aggP
  go_enter Tryd.func19, Tryd.ntmps19
  go_wp2_with fail
  refine bodyPost_ret (v := .agg #[.int .i64 p.id, .int .i64 p.pos, .int .i64 p.total, .int .u32 p.sum, .slice A n c]) (by simp [results, Tryd.results19, go_sem]) rfl ⟨rfl, ?_⟩
  exact ((Kept.refl NoBlk w).alloc _).alloc _
end Go.Proofs.YtnaacgglbeipcaaDoor
