/- EventKinds: a kind's name, whether it closes, an event's numbers: the program and the document say the same. -/
import Derived.Test.YtndnbjpcjlbcjaaDoorKnown
import Derived.Deep.RegionHeld3
namespace Go.Proofs.YtndnbjpcjlbcjaaDoor
open Go.RowKit

set_option maxRecDepth 100000 in
set_option maxHeartbeats 4000000 in
theorem kinds_any (k : Int) (e : EvD) (A : Option Addr) (L c : Nat) (hl : e.data.length = L) {w : World} (he : Env w) : Calls Tryd.prog 3 #[.int .i64 k, aggE e (.slice A L c)] w (TrueEnd w) := by
  obtain ⟨s, hs⟩ : ∃ s, nameOf k = s := ⟨_, rfl⟩
  obtain ⟨cb, hcb⟩ : ∃ b, closesB k = b := ⟨_, rfl⟩
  obtain ⟨rb, hrb⟩ : ∃ b, rightB e = b := ⟨_, rfl⟩
  have n9 := fun W => name9_any k W
  have n10 := fun W => name10_any k W
  have n11 := fun W => closes11_any k W
  have n12 := fun W => closes12_any k W
  have n13 := fun W => right13_any e A L c hl W
  have n14 := fun W => right14_any e A L c hl W
  simp only [hs, hcb, hrb] at n9 n10 n11 n12 n13 n14
  obtain ⟨ki, po, re, id, li, nn, bs⟩ := e
  unfold aggE at n13 n14 ⊢
  simp only at n13 n14 ⊢
  have H9 := Lib.hid n9
  have H10 := Lib.hid n10
  have H11 := Lib.hid n11
  have H12 := Lib.hid n12
  have H13 := Lib.hid n13
  have H14 := Lib.hid n14
  have HE := Lib.hid he
  clear n9 n10 n11 n12 n13 n14 hs hcb hrb hl he
  obtain ⟨q, hq⟩ : ∃ q, w.heap.size = q := ⟨_, rfl⟩
  obtain ⟨wz, hwz⟩ : ∃ wz, w.alloc (.cells #[.int .i64 ki, .int .i64 po, .int .i64 re, .int .i64 id, .int .i64 li, .int .i64 nn, .slice A L c] 24) = wz := ⟨_, rfl⟩
  have HP := Lib.hid (show Blk wz q 24 #[.int .i64 ki, .int .i64 po, .int .i64 re, .int .i64 id, .int .i64 li, .int .i64 nn, .slice A L c] from hwz ▸ hq ▸ Blk.new w 24 _)
  have HK := Lib.hid (show Kept NoBlk w wz from hwz ▸ (Kept.refl NoBlk w).alloc _)
  go_enter Tryd.func3, Tryd.ntmps3
  go_upto_region 1 with fail
  clear hwz hq
  go_wp2_with fail
  refine (known_any (HE.out.kept HK.out)).mono ?_
  rintro e w1 ⟨rfl, hk1⟩
  have HP1 := Lib.hid (HP.out.kept hk1 (fun e => e.elim))
  have HK1 := Lib.hid (HK.out.trans hk1)
  have p6 : w1.cell? ⟨q, 0 + 6, none⟩ = some (.slice A L c) := HP1.out.cell 6
  clear hk1 HP HK
  by_cases hL : 8192 < L
  · have hL2 : (8192 : Int) < (L : Int) := by omega
    go_wp2_with fail
    go_ret
    exact ⟨rfl, HK1.out⟩
  have hL2 : ¬ (8192 : Int) < (L : Int) := by omega
  clear hL
  go_upto_region 5 with fail
  clear hL2
  go_region_held3 (fun w' => w'.cell? ⟨q, 0, none⟩ = some (.int .i64 ki) ∧ w'.cell? ⟨q, 0 + 1, none⟩ = some (.int .i64 po) ∧ w'.cell? ⟨q, 0 + 2, none⟩ = some (.int .i64 re) ∧ w'.cell? ⟨q, 0 + 3, none⟩ = some (.int .i64 id) ∧ w'.cell? ⟨q, 0 + 4, none⟩ = some (.int .i64 li) ∧ w'.cell? ⟨q, 0 + 5, none⟩ = some (.int .i64 nn) ∧ w'.cell? ⟨q, 0 + 6, none⟩ = some (.slice A L c))
    (first
      | exact ⟨HP1.out.cell 0, HP1.out.cell 1, HP1.out.cell 2, HP1.out.cell 3, HP1.out.cell 4, HP1.out.cell 5, HP1.out.cell 6⟩
      | exact ⟨(HP1.out.kept K9.out (fun e => e.elim)).cell 0, (HP1.out.kept K9.out (fun e => e.elim)).cell 1, (HP1.out.kept K9.out (fun e => e.elim)).cell 2, (HP1.out.kept K9.out (fun e => e.elim)).cell 3, (HP1.out.kept K9.out (fun e => e.elim)).cell 4, (HP1.out.kept K9.out (fun e => e.elim)).cell 5, (HP1.out.kept K9.out (fun e => e.elim)).cell 6⟩
      | exact ⟨(HP1.out.kept K10.out (fun e => e.elim)).cell 0, (HP1.out.kept K10.out (fun e => e.elim)).cell 1, (HP1.out.kept K10.out (fun e => e.elim)).cell 2, (HP1.out.kept K10.out (fun e => e.elim)).cell 3, (HP1.out.kept K10.out (fun e => e.elim)).cell 4, (HP1.out.kept K10.out (fun e => e.elim)).cell 5, (HP1.out.kept K10.out (fun e => e.elim)).cell 6⟩
      | exact ⟨(HP1.out.kept K13.out (fun e => e.elim)).cell 0, (HP1.out.kept K13.out (fun e => e.elim)).cell 1, (HP1.out.kept K13.out (fun e => e.elim)).cell 2, (HP1.out.kept K13.out (fun e => e.elim)).cell 3, (HP1.out.kept K13.out (fun e => e.elim)).cell 4, (HP1.out.kept K13.out (fun e => e.elim)).cell 5, (HP1.out.kept K13.out (fun e => e.elim)).cell 6⟩
      | exact ⟨(HP1.out.kept K14.out (fun e => e.elim)).cell 0, (HP1.out.kept K14.out (fun e => e.elim)).cell 1, (HP1.out.kept K14.out (fun e => e.elim)).cell 2, (HP1.out.kept K14.out (fun e => e.elim)).cell 3, (HP1.out.kept K14.out (fun e => e.elim)).cell 4, (HP1.out.kept K14.out (fun e => e.elim)).cell 5, (HP1.out.kept K14.out (fun e => e.elim)).cell 6⟩)
    (first
      | (go_at_call 9; refine (H9.out _).mono ?_; rintro e w9 ⟨rfl, hk⟩; have K9 := Lib.hid (show Kept NoBlk w1 w9 from by first | exact hk | exact ((Kept.refl NoBlk w1).drewN _).trans hk); clear hk)
      | (go_at_call 10; refine (H10.out _).mono ?_; rintro e w10 ⟨rfl, hk⟩; have K10 := Lib.hid (show Kept NoBlk w1 w10 from by first | exact K9.out.trans hk | exact (K9.out.drewN _).trans hk); clear hk)
      | (go_at_call 11; refine (H11.out _).mono ?_; rintro e w11 ⟨rfl, rfl⟩)
      | (go_at_call 12; refine (H12.out _).mono ?_; rintro e w12 ⟨rfl, rfl⟩)
      | (go_at_call 13; refine (H13.out _).mono ?_; rintro e w13 ⟨rfl, hk⟩; have K13 := Lib.hid (show Kept NoBlk w1 w13 from by first | exact K10.out.trans hk | exact (K10.out.drewN _).trans hk); clear hk)
      | (go_at_call 14; refine (H14.out _).mono ?_; rintro e w14 ⟨rfl, hk⟩; have K14 := Lib.hid (show Kept NoBlk w1 w14 from by first | exact K13.out.trans hk | exact (K13.out.drewN _).trans hk); clear hk))
  all_goals
    go_wp2_with fail
    go_ret
    exact ⟨by simp, HK1.out.trans K14.out⟩
end Go.Proofs.YtndnbjpcjlbcjaaDoor
