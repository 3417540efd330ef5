/- known: a history that is given. -/
import Derived.Test.YtndnbjpcjlbcjaaDoorBroken
import Derived.Test.YtndnbjpcjlbcjaaDoorStat
import Derived.Test.YtndnbjpcjlbcjaaDoorChk
namespace Go.Proofs.YtndnbjpcjlbcjaaDoor
open Go.RowKit

def knownL : List EvD := [⟨1, 0, 0, 0, 0, 0, []⟩, ⟨2, 0, 0, 0, 0, 0, []⟩, ⟨3, 0, 2, 0, 0, 0, []⟩, ⟨4, 0, 3, 0, 0, 0, []⟩, ⟨4, 0, 3, 0, 0, 0, []⟩]
theorem known_bad : chk HsD.none_ 0 knownL = some (5, wRef) := by decide +kernel
theorem known_good : chk HsD.none_ 0 (knownL.take 4) = none := by decide +kernel
theorem known_stat : statR (knownL.take 4) = 1 := by decide +kernel
theorem known_name : nameOf 18 = ⟨#[99, 104, 105, 108, 100, 101, 110, 100, 115]⟩ := by decide +kernel
theorem known_text : brokenT 5 wRef = ⟨#[101, 118, 101, 110, 116, 32, 53, 58, 32, 114, 101, 102]⟩ := by
  have : Lib.itoa 5 = [53] := by
    unfold Lib.itoa
    rw [if_neg (by decide)]
    unfold Lib.decDigits
    rw [dif_pos (by decide)]
    rfl
  unfold brokenT
  rw [this]
  decide +kernel

def knownV : Array Value := #[.int .i64 1, .int .i64 0, .int .i64 0, .int .i64 0, .int .i64 0, .int .i64 0, .slice none 0 0, .int .i64 2, .int .i64 0, .int .i64 0, .int .i64 0, .int .i64 0, .int .i64 0, .slice none 0 0, .int .i64 3, .int .i64 0, .int .i64 2, .int .i64 0, .int .i64 0, .int .i64 0, .slice none 0 0, .int .i64 4, .int .i64 0, .int .i64 3, .int .i64 0, .int .i64 0, .int .i64 0, .slice none 0 0, .int .i64 4, .int .i64 0, .int .i64 3, .int .i64 0, .int .i64 0, .int .i64 0, .slice none 0 0]
theorem known_evs {w : World} {q : Nat} (h : Blk w q 24 knownV) : Evs w (some ⟨q, 0, none⟩) 5 knownL := by
  refine ⟨rfl, by decide, fun _ => ⟨q, 0, rfl, fun i e hi => ⟨.slice none 0 0, ?_⟩⟩⟩
  have hlt := (List.getElem?_eq_some_iff.1 hi).1
  have ok : ∀ x : Int, 0 ≤ x → x ≤ 10 → okI x := fun x h0 h1 => ⟨by omega, by omega⟩
  have hc := h.cell
  have h5 : i = 0 ∨ i = 1 ∨ i = 2 ∨ i = 3 ∨ i = 4 := by simp [knownL] at hlt; omega
  rcases h5 with rfl | rfl | rfl | rfl | rfl <;> cases hi <;>
    exact ⟨hc _, hc _, hc _, hc _, hc _, hc _, hc _, RdB.nil_ w, ⟨ok _ (by decide) (by decide), ok _ (by decide) (by decide), ok _ (by decide) (by decide), ok _ (by decide) (by decide), ok _ (by decide) (by decide), ok _ (by decide) (by decide)⟩⟩

theorem Evs.far {w w' : World} {tb b off n : Nat} {xs : List EvD} (h : Evs w (some ⟨b, off, none⟩) n xs) (hk : Kept (fun k => k = tb) w w') (hb : b ≠ tb ∧ xs.all (fun e => e.data.isEmpty) = true) : Evs w' (some ⟨b, off, none⟩) n xs := by
  refine ⟨h.1, h.2.1, fun hn => ?_⟩
  obtain ⟨b', off', e, hc⟩ := h.2.2 hn
  cases e
  refine ⟨b, off, rfl, fun i a hi => ?_⟩
  obtain ⟨v, h0, h1, h2, h3, h4, h5, h6, ⟨A, m, c, rfl, g1, g2, g3, g4, g5⟩, h8⟩ := hc i a hi
  have he : a.data = [] := by
    have := List.all_eq_true.1 hb.2 a (List.mem_of_getElem? hi)
    simpa using this
  rw [he] at g5
  have hm : m = 0 := by
    have := g5.1
    simp at this
    omega
  subst hm
  exact ⟨_, hk.cell h0 hb.1, hk.cell h1 hb.1, hk.cell h2 hb.1, hk.cell h3 hb.1, hk.cell h4 hb.1, hk.cell h5 hb.1, hk.cell h6 hb.1, ⟨A, 0, c, rfl, g1, g2, g3, g4, by rw [he]; exact ⟨by simp, fun e => absurd e (by omega)⟩⟩, h8⟩

def TrueEnd (w : World) (e : Ending) (w' : World) : Prop := e = .returned (.bool true) ∧ Kept NoBlk w w'

set_option maxRecDepth 100000 in
set_option maxHeartbeats 2000000 in
theorem known_any {w : World} (he : Env w) : Calls Tryd.prog 8 #[] w (TrueEnd w) := by
  have HE := Lib.hid he
  clear he
  obtain ⟨q, hq⟩ : ∃ q, w.heap.size = q := ⟨_, rfl⟩
  obtain ⟨wz, hwz⟩ : ∃ wz, w.alloc (.cells knownV 24) = wz := ⟨_, rfl⟩
  have pe : Blk wz q 24 knownV := hwz ▸ hq ▸ Blk.new w 24 _
  have kz : Kept NoBlk w wz := hwz ▸ (Kept.refl NoBlk w).alloc _
  have HP := Lib.hid (known_evs pe)
  have HQ := Lib.hid pe.lt
  have HK := Lib.hid kz
  clear pe kz
  unfold knownV at hwz
  go_enter Tryd.func8, Tryd.ntmps8
  go_upto_region 2 with fail
  clear hwz hq
  have hck : ∀ W, Evs W (some ⟨q, 0, none⟩) 5 knownL → Calls Tryd.prog 16 #[.slice (some ⟨q, 0, none⟩) 5 5] W (CheckEnd knownL W) := fun W h => check_any _ _ _ _ W h (by decide)
  have hc4 : ∀ W, Evs W (some ⟨q, 0, none⟩) 5 knownL → Calls Tryd.prog 16 #[.slice (some ⟨q, 0, none⟩) 4 5] W (CheckEnd (knownL.take 4) W) := fun W h => check_any _ _ _ _ W (h.front (by decide)) (by decide)
  have hst : ∀ W, Evs W (some ⟨q, 0, none⟩) 5 knownL → Calls Tryd.prog 22 #[.slice (some ⟨q, 0, none⟩) 4 5] W (ValEnd (.int .i64 1) W) := fun W h => known_stat ▸ status22_any _ _ _ _ W (h.front (by decide))
  have hnm : ∀ W, Calls Tryd.prog 9 #[.int .i64 18] W (ValEnd (.string ⟨#[99, 104, 105, 108, 100, 101, 110, 100, 115]⟩) W) := fun W => known_name ▸ name9_any 18 W
  have HCk := Lib.hid hck
  have HC4 := Lib.hid hc4
  have HSt := Lib.hid hst
  have HNm := Lib.hid hnm
  clear hck hc4 hst hnm
  go_wp2_with fail
  refine (HCk.out _ HP.out).mono ?_
  rintro e w1 ⟨hk1, hr1⟩
  rw [known_bad] at hr1
  obtain ⟨eb, rfl, hb1, _⟩ := hr1
  have HP1 := Lib.hid (HP.out.kept hk1 (NoCells.none _))
  have HK1 := Lib.hid (HK.out.trans hk1)
  have HS1 := Lib.hid hk1.size
  have HB1 := Lib.hid hb1
  clear HP HK hk1 hb1
  obtain ⟨tb, htb⟩ : ∃ tb, w1.heap.size = tb := ⟨_, rfl⟩
  obtain ⟨w2, hw2⟩ : ∃ w2, w1.alloc (.cells #[.pointer none] 36) = w2 := ⟨_, rfl⟩
  have HT2 := Lib.hid (show Blk w2 tb 36 #[.pointer none] from hw2 ▸ htb ▸ Blk.new w1 36 _)
  have HP2 := Lib.hid (hw2 ▸ HP1.out.kept ((Kept.refl NoBlk _).alloc _) (NoCells.none _) : Evs w2 (some ⟨q, 0, none⟩) 5 knownL)
  have HK2 := Lib.hid (hw2 ▸ HK1.out.alloc _ : Kept NoBlk w w2)
  have HB2 := Lib.hid (hw2 ▸ HB1.out.alloc _ : Blk w2 eb 53 #[.int .i64 5, .string wRef, .iface 55 (.int .i64 8)])
  have hne : eb ≠ tb := by
    have := HB1.out.lt
    omega
  have HNe := Lib.hid hne
  have HNq := Lib.hid (show q ≠ tb ∧ knownL.all (fun e => e.data.isEmpty) = true from ⟨by have := HQ.out; have := HS1.out; omega, by decide⟩)
  have HTb := Lib.hid (show w.heap.size ≤ tb from by have := HK1.out.size; omega)
  clear hne
  go_wp2_with fail
  clear hw2 htb HP1 HK1 HB1
  refine (HC4.out _ HP2.out).mono ?_
  rintro e w3 ⟨hk3, hr3⟩
  rw [known_good] at hr3
  subst hr3
  have HT3 := Lib.hid (HT2.out.kept hk3 (fun e => e.elim))
  have HP3 := Lib.hid (HP2.out.kept hk3 (NoCells.none _))
  have HB3 := Lib.hid (HB2.out.kept hk3 (fun e => e.elim))
  have HK3 := Lib.hid (HK2.out.trans hk3)
  clear HT2 HP2 HK2 HB2 hk3
  go_wp2_with fail
  refine (as_broken (HE.out.kept HK3.out).errs ⟨eb, 0, none⟩ HT3.out).mono ?_
  rintro e w4 ⟨rfl, ht4, hk4⟩
  have HP4 := Lib.hid (show Evs w4 (some ⟨q, 0, none⟩) 5 knownL from HP3.out.far hk4 HNq.out)
  have HB4 := Lib.hid (HB3.out.kept hk4 HNe.out)
  have HK4 := Lib.hid (HK3.out.inner hk4 (fun b hb => Or.inr (by have := HTb.out; omega)))
  have d0 : w4.cell? ⟨tb, 0, none⟩ = some (.pointer (some ⟨eb, 0, none⟩)) := ht4.cell 0
  have d1 : w4.cell? ⟨eb, 0, none⟩ = some (.int .i64 5) := HB4.out.cell 0
  have d2 : w4.cell? ⟨eb, 0 + 1, none⟩ = some (.string ⟨#[114, 101, 102]⟩) := HB4.out.cell 1
  clear ht4 hk4 HT3 HP3 HB3 HK3
  go_wp2_with fail
  refine (is_broken HB4.out).mono ?_
  rintro e w5 ⟨rfl, rfl⟩
  go_wp2_with fail
  refine (brokenErr_any HB4.out (by decide) ⟨by decide, by decide⟩ (HE.out.kept HK4.out)).mono ?_
  rintro e w6 ⟨rfl, hk6⟩
  rw [known_text]
  have HP6 := Lib.hid (HP4.out.kept hk6 (NoCells.none _))
  have HK6 := Lib.hid (HK4.out.trans hk6)
  clear d0 d1 d2 hk6 HP4 HB4 HK4
  go_wp2_with fail
  refine (HNm.out _).mono ?_
  rintro e w7 ⟨rfl, hk7⟩
  have HP7 := Lib.hid (HP6.out.kept hk7 (NoCells.none _))
  have HK7 := Lib.hid (HK6.out.trans hk7)
  clear hk7 HP6 HK6
  go_wp2_with fail
  refine (HSt.out _ HP7.out).mono ?_
  rintro e w8 ⟨rfl, hk8⟩
  have HK8 := Lib.hid (HK7.out.trans hk8)
  clear hk8
  go_wp2_with fail
  go_ret
  exact ⟨by simp, HK8.out⟩
#print axioms known_any
end Go.Proofs.YtndnbjpcjlbcjaaDoor
