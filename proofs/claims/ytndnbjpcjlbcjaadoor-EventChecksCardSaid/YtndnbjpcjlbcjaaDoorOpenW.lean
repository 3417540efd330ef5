/- Open: what is open of events, sorted. -/
import Derived.Test.YtndnbjpcjlbcjaaDoorOpenL
import Derived.Deep.RegionLaw
namespace Go.Proofs.YtndnbjpcjlbcjaaDoor
open Go.RowKit Go.Maps

/-- Three sorted rows of numbers of the call's own. -/
def OpenEnd (s : HsD) (w : World) (e : Ending) (w' : World) : Prop := ∃ base a2 a3 a4 v1 v2 v3, e = .returned (.tuple #[v1, v2, v3]) ∧ w.heap.size ≤ base ∧ Lists w' base a2 a3 a4 v1 v2 v3 (srt (idsOf s 7)) (srt (idsOf s 12)) (srt (idsOf s 17)) ∧ Kept NoBlk w w'

set_option maxRecDepth 100000 in
set_option maxHeartbeats 4000000 in
theorem open25_any (A : Option Addr) (n c : Nat) (xs : List EvD) (w : World) (h : Evs w A n xs) (hn : n ≤ 1000) (hok : chk HsD.none_ 0 xs = none) :
    Calls Tryd.prog 25 #[.slice A n c] w (OpenEnd (runS HsD.none_ xs) w) := by
  have HB := Lib.hid (fun W => begin_any W)
  have HE := Lib.hid h
  have HOk := Lib.hid hok
  clear h hok
  obtain ⟨a2, ha2⟩ : ∃ a, w.heap.size = a := ⟨_, rfl⟩
  obtain ⟨wa, hwa⟩ : ∃ wa, w.alloc (.cells #[.slice none 0 0] 47) = wa := ⟨_, rfl⟩
  obtain ⟨a3, ha3⟩ : ∃ a, wa.heap.size = a := ⟨_, rfl⟩
  obtain ⟨wb, hwb⟩ : ∃ wb, wa.alloc (.cells #[.slice none 0 0] 47) = wb := ⟨_, rfl⟩
  obtain ⟨a4, ha4⟩ : ∃ a, wb.heap.size = a := ⟨_, rfl⟩
  obtain ⟨w3, hw3⟩ : ∃ w3, wb.alloc (.cells #[.slice none 0 0] 47) = w3 := ⟨_, rfl⟩
  have B2 := Lib.hid (show Blk w3 a2 47 #[.slice none 0 0] from hw3 ▸ (hwb ▸ (hwa ▸ ha2 ▸ Blk.new w 47 _ : Blk wa a2 47 #[.slice none 0 0]).alloc _ : Blk wb a2 47 #[.slice none 0 0]).alloc _)
  have B3 := Lib.hid (show Blk w3 a3 47 #[.slice none 0 0] from hw3 ▸ (hwb ▸ ha3 ▸ Blk.new wa 47 _ : Blk wb a3 47 #[.slice none 0 0]).alloc _)
  have B4 := Lib.hid (show Blk w3 a4 47 #[.slice none 0 0] from hw3 ▸ ha4 ▸ Blk.new wb 47 _)
  have K3 := Lib.hid (show Kept NoBlk w w3 from hw3 ▸ (hwb ▸ (hwa ▸ (Kept.refl NoBlk w).alloc _ : Kept NoBlk w wa).alloc _ : Kept NoBlk w wb).alloc _)
  have hA : w.heap.size ≤ a2 ∧ a2 < a3 ∧ a3 < a4 ∧ a4 < w3.heap.size := by
    have e1 : wa.heap.size = w.heap.size + 1 := by rw [← hwa]; simp
    have e2 : wb.heap.size = wa.heap.size + 1 := by rw [← hwb]; simp
    have e3 : w3.heap.size = wb.heap.size + 1 := by rw [← hw3]; simp
    omega
  have HA := Lib.hid hA
  clear hA
  go_enter Tryd.func25, Tryd.ntmps25
  go_upto_region 1 with fail
  clear hw3 hwb hwa ha2 ha3 ha4
  go_wp2_with fail
  refine (HB.out _).mono ?_
  rintro e1 w1 ⟨hb, k1, k2, k3, k4, rfl, hm, hnew, hk⟩
  have HR := Lib.hid (show ChkRel w3 hb k1 k2 k3 k4 HsD.none_ w1 from ⟨hm, hnew, hk⟩)
  clear hm hnew hk
  go_wp2_with fail
  go_loopg [16] n (fun g v wr => ∃ (k : Nat), g + k = n ∧ v = .int .i64 k ∧ ChkRel w3 hb k1 k2 k3 k4 (runS HsD.none_ (xs.take k)) wr)
  case atStart => exact ⟨0, by omega, rfl, HR.out⟩
  case round =>
    obtain ⟨k, hgk, rfl, hrel⟩ := hrel
    have Hgk := Lib.hid hgk
    have HR := Lib.hid hrel
    obtain ⟨wx, hwx⟩ : ∃ wx, wr = wx := ⟨_, rfl⟩
    rw [hwx] at HR ⊢
    clear hgk hrel hwx
    by_cases hlt : k < n
    · obtain ⟨b, off, a, v, rfl, ha, hev⟩ := HE.out.at_ hlt
      have hev := (hev.kept K3.out (NoCells.none _)).kept HR.out.kept (NoCells.none _)
      have hchk : chk HsD.none_ 0 (xs.take k) = none := chk_front (b := xs.drop k) (by rw [List.take_append_drop]; exact HOk.out)
      have HEV := Lib.hid hev
      obtain ⟨h0, h1, h2, h3, h4, h5, h6, h7, h8⟩ := hev
      obtain ⟨A', n', c', rfl, _⟩ := h7
      have hl := Lib.hid (RdB.length hev.2.2.2.2.2.2.2.1)
      have hr := Lib.hid h8.ref
      have hnx := Lib.hid (chk_next ha hchk)
      clear ha h8 hev
      obtain ⟨ki, po, re, id, li, nn, bs⟩ := a
      simp only at h0 h1 h2 h3 h4 h5 h6
      have ok := hok_of hchk (by rw [List.length_take]; omega)
      have hAdd := fun (W : World) (H : HMem W hb k1 k2 k3 k4 (runS HsD.none_ (xs.take k))) => add_any H ok ⟨ki, po, re, id, li, nn, bs⟩ (A := A') (L := n') (c := c') hl.out hr.out
      unfold aggE at hAdd
      simp only at hAdd
      have ki0 : (0 : Int) ≤ (k : Int) := by omega
      have ki1 : (k : Int) < (n : Int) := by omega
      obtain ⟨q, hq⟩ : ∃ q, wx.heap.size = q := ⟨_, rfl⟩
      obtain ⟨wz, hwz⟩ : ∃ wz, wx.alloc (.cells #[.int .i64 ki, .int .i64 po, .int .i64 re, .int .i64 id, .int .i64 li, .int .i64 nn, .slice A' n' c'] 24) = wz := ⟨_, rfl⟩
      have pe : Blk wz q 24 #[.int .i64 ki, .int .i64 po, .int .i64 re, .int .i64 id, .int .i64 li, .int .i64 nn, .slice A' n' c'] := hwz ▸ hq ▸ Blk.new wx 24 _
      have HRZ := Lib.hid (show ChkRel w3 hb k1 k2 k3 k4 (runS HsD.none_ (xs.take k)) wz from hwz ▸ HR.out.alloc _)
      have HP := Lib.hid pe
      obtain ⟨R, hR⟩ : ∃ R, faultS (runS HsD.none_ (xs.take k)) ⟨ki, po, re, id, li, nn, bs⟩ = R := ⟨_, rfl⟩
      rw [hR] at hnx
      simp only [hR] at hAdd
      have HAdd := Lib.hid hAdd
      clear pe hAdd ok hchk
      go_upto_region 5 with fail
      clear hwz hq h0 h1 h2 h3 h4 h5 h6
      have p0 : wz.cell? ⟨q, 0, none⟩ = some (.int .i64 ki) := HP.out.cell 0
      have p1 : wz.cell? ⟨q, 0 + 1, none⟩ = some (.int .i64 po) := HP.out.cell 1
      have p2 : wz.cell? ⟨q, 0 + 2, none⟩ = some (.int .i64 re) := HP.out.cell 2
      have p3 : wz.cell? ⟨q, 0 + 3, none⟩ = some (.int .i64 id) := HP.out.cell 3
      have p4 : wz.cell? ⟨q, 0 + 4, none⟩ = some (.int .i64 li) := HP.out.cell 4
      have p5 : wz.cell? ⟨q, 0 + 5, none⟩ = some (.int .i64 nn) := HP.out.cell 5
      have p6 : wz.cell? ⟨q, 0 + 6, none⟩ = some (.slice A' n' c') := HP.out.cell 6
      go_wp2_with fail
      refine (HAdd.out _ HRZ.out.mem).mono ?_
      rintro e1 w4 ⟨rfl, hm3, hk3⟩
      have HR3 := Lib.hid (HRZ.out.step hm3 hk3)
      clear hm3 hk3 p0 p1 p2 p3 p4 p5 p6
      go_wp2_with fail
      go_roundg (n - (k + 1))
      case measure => have := Hgk.out; omega
      case rel =>
        refine ⟨k + 1, by omega, by go_num, ?_⟩
        rw [hnx.out.2.2]
        exact HR3.out
    · have hall : xs.take k = xs := by rw [List.take_of_length_le (by rw [HE.out.1]; omega)]
      rw [hall] at HR
      have ki1 : ¬ (k : Int) < (n : Int) := fun h => hlt (by omega)
      clear hall hlt
      obtain ⟨s, hs⟩ : ∃ s, runS HsD.none_ xs = s := ⟨_, rfl⟩
      have HInv := Lib.hid (show Inv xs s from hs ▸ Inv.of HOk.out)
      have HMore := Lib.hid (show More xs s from hs ▸ More.of HOk.out)
      rw [hs] at HR
      have hcnt : s.kinds.length ≤ 1000 := by
        have h1 := HMore.out.cnt
        have h2 := (cntR_le xs).1
        have h3 := HE.out.1
        omega
      have d3 : wx.cell? ⟨hb, 0 + 3, none⟩ = some (.map (some k1)) := HR.out.mem.box.cell 3
      have HSv := Lib.hid hs
      clear hs
      go_upto_region 7 with fail
      obtain ⟨D0, hown, hrd⟩ := HR.out.mem.kinds.owns (by omega)
      have HRd := Lib.hid hrd
      have HOwn := Lib.hid hown
      clear hrd hown
      go_wp2_with (first | (at_range; refine wpList_range_own _ rfl _ 80 rfl 3 3 law3 Tryd.underlying80 _ k1 _ _ rfl HOwn.out ?_; intro w0 hrg0 hg0 hs0) | fail)
      obtain ⟨r, hr⟩ : ∃ r, wx.heap.size = r := ⟨_, rfl⟩
      rw [hr] at hrg0 ⊢
      have hk0 : Kept NoBlk wx w0 := (Kept.refl NoBlk wx).grown hg0 (fun k e => by cases e)
      have hm0 : HMem w0 hb k1 k2 k3 k4 s := HR.out.mem.kept hk0
      have hr0 : r < w0.heap.size := hrg0.lt
      obtain ⟨base, hbase⟩ : ∃ base, w0.heap.size = base := ⟨_, rfl⟩
      have hk30 : Kept NoBlk w3 w0 := HR.out.kept.trans hk0
      have hG := Lib.hid (show Going s D0 w3 base a2 a3 a4 hb k1 k2 k3 k4 r _ _ (.slice none 0 0) (.slice none 0 0) (.slice none 0 0) [] [] [] w0 from
        ⟨hrg0, hm0, hk30.mono (fun _ e => e.elim),
          ⟨B2.out.kept hk30 (fun e => e.elim), B3.out.kept hk30 (fun e => e.elim), B4.out.kept hk30 (fun e => e.elim), OwnI.nil_ _ _, OwnI.nil_ _ _, OwnI.nil_ _ _, (fun b e => by cases e), (fun b e => by cases e), (fun b e => by cases e),
            by have := HA.out; have := hk30.size; omega, by have := HA.out; omega⟩,
          by rw [came_none HRd.out]; exact List.Perm.refl _, by rw [came_none HRd.out]; exact List.Perm.refl _, by rw [came_none HRd.out]; exact List.Perm.refl _,
          fun b hb' => ⟨HR.out.new b hb', by
            rw [← hbase]
            rcases hb' with rfl | rfl | rfl | rfl | rfl
            · exact hm0.box.lt
            · exact hm0.kinds.lt
            · exact hm0.ids.lt
            · exact hm0.of_.lt
            · exact hm0.frm.lt⟩,
          ⟨by rw [← hr]; exact HR.out.kept.size, by omega⟩, by have := HA.out; omega, by omega⟩)
      have HNr := Lib.hid (show ¬ HS hb k1 k2 k3 k4 r from by
        intro e
        rw [← hr] at e
        have := HR.out.mem.box.lt
        have := HR.out.mem.kinds.lt
        have := HR.out.mem.ids.lt
        have := HR.out.mem.of_.lt
        have := HR.out.mem.frm.lt
        unfold HS at e
        omega)
      clear hg0 hs0 hr hk0 hm0 hrg0 hr0 hbase hk30 d3 HOwn
      go_loopw [8, 9] (fun _ _ wr => ∃ (left : Lit → Bool) (cnt : Nat) (v1 v2 v3 : Value) (L1 L2 L3 : List Int), Going s D0 w3 base a2 a3 a4 hb k1 k2 k3 k4 r left cnt v1 v2 v3 L1 L2 L3 wr)
        (fun _ _ wr => wr.rangeLeft k1 r)
      case atStart => exact ⟨_, _, _, _, _, _, _, _, hG.out⟩
      case round =>
        obtain ⟨left, cnt, v1, v2, v3, L1, L2, L3, hG1⟩ := hrel
        have HG := Lib.hid hG1
        obtain ⟨wn, hwn⟩ : ∃ wn, wr = wn := ⟨_, rfl⟩
        rw [hwn] at HG ⊢
        clear hG1 hG
        have Hwn := Lib.hid hwn
        clear hwn
        have HRg1 := Lib.hid HG.out.rg
        go_wp2_with (at_next; refine wpList_next_ranges (α := Int) (β := Int) _ rfl _ rfl 3 law3 intR (Value.int .i64) (Value.int .i64) (fun key kl hkey => by obtain ⟨x, rfl, _⟩ := Maps.keyOf_int_inv Tryd.underlying3 hkey; exact ⟨x, rfl⟩) (fun v y hv => intR_inv hv) k1 r _ _ _ _ rfl HRg1.out ?_ ?_)
        · intro _ hl
          have q1 := HG.out.p1
          have q2 := HG.out.p2
          have q3 := HG.out.p3
          rw [came_all hl] at q1 q2 q3
          have Q1 := Lib.hid (show L1.Perm (idsOf s 7) from q1)
          have Q2 := Lib.hid (show L2.Perm (idsOf s 12) from q2)
          have Q3 := Lib.hid (show L3.Perm (idsOf s 17) from q3)
          clear q1 q2 q3 hl
          obtain ⟨A1, m1, cp1, rfl⟩ := HG.out.li.o1.form
          obtain ⟨A2, m2, cp2, rfl⟩ := HG.out.li.o2.form
          obtain ⟨A3, m3, cp3, rfl⟩ := HG.out.li.o3.form
          have c2 : wn.cell? ⟨a2, 0, none⟩ = some (.slice A1 m1 cp1) := HG.out.li.b1.cell 0
          have c3 : wn.cell? ⟨a3, 0, none⟩ = some (.slice A2 m2 cp2) := HG.out.li.b2.cell 0
          have c4 : wn.cell? ⟨a4, 0, none⟩ = some (.slice A3 m3 cp3) := HG.out.li.b3.cell 0
          have l1 : L1.length ≤ 1000 := by have := Q1.out.length_eq; have := HG.out.p1.length_eq; have := pick_len s 7 left; omega
          have l2 : L2.length ≤ 1000 := by have := Q2.out.length_eq; have := HG.out.p2.length_eq; have := pick_len s 12 left; omega
          have l3 : L3.length ≤ 1000 := by have := Q3.out.length_eq; have := HG.out.p3.length_eq; have := pick_len s 17 left; omega
          have Z1 := Lib.hid l1
          have Z2 := Lib.hid l2
          have Z3 := Lib.hid l3
          clear l1 l2 l3
          obtain ⟨q8, hq8⟩ : ∃ q8, wn.heap.size = q8 := ⟨_, rfl⟩
          obtain ⟨w8, hw8⟩ : ∃ w8, wn.alloc (.cells #[(.slice A1 m1 cp1), (.slice A2 m2 cp2), (.slice A3 m3 cp3)] 47) = w8 := ⟨_, rfl⟩
          have B8 := Lib.hid (show Blk w8 q8 47 #[(.slice A1 m1 cp1), (.slice A2 m2 cp2), (.slice A3 m3 cp3)] from hw8 ▸ hq8 ▸ Blk.new wn 47 _)
          have LI8 := Lib.hid (show Lists w8 base a2 a3 a4 (.slice A1 m1 cp1) (.slice A2 m2 cp2) (.slice A3 m3 cp3) L1 L2 L3 from HG.out.li.far (hw8 ▸ (Kept.refl NoBlk wn).alloc _ : Kept NoBlk wn w8) (fun b e => e.elim))
          have KP8 := Lib.hid (show Kept (fun b => b = a2 ∨ b = a3 ∨ b = a4) w3 w8 from hw8 ▸ HG.out.kept.alloc _)
          have HQ8 := Lib.hid (show base ≤ q8 ∧ (∀ b, (Value.slice A1 m1 cp1).ownBlock = some b → b ≠ q8) ∧ (∀ b, (Value.slice A2 m2 cp2).ownBlock = some b → b ≠ q8) ∧ (∀ b, (Value.slice A3 m3 cp3).ownBlock = some b → b ≠ q8) from by
            refine ⟨by rw [← hq8]; exact HG.out.bs, fun b e => ?_, fun b e => ?_, fun b e => ?_⟩
            · have := (HG.out.li.o1.lt e).2; omega
            · have := (HG.out.li.o2.lt e).2; omega
            · have := (HG.out.li.o3.lt e).2; omega)
          go_upto_region 18 with fail
          clear hw8 hq8 c2 c3 c4
          have e0 : w8.cell? ⟨q8, 0, none⟩ = some (.slice A1 m1 cp1) := B8.out.cell 0
          have e1 : w8.cell? ⟨q8, 0 + 1, none⟩ = some (.slice A2 m2 cp2) := B8.out.cell 1
          have e2 : w8.cell? ⟨q8, 0 + 2, none⟩ = some (.slice A3 m3 cp3) := B8.out.cell 2
          refine wp_loop_rounds 4 ?_
          rw [rounds_succ]
          go_wp2_with fail
          refine (sort45_any LI8.out.o1 Z1.out).mono ?_
          rintro e9 w9 ⟨rfl, ho, hk⟩
          have LI9 := Lib.hid (show Lists w9 base a2 a3 a4 (.slice A1 m1 cp1) (.slice A2 m2 cp2) (.slice A3 m3 cp3) (srt L1) L2 L3 from (LI8.out.sort1 ho hk))
          have HB9 := Lib.hid (B8.out.kept hk (fun e => HQ8.out.2.1 _ e rfl))
          have B9 := HB9
          have KP9 := Lib.hid (KP8.out.inner hk (fun b e => Or.inr (by have h1 := (LI8.out.o1.lt e).1; have := HG.out.rb; omega)))
          have e0 : w9.cell? ⟨q8, 0, none⟩ = some (.slice A1 m1 cp1) := B9.out.cell 0
          have e1 : w9.cell? ⟨q8, 0 + 1, none⟩ = some (.slice A2 m2 cp2) := B9.out.cell 1
          have e2 : w9.cell? ⟨q8, 0 + 2, none⟩ = some (.slice A3 m3 cp3) := B9.out.cell 2
          clear ho hk HB9
          go_wp2_with fail
          rw [rounds_succ]
          go_wp2_with fail
          refine (sort45_any LI9.out.o2 Z2.out).mono ?_
          rintro e9 w10 ⟨rfl, ho, hk⟩
          have LI10 := Lib.hid (show Lists w10 base a2 a3 a4 (.slice A1 m1 cp1) (.slice A2 m2 cp2) (.slice A3 m3 cp3) (srt L1) (srt L2) L3 from (LI9.out.swap12.sort1 ho hk).swap12)
          have HB9 := Lib.hid (B9.out.kept hk (fun e => HQ8.out.2.2.1 _ e rfl))
          have B10 := HB9
          have KP10 := Lib.hid (KP9.out.inner hk (fun b e => Or.inr (by have h1 := (LI9.out.o2.lt e).1; have := HG.out.rb; omega)))
          have e0 : w10.cell? ⟨q8, 0, none⟩ = some (.slice A1 m1 cp1) := B10.out.cell 0
          have e1 : w10.cell? ⟨q8, 0 + 1, none⟩ = some (.slice A2 m2 cp2) := B10.out.cell 1
          have e2 : w10.cell? ⟨q8, 0 + 2, none⟩ = some (.slice A3 m3 cp3) := B10.out.cell 2
          clear ho hk HB9
          go_wp2_with fail
          rw [rounds_succ]
          go_wp2_with fail
          refine (sort45_any LI10.out.o3 Z3.out).mono ?_
          rintro e9 w11 ⟨rfl, ho, hk⟩
          have LI11 := Lib.hid (show Lists w11 base a2 a3 a4 (.slice A1 m1 cp1) (.slice A2 m2 cp2) (.slice A3 m3 cp3) (srt L1) (srt L2) (srt L3) from (LI10.out.swap13.sort1 ho hk).swap13)
          have HB9 := Lib.hid (B10.out.kept hk (fun e => HQ8.out.2.2.2 _ e rfl))
          have B11 := HB9
          have KP11 := Lib.hid (KP10.out.inner hk (fun b e => Or.inr (by have h1 := (LI10.out.o3.lt e).1; have := HG.out.rb; omega)))
          have e0 : w11.cell? ⟨q8, 0, none⟩ = some (.slice A1 m1 cp1) := B11.out.cell 0
          have e1 : w11.cell? ⟨q8, 0 + 1, none⟩ = some (.slice A2 m2 cp2) := B11.out.cell 1
          have e2 : w11.cell? ⟨q8, 0 + 2, none⟩ = some (.slice A3 m3 cp3) := B11.out.cell 2
          clear ho hk HB9
          go_wp2_with fail
          rw [rounds_succ]
          have LA := LI11.out.again
          have LB := LA.swap12.again.swap12
          have LC := LB.swap13.again.swap13
          obtain ⟨wA, hwA⟩ : ∃ wA, w11.setCell ⟨a2, 0, none⟩ (.slice A1 m1 cp1) = wA := ⟨_, rfl⟩
          rw [hwA] at LA LB LC
          obtain ⟨wB, hwB⟩ : ∃ wB, wA.setCell ⟨a3, 0, none⟩ (.slice A2 m2 cp2) = wB := ⟨_, rfl⟩
          rw [hwB] at LB LC
          obtain ⟨wC, hwC⟩ : ∃ wC, wB.setCell ⟨a4, 0, none⟩ (.slice A3 m3 cp3) = wC := ⟨_, rfl⟩
          rw [hwC] at LC
          have KC := Lib.hid (show Kept (fun b => b = a2 ∨ b = a3 ∨ b = a4) w3 wC from hwC ▸ Kept.setCell (S := fun b => b = a2 ∨ b = a3 ∨ b = a4) (p := ⟨a4, 0, none⟩) (hwB ▸ Kept.setCell (S := fun b => b = a2 ∨ b = a3 ∨ b = a4) (p := ⟨a3, 0, none⟩) (hwA ▸ Kept.setCell (S := fun b => b = a2 ∨ b = a3 ∨ b = a4) (p := ⟨a2, 0, none⟩) KP11.out (Or.inl (Or.inl rfl)) _ : Kept (fun b => b = a2 ∨ b = a3 ∨ b = a4) w3 wA) (Or.inl (Or.inr (Or.inl rfl))) _ : Kept (fun b => b = a2 ∨ b = a3 ∨ b = a4) w3 wB) (Or.inl (Or.inr (Or.inr rfl))) _)
          have x1 : w11.cell? ⟨a2, 0, none⟩ = some (.slice A1 m1 cp1) := LI11.out.b1.cell 0
          have x2 : w11.cell? ⟨a3, 0, none⟩ = some (.slice A2 m2 cp2) := LI11.out.b2.cell 0
          have x3 : w11.cell? ⟨a4, 0, none⟩ = some (.slice A3 m3 cp3) := LI11.out.b3.cell 0
          have y2 : wA.cell? ⟨a3, 0, none⟩ = some (.slice A2 m2 cp2) := LA.b2.cell 0
          have y3 : wB.cell? ⟨a4, 0, none⟩ = some (.slice A3 m3 cp3) := LB.b3.cell 0
          have g1 := LI11.out.b1.frozen 0
          have g2 := LA.b2.frozen 0
          have g3 := LB.b3.frozen 0
          have HLC := Lib.hid LC
          clear LA LB LC
          go_wp2_with fail
          (try simp only [Exit.inBlock, Exit.then])
          refine bodyPost_ret (results_cell3 rfl _ _ _ rfl rfl rfl (loadVar47 HLC.out.b1) (loadVar47 HLC.out.b2) (loadVar47 HLC.out.b3)) rfl ?_
          have s1 : srt L1 = srt (idsOf s 7) := srt_eq Q1.out
          have s2 : srt L2 = srt (idsOf s 12) := srt_eq Q2.out
          have s3 : srt L3 = srt (idsOf s 17) := srt_eq Q3.out
          have HL := HLC.out
          rw [s1, s2, s3] at HL
          rw [HSv.out]
          exact ⟨base, a2, a3, a4, _, _, _, rfl, by have := HG.out.rb; have := K3.out.size; omega, HL, K3.out.inner KC.out (fun b e => Or.inr (by have := HA.out; omega))⟩
        · intro x c' kl y1 y2 w5 cnt1 hkey hlk hv hat hrg1 hlt hg1 hs1 hen
          obtain ⟨rfl, hwx⟩ := key3_inv hkey
          have hm : (x, c') ∈ s.kinds := HRd.out.one x c' (fun zd => (hat zd).trans (intR_val hv))
          have hnr : ¬ HS hb k1 k2 k3 k4 r := HNr.out
          have hstep := came_step HRd.out.nodup hm hlk
          have hknd := openR_kind ((mem_kinds HInv.out).1 hm).1
          rw [((mem_kinds HInv.out).1 hm).2] at hknd
          have HM := Lib.hid (HG.out.iter hnr hrg1 hg1 hstep)
          have HLt := Lib.hid hlt
          obtain ⟨y, hy⟩ : ∃ y, (aget s.ids x).getD 0 = y := ⟨_, rfl⟩
          have HY := Lib.hid hy
          clear hkey hlk hv hat hrg1 hg1 hs1 hm hstep hlt hy hnr
          rcases hknd with rfl | rfl | rfl
          · go_upto_region 16 with fail
            clear hen
            have dv : w5.cell? ⟨a2, 0, none⟩ = some v1 := HM.out.li.b1.cell 0
            have d4 : w5.cell? ⟨hb, 0 + 4, none⟩ = some (.map (some k2)) := HM.out.mem.box.cell 4
            have L0 : ∀ m, (Instr.lookup 80 (.map (some k2)) (.int .i64 x) false).run Tryd.prog (w5.drewN m) = .ok (.int .i64 y) (w5.drewN m) := by
              intro m
              have := (HM.out.mem.at_drewN m).ids.look hwx
              rw [HY.out] at this
              exact this
            have LL : (Instr.lookup 80 (.map (some k2)) (.int .i64 x) false).run Tryd.prog w5.drew = .ok (.int .i64 y) w5.drew := L0 1
            have hlen : L1.length ≤ 1000 := by
              have := HM.out.p1.length_eq
              have := pick_len s 7 left
              omega
            have dv2 : (w5.alloc (.cells #[.int .i64 y] 3)).cell? ⟨a2, 0, none⟩ = some v1 := (HM.out.li.b1.alloc _).cell 0
            have HLen := Lib.hid hlen
            clear hlen L0
            go_region_law (first
              | (refine step_append_num rfl (.tmp 42) (.tmp 49) rfl base v1 L1 (by rfl) (HM.out.li.o1.kept (show Kept NoBlk w5 _ from ((Kept.refl NoBlk w5).alloc _).drew) (fun b hb e => e)) w5.heap.size y (by rfl) ((Blk.new w5 3 #[.int .i64 y]).drew) HLen.out (by have := HM.out.bs; simp; omega) ?_; intro g cap w7 ho7 hk7 hg7; have HO7 := Lib.hid ho7; have HK7 := Lib.hid (show Kept (fun b => v1.ownBlock = some b) w5 w7 from (((Kept.refl _ w5).alloc _).drew).trans hk7); have HG7 := Lib.hid (show ∀ b, (Value.slice (some ⟨g, 0, none⟩) (L1.length + 1) cap).ownBlock = some b → v1.ownBlock = some b ∨ w5.heap.size ≤ b from by { intro b hb; have hb : g = b := Option.some.inj hb; subst hb; exact hg7.elim (fun e => Or.inl e) (fun e => Or.inr (by rw [e]; simp)) }); have HB7 := Lib.hid (HM.out.li.b1.kept HK7.out (fun e => by have := (HM.out.li.o1.lt e).1; have := HM.out.li.lt; omega)); have f7 := HB7.out.frozen 0; have dv7 : w7.cell? ⟨a2, 0, none⟩ = some v1 := HB7.out.cell 0; clear ho7 hk7 hg7))
            all_goals
              clear dv d4 LL dv2 dv7 f7
              go_wp2_with fail
              have hkS : Kept (fun b => b = a2 ∨ v1.ownBlock = some b) w5 (w7.setCell ⟨a2, 0, none⟩ (.slice (some ⟨g, 0, none⟩) (L1.length + 1) cap)) := Kept.setCell (S := fun b => b = a2 ∨ v1.ownBlock = some b) (p := ⟨a2, 0, none⟩) (HK7.out.mono (fun _ e => Or.inr e)) (Or.inl (Or.inl rfl)) _
              refine ⟨⟨_, _, _, _, _, _, _, _, HM.out.done1 hkS (HB7.out.set_ 0 _) ?_ HG7.out⟩, ?_⟩
              · rw [HY.out]
                exact HO7.out.kept (Kept.setCell (S := fun b => b = a2) (p := ⟨a2, 0, none⟩) (Kept.refl _ w7) (Or.inl rfl) _) (fun b hb e => by have h1 := (HO7.out.lt hb).1; have := HM.out.li.lt; omega)
              · rw [(HM.out.keep HM.out.ab.1 HM.out.li.o1 hkS).1.left_eq, HRg1.out.left_eq]
                exact HLt.out
          · go_upto_region 16 with fail
            clear hen
            have dv : w5.cell? ⟨a3, 0, none⟩ = some v2 := HM.out.li.b2.cell 0
            have d4 : w5.cell? ⟨hb, 0 + 4, none⟩ = some (.map (some k2)) := HM.out.mem.box.cell 4
            have L0 : ∀ m, (Instr.lookup 80 (.map (some k2)) (.int .i64 x) false).run Tryd.prog (w5.drewN m) = .ok (.int .i64 y) (w5.drewN m) := by
              intro m
              have := (HM.out.mem.at_drewN m).ids.look hwx
              rw [HY.out] at this
              exact this
            have LL : (Instr.lookup 80 (.map (some k2)) (.int .i64 x) false).run Tryd.prog w5.drew = .ok (.int .i64 y) w5.drew := L0 1
            have hlen : L2.length ≤ 1000 := by
              have := HM.out.p2.length_eq
              have := pick_len s 12 left
              omega
            have dv2 : (w5.alloc (.cells #[.int .i64 y] 3)).cell? ⟨a3, 0, none⟩ = some v2 := (HM.out.li.b2.alloc _).cell 0
            have HLen := Lib.hid hlen
            clear hlen L0
            go_region_law (first
              | (refine step_append_num rfl (.tmp 42) (.tmp 49) rfl base v2 L2 (by rfl) (HM.out.li.o2.kept (show Kept NoBlk w5 _ from ((Kept.refl NoBlk w5).alloc _).drew) (fun b hb e => e)) w5.heap.size y (by rfl) ((Blk.new w5 3 #[.int .i64 y]).drew) HLen.out (by have := HM.out.bs; simp; omega) ?_; intro g cap w7 ho7 hk7 hg7; have HO7 := Lib.hid ho7; have HK7 := Lib.hid (show Kept (fun b => v2.ownBlock = some b) w5 w7 from (((Kept.refl _ w5).alloc _).drew).trans hk7); have HG7 := Lib.hid (show ∀ b, (Value.slice (some ⟨g, 0, none⟩) (L2.length + 1) cap).ownBlock = some b → v2.ownBlock = some b ∨ w5.heap.size ≤ b from by { intro b hb; have hb : g = b := Option.some.inj hb; subst hb; exact hg7.elim (fun e => Or.inl e) (fun e => Or.inr (by rw [e]; simp)) }); have HB7 := Lib.hid (HM.out.li.b2.kept HK7.out (fun e => by have := (HM.out.li.o2.lt e).1; have := HM.out.li.lt; omega)); have f7 := HB7.out.frozen 0; have dv7 : w7.cell? ⟨a3, 0, none⟩ = some v2 := HB7.out.cell 0; clear ho7 hk7 hg7))
            all_goals
              clear dv d4 LL dv2 dv7 f7
              go_wp2_with fail
              have hkS : Kept (fun b => b = a3 ∨ v2.ownBlock = some b) w5 (w7.setCell ⟨a3, 0, none⟩ (.slice (some ⟨g, 0, none⟩) (L2.length + 1) cap)) := Kept.setCell (S := fun b => b = a3 ∨ v2.ownBlock = some b) (p := ⟨a3, 0, none⟩) (HK7.out.mono (fun _ e => Or.inr e)) (Or.inl (Or.inl rfl)) _
              refine ⟨⟨_, _, _, _, _, _, _, _, HM.out.done2 hkS (HB7.out.set_ 0 _) ?_ HG7.out⟩, ?_⟩
              · rw [HY.out]
                exact HO7.out.kept (Kept.setCell (S := fun b => b = a3) (p := ⟨a3, 0, none⟩) (Kept.refl _ w7) (Or.inl rfl) _) (fun b hb e => by have h1 := (HO7.out.lt hb).1; have := HM.out.li.lt; omega)
              · rw [(HM.out.keep HM.out.ab.2.1 HM.out.li.o2 hkS).1.left_eq, HRg1.out.left_eq]
                exact HLt.out
          · go_upto_region 16 with fail
            clear hen
            have dv : w5.cell? ⟨a4, 0, none⟩ = some v3 := HM.out.li.b3.cell 0
            have d4 : w5.cell? ⟨hb, 0 + 4, none⟩ = some (.map (some k2)) := HM.out.mem.box.cell 4
            have L0 : ∀ m, (Instr.lookup 80 (.map (some k2)) (.int .i64 x) false).run Tryd.prog (w5.drewN m) = .ok (.int .i64 y) (w5.drewN m) := by
              intro m
              have := (HM.out.mem.at_drewN m).ids.look hwx
              rw [HY.out] at this
              exact this
            have LL : (Instr.lookup 80 (.map (some k2)) (.int .i64 x) false).run Tryd.prog w5.drew = .ok (.int .i64 y) w5.drew := L0 1
            have hlen : L3.length ≤ 1000 := by
              have := HM.out.p3.length_eq
              have := pick_len s 17 left
              omega
            have dv2 : (w5.alloc (.cells #[.int .i64 y] 3)).cell? ⟨a4, 0, none⟩ = some v3 := (HM.out.li.b3.alloc _).cell 0
            have HLen := Lib.hid hlen
            clear hlen L0
            go_region_law (first
              | (refine step_append_num rfl (.tmp 42) (.tmp 49) rfl base v3 L3 (by rfl) (HM.out.li.o3.kept (show Kept NoBlk w5 _ from ((Kept.refl NoBlk w5).alloc _).drew) (fun b hb e => e)) w5.heap.size y (by rfl) ((Blk.new w5 3 #[.int .i64 y]).drew) HLen.out (by have := HM.out.bs; simp; omega) ?_; intro g cap w7 ho7 hk7 hg7; have HO7 := Lib.hid ho7; have HK7 := Lib.hid (show Kept (fun b => v3.ownBlock = some b) w5 w7 from (((Kept.refl _ w5).alloc _).drew).trans hk7); have HG7 := Lib.hid (show ∀ b, (Value.slice (some ⟨g, 0, none⟩) (L3.length + 1) cap).ownBlock = some b → v3.ownBlock = some b ∨ w5.heap.size ≤ b from by { intro b hb; have hb : g = b := Option.some.inj hb; subst hb; exact hg7.elim (fun e => Or.inl e) (fun e => Or.inr (by rw [e]; simp)) }); have HB7 := Lib.hid (HM.out.li.b3.kept HK7.out (fun e => by have := (HM.out.li.o3.lt e).1; have := HM.out.li.lt; omega)); have f7 := HB7.out.frozen 0; have dv7 : w7.cell? ⟨a4, 0, none⟩ = some v3 := HB7.out.cell 0; clear ho7 hk7 hg7))
            all_goals
              clear dv d4 LL dv2 dv7 f7
              go_wp2_with fail
              have hkS : Kept (fun b => b = a4 ∨ v3.ownBlock = some b) w5 (w7.setCell ⟨a4, 0, none⟩ (.slice (some ⟨g, 0, none⟩) (L3.length + 1) cap)) := Kept.setCell (S := fun b => b = a4 ∨ v3.ownBlock = some b) (p := ⟨a4, 0, none⟩) (HK7.out.mono (fun _ e => Or.inr e)) (Or.inl (Or.inl rfl)) _
              refine ⟨⟨_, _, _, _, _, _, _, _, HM.out.done3 hkS (HB7.out.set_ 0 _) ?_ HG7.out⟩, ?_⟩
              · rw [HY.out]
                exact HO7.out.kept (Kept.setCell (S := fun b => b = a4) (p := ⟨a4, 0, none⟩) (Kept.refl _ w7) (Or.inl rfl) _) (fun b hb e => by have h1 := (HO7.out.lt hb).1; have := HM.out.li.lt; omega)
              · rw [(HM.out.keep HM.out.ab.2.2 HM.out.li.o3 hkS).1.left_eq, HRg1.out.left_eq]
                exact HLt.out
end Go.Proofs.YtndnbjpcjlbcjaaDoor
