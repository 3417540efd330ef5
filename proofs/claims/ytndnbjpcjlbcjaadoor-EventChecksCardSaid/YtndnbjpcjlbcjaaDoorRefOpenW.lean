/- The document's Open: the walk. -/
import Derived.Test.YtndnbjpcjlbcjaaDoorRefOpen
import Derived.Deep.CutBlock
import Derived.Deep.CutRange
namespace Go.Proofs.YtndnbjpcjlbcjaaDoor
open Go.RowKit Go.Maps

def tw (out : List Int) (x : Int) : Nat := (out.takeWhile (fun y => decide (y < x))).length
theorem tw_le (out : List Int) (x : Int) : tw out x ≤ out.length := (List.takeWhile_sublist _).length_le
theorem tw_stop : ∀ {out : List Int} {x : Int} {j : Nat}, (∀ i y, i < j → out[i]? = some y → y < x) → j ≤ out.length → (∀ y, out[j]? = some y → ¬ y < x) → tw out x = j
  | [], x, j, _, hj, _ => by
    have : j = 0 := by simpa using hj
    subst this
    rfl
  | a :: out, x, 0, _, _, h => by
    have ha := h a rfl
    unfold tw
    rw [List.takeWhile_cons, if_neg (by simpa using ha)]
    rfl
  | a :: out, x, j + 1, h1, hj, h2 => by
    have ha := h1 0 a (by omega) rfl
    have ih := tw_stop (out := out) (x := x) (j := j) (fun i y hi hy => h1 (i + 1) y (by omega) (by simpa using hy)) (by simpa using hj) (fun y hy => h2 y (by simpa using hy))
    unfold tw at ih ⊢
    rw [List.takeWhile_cons, if_pos (by simpa using ha), List.length_cons, ih]

def ROpenEnd (ts : List Int) (w : World) (e : Ending) (w' : World) : Prop := ∃ A n c, e = .returned (.slice A n c) ∧ RdN w' A n ts ∧ Kept NoBlk w w'

set_option maxRecDepth 100000 in
set_option maxHeartbeats 4000000 in
theorem refopen_any (A : Option Addr) (n c : Nat) (xs : List EvD) (w : World) (h : Evs w A n xs) (hn : n ≤ 1000) (q : Int) : Calls Tryd.prog 27 #[.slice A n c, .int .i64 q] w (ROpenEnd (openN xs q xs.length) w) := by
  have HE := Lib.hid h
  clear h
  obtain ⟨base, hbase⟩ : ∃ base, w.heap.size = base := ⟨_, rfl⟩
  have HBs := Lib.hid hbase
  go_enter Tryd.func27, Tryd.ntmps27
  clear hbase
  go_wp2_with fail
  go_loopg [5, 6] n (fun g u v wr => ∃ k : Nat, g + k = n ∧ v = .int .i64 k ∧ OwnI wr base u (openN xs q k) ∧ Kept NoBlk w wr)
  case atStart => exact ⟨0, by omega, rfl, OwnI.nil_ _ _, Kept.refl _ _⟩
  case round =>
    obtain ⟨k, hgk, rfl, hown, hrel⟩ := hrel
    obtain ⟨A1, m1, c1, rfl⟩ := hown.form
    obtain ⟨wx, hwx⟩ : ∃ wx, wr = wx := ⟨_, rfl⟩
    rw [hwx] at hrel hown
    have Hgk := Lib.hid hgk
    have HK := Lib.hid hrel
    have HO := Lib.hid hown
    rw [hwx]
    have hkn : k ≤ n := by omega
    have HKn := Lib.hid hkn
    clear hgk hrel hown hwx hkn
    by_cases hlt : k < n
    · obtain ⟨b, off, a, v, hA, ha, hev⟩ := HE.out.at_ hlt
      subst hA
      have H := Lib.hid (HE.out.kept HK.out (NoCells.none _))
      have hev := hev.kept HK.out (NoCells.none _)
      have HEv := Lib.hid hev
      have c0 := hev.1
      have c3 := hev.2.2.2.1
      have hnext := openN_next (q := q) ha
      obtain ⟨ki, hki⟩ : ∃ x, a.kind = x := ⟨_, rfl⟩
      obtain ⟨id, hid⟩ : ∃ x, a.id = x := ⟨_, rfl⟩
      obtain ⟨ob, hob⟩ : ∃ x, openR xs ((k : Int) + 1) = x := ⟨_, rfl⟩
      have hop := fun (W : World) (H : Evs W (some ⟨b, off, none⟩) n xs) => open37_any (some ⟨b, off, none⟩) n c xs W H ((k : Int) + 1)
      simp only [hob] at hop
      rw [hki] at c0 hnext
      rw [hid] at c3 hnext
      rw [hob] at hnext
      have HOp := Lib.hid hop
      have HNx := Lib.hid hnext
      have z3 : (0 : Int) ≤ (k : Int) := by omega
      have z4 : (k : Int) < (n : Int) := by omega
      have HId := Lib.hid (show wx.cell? ⟨b, off + k * 7 + 3, none⟩ = some (.int .i64 id) from c3)
      clear hop hob hid hki ha hev hnext c3
      by_cases bq : ki = q
      rotate_left
      · have bq2 : (ki == q) = false := by simpa using bq
        have bq3 : (ki != q) = true := by rw [bne, bq2]; rfl
        have HB := Lib.hid bq
        clear bq
        go_wp2_with fail
        go_roundg (n - (k + 1))
        case measure => have := Hgk.out; omega
        case rel => exact ⟨k + 1, by omega, by go_num, by rw [HNx.out, if_neg (fun h => HB.out h.1)]; exact HO.out, HK.out⟩
      have bq2 : (ki == q) = true := by simpa using bq
      have bq3 : (ki != q) = false := by rw [bne, bq2]; rfl
      have HB := Lib.hid bq
      clear bq
      go_wp2_with fail
      refine (HOp.out _ H.out).mono ?_
      rintro e2 w2 ⟨rfl, hk2⟩
      have HK2 := Lib.hid hk2
      clear hk2
      cases ob
      · go_wp2_with fail
        go_roundg (n - (k + 1))
        case measure => have := Hgk.out; omega
        case rel => exact ⟨k + 1, by omega, by go_num, by rw [HNx.out, if_neg (fun h => by cases h.2)]; exact HO.out.kept HK2.out (fun b hb e => e), HK.out.trans HK2.out⟩
      have hnx2 : openN xs q (k + 1) = insR (openN xs q k) id := by rw [HNx.out, if_pos ⟨HB.out, rfl⟩]
      have HNx2 := Lib.hid hnx2
      have hlen := openN_len xs q k
      obtain ⟨out, hout⟩ : ∃ out, openN xs q k = out := ⟨_, rfl⟩
      rw [hout] at hlen HNx2
      have HO2 := Lib.hid (show OwnI w2 base (.slice A1 m1 c1) out from by rw [← hout]; exact HO.out.kept HK2.out (fun b hb e => e))
      have HRd := Lib.hid (HO2.out.rd (by omega))
      have hm1 : out.length = m1 := HRd.out.1
      have HLen := Lib.hid (show out.length ≤ 1000 from by omega)
      have HM1 := Lib.hid hm1
      have d3 : w2.cell? ⟨b, off + k * 7 + 3, none⟩ = some (.int .i64 id) := HK2.out.cell HId.out (fun e => e.elim)
      have hm1k : m1 ≤ 1000 := by omega
      clear hnx2 hout hlen hm1 c0
      rcases HO2.out.2 with ⟨hv, hv0⟩ | ⟨g, cap, cur, hv, _, _, hle, hcap, _, _⟩
      rotate_left
      · injection hv with e1 e2 e3
        subst e1 e3
        have HCap := Lib.hid (show m1 ≤ c1 ∧ c1 ≤ maxLen from by rw [← HM1.out]; exact ⟨hle, hcap⟩)
        have hc1 : (m1 : Int) ≤ (c1 : Int) := by have := HCap.out.1; omega
        clear hle hcap e2
        go_upto_block 2 with fail
        go_cut [7] from 9 to 63 (fun v wz => (∃ j : Nat, v = .int .i64 j ∧ j ≤ m1 ∧ tw out id = j) ∧ Kept NoBlk w2 wz)
        case first =>
          go_wp2_with fail
          go_loopg [7] (m1 + 1) (fun g v wr => ∃ j : Nat, g + j = m1 + 1 ∧ j ≤ m1 ∧ v = .int .i64 j ∧ (∀ i y, i < j → out[i]? = some y → y < id) ∧ Kept NoBlk w2 wr)
          case atStart => exact ⟨0, by omega, by omega, rfl, fun i y hi => absurd hi (by omega), Kept.refl _ _⟩
          case round =>
            obtain ⟨j, hgj, hjm, rfl, hall, hkr⟩ := hrel
            obtain ⟨wy, hwy⟩ : ∃ wy, wr = wy := ⟨_, rfl⟩
            rw [hwy] at hkr
            have Hgj := Lib.hid hgj
            have HAll := Lib.hid hall
            have HKr := Lib.hid hkr
            have HJm := Lib.hid hjm
            rw [hwy]
            have HRdj := Lib.hid (HRd.out.kept HKr.out (NoCells.none _))
            have d3 : wy.cell? ⟨b, off + k * 7 + 3, none⟩ = some (.int .i64 id) := HKr.out.cell (HK2.out.cell HId.out (fun e => e.elim)) (fun e => e.elim)
            clear hgj hall hkr hwy
            by_cases hjl : j < m1
            · obtain ⟨g', off1, y, hA1, hy, cy⟩ := HRdj.out.at_ hjl
              cases hA1
              rw [Nat.zero_add] at cy
              have HY := Lib.hid hy
              have y3 : (0 : Int) ≤ (j : Int) := by omega
              have y4 : (j : Int) < (m1 : Int) := by omega
              clear hy
              by_cases hyx : y < id
              · have hyd : decide (y < id) = true := decide_eq_true hyx
                have HYx := Lib.hid hyx
                clear hyx
                go_wp2_with fail
                go_quiet (fail)
                go_wp2_with fail
                go_roundg (m1 + 1 - (j + 1))
                case measure => have := Hgj.out; omega
                case rel =>
                  refine ⟨j + 1, by omega, by omega, by go_num, ?_, by first | exact HKr.out.drewN _ | exact HKr.out⟩
                  intro i z hi hz
                  by_cases hij : i = j
                  · subst hij
                    have := HY.out
                    rw [hz] at this
                    cases this
                    exact HYx.out
                  · exact HAll.out i z (by omega) hz
              · have hyd : decide (y < id) = false := decide_eq_false hyx
                have htw := tw_stop (out := out) (x := id) (j := j) HAll.out (by rw [HM1.out]; exact HJm.out) (fun z hz => by have := HY.out; rw [hz] at this; cases this; exact hyx)
                have HTw := Lib.hid htw
                clear htw hyx
                go_wp2_with fail
                go_quiet (fail)
                go_wp2_with fail
                go_meet
                exact ⟨⟨j, rfl, HJm.out, HTw.out⟩, by first | exact HKr.out.drewN _ | exact HKr.out⟩
            · have hjl2 : ¬ (j : Int) < (m1 : Int) := fun h => hjl (by omega)
              have htw := tw_stop (out := out) (x := id) (j := j) HAll.out (by rw [HM1.out]; exact HJm.out) (fun z hz => by have := (List.getElem?_eq_some_iff.1 hz).1; rw [HM1.out] at this; omega)
              have HTw := Lib.hid htw
              clear htw
              go_wp2_with fail
              go_quiet (fail)
              go_wp2_with fail
              go_meet
              exact ⟨⟨j, rfl, HJm.out, HTw.out⟩, by first | exact HKr.out.drewN _ | exact HKr.out⟩
        case rest =>
          obtain ⟨⟨j, hv, hjm, htw⟩, hkr⟩ := hcut
          rw [hv]
          obtain ⟨wq, hwq⟩ : ∃ wq, wc = wq := ⟨_, rfl⟩
          rw [hwq] at hkr ⊢
          have HJm := Lib.hid hjm
          have HTw := Lib.hid htw
          have KQ := Lib.hid hkr
          clear hv hwq hjm htw hkr d3
          have j1 : (j : Int) ≤ (m1 : Int) := by have := HJm.out; omega
          have j2 : (j : Int) ≤ (c1 : Int) := by have := HJm.out; have := HCap.out.1; omega
          have j3 : (0 : Int) ≤ (j : Int) := by omega
          go_upto_region 9 with fail
          have OQ := Lib.hid (HO2.out.kept KQ.out (fun b hb e => e))
          have dq : wq.cell? ⟨b, off + k * 7 + 3, none⟩ = some (.int .i64 id) := KQ.out.cell (HK2.out.cell HId.out (fun e => e.elim)) (fun e => e.elim)
          have DQ := Lib.hid dq
          have HBq := Lib.hid (show base ≤ wq.heap.size from by have := (HK.out.trans (HK2.out.trans KQ.out)).size; have := HBs.out; omega)
          have SRC := Lib.hid (show SrcN wq (some ⟨g, 0, none⟩) j c1 (out.take j) from OQ.out.src HJm.out)
          clear dq
          go_cut [8] from 9 to 63 (fun u wz => (∃ g5 c5, u = .slice (some ⟨g5, 0, none⟩) (j + 1) c5 ∧ OwnI wz base (.slice (some ⟨g5, 0, none⟩) (j + 1) c5) (out.take j ++ [id])) ∧ Kept NoBlk wq wz)
          case first =>
           go_region_held3 (fun w' => w'.cell? ⟨b, off + k * 7 + 3, none⟩ = some (.int .i64 id))
            (first
              | exact DQ.out
              | exact (show Kept NoBlk wq _ from ((Kept.refl NoBlk wq).alloc _).drew).cell DQ.out (fun e => e.elim)
              | exact (show Kept NoBlk wq _ from (((Kept.refl NoBlk wq).alloc _).alloc _).drew).cell DQ.out (fun e => e.elim)
              | exact K4.out.cell DQ.out (fun e => e.elim)
              | exact (K4.out.alloc _).cell DQ.out (fun e => e.elim)
              | exact K5.out.cell DQ.out (fun e => e.elim))
            (first
              | (refine step_append_rdn rfl (.tmp 47) (.tmp 50) rfl wq.heap.size (.slice (some ⟨wq.heap.size, 0, none⟩) 0 0) [] (by rfl) (own_emptyI (g := wq.heap.size) (base := wq.heap.size) ((Blk.new wq 3 #[]).drew) (by omega)) (some ⟨g, 0, none⟩) j c1 (by rfl) (out.take j) (SrcN.kept SRC.out (((Kept.refl NoBlk wq).alloc _).drew)) (by have := HJm.out; simp; omega) (by first | (simp; done) | (simp; omega)) ?_; intro A4 m4 c4 w4 ho4 hk4; have O4 := Lib.hid (show OwnI w4 wq.heap.size (.slice A4 m4 c4) (out.take j) by simpa using ho4); have K4 := Lib.hid (show Kept NoBlk wq w4 from Kept.inner (((Kept.refl NoBlk wq).alloc _).drew) hk4 (fun k hk => Or.inr (by cases hk; first | exact Nat.le_refl _ | exact Nat.le_succ _))); have U4 := Lib.hid hk4; clear ho4 hk4)
              | (refine step_append_rdn rfl (.tmp 47) (.tmp 50) rfl wq.heap.size (.slice (some ⟨wq.heap.size, 0, none⟩) 0 0) [] (by rfl) (own_emptyI (g := wq.heap.size) (base := wq.heap.size) (((Blk.new wq 3 #[]).alloc _).drew) (by omega)) (some ⟨g, 0, none⟩) j c1 (by rfl) (out.take j) (SrcN.kept SRC.out ((((Kept.refl NoBlk wq).alloc _).alloc _).drew)) (by have := HJm.out; simp; omega) (by first | (simp; done) | (simp; omega)) ?_; intro A4 m4 c4 w4 ho4 hk4; have O4 := Lib.hid (show OwnI w4 wq.heap.size (.slice A4 m4 c4) (out.take j) by simpa using ho4); have K4 := Lib.hid (show Kept NoBlk wq w4 from Kept.inner ((((Kept.refl NoBlk wq).alloc _).alloc _).drew) hk4 (fun k hk => Or.inr (by cases hk; first | exact Nat.le_refl _ | exact Nat.le_succ _))); have U4 := Lib.hid hk4; have B4 := Lib.hid (show Blk w4 (wq.heap.size + 1) 3 #[.int .i64 id] from (show Blk _ (wq.heap.size + 1) 3 #[.int .i64 id] from by have := (Blk.new (wq.alloc (.cells #[] 3)) 3 #[.int .i64 id]).drew; simpa using this).kept U4.out (by intro h; have h := Option.some.inj h; have h2 : (wq.heap.size : Nat) = wq.heap.size + 1 := h; omega)); clear ho4 hk4)
              | (refine step_append_rdn rfl (.tmp 47) (.tmp 50) rfl wq.heap.size (.slice (some ⟨(wq.heap.size + 1), 0, none⟩) 0 0) [] (by rfl) (own_emptyI (g := (wq.heap.size + 1)) (base := wq.heap.size) (by have := (Blk.new (wq.alloc (.cells #[.int .i64 id] 3)) 3 #[]).drew; simpa using this) (by omega)) (some ⟨g, 0, none⟩) j c1 (by rfl) (out.take j) (SrcN.kept SRC.out ((((Kept.refl NoBlk wq).alloc _).alloc _).drew)) (by have := HJm.out; simp; omega) (by first | (simp; done) | (simp; omega)) ?_; intro A4 m4 c4 w4 ho4 hk4; have O4 := Lib.hid (show OwnI w4 wq.heap.size (.slice A4 m4 c4) (out.take j) by simpa using ho4); have K4 := Lib.hid (show Kept NoBlk wq w4 from Kept.inner ((((Kept.refl NoBlk wq).alloc _).alloc _).drew) hk4 (fun k hk => Or.inr (by cases hk; first | exact Nat.le_refl _ | exact Nat.le_succ _))); have U4 := Lib.hid hk4; have B4 := Lib.hid (show Blk w4 wq.heap.size 3 #[.int .i64 id] from (show Blk _ wq.heap.size 3 #[.int .i64 id] from ((Blk.new wq 3 #[.int .i64 id]).alloc _).drew).kept U4.out (by intro h; have h := Option.some.inj h; have h2 : (wq.heap.size + 1 : Nat) = wq.heap.size := h; omega)); clear ho4 hk4)
              | (refine step_append_num rfl (.tmp 51) (.tmp 57) rfl wq.heap.size _ (out.take j) (by rfl) (O4.out.kept ((Kept.refl NoBlk w4).alloc _) (fun b hb e => e)) _ id (by rfl) (Blk.new w4 3 _) (by have := HJm.out; rw [List.length_take]; omega) (by first | exact K4.out.size | (simp; exact Nat.le_succ_of_le K4.out.size)) ?_; intro g5 c5 w5 ho5 hk5 hg5; have O5 := Lib.hid ho5; have K5 := Lib.hid (show Kept NoBlk wq w5 from (K4.out.trans ((Kept.refl NoBlk w4).alloc _)).inner hk5 (fun k hk => Or.inr (O4.out.lt hk).1)); clear ho5 hk5 hg5)
              | (refine step_append_num rfl (.tmp 51) (.tmp 57) rfl wq.heap.size _ (out.take j) (by rfl) (O4.out.kept (Kept.refl NoBlk w4) (fun b hb e => e)) _ id (by rfl) (B4.out) (by have := HJm.out; rw [List.length_take]; omega) (by first | exact K4.out.size | (simp; exact Nat.le_succ_of_le K4.out.size)) ?_; intro g5 c5 w5 ho5 hk5 hg5; have O5 := Lib.hid ho5; have K5 := Lib.hid (show Kept NoBlk wq w5 from (K4.out.trans (Kept.refl NoBlk w4)).inner hk5 (fun k hk => Or.inr (O4.out.lt hk).1)); clear ho5 hk5 hg5))
           all_goals
            have htj : (out.take j).length = j := by have := HJm.out; have := HM1.out; rw [List.length_take]; omega
            have hmin : min j out.length = j := by have := HJm.out; have := HM1.out; omega
            have O5b := O5.out
            rw [htj] at O5b
            have O6 := Lib.hid (O5b.base_le HBq.out)
            rw [hmin]
            clear htj hmin O5b
            go_wp2_with fail
            go_meet
            exact ⟨⟨_, _, rfl, O6.out⟩, K5.out⟩
          case rest =>
            obtain ⟨⟨g5, c5, hv, ho6⟩, hk5⟩ := hcut
            rw [hv]
            obtain ⟨w5, hw5⟩ : ∃ w5, wc = w5 := ⟨_, rfl⟩
            rw [hw5] at ho6 hk5 ⊢
            have O6 := Lib.hid ho6
            have K5 := Lib.hid hk5
            have OX := Lib.hid (OQ.out.kept K5.out (fun b hb e => e))
            have KW := Lib.hid (((HK.out.trans HK2.out).trans KQ.out).trans K5.out)
            have HT1 := Lib.hid (show (out.take j ++ [id]).length = j + 1 from by have := HJm.out; have := HM1.out; rw [List.length_append, List.length_take]; simp; omega)
            clear hv hw5 ho6 hk5
            by_cases hcj : j < c1
            · have j4 : ¬ c1 - j = 0 := by omega
              go_wp2_with (at_builtin; (refine wpList_append_rdn rfl (.tmp 59) (.tmp 62) rfl base (.slice (some ⟨g5, 0, none⟩) (j + 1) c5) (out.take j ++ [id]) (by rfl) O6.out (some ⟨g, j, none⟩) (m1 - j) (c1 - j) (by rfl) (out.drop j) (OX.out.src2 HJm.out) (by have := HT1.out; have := HJm.out; omega) (by have := HBq.out; have := K5.out.size; omega) ?_); intro A6 m6 c6 w6 ho6 hk6)
              have HO6 := Lib.hid ho6
              have HK6 := Lib.hid (KW.out.inner hk6 (fun b e => Or.inr (by have h1 := (O6.out.lt e).1; have := HBs.out; omega)))
              clear ho6 hk6
              go_wp2_with fail
              go_roundg (n - (k + 1))
              case measure => have := Hgk.out; omega
              case rel =>
                refine ⟨k + 1, by omega, by go_num, ?_, HK6.out⟩
                have e : insR out id = out.take j ++ [id] ++ out.drop j := by
                  unfold insR
                  rw [show (out.takeWhile (fun y => decide (y < id))).length = j from HTw.out]
                  simp
                rw [HNx2.out, e]
                exact HO6.out
            · have hcj2 : c1 = j := by have := HJm.out; have := HCap.out.1; omega
              have hmj2 : m1 = j := by have := HJm.out; have := HCap.out.1; omega
              have j4 : c1 - j = 0 := by omega
              have j5 : m1 - j = 0 := by omega
              clear hcj
              have j6 : (m1 : Int) = (j : Int) := by omega
              have hdr : out.drop j = [] := List.drop_eq_nil_of_le (by have := HM1.out; omega)
              have HDr := Lib.hid hdr
              clear hdr hcj2 hmj2
              go_wp2_with (at_builtin; refine wpList_append_rdn rfl (.tmp 59) (.tmp 62) rfl base (.slice (some ⟨g5, 0, none⟩) (j + 1) c5) (out.take j ++ [id]) (by rfl) O6.out (some ⟨g, 0, none⟩) 0 0 (by rfl) [] (SrcN.nil_ _ _ _ (fun e => by cases e)) (by have := HT1.out; have := HJm.out; omega) (by have := HBq.out; have := K5.out.size; omega) ?_; intro A6 m6 c6 w6 ho6 hk6)
              have HO6 := Lib.hid ho6
              have HK6 := Lib.hid (KW.out.inner hk6 (fun b e => Or.inr (by have h1 := (O6.out.lt e).1; have := HBs.out; omega)))
              clear ho6 hk6
              go_wp2_with fail
              go_roundg (n - (k + 1))
              case measure => have := Hgk.out; omega
              case rel =>
                refine ⟨k + 1, by omega, by go_num, ?_, HK6.out⟩
                have e : insR out id = out.take j ++ [id] ++ [] := by
                  unfold insR
                  rw [show (out.takeWhile (fun y => decide (y < id))).length = j from HTw.out, HDr.out]
                  simp
                rw [HNx2.out, e]
                exact HO6.out
      · injection hv with e1 e2 e3
        subst e1 e2 e3
        have hout0 : out = [] := List.length_eq_zero_iff.1 hv0
        subst hout0
        go_upto_block 2 with fail
        go_cut [7] from 9 to 63 (fun v wz => v = .int .i64 0 ∧ Kept NoBlk w2 wz)
        case first =>
          go_wp2_with fail
          go_loopg [7] 1 (fun g v wr => v = .int .i64 0 ∧ Kept NoBlk w2 wr)
          case atStart => exact ⟨rfl, Kept.refl _ _⟩
          case round =>
            obtain ⟨rfl, hkr⟩ := hrel
            have HKr := Lib.hid hkr
            clear hkr
            go_wp2_with fail
            go_quiet (fail)
            go_wp2_with fail
            go_meet
            exact ⟨rfl, by first | exact HKr.out.drewN _ | exact HKr.out⟩
        case rest =>
          obtain ⟨hv2, hkr⟩ := hcut
          rw [hv2]
          obtain ⟨wq, hwq⟩ : ∃ wq, wc = wq := ⟨_, rfl⟩
          rw [hwq] at hkr ⊢
          have HJm := Lib.hid (Nat.le_refl 0)
          have KQ := Lib.hid hkr
          clear hv2 hwq hkr d3
          go_upto_region 9 with fail
          have OQ := Lib.hid (HO2.out.kept KQ.out (fun b hb e => e))
          have dq : wq.cell? ⟨b, off + k * 7 + 3, none⟩ = some (.int .i64 id) := KQ.out.cell (HK2.out.cell HId.out (fun e => e.elim)) (fun e => e.elim)
          have DQ := Lib.hid dq
          have HBq := Lib.hid (show base ≤ wq.heap.size from by have := (HK.out.trans (HK2.out.trans KQ.out)).size; have := HBs.out; omega)
          have SRC := Lib.hid (show SrcN wq none 0 0 (([] : List Int).take 0) from SrcN.nil_ _ _ _ (fun _ => rfl))
          clear dq
          go_cut [8] from 9 to 63 (fun u wz => (∃ g5 c5, u = .slice (some ⟨g5, 0, none⟩) 1 c5 ∧ OwnI wz base (.slice (some ⟨g5, 0, none⟩) 1 c5) (([] : List Int).take 0 ++ [id])) ∧ Kept NoBlk wq wz)
          case first =>
           go_region_held3 (fun w' => w'.cell? ⟨b, off + k * 7 + 3, none⟩ = some (.int .i64 id))
            (first
              | exact DQ.out
              | exact (show Kept NoBlk wq _ from ((Kept.refl NoBlk wq).alloc _).drew).cell DQ.out (fun e => e.elim)
              | exact (show Kept NoBlk wq _ from (((Kept.refl NoBlk wq).alloc _).alloc _).drew).cell DQ.out (fun e => e.elim)
              | exact K4.out.cell DQ.out (fun e => e.elim)
              | exact (K4.out.alloc _).cell DQ.out (fun e => e.elim)
              | exact K5.out.cell DQ.out (fun e => e.elim))
            (first
              | (refine step_append_rdn rfl (.tmp 47) (.tmp 50) rfl wq.heap.size (.slice (some ⟨wq.heap.size, 0, none⟩) 0 0) [] (by rfl) (own_emptyI (g := wq.heap.size) (base := wq.heap.size) ((Blk.new wq 3 #[]).drew) (by omega)) none 0 0 (by rfl) (([] : List Int).take 0) (SrcN.kept SRC.out (((Kept.refl NoBlk wq).alloc _).drew)) (by decide) (by first | (simp; done) | (simp; omega)) ?_; intro A4 m4 c4 w4 ho4 hk4; have O4 := Lib.hid (show OwnI w4 wq.heap.size (.slice A4 m4 c4) (([] : List Int).take 0) by simpa using ho4); have K4 := Lib.hid (show Kept NoBlk wq w4 from Kept.inner (((Kept.refl NoBlk wq).alloc _).drew) hk4 (fun k hk => Or.inr (by cases hk; first | exact Nat.le_refl _ | exact Nat.le_succ _))); have U4 := Lib.hid hk4; clear ho4 hk4)
              | (refine step_append_rdn rfl (.tmp 47) (.tmp 50) rfl wq.heap.size (.slice (some ⟨wq.heap.size, 0, none⟩) 0 0) [] (by rfl) (own_emptyI (g := wq.heap.size) (base := wq.heap.size) (((Blk.new wq 3 #[]).alloc _).drew) (by omega)) none 0 0 (by rfl) (([] : List Int).take 0) (SrcN.kept SRC.out ((((Kept.refl NoBlk wq).alloc _).alloc _).drew)) (by decide) (by first | (simp; done) | (simp; omega)) ?_; intro A4 m4 c4 w4 ho4 hk4; have O4 := Lib.hid (show OwnI w4 wq.heap.size (.slice A4 m4 c4) (([] : List Int).take 0) by simpa using ho4); have K4 := Lib.hid (show Kept NoBlk wq w4 from Kept.inner ((((Kept.refl NoBlk wq).alloc _).alloc _).drew) hk4 (fun k hk => Or.inr (by cases hk; first | exact Nat.le_refl _ | exact Nat.le_succ _))); have U4 := Lib.hid hk4; have B4 := Lib.hid (show Blk w4 (wq.heap.size + 1) 3 #[.int .i64 id] from (show Blk _ (wq.heap.size + 1) 3 #[.int .i64 id] from by have := (Blk.new (wq.alloc (.cells #[] 3)) 3 #[.int .i64 id]).drew; simpa using this).kept U4.out (by intro h; have h := Option.some.inj h; have h2 : (wq.heap.size : Nat) = wq.heap.size + 1 := h; omega)); clear ho4 hk4)
              | (refine step_append_rdn rfl (.tmp 47) (.tmp 50) rfl wq.heap.size (.slice (some ⟨(wq.heap.size + 1), 0, none⟩) 0 0) [] (by rfl) (own_emptyI (g := (wq.heap.size + 1)) (base := wq.heap.size) (by have := (Blk.new (wq.alloc (.cells #[.int .i64 id] 3)) 3 #[]).drew; simpa using this) (by omega)) none 0 0 (by rfl) (([] : List Int).take 0) (SrcN.kept SRC.out ((((Kept.refl NoBlk wq).alloc _).alloc _).drew)) (by decide) (by first | (simp; done) | (simp; omega)) ?_; intro A4 m4 c4 w4 ho4 hk4; have O4 := Lib.hid (show OwnI w4 wq.heap.size (.slice A4 m4 c4) (([] : List Int).take 0) by simpa using ho4); have K4 := Lib.hid (show Kept NoBlk wq w4 from Kept.inner ((((Kept.refl NoBlk wq).alloc _).alloc _).drew) hk4 (fun k hk => Or.inr (by cases hk; first | exact Nat.le_refl _ | exact Nat.le_succ _))); have U4 := Lib.hid hk4; have B4 := Lib.hid (show Blk w4 wq.heap.size 3 #[.int .i64 id] from (show Blk _ wq.heap.size 3 #[.int .i64 id] from ((Blk.new wq 3 #[.int .i64 id]).alloc _).drew).kept U4.out (by intro h; have h := Option.some.inj h; have h2 : (wq.heap.size + 1 : Nat) = wq.heap.size := h; omega)); clear ho4 hk4)
              | (refine step_append_num rfl (.tmp 51) (.tmp 57) rfl wq.heap.size _ (([] : List Int).take 0) (by rfl) (O4.out.kept ((Kept.refl NoBlk w4).alloc _) (fun b hb e => e)) _ id (by rfl) (Blk.new w4 3 _) (by have := HJm.out; rw [List.length_take]; omega) (by first | exact K4.out.size | (simp; exact Nat.le_succ_of_le K4.out.size)) ?_; intro g5 c5 w5 ho5 hk5 hg5; have O5 := Lib.hid ho5; have K5 := Lib.hid (show Kept NoBlk wq w5 from (K4.out.trans ((Kept.refl NoBlk w4).alloc _)).inner hk5 (fun k hk => Or.inr (O4.out.lt hk).1)); clear ho5 hk5 hg5)
              | (refine step_append_num rfl (.tmp 51) (.tmp 57) rfl wq.heap.size _ (([] : List Int).take 0) (by rfl) (O4.out.kept (Kept.refl NoBlk w4) (fun b hb e => e)) _ id (by rfl) (B4.out) (by have := HJm.out; rw [List.length_take]; omega) (by first | exact K4.out.size | (simp; exact Nat.le_succ_of_le K4.out.size)) ?_; intro g5 c5 w5 ho5 hk5 hg5; have O5 := Lib.hid ho5; have K5 := Lib.hid (show Kept NoBlk wq w5 from (K4.out.trans (Kept.refl NoBlk w4)).inner hk5 (fun k hk => Or.inr (O4.out.lt hk).1)); clear ho5 hk5 hg5))
           all_goals
            have htj : (([] : List Int).take 0).length = 0 := by have := HJm.out; have := HM1.out; rw [List.length_take]; omega
            have O5b := O5.out
            try rw [htj] at O5b
            have O6 := Lib.hid (O5b.base_le HBq.out)
            clear htj O5b
            go_wp2_with fail
            go_meet
            exact ⟨⟨_, _, rfl, O6.out⟩, K5.out⟩
          case rest =>
            obtain ⟨⟨g5, c5, hv3, ho6⟩, hk5⟩ := hcut
            rw [hv3]
            obtain ⟨w5, hw5⟩ : ∃ w5, wc = w5 := ⟨_, rfl⟩
            rw [hw5] at ho6 hk5 ⊢
            have O6 := Lib.hid ho6
            have K5 := Lib.hid hk5
            have KW := Lib.hid (((HK.out.trans HK2.out).trans KQ.out).trans K5.out)
            clear hv3 hw5 ho6 hk5
            go_wp2_with (at_builtin; refine wpList_append_rdn rfl (.tmp 59) (.tmp 62) rfl base (.slice (some ⟨g5, 0, none⟩) 1 c5) (([] : List Int).take 0 ++ [id]) (by rfl) O6.out none 0 0 (by rfl) [] (SrcN.nil_ _ _ _ (fun _ => rfl)) (by simp) (by have := HBq.out; have := K5.out.size; omega) ?_; intro A6 m6 c6 w6 ho6 hk6)
            have HO6 := Lib.hid ho6
            have HK6 := Lib.hid (KW.out.inner hk6 (fun b e => Or.inr (by have h1 := (O6.out.lt e).1; have := HBs.out; omega)))
            clear ho6 hk6
            go_wp2_with fail
            go_roundg (n - (k + 1))
            case measure => have := Hgk.out; omega
            case rel =>
              refine ⟨k + 1, by omega, by go_num, ?_, HK6.out⟩
              rw [HNx2.out]
              exact HO6.out
    · have hall : k = xs.length := by rw [HE.out.1]; have := HKn.out; omega
      have z4 : ¬ (k : Int) < (n : Int) := fun h => hlt (by omega)
      subst hall
      clear hlt
      go_wp2_with fail
      go_ret
      exact ⟨_, _, _, rfl, HO.out.rd (by have := openN_len xs q xs.length; have := HE.out.1; omega), HK.out⟩
end Go.Proofs.YtndnbjpcjlbcjaaDoor
