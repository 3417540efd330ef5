/- Add takes an event. Printed by wip/tpl/eaddgen.py. -/
import Derived.Test.YtndnbjpcjlbcjaaDoorPair
import Derived.Test.YtndnbjpcjlbcjaaDoorPlain
import Derived.Deep.RegionHeld3
namespace Go.Proofs.YtndnbjpcjlbcjaaDoor
open Go.RowKit Go.Maps

/-- What Add asks of a history. -/
structure HOk (s : HsD) : Prop where
  n0 : 0 ≤ s.n
  n1 : s.n ≤ 1000000
  kinds : s.kinds.length ≤ 1000000
  of_ : ∀ x, okI ((aget s.of_ x).getD 0)

theorem HMem.setN {w : World} {hb k1 k2 k3 k4 : Nat} {s : HsD} (h : HMem w hb k1 k2 k3 k4 s) (x : Int) : HMem (w.setCell ⟨hb, 0, none⟩ (.int .i64 x)) hb k1 k2 k3 k4 { s with n := x } :=
  have hk : Kept (fun k => k = hb) w (w.setCell ⟨hb, 0, none⟩ (.int .i64 x)) := (Kept.refl (fun k => k = hb) w).setCell (Or.inl rfl) _
  ⟨h.box.set_ 0 (.int .i64 x), h.kinds.kept hk (fun e => h.kinds.ne h.box e.symm), h.ids.kept hk (fun e => h.ids.ne h.box e.symm), h.of_.kept hk (fun e => h.of_.ne h.box e.symm), h.frm.kept hk (fun e => h.frm.ne h.box e.symm), h.apart⟩
theorem HMem.setPos {w : World} {hb k1 k2 k3 k4 : Nat} {s : HsD} (h : HMem w hb k1 k2 k3 k4 s) (x : Int) : HMem (w.setCell ⟨hb, 1, none⟩ (.int .i64 x)) hb k1 k2 k3 k4 { s with pos := x } :=
  have hk : Kept (fun k => k = hb) w (w.setCell ⟨hb, 1, none⟩ (.int .i64 x)) := (Kept.refl (fun k => k = hb) w).setCell (Or.inl rfl) _
  ⟨h.box.set_ 1 (.int .i64 x), h.kinds.kept hk (fun e => h.kinds.ne h.box e.symm), h.ids.kept hk (fun e => h.ids.ne h.box e.symm), h.of_.kept hk (fun e => h.of_.ne h.box e.symm), h.frm.kept hk (fun e => h.frm.ne h.box e.symm), h.apart⟩
theorem HMem.setClosed {w : World} {hb k1 k2 k3 k4 : Nat} {s : HsD} (h : HMem w hb k1 k2 k3 k4 s) (x : Int) : HMem (w.setCell ⟨hb, 2, none⟩ (.int .i64 x)) hb k1 k2 k3 k4 { s with closed := x } :=
  have hk : Kept (fun k => k = hb) w (w.setCell ⟨hb, 2, none⟩ (.int .i64 x)) := (Kept.refl (fun k => k = hb) w).setCell (Or.inl rfl) _
  ⟨h.box.set_ 2 (.int .i64 x), h.kinds.kept hk (fun e => h.kinds.ne h.box e.symm), h.ids.kept hk (fun e => h.ids.ne h.box e.symm), h.of_.kept hk (fun e => h.of_.ne h.box e.symm), h.frm.kept hk (fun e => h.frm.ne h.box e.symm), h.apart⟩
theorem HMem.setTask {w : World} {hb k1 k2 k3 k4 : Nat} {s : HsD} (h : HMem w hb k1 k2 k3 k4 s) (x : Int) : HMem (w.setCell ⟨hb, 5, none⟩ (.int .i64 x)) hb k1 k2 k3 k4 { s with task := x } :=
  have hk : Kept (fun k => k = hb) w (w.setCell ⟨hb, 5, none⟩ (.int .i64 x)) := (Kept.refl (fun k => k = hb) w).setCell (Or.inl rfl) _
  ⟨h.box.set_ 5 (.int .i64 x), h.kinds.kept hk (fun e => h.kinds.ne h.box e.symm), h.ids.kept hk (fun e => h.ids.ne h.box e.symm), h.of_.kept hk (fun e => h.of_.ne h.box e.symm), h.frm.kept hk (fun e => h.frm.ne h.box e.symm), h.apart⟩
theorem HMem.setBegun {w : World} {hb k1 k2 k3 k4 : Nat} {s : HsD} (h : HMem w hb k1 k2 k3 k4 s) (x : Bool) : HMem (w.setCell ⟨hb, 6, none⟩ (.bool x)) hb k1 k2 k3 k4 { s with begun := x } :=
  have hk : Kept (fun k => k = hb) w (w.setCell ⟨hb, 6, none⟩ (.bool x)) := (Kept.refl (fun k => k = hb) w).setCell (Or.inl rfl) _
  ⟨h.box.set_ 6 (.bool x), h.kinds.kept hk (fun e => h.kinds.ne h.box e.symm), h.ids.kept hk (fun e => h.ids.ne h.box e.symm), h.of_.kept hk (fun e => h.of_.ne h.box e.symm), h.frm.kept hk (fun e => h.frm.ne h.box e.symm), h.apart⟩

theorem PSt.mem {w0 wd : World} {hb k1 k2 k3 k4 : Nat} {s : HsD} {xa ya xb yb : Int} {va vb : Value} (h : PSt w0 k1 k2 s.kinds s.ids xa ya xb yb 2 va 2 vb wd) {p : Int} {n : Int} (hm : HMem w0 hb k1 k2 k3 k4 { s with n := n, pos := p }) :
    HMem wd hb k1 k2 k3 k4 { s with n := n, pos := p, kinds := aput s.kinds xa ya, ids := aput s.ids xb yb } := by
  obtain ⟨hk, h1, h2⟩ := h
  have ap := hm.apart
  refine ⟨hm.box.kept hk ?_, h1, h2, hm.of_.kept hk ?_, hm.frm.kept hk ?_, ap⟩
  · rintro (e | e)
    · exact hm.kinds.ne hm.box e
    · exact hm.ids.ne hm.box e
  · rintro (e | e)
    · exact ap.2.1 e.symm
    · exact ap.2.2.2.1 e.symm
  · rintro (e | e)
    · exact ap.2.2.1 e.symm
    · exact ap.2.2.2.2.1 e.symm
theorem PSt.mem2 {w0 wd : World} {hb k1 k2 k3 k4 : Nat} {s : HsD} {xa ya xb yb : Int} {va vb : Value} (h : PSt w0 k3 k4 s.of_ s.frm xa ya xb yb 2 va 2 vb wd) {p : Int} {n : Int} (hm : HMem w0 hb k1 k2 k3 k4 { s with n := n, pos := p }) :
    HMem wd hb k1 k2 k3 k4 { s with n := n, pos := p, of_ := aput s.of_ xa ya, frm := aput s.frm xb yb } := by
  obtain ⟨hk, h1, h2⟩ := h
  have ap := hm.apart
  refine ⟨hm.box.kept hk ?_, hm.kinds.kept hk ?_, hm.ids.kept hk ?_, h1, h2, ap⟩
  · rintro (e | e)
    · exact hm.of_.ne hm.box e
    · exact hm.frm.ne hm.box e
  · rintro (e | e)
    · exact ap.2.1 e
    · exact ap.2.2.1 e
  · rintro (e | e)
    · exact ap.2.2.2.1 e
    · exact ap.2.2.2.2.1 e

def AddEnd (hb k1 k2 k3 k4 : Nat) (s : HsD) (R : ByteArray) (b : Bool) (w : World) (e : Ending) (w' : World) : Prop :=
  e = .returned (.tuple #[.string R, .bool b]) ∧ HMem w' hb k1 k2 k3 k4 s ∧ Kept (HS hb k1 k2 k3 k4) w w'

set_option maxRecDepth 100000 in
set_option maxHeartbeats 2000000 in
theorem add_bad {w : World} {hb k1 k2 k3 k4 : Nat} {s : HsD} (h : HMem w hb k1 k2 k3 k4 s) (ok : HOk s) {ki po re id li nn : Int} {bs : List UInt8} {A : Option Addr} {L c : Nat} (hl : bs.length = L) (hr : okI re) {R : ByteArray} (hR : faultS s ⟨ki, po, re, id, li, nn, bs⟩ = R) (hne : (!R.toList.isEmpty) = true) :
    Calls Tryd.prog 34 #[.pointer (some ⟨hb, 0, none⟩), .agg #[.int .i64 ki, .int .i64 po, .int .i64 re, .int .i64 id, .int .i64 li, .int .i64 nn, .slice A L c]] w (AddEnd hb k1 k2 k3 k4 s R false w) := by
  have hFault := fun (W : World) (H : HMem W hb k1 k2 k3 k4 s) => fault_any H ok.kinds ⟨ki, po, re, id, li, nn, bs⟩ A L c hl hr
  rw [hR] at hFault
  unfold aggE at hFault
  simp only at hFault
  have HFault := Lib.hid hFault
  have lt0 := h.box.lt
  have lt1 := h.kinds.lt
  have lt2 := h.ids.lt
  have lt3 := h.of_.lt
  have lt4 := h.frm.lt
  obtain ⟨q, hq⟩ : ∃ q, w.heap.size = q := ⟨_, rfl⟩
  have hnq : ¬ HS hb k1 k2 k3 k4 q := by
    intro hh
    unfold HS at hh
    omega
  obtain ⟨wz, hwz⟩ : ∃ wz, w.alloc (.cells #[.int .i64 ki, .int .i64 po, .int .i64 re, .int .i64 id, .int .i64 li, .int .i64 nn, .slice A L c] 24) = wz := ⟨_, rfl⟩
  have hz : HMem wz hb k1 k2 k3 k4 s := hwz ▸ h.at_alloc _
  have pe : Blk wz q 24 #[.int .i64 ki, .int .i64 po, .int .i64 re, .int .i64 id, .int .i64 li, .int .i64 nn, .slice A L c] := hwz ▸ hq ▸ Blk.new w 24 _
  have kz : Kept NoBlk w wz := hwz ▸ (Kept.refl NoBlk w).alloc _
  have p0 : wz.cell? ⟨q, 0, none⟩ = some (.int .i64 ki) := pe.cell 0
  have p1 : wz.cell? ⟨q, 0 + 1, none⟩ = some (.int .i64 po) := pe.cell 1
  have p2 : wz.cell? ⟨q, 0 + 2, none⟩ = some (.int .i64 re) := pe.cell 2
  have p3 : wz.cell? ⟨q, 0 + 3, none⟩ = some (.int .i64 id) := pe.cell 3
  have p4 : wz.cell? ⟨q, 0 + 4, none⟩ = some (.int .i64 li) := pe.cell 4
  have p5 : wz.cell? ⟨q, 0 + 5, none⟩ = some (.int .i64 nn) := pe.cell 5
  have p6 : wz.cell? ⟨q, 0 + 6, none⟩ = some (.slice A L c) := pe.cell 6
  have HZ := Lib.hid hz
  have HP := Lib.hid pe
  have HK := Lib.hid kz
  have HQ := Lib.hid hnq
  have OK := Lib.hid ok
  have HR0 := Lib.hid hr
  clear h hz pe kz hFault hR hl hr hnq ok lt0 lt1 lt2 lt3 lt4
  go_enter Tryd.func34, Tryd.ntmps34
  go_upto_region 1 with fail
  clear hwz hq
  go_upto_region 2 with (go_at_call 48; refine (HFault.out _ HZ.out).mono ?_; rintro e1 w1 ⟨rfl, hk1⟩)
  have h1 : HMem w1 hb k1 k2 k3 k4 s := HZ.out.kept hk1
  have pe1 : Blk w1 q 24 #[.int .i64 ki, .int .i64 po, .int .i64 re, .int .i64 id, .int .i64 li, .int .i64 nn, .slice A L c] := HP.out.kept hk1 (fun e => e.elim)
  have K1 : Kept NoBlk w w1 := HK.out.trans hk1
  clear p0 p1 p2 p3 p4 p5 p6 HZ HP HK hk1
  have H1 := Lib.hid h1
  have HK := Lib.hid K1
  clear h1 pe1 K1
  go_wp2_with fail
  go_ret2
  exact ⟨rfl, H1.out, HK.out.mono (fun _ e => e.elim)⟩

set_option maxRecDepth 100000 in
set_option maxHeartbeats 4000000 in
theorem add_7 {w : World} {hb k1 k2 k3 k4 : Nat} {s : HsD} (h : HMem w hb k1 k2 k3 k4 s) (ok : HOk s) {po re id li nn : Int} {bs : List UInt8} {A : Option Addr} {L c : Nat} (hl : bs.length = L) (hr : okI re) (hR : faultS s ⟨7, po, re, id, li, nn, bs⟩ = wNone) :
    Calls Tryd.prog 34 #[.pointer (some ⟨hb, 0, none⟩), .agg #[.int .i64 7, .int .i64 po, .int .i64 re, .int .i64 id, .int .i64 li, .int .i64 nn, .slice A L c]] w (AddEnd hb k1 k2 k3 k4 (addS s ⟨7, po, re, id, li, nn, bs⟩) wNone true w) := by
  have hFault := fun (W : World) (H : HMem W hb k1 k2 k3 k4 s) => fault_any H ok.kinds ⟨7, po, re, id, li, nn, bs⟩ A L c hl hr
  rw [hR] at hFault
  unfold wNone at hFault
  unfold aggE at hFault
  simp only at hFault
  have HFault := Lib.hid hFault
  have lt0 := h.box.lt
  have lt1 := h.kinds.lt
  have lt2 := h.ids.lt
  have lt3 := h.of_.lt
  have lt4 := h.frm.lt
  obtain ⟨q, hq⟩ : ∃ q, w.heap.size = q := ⟨_, rfl⟩
  have hnq : ¬ HS hb k1 k2 k3 k4 q := by
    intro hh
    unfold HS at hh
    omega
  obtain ⟨wz, hwz⟩ : ∃ wz, w.alloc (.cells #[.int .i64 7, .int .i64 po, .int .i64 re, .int .i64 id, .int .i64 li, .int .i64 nn, .slice A L c] 24) = wz := ⟨_, rfl⟩
  have hz : HMem wz hb k1 k2 k3 k4 s := hwz ▸ h.at_alloc _
  have pe : Blk wz q 24 #[.int .i64 7, .int .i64 po, .int .i64 re, .int .i64 id, .int .i64 li, .int .i64 nn, .slice A L c] := hwz ▸ hq ▸ Blk.new w 24 _
  have kz : Kept NoBlk w wz := hwz ▸ (Kept.refl NoBlk w).alloc _
  have p0 : wz.cell? ⟨q, 0, none⟩ = some (.int .i64 7) := pe.cell 0
  have p1 : wz.cell? ⟨q, 0 + 1, none⟩ = some (.int .i64 po) := pe.cell 1
  have p2 : wz.cell? ⟨q, 0 + 2, none⟩ = some (.int .i64 re) := pe.cell 2
  have p3 : wz.cell? ⟨q, 0 + 3, none⟩ = some (.int .i64 id) := pe.cell 3
  have p4 : wz.cell? ⟨q, 0 + 4, none⟩ = some (.int .i64 li) := pe.cell 4
  have p5 : wz.cell? ⟨q, 0 + 5, none⟩ = some (.int .i64 nn) := pe.cell 5
  have p6 : wz.cell? ⟨q, 0 + 6, none⟩ = some (.slice A L c) := pe.cell 6
  have HZ := Lib.hid hz
  have HP := Lib.hid pe
  have HK := Lib.hid kz
  have HQ := Lib.hid hnq
  have OK := Lib.hid ok
  have HR0 := Lib.hid hr
  clear h hz pe kz hFault hR hl hr hnq ok lt0 lt1 lt2 lt3 lt4
  go_enter Tryd.func34, Tryd.ntmps34
  go_upto_region 1 with fail
  clear hwz hq
  go_upto_region 2 with (go_at_call 48; refine (HFault.out _ HZ.out).mono ?_; rintro e1 w1 ⟨rfl, hk1⟩)
  have h1 : HMem w1 hb k1 k2 k3 k4 s := HZ.out.kept hk1
  have pe1 : Blk w1 q 24 #[.int .i64 7, .int .i64 po, .int .i64 re, .int .i64 id, .int .i64 li, .int .i64 nn, .slice A L c] := HP.out.kept hk1 (fun e => e.elim)
  have K1 : Kept NoBlk w w1 := HK.out.trans hk1
  clear p0 p1 p2 p3 p4 p5 p6 HZ HP HK hk1
  obtain ⟨sn, hsn⟩ : ∃ x, s.n = x := ⟨_, rfl⟩
  have n0 := OK.out.n0
  have n1 := OK.out.n1
  rw [hsn] at n0 n1
  have d0 : w1.cell? ⟨hb, 0, none⟩ = some (.int .i64 sn) := hsn ▸ h1.box.cell 0
  have d1 : w1.cell? ⟨hb, 0 + 1, none⟩ = some (.int .i64 s.pos) := h1.box.cell 1
  have hE : (!(ByteArray.mk #[]).toList.isEmpty) = false := by kernel_rfl
  have hne : hb ≠ q := fun e => HQ.out (by unfold HS; left; exact e.symm)
  have p0 : w1.cell? ⟨q, 0, none⟩ = some (.int .i64 7) := pe1.cell 0
  have p1 : w1.cell? ⟨q, 0 + 1, none⟩ = some (.int .i64 po) := pe1.cell 1
  have f0 := h1.box.frozen
  have H1 := Lib.hid h1
  have HP := Lib.hid pe1
  have HK := Lib.hid K1
  have HSN := Lib.hid hsn
  clear h1 pe1 K1 hsn
  go_upto_region 6 with fail
  obtain ⟨w2, hw2⟩ : ∃ w2, (w1.setCell ⟨hb, 0, none⟩ (.int .i64 (sn + 1))).setCell ⟨hb, 1, none⟩ (.int .i64 po) = w2 := ⟨_, rfl⟩
  have h2 : HMem w2 hb k1 k2 k3 k4 { s with n := sn + 1, pos := po } := by
    rw [← hw2]
    exact (H1.out.setN (sn + 1)).setPos po
  have pe2 : Blk w2 q 24 #[.int .i64 7, .int .i64 po, .int .i64 re, .int .i64 id, .int .i64 li, .int .i64 nn, .slice A L c] := by
    rw [← hw2]
    exact (HP.out.far (fun e => hne e.symm) _).far (fun e => hne e.symm) _
  have K2 : Kept (HS hb k1 k2 k3 k4) w w2 := by
    rw [← hw2]
    exact ((HK.out.mono (fun _ e => e.elim)).setCell (Or.inl (Or.inl rfl)) _).setCell (Or.inl (Or.inl rfl)) _
  rw [hw2]
  clear hw2 p0 p1 d0 d1 H1 HP HK f0 hE
  have hap := h2.apart
  have p0 : w2.cell? ⟨q, 0, none⟩ = some (.int .i64 7) := pe2.cell 0
  have p2 : w2.cell? ⟨q, 0 + 2, none⟩ = some (.int .i64 re) := pe2.cell 2
  have p3 : w2.cell? ⟨q, 0 + 3, none⟩ = some (.int .i64 id) := pe2.cell 3
  have d0 : w2.cell? ⟨hb, 0, none⟩ = some (.int .i64 (sn + 1)) := h2.box.cell 0
  have dA : w2.cell? ⟨hb, 0 + 3, none⟩ = some (.map (some k1)) := h2.box.cell 3
  have dB : w2.cell? ⟨hb, 0 + 4, none⟩ = some (.map (some k2)) := h2.box.cell 4
  go_upto_region 17 with fail
  have hS : ∀ w', Kept (fun k => k = k1 ∨ k = k2) w2 w' → (w'.cell? ⟨hb, 0, none⟩ = some (.int .i64 (sn + 1)) ∧ w'.cell? ⟨hb, 3, none⟩ = some (.map (some k1)) ∧ w'.cell? ⟨hb, 4, none⟩ = some (.map (some k2)) ∧ w'.cell? ⟨q, 0, none⟩ = some (.int .i64 7) ∧ w'.cell? ⟨q, 3, none⟩ = some (.int .i64 id)) := by
    intro w' hk
    have nh : ¬ (hb = k1 ∨ hb = k2) := by
      rintro (e | e)
      · exact h2.kinds.ne h2.box e
      · exact h2.ids.ne h2.box e
    have nq : ¬ (q = k1 ∨ q = k2) := by
      rintro (e | e)
      · exact h2.kinds.ne pe2 e
      · exact h2.ids.ne pe2 e
    exact ⟨hk.cell d0 nh, hk.cell dA nh, hk.cell dB nh, hk.cell p0 nq, hk.cell p3 nq⟩
  have st0 : PSt w2 k1 k2 s.kinds s.ids (sn + 1) 7 (sn + 1) id 0 .nilIface 0 .nilIface (w2.drewN 1) :=
    ⟨(Kept.refl _ w2).drewN 1, h2.kinds.kept ((Kept.refl NoBlk w2).drewN 1) (fun e => e.elim), h2.ids.kept ((Kept.refl NoBlk w2).drewN 1) (fun e => e.elim)⟩
  have hwn : wf (sn + 1) := wf_of ⟨by omega, by omega⟩
  have hwr : wf re := wf_of HR0.out
  have hap := hap.1
  obtain ⟨v0a, va, wa, hra, sta⟩ := st0.enterA hap hwn
  have hra : (Instr.mapEntry 80 (.map (some k1)) (.int .i64 (sn + 1))).run Tryd.prog w2.drew = .ok (.tuple #[v0a, va]) wa := hra
  obtain ⟨wb, hrb, stb⟩ := sta.storeA hap
  obtain ⟨v0c, vc, wc, hrc, stc⟩ := stb.enterB hap hwn
  obtain ⟨wd, hrd, std⟩ := stc.storeB hap
  have SA := Lib.hid (hS _ sta.kept)
  have SB := Lib.hid (hS _ stb.kept)
  have SC := Lib.hid (hS _ stc.kept)
  have SD := Lib.hid (hS _ std.kept)
  have S0 := Lib.hid (hS _ st0.kept)
  have STD := Lib.hid std
  have H2 := Lib.hid h2
  have K2 := Lib.hid K2
  clear hS h2 pe2 st0 sta stb stc std hwn hwr hap
  go_region_held3 (fun w' => w'.cell? ⟨hb, 0, none⟩ = some (.int .i64 (sn + 1)) ∧ w'.cell? ⟨hb, 3, none⟩ = some (.map (some k1)) ∧ w'.cell? ⟨hb, 4, none⟩ = some (.map (some k2)) ∧ w'.cell? ⟨q, 0, none⟩ = some (.int .i64 7) ∧ w'.cell? ⟨q, 3, none⟩ = some (.int .i64 id)) (first | exact S0.out | exact SA.out | exact SB.out | exact SC.out | exact SD.out) (fail)
  have hd : HMem wd hb k1 k2 k3 k4 { s with n := sn + 1, pos := po, kinds := aput s.kinds (sn + 1) 7, ids := aput s.ids (sn + 1) id } := STD.out.mem H2.out
  have KD : Kept (HS hb k1 k2 k3 k4) w wd := K2.out.trans (STD.out.kept.mono (by rintro b (rfl | rfl) <;> (unfold HS; simp)))
  have p0 : wd.cell? ⟨q, 0, none⟩ = some (.int .i64 7) := SD.out.2.2.2.1
  have HD := Lib.hid hd
  have HK := Lib.hid KD
  clear hd KD hra hrb hrc hrd
  have HCl := closes11_any 7
  go_wp2_with fail
  refine (HCl _).mono ?_
  rintro e1 w9 ⟨rfl, rfl⟩
  go_wp2_with fail
  go_ret2
  have e := HSN.out
  subst e
  exact ⟨rfl, HD.out, HK.out⟩

set_option maxRecDepth 100000 in
set_option maxHeartbeats 4000000 in
theorem add_12 {w : World} {hb k1 k2 k3 k4 : Nat} {s : HsD} (h : HMem w hb k1 k2 k3 k4 s) (ok : HOk s) {po re id li nn : Int} {bs : List UInt8} {A : Option Addr} {L c : Nat} (hl : bs.length = L) (hr : okI re) (hR : faultS s ⟨12, po, re, id, li, nn, bs⟩ = wNone) :
    Calls Tryd.prog 34 #[.pointer (some ⟨hb, 0, none⟩), .agg #[.int .i64 12, .int .i64 po, .int .i64 re, .int .i64 id, .int .i64 li, .int .i64 nn, .slice A L c]] w (AddEnd hb k1 k2 k3 k4 (addS s ⟨12, po, re, id, li, nn, bs⟩) wNone true w) := by
  have hFault := fun (W : World) (H : HMem W hb k1 k2 k3 k4 s) => fault_any H ok.kinds ⟨12, po, re, id, li, nn, bs⟩ A L c hl hr
  rw [hR] at hFault
  unfold wNone at hFault
  unfold aggE at hFault
  simp only at hFault
  have HFault := Lib.hid hFault
  have lt0 := h.box.lt
  have lt1 := h.kinds.lt
  have lt2 := h.ids.lt
  have lt3 := h.of_.lt
  have lt4 := h.frm.lt
  obtain ⟨q, hq⟩ : ∃ q, w.heap.size = q := ⟨_, rfl⟩
  have hnq : ¬ HS hb k1 k2 k3 k4 q := by
    intro hh
    unfold HS at hh
    omega
  obtain ⟨wz, hwz⟩ : ∃ wz, w.alloc (.cells #[.int .i64 12, .int .i64 po, .int .i64 re, .int .i64 id, .int .i64 li, .int .i64 nn, .slice A L c] 24) = wz := ⟨_, rfl⟩
  have hz : HMem wz hb k1 k2 k3 k4 s := hwz ▸ h.at_alloc _
  have pe : Blk wz q 24 #[.int .i64 12, .int .i64 po, .int .i64 re, .int .i64 id, .int .i64 li, .int .i64 nn, .slice A L c] := hwz ▸ hq ▸ Blk.new w 24 _
  have kz : Kept NoBlk w wz := hwz ▸ (Kept.refl NoBlk w).alloc _
  have p0 : wz.cell? ⟨q, 0, none⟩ = some (.int .i64 12) := pe.cell 0
  have p1 : wz.cell? ⟨q, 0 + 1, none⟩ = some (.int .i64 po) := pe.cell 1
  have p2 : wz.cell? ⟨q, 0 + 2, none⟩ = some (.int .i64 re) := pe.cell 2
  have p3 : wz.cell? ⟨q, 0 + 3, none⟩ = some (.int .i64 id) := pe.cell 3
  have p4 : wz.cell? ⟨q, 0 + 4, none⟩ = some (.int .i64 li) := pe.cell 4
  have p5 : wz.cell? ⟨q, 0 + 5, none⟩ = some (.int .i64 nn) := pe.cell 5
  have p6 : wz.cell? ⟨q, 0 + 6, none⟩ = some (.slice A L c) := pe.cell 6
  have HZ := Lib.hid hz
  have HP := Lib.hid pe
  have HK := Lib.hid kz
  have HQ := Lib.hid hnq
  have OK := Lib.hid ok
  have HR0 := Lib.hid hr
  clear h hz pe kz hFault hR hl hr hnq ok lt0 lt1 lt2 lt3 lt4
  go_enter Tryd.func34, Tryd.ntmps34
  go_upto_region 1 with fail
  clear hwz hq
  go_upto_region 2 with (go_at_call 48; refine (HFault.out _ HZ.out).mono ?_; rintro e1 w1 ⟨rfl, hk1⟩)
  have h1 : HMem w1 hb k1 k2 k3 k4 s := HZ.out.kept hk1
  have pe1 : Blk w1 q 24 #[.int .i64 12, .int .i64 po, .int .i64 re, .int .i64 id, .int .i64 li, .int .i64 nn, .slice A L c] := HP.out.kept hk1 (fun e => e.elim)
  have K1 : Kept NoBlk w w1 := HK.out.trans hk1
  clear p0 p1 p2 p3 p4 p5 p6 HZ HP HK hk1
  obtain ⟨sn, hsn⟩ : ∃ x, s.n = x := ⟨_, rfl⟩
  have n0 := OK.out.n0
  have n1 := OK.out.n1
  rw [hsn] at n0 n1
  have d0 : w1.cell? ⟨hb, 0, none⟩ = some (.int .i64 sn) := hsn ▸ h1.box.cell 0
  have d1 : w1.cell? ⟨hb, 0 + 1, none⟩ = some (.int .i64 s.pos) := h1.box.cell 1
  have hE : (!(ByteArray.mk #[]).toList.isEmpty) = false := by kernel_rfl
  have hne : hb ≠ q := fun e => HQ.out (by unfold HS; left; exact e.symm)
  have p0 : w1.cell? ⟨q, 0, none⟩ = some (.int .i64 12) := pe1.cell 0
  have p1 : w1.cell? ⟨q, 0 + 1, none⟩ = some (.int .i64 po) := pe1.cell 1
  have f0 := h1.box.frozen
  have H1 := Lib.hid h1
  have HP := Lib.hid pe1
  have HK := Lib.hid K1
  have HSN := Lib.hid hsn
  clear h1 pe1 K1 hsn
  go_upto_region 6 with fail
  obtain ⟨w2, hw2⟩ : ∃ w2, (w1.setCell ⟨hb, 0, none⟩ (.int .i64 (sn + 1))).setCell ⟨hb, 1, none⟩ (.int .i64 po) = w2 := ⟨_, rfl⟩
  have h2 : HMem w2 hb k1 k2 k3 k4 { s with n := sn + 1, pos := po } := by
    rw [← hw2]
    exact (H1.out.setN (sn + 1)).setPos po
  have pe2 : Blk w2 q 24 #[.int .i64 12, .int .i64 po, .int .i64 re, .int .i64 id, .int .i64 li, .int .i64 nn, .slice A L c] := by
    rw [← hw2]
    exact (HP.out.far (fun e => hne e.symm) _).far (fun e => hne e.symm) _
  have K2 : Kept (HS hb k1 k2 k3 k4) w w2 := by
    rw [← hw2]
    exact ((HK.out.mono (fun _ e => e.elim)).setCell (Or.inl (Or.inl rfl)) _).setCell (Or.inl (Or.inl rfl)) _
  rw [hw2]
  clear hw2 p0 p1 d0 d1 H1 HP HK f0 hE
  have hap := h2.apart
  have p0 : w2.cell? ⟨q, 0, none⟩ = some (.int .i64 12) := pe2.cell 0
  have p2 : w2.cell? ⟨q, 0 + 2, none⟩ = some (.int .i64 re) := pe2.cell 2
  have p3 : w2.cell? ⟨q, 0 + 3, none⟩ = some (.int .i64 id) := pe2.cell 3
  have d0 : w2.cell? ⟨hb, 0, none⟩ = some (.int .i64 (sn + 1)) := h2.box.cell 0
  have dA : w2.cell? ⟨hb, 0 + 3, none⟩ = some (.map (some k1)) := h2.box.cell 3
  have dB : w2.cell? ⟨hb, 0 + 4, none⟩ = some (.map (some k2)) := h2.box.cell 4
  go_upto_region 17 with fail
  have hS : ∀ w', Kept (fun k => k = k1 ∨ k = k2) w2 w' → (w'.cell? ⟨hb, 0, none⟩ = some (.int .i64 (sn + 1)) ∧ w'.cell? ⟨hb, 3, none⟩ = some (.map (some k1)) ∧ w'.cell? ⟨hb, 4, none⟩ = some (.map (some k2)) ∧ w'.cell? ⟨q, 0, none⟩ = some (.int .i64 12) ∧ w'.cell? ⟨q, 3, none⟩ = some (.int .i64 id)) := by
    intro w' hk
    have nh : ¬ (hb = k1 ∨ hb = k2) := by
      rintro (e | e)
      · exact h2.kinds.ne h2.box e
      · exact h2.ids.ne h2.box e
    have nq : ¬ (q = k1 ∨ q = k2) := by
      rintro (e | e)
      · exact h2.kinds.ne pe2 e
      · exact h2.ids.ne pe2 e
    exact ⟨hk.cell d0 nh, hk.cell dA nh, hk.cell dB nh, hk.cell p0 nq, hk.cell p3 nq⟩
  have st0 : PSt w2 k1 k2 s.kinds s.ids (sn + 1) 12 (sn + 1) id 0 .nilIface 0 .nilIface (w2.drewN 1) :=
    ⟨(Kept.refl _ w2).drewN 1, h2.kinds.kept ((Kept.refl NoBlk w2).drewN 1) (fun e => e.elim), h2.ids.kept ((Kept.refl NoBlk w2).drewN 1) (fun e => e.elim)⟩
  have hwn : wf (sn + 1) := wf_of ⟨by omega, by omega⟩
  have hwr : wf re := wf_of HR0.out
  have hap := hap.1
  obtain ⟨v0a, va, wa, hra, sta⟩ := st0.enterA hap hwn
  have hra : (Instr.mapEntry 80 (.map (some k1)) (.int .i64 (sn + 1))).run Tryd.prog w2.drew = .ok (.tuple #[v0a, va]) wa := hra
  obtain ⟨wb, hrb, stb⟩ := sta.storeA hap
  obtain ⟨v0c, vc, wc, hrc, stc⟩ := stb.enterB hap hwn
  obtain ⟨wd, hrd, std⟩ := stc.storeB hap
  have SA := Lib.hid (hS _ sta.kept)
  have SB := Lib.hid (hS _ stb.kept)
  have SC := Lib.hid (hS _ stc.kept)
  have SD := Lib.hid (hS _ std.kept)
  have S0 := Lib.hid (hS _ st0.kept)
  have STD := Lib.hid std
  have H2 := Lib.hid h2
  have K2 := Lib.hid K2
  clear hS h2 pe2 st0 sta stb stc std hwn hwr hap
  go_region_held3 (fun w' => w'.cell? ⟨hb, 0, none⟩ = some (.int .i64 (sn + 1)) ∧ w'.cell? ⟨hb, 3, none⟩ = some (.map (some k1)) ∧ w'.cell? ⟨hb, 4, none⟩ = some (.map (some k2)) ∧ w'.cell? ⟨q, 0, none⟩ = some (.int .i64 12) ∧ w'.cell? ⟨q, 3, none⟩ = some (.int .i64 id)) (first | exact S0.out | exact SA.out | exact SB.out | exact SC.out | exact SD.out) (fail)
  have hd : HMem wd hb k1 k2 k3 k4 { s with n := sn + 1, pos := po, kinds := aput s.kinds (sn + 1) 12, ids := aput s.ids (sn + 1) id } := STD.out.mem H2.out
  have KD : Kept (HS hb k1 k2 k3 k4) w wd := K2.out.trans (STD.out.kept.mono (by rintro b (rfl | rfl) <;> (unfold HS; simp)))
  have p0 : wd.cell? ⟨q, 0, none⟩ = some (.int .i64 12) := SD.out.2.2.2.1
  have HD := Lib.hid hd
  have HK := Lib.hid KD
  clear hd KD hra hrb hrc hrd
  have HCl := closes11_any 12
  go_wp2_with fail
  refine (HCl _).mono ?_
  rintro e1 w9 ⟨rfl, rfl⟩
  go_wp2_with fail
  go_ret2
  have e := HSN.out
  subst e
  exact ⟨rfl, HD.out, HK.out⟩

set_option maxRecDepth 100000 in
set_option maxHeartbeats 4000000 in
theorem add_17 {w : World} {hb k1 k2 k3 k4 : Nat} {s : HsD} (h : HMem w hb k1 k2 k3 k4 s) (ok : HOk s) {po re id li nn : Int} {bs : List UInt8} {A : Option Addr} {L c : Nat} (hl : bs.length = L) (hr : okI re) (hR : faultS s ⟨17, po, re, id, li, nn, bs⟩ = wNone) :
    Calls Tryd.prog 34 #[.pointer (some ⟨hb, 0, none⟩), .agg #[.int .i64 17, .int .i64 po, .int .i64 re, .int .i64 id, .int .i64 li, .int .i64 nn, .slice A L c]] w (AddEnd hb k1 k2 k3 k4 (addS s ⟨17, po, re, id, li, nn, bs⟩) wNone true w) := by
  have hFault := fun (W : World) (H : HMem W hb k1 k2 k3 k4 s) => fault_any H ok.kinds ⟨17, po, re, id, li, nn, bs⟩ A L c hl hr
  rw [hR] at hFault
  unfold wNone at hFault
  unfold aggE at hFault
  simp only at hFault
  have HFault := Lib.hid hFault
  have lt0 := h.box.lt
  have lt1 := h.kinds.lt
  have lt2 := h.ids.lt
  have lt3 := h.of_.lt
  have lt4 := h.frm.lt
  obtain ⟨q, hq⟩ : ∃ q, w.heap.size = q := ⟨_, rfl⟩
  have hnq : ¬ HS hb k1 k2 k3 k4 q := by
    intro hh
    unfold HS at hh
    omega
  obtain ⟨wz, hwz⟩ : ∃ wz, w.alloc (.cells #[.int .i64 17, .int .i64 po, .int .i64 re, .int .i64 id, .int .i64 li, .int .i64 nn, .slice A L c] 24) = wz := ⟨_, rfl⟩
  have hz : HMem wz hb k1 k2 k3 k4 s := hwz ▸ h.at_alloc _
  have pe : Blk wz q 24 #[.int .i64 17, .int .i64 po, .int .i64 re, .int .i64 id, .int .i64 li, .int .i64 nn, .slice A L c] := hwz ▸ hq ▸ Blk.new w 24 _
  have kz : Kept NoBlk w wz := hwz ▸ (Kept.refl NoBlk w).alloc _
  have p0 : wz.cell? ⟨q, 0, none⟩ = some (.int .i64 17) := pe.cell 0
  have p1 : wz.cell? ⟨q, 0 + 1, none⟩ = some (.int .i64 po) := pe.cell 1
  have p2 : wz.cell? ⟨q, 0 + 2, none⟩ = some (.int .i64 re) := pe.cell 2
  have p3 : wz.cell? ⟨q, 0 + 3, none⟩ = some (.int .i64 id) := pe.cell 3
  have p4 : wz.cell? ⟨q, 0 + 4, none⟩ = some (.int .i64 li) := pe.cell 4
  have p5 : wz.cell? ⟨q, 0 + 5, none⟩ = some (.int .i64 nn) := pe.cell 5
  have p6 : wz.cell? ⟨q, 0 + 6, none⟩ = some (.slice A L c) := pe.cell 6
  have HZ := Lib.hid hz
  have HP := Lib.hid pe
  have HK := Lib.hid kz
  have HQ := Lib.hid hnq
  have OK := Lib.hid ok
  have HR0 := Lib.hid hr
  clear h hz pe kz hFault hR hl hr hnq ok lt0 lt1 lt2 lt3 lt4
  go_enter Tryd.func34, Tryd.ntmps34
  go_upto_region 1 with fail
  clear hwz hq
  go_upto_region 2 with (go_at_call 48; refine (HFault.out _ HZ.out).mono ?_; rintro e1 w1 ⟨rfl, hk1⟩)
  have h1 : HMem w1 hb k1 k2 k3 k4 s := HZ.out.kept hk1
  have pe1 : Blk w1 q 24 #[.int .i64 17, .int .i64 po, .int .i64 re, .int .i64 id, .int .i64 li, .int .i64 nn, .slice A L c] := HP.out.kept hk1 (fun e => e.elim)
  have K1 : Kept NoBlk w w1 := HK.out.trans hk1
  clear p0 p1 p2 p3 p4 p5 p6 HZ HP HK hk1
  obtain ⟨sn, hsn⟩ : ∃ x, s.n = x := ⟨_, rfl⟩
  have n0 := OK.out.n0
  have n1 := OK.out.n1
  rw [hsn] at n0 n1
  have d0 : w1.cell? ⟨hb, 0, none⟩ = some (.int .i64 sn) := hsn ▸ h1.box.cell 0
  have d1 : w1.cell? ⟨hb, 0 + 1, none⟩ = some (.int .i64 s.pos) := h1.box.cell 1
  have hE : (!(ByteArray.mk #[]).toList.isEmpty) = false := by kernel_rfl
  have hne : hb ≠ q := fun e => HQ.out (by unfold HS; left; exact e.symm)
  have p0 : w1.cell? ⟨q, 0, none⟩ = some (.int .i64 17) := pe1.cell 0
  have p1 : w1.cell? ⟨q, 0 + 1, none⟩ = some (.int .i64 po) := pe1.cell 1
  have f0 := h1.box.frozen
  have H1 := Lib.hid h1
  have HP := Lib.hid pe1
  have HK := Lib.hid K1
  have HSN := Lib.hid hsn
  clear h1 pe1 K1 hsn
  go_upto_region 6 with fail
  obtain ⟨w2, hw2⟩ : ∃ w2, (w1.setCell ⟨hb, 0, none⟩ (.int .i64 (sn + 1))).setCell ⟨hb, 1, none⟩ (.int .i64 po) = w2 := ⟨_, rfl⟩
  have h2 : HMem w2 hb k1 k2 k3 k4 { s with n := sn + 1, pos := po } := by
    rw [← hw2]
    exact (H1.out.setN (sn + 1)).setPos po
  have pe2 : Blk w2 q 24 #[.int .i64 17, .int .i64 po, .int .i64 re, .int .i64 id, .int .i64 li, .int .i64 nn, .slice A L c] := by
    rw [← hw2]
    exact (HP.out.far (fun e => hne e.symm) _).far (fun e => hne e.symm) _
  have K2 : Kept (HS hb k1 k2 k3 k4) w w2 := by
    rw [← hw2]
    exact ((HK.out.mono (fun _ e => e.elim)).setCell (Or.inl (Or.inl rfl)) _).setCell (Or.inl (Or.inl rfl)) _
  rw [hw2]
  clear hw2 p0 p1 d0 d1 H1 HP HK f0 hE
  have hap := h2.apart
  have p0 : w2.cell? ⟨q, 0, none⟩ = some (.int .i64 17) := pe2.cell 0
  have p2 : w2.cell? ⟨q, 0 + 2, none⟩ = some (.int .i64 re) := pe2.cell 2
  have p3 : w2.cell? ⟨q, 0 + 3, none⟩ = some (.int .i64 id) := pe2.cell 3
  have d0 : w2.cell? ⟨hb, 0, none⟩ = some (.int .i64 (sn + 1)) := h2.box.cell 0
  have dA : w2.cell? ⟨hb, 0 + 3, none⟩ = some (.map (some k1)) := h2.box.cell 3
  have dB : w2.cell? ⟨hb, 0 + 4, none⟩ = some (.map (some k2)) := h2.box.cell 4
  go_upto_region 17 with fail
  have hS : ∀ w', Kept (fun k => k = k1 ∨ k = k2) w2 w' → (w'.cell? ⟨hb, 0, none⟩ = some (.int .i64 (sn + 1)) ∧ w'.cell? ⟨hb, 3, none⟩ = some (.map (some k1)) ∧ w'.cell? ⟨hb, 4, none⟩ = some (.map (some k2)) ∧ w'.cell? ⟨q, 0, none⟩ = some (.int .i64 17) ∧ w'.cell? ⟨q, 3, none⟩ = some (.int .i64 id)) := by
    intro w' hk
    have nh : ¬ (hb = k1 ∨ hb = k2) := by
      rintro (e | e)
      · exact h2.kinds.ne h2.box e
      · exact h2.ids.ne h2.box e
    have nq : ¬ (q = k1 ∨ q = k2) := by
      rintro (e | e)
      · exact h2.kinds.ne pe2 e
      · exact h2.ids.ne pe2 e
    exact ⟨hk.cell d0 nh, hk.cell dA nh, hk.cell dB nh, hk.cell p0 nq, hk.cell p3 nq⟩
  have st0 : PSt w2 k1 k2 s.kinds s.ids (sn + 1) 17 (sn + 1) id 0 .nilIface 0 .nilIface (w2.drewN 1) :=
    ⟨(Kept.refl _ w2).drewN 1, h2.kinds.kept ((Kept.refl NoBlk w2).drewN 1) (fun e => e.elim), h2.ids.kept ((Kept.refl NoBlk w2).drewN 1) (fun e => e.elim)⟩
  have hwn : wf (sn + 1) := wf_of ⟨by omega, by omega⟩
  have hwr : wf re := wf_of HR0.out
  have hap := hap.1
  obtain ⟨v0a, va, wa, hra, sta⟩ := st0.enterA hap hwn
  have hra : (Instr.mapEntry 80 (.map (some k1)) (.int .i64 (sn + 1))).run Tryd.prog w2.drew = .ok (.tuple #[v0a, va]) wa := hra
  obtain ⟨wb, hrb, stb⟩ := sta.storeA hap
  obtain ⟨v0c, vc, wc, hrc, stc⟩ := stb.enterB hap hwn
  obtain ⟨wd, hrd, std⟩ := stc.storeB hap
  have SA := Lib.hid (hS _ sta.kept)
  have SB := Lib.hid (hS _ stb.kept)
  have SC := Lib.hid (hS _ stc.kept)
  have SD := Lib.hid (hS _ std.kept)
  have S0 := Lib.hid (hS _ st0.kept)
  have STD := Lib.hid std
  have H2 := Lib.hid h2
  have K2 := Lib.hid K2
  clear hS h2 pe2 st0 sta stb stc std hwn hwr hap
  go_region_held3 (fun w' => w'.cell? ⟨hb, 0, none⟩ = some (.int .i64 (sn + 1)) ∧ w'.cell? ⟨hb, 3, none⟩ = some (.map (some k1)) ∧ w'.cell? ⟨hb, 4, none⟩ = some (.map (some k2)) ∧ w'.cell? ⟨q, 0, none⟩ = some (.int .i64 17) ∧ w'.cell? ⟨q, 3, none⟩ = some (.int .i64 id)) (first | exact S0.out | exact SA.out | exact SB.out | exact SC.out | exact SD.out) (fail)
  have hd : HMem wd hb k1 k2 k3 k4 { s with n := sn + 1, pos := po, kinds := aput s.kinds (sn + 1) 17, ids := aput s.ids (sn + 1) id } := STD.out.mem H2.out
  have KD : Kept (HS hb k1 k2 k3 k4) w wd := K2.out.trans (STD.out.kept.mono (by rintro b (rfl | rfl) <;> (unfold HS; simp)))
  have p0 : wd.cell? ⟨q, 0, none⟩ = some (.int .i64 17) := SD.out.2.2.2.1
  have HD := Lib.hid hd
  have HK := Lib.hid KD
  clear hd KD hra hrb hrc hrd
  have HCl := closes11_any 17
  go_wp2_with fail
  refine (HCl _).mono ?_
  rintro e1 w9 ⟨rfl, rfl⟩
  go_wp2_with fail
  go_ret2
  have e := HSN.out
  subst e
  exact ⟨rfl, HD.out, HK.out⟩

set_option maxRecDepth 100000 in
set_option maxHeartbeats 4000000 in
theorem add_2 {w : World} {hb k1 k2 k3 k4 : Nat} {s : HsD} (h : HMem w hb k1 k2 k3 k4 s) (ok : HOk s) {po re id li nn : Int} {bs : List UInt8} {A : Option Addr} {L c : Nat} (hl : bs.length = L) (hr : okI re) (hR : faultS s ⟨2, po, re, id, li, nn, bs⟩ = wNone) :
    Calls Tryd.prog 34 #[.pointer (some ⟨hb, 0, none⟩), .agg #[.int .i64 2, .int .i64 po, .int .i64 re, .int .i64 id, .int .i64 li, .int .i64 nn, .slice A L c]] w (AddEnd hb k1 k2 k3 k4 (addS s ⟨2, po, re, id, li, nn, bs⟩) wNone true w) := by
  have hFault := fun (W : World) (H : HMem W hb k1 k2 k3 k4 s) => fault_any H ok.kinds ⟨2, po, re, id, li, nn, bs⟩ A L c hl hr
  rw [hR] at hFault
  unfold wNone at hFault
  unfold aggE at hFault
  simp only at hFault
  have HFault := Lib.hid hFault
  have lt0 := h.box.lt
  have lt1 := h.kinds.lt
  have lt2 := h.ids.lt
  have lt3 := h.of_.lt
  have lt4 := h.frm.lt
  obtain ⟨q, hq⟩ : ∃ q, w.heap.size = q := ⟨_, rfl⟩
  have hnq : ¬ HS hb k1 k2 k3 k4 q := by
    intro hh
    unfold HS at hh
    omega
  obtain ⟨wz, hwz⟩ : ∃ wz, w.alloc (.cells #[.int .i64 2, .int .i64 po, .int .i64 re, .int .i64 id, .int .i64 li, .int .i64 nn, .slice A L c] 24) = wz := ⟨_, rfl⟩
  have hz : HMem wz hb k1 k2 k3 k4 s := hwz ▸ h.at_alloc _
  have pe : Blk wz q 24 #[.int .i64 2, .int .i64 po, .int .i64 re, .int .i64 id, .int .i64 li, .int .i64 nn, .slice A L c] := hwz ▸ hq ▸ Blk.new w 24 _
  have kz : Kept NoBlk w wz := hwz ▸ (Kept.refl NoBlk w).alloc _
  have p0 : wz.cell? ⟨q, 0, none⟩ = some (.int .i64 2) := pe.cell 0
  have p1 : wz.cell? ⟨q, 0 + 1, none⟩ = some (.int .i64 po) := pe.cell 1
  have p2 : wz.cell? ⟨q, 0 + 2, none⟩ = some (.int .i64 re) := pe.cell 2
  have p3 : wz.cell? ⟨q, 0 + 3, none⟩ = some (.int .i64 id) := pe.cell 3
  have p4 : wz.cell? ⟨q, 0 + 4, none⟩ = some (.int .i64 li) := pe.cell 4
  have p5 : wz.cell? ⟨q, 0 + 5, none⟩ = some (.int .i64 nn) := pe.cell 5
  have p6 : wz.cell? ⟨q, 0 + 6, none⟩ = some (.slice A L c) := pe.cell 6
  have HZ := Lib.hid hz
  have HP := Lib.hid pe
  have HK := Lib.hid kz
  have HQ := Lib.hid hnq
  have OK := Lib.hid ok
  have HR0 := Lib.hid hr
  clear h hz pe kz hFault hR hl hr hnq ok lt0 lt1 lt2 lt3 lt4
  go_enter Tryd.func34, Tryd.ntmps34
  go_upto_region 1 with fail
  clear hwz hq
  go_upto_region 2 with (go_at_call 48; refine (HFault.out _ HZ.out).mono ?_; rintro e1 w1 ⟨rfl, hk1⟩)
  have h1 : HMem w1 hb k1 k2 k3 k4 s := HZ.out.kept hk1
  have pe1 : Blk w1 q 24 #[.int .i64 2, .int .i64 po, .int .i64 re, .int .i64 id, .int .i64 li, .int .i64 nn, .slice A L c] := HP.out.kept hk1 (fun e => e.elim)
  have K1 : Kept NoBlk w w1 := HK.out.trans hk1
  clear p0 p1 p2 p3 p4 p5 p6 HZ HP HK hk1
  obtain ⟨sn, hsn⟩ : ∃ x, s.n = x := ⟨_, rfl⟩
  have n0 := OK.out.n0
  have n1 := OK.out.n1
  rw [hsn] at n0 n1
  have d0 : w1.cell? ⟨hb, 0, none⟩ = some (.int .i64 sn) := hsn ▸ h1.box.cell 0
  have d1 : w1.cell? ⟨hb, 0 + 1, none⟩ = some (.int .i64 s.pos) := h1.box.cell 1
  have hE : (!(ByteArray.mk #[]).toList.isEmpty) = false := by kernel_rfl
  have hne : hb ≠ q := fun e => HQ.out (by unfold HS; left; exact e.symm)
  have p0 : w1.cell? ⟨q, 0, none⟩ = some (.int .i64 2) := pe1.cell 0
  have p1 : w1.cell? ⟨q, 0 + 1, none⟩ = some (.int .i64 po) := pe1.cell 1
  have f0 := h1.box.frozen
  have H1 := Lib.hid h1
  have HP := Lib.hid pe1
  have HK := Lib.hid K1
  have HSN := Lib.hid hsn
  clear h1 pe1 K1 hsn
  go_upto_region 6 with fail
  obtain ⟨w2, hw2⟩ : ∃ w2, (w1.setCell ⟨hb, 0, none⟩ (.int .i64 (sn + 1))).setCell ⟨hb, 1, none⟩ (.int .i64 po) = w2 := ⟨_, rfl⟩
  have h2 : HMem w2 hb k1 k2 k3 k4 { s with n := sn + 1, pos := po } := by
    rw [← hw2]
    exact (H1.out.setN (sn + 1)).setPos po
  have pe2 : Blk w2 q 24 #[.int .i64 2, .int .i64 po, .int .i64 re, .int .i64 id, .int .i64 li, .int .i64 nn, .slice A L c] := by
    rw [← hw2]
    exact (HP.out.far (fun e => hne e.symm) _).far (fun e => hne e.symm) _
  have K2 : Kept (HS hb k1 k2 k3 k4) w w2 := by
    rw [← hw2]
    exact ((HK.out.mono (fun _ e => e.elim)).setCell (Or.inl (Or.inl rfl)) _).setCell (Or.inl (Or.inl rfl)) _
  rw [hw2]
  clear hw2 p0 p1 d0 d1 H1 HP HK f0 hE
  have hap := h2.apart
  have p0 : w2.cell? ⟨q, 0, none⟩ = some (.int .i64 2) := pe2.cell 0
  have p2 : w2.cell? ⟨q, 0 + 2, none⟩ = some (.int .i64 re) := pe2.cell 2
  have p3 : w2.cell? ⟨q, 0 + 3, none⟩ = some (.int .i64 id) := pe2.cell 3
  have d0 : w2.cell? ⟨hb, 0, none⟩ = some (.int .i64 (sn + 1)) := h2.box.cell 0
  have d5 : w2.cell? ⟨hb, 0 + 5, none⟩ = some (.int .i64 s.task) := h2.box.cell 5
  have d6 : w2.cell? ⟨hb, 0 + 6, none⟩ = some (.bool s.begun) := h2.box.cell 6
  have f0 := h2.box.frozen
  have n5 : w2.frozen? ⟨hb, 5, none⟩ = false := f0 5
  have n6 : w2.frozen? ⟨hb, 6, none⟩ = false := f0 6
  clear f0
  have H2 := Lib.hid h2
  have HP := Lib.hid pe2
  have K2 := Lib.hid K2
  clear h2 pe2 hap
  go_upto_region 9 with fail
  go_region
  obtain ⟨wd, hwd⟩ : ∃ wd, ((w2.setCell ⟨hb, 5, none⟩ (.int .i64 (sn + 1))).setCell ⟨hb, 6, none⟩ (.bool false)).drew = wd := ⟨_, rfl⟩
  have hd : HMem wd hb k1 k2 k3 k4 { s with n := sn + 1, pos := po, task := sn + 1, begun := false } := by
    rw [← hwd]
    exact ((H2.out.setTask (sn + 1)).setBegun false).kept (Kept.refl NoBlk _).drew
  have KD : Kept (HS hb k1 k2 k3 k4) w wd := by
    rw [← hwd]
    exact ((K2.out.setCell (Or.inl (Or.inl rfl)) _).setCell (Or.inl (Or.inl rfl)) _).drew
  have pd : Blk wd q 24 #[.int .i64 2, .int .i64 po, .int .i64 re, .int .i64 id, .int .i64 li, .int .i64 nn, .slice A L c] := by
    rw [← hwd]
    exact ((HP.out.far (fun e => hne e.symm) _).far (fun e => hne e.symm) _).drew
  rw [hwd]
  clear hwd d5 d6 n5 n6 p0 d0 p2 p3
  have p0 : wd.cell? ⟨q, 0, none⟩ = some (.int .i64 2) := pd.cell 0
  have HD := Lib.hid hd
  have HK := Lib.hid KD
  clear hd KD pd
  have HCl := closes11_any 2
  go_wp2_with fail
  refine (HCl _).mono ?_
  rintro e1 w9 ⟨rfl, rfl⟩
  go_wp2_with fail
  go_ret2
  have e := HSN.out
  subst e
  exact ⟨rfl, HD.out, HK.out⟩

set_option maxRecDepth 100000 in
set_option maxHeartbeats 4000000 in
theorem add_3 {w : World} {hb k1 k2 k3 k4 : Nat} {s : HsD} (h : HMem w hb k1 k2 k3 k4 s) (ok : HOk s) {po re id li nn : Int} {bs : List UInt8} {A : Option Addr} {L c : Nat} (hl : bs.length = L) (hr : okI re) (hR : faultS s ⟨3, po, re, id, li, nn, bs⟩ = wNone) :
    Calls Tryd.prog 34 #[.pointer (some ⟨hb, 0, none⟩), .agg #[.int .i64 3, .int .i64 po, .int .i64 re, .int .i64 id, .int .i64 li, .int .i64 nn, .slice A L c]] w (AddEnd hb k1 k2 k3 k4 (addS s ⟨3, po, re, id, li, nn, bs⟩) wNone true w) := by
  have hFault := fun (W : World) (H : HMem W hb k1 k2 k3 k4 s) => fault_any H ok.kinds ⟨3, po, re, id, li, nn, bs⟩ A L c hl hr
  rw [hR] at hFault
  unfold wNone at hFault
  unfold aggE at hFault
  simp only at hFault
  have HFault := Lib.hid hFault
  have lt0 := h.box.lt
  have lt1 := h.kinds.lt
  have lt2 := h.ids.lt
  have lt3 := h.of_.lt
  have lt4 := h.frm.lt
  obtain ⟨q, hq⟩ : ∃ q, w.heap.size = q := ⟨_, rfl⟩
  have hnq : ¬ HS hb k1 k2 k3 k4 q := by
    intro hh
    unfold HS at hh
    omega
  obtain ⟨wz, hwz⟩ : ∃ wz, w.alloc (.cells #[.int .i64 3, .int .i64 po, .int .i64 re, .int .i64 id, .int .i64 li, .int .i64 nn, .slice A L c] 24) = wz := ⟨_, rfl⟩
  have hz : HMem wz hb k1 k2 k3 k4 s := hwz ▸ h.at_alloc _
  have pe : Blk wz q 24 #[.int .i64 3, .int .i64 po, .int .i64 re, .int .i64 id, .int .i64 li, .int .i64 nn, .slice A L c] := hwz ▸ hq ▸ Blk.new w 24 _
  have kz : Kept NoBlk w wz := hwz ▸ (Kept.refl NoBlk w).alloc _
  have p0 : wz.cell? ⟨q, 0, none⟩ = some (.int .i64 3) := pe.cell 0
  have p1 : wz.cell? ⟨q, 0 + 1, none⟩ = some (.int .i64 po) := pe.cell 1
  have p2 : wz.cell? ⟨q, 0 + 2, none⟩ = some (.int .i64 re) := pe.cell 2
  have p3 : wz.cell? ⟨q, 0 + 3, none⟩ = some (.int .i64 id) := pe.cell 3
  have p4 : wz.cell? ⟨q, 0 + 4, none⟩ = some (.int .i64 li) := pe.cell 4
  have p5 : wz.cell? ⟨q, 0 + 5, none⟩ = some (.int .i64 nn) := pe.cell 5
  have p6 : wz.cell? ⟨q, 0 + 6, none⟩ = some (.slice A L c) := pe.cell 6
  have HZ := Lib.hid hz
  have HP := Lib.hid pe
  have HK := Lib.hid kz
  have HQ := Lib.hid hnq
  have OK := Lib.hid ok
  have HR0 := Lib.hid hr
  clear h hz pe kz hFault hR hl hr hnq ok lt0 lt1 lt2 lt3 lt4
  go_enter Tryd.func34, Tryd.ntmps34
  go_upto_region 1 with fail
  clear hwz hq
  go_upto_region 2 with (go_at_call 48; refine (HFault.out _ HZ.out).mono ?_; rintro e1 w1 ⟨rfl, hk1⟩)
  have h1 : HMem w1 hb k1 k2 k3 k4 s := HZ.out.kept hk1
  have pe1 : Blk w1 q 24 #[.int .i64 3, .int .i64 po, .int .i64 re, .int .i64 id, .int .i64 li, .int .i64 nn, .slice A L c] := HP.out.kept hk1 (fun e => e.elim)
  have K1 : Kept NoBlk w w1 := HK.out.trans hk1
  clear p0 p1 p2 p3 p4 p5 p6 HZ HP HK hk1
  obtain ⟨sn, hsn⟩ : ∃ x, s.n = x := ⟨_, rfl⟩
  have n0 := OK.out.n0
  have n1 := OK.out.n1
  rw [hsn] at n0 n1
  have d0 : w1.cell? ⟨hb, 0, none⟩ = some (.int .i64 sn) := hsn ▸ h1.box.cell 0
  have d1 : w1.cell? ⟨hb, 0 + 1, none⟩ = some (.int .i64 s.pos) := h1.box.cell 1
  have hE : (!(ByteArray.mk #[]).toList.isEmpty) = false := by kernel_rfl
  have hne : hb ≠ q := fun e => HQ.out (by unfold HS; left; exact e.symm)
  have p0 : w1.cell? ⟨q, 0, none⟩ = some (.int .i64 3) := pe1.cell 0
  have p1 : w1.cell? ⟨q, 0 + 1, none⟩ = some (.int .i64 po) := pe1.cell 1
  have f0 := h1.box.frozen
  have H1 := Lib.hid h1
  have HP := Lib.hid pe1
  have HK := Lib.hid K1
  have HSN := Lib.hid hsn
  clear h1 pe1 K1 hsn
  go_upto_region 6 with fail
  obtain ⟨w2, hw2⟩ : ∃ w2, (w1.setCell ⟨hb, 0, none⟩ (.int .i64 (sn + 1))).setCell ⟨hb, 1, none⟩ (.int .i64 po) = w2 := ⟨_, rfl⟩
  have h2 : HMem w2 hb k1 k2 k3 k4 { s with n := sn + 1, pos := po } := by
    rw [← hw2]
    exact (H1.out.setN (sn + 1)).setPos po
  have pe2 : Blk w2 q 24 #[.int .i64 3, .int .i64 po, .int .i64 re, .int .i64 id, .int .i64 li, .int .i64 nn, .slice A L c] := by
    rw [← hw2]
    exact (HP.out.far (fun e => hne e.symm) _).far (fun e => hne e.symm) _
  have K2 : Kept (HS hb k1 k2 k3 k4) w w2 := by
    rw [← hw2]
    exact ((HK.out.mono (fun _ e => e.elim)).setCell (Or.inl (Or.inl rfl)) _).setCell (Or.inl (Or.inl rfl)) _
  rw [hw2]
  clear hw2 p0 p1 d0 d1 H1 HP HK f0 hE
  have hap := h2.apart
  have p0 : w2.cell? ⟨q, 0, none⟩ = some (.int .i64 3) := pe2.cell 0
  have p2 : w2.cell? ⟨q, 0 + 2, none⟩ = some (.int .i64 re) := pe2.cell 2
  have p3 : w2.cell? ⟨q, 0 + 3, none⟩ = some (.int .i64 id) := pe2.cell 3
  have d0 : w2.cell? ⟨hb, 0, none⟩ = some (.int .i64 (sn + 1)) := h2.box.cell 0
  have d5 : w2.cell? ⟨hb, 0 + 5, none⟩ = some (.int .i64 s.task) := h2.box.cell 5
  have d6 : w2.cell? ⟨hb, 0 + 6, none⟩ = some (.bool s.begun) := h2.box.cell 6
  have f0 := h2.box.frozen
  have n5 : w2.frozen? ⟨hb, 5, none⟩ = false := f0 5
  have n6 : w2.frozen? ⟨hb, 6, none⟩ = false := f0 6
  clear f0
  have H2 := Lib.hid h2
  have HP := Lib.hid pe2
  have K2 := Lib.hid K2
  clear h2 pe2 hap
  go_upto_region 9 with fail
  go_region
  obtain ⟨wd, hwd⟩ : ∃ wd, ((w2.setCell ⟨hb, 5, none⟩ (.int .i64 (sn + 1))).setCell ⟨hb, 6, none⟩ (.bool true)).drew = wd := ⟨_, rfl⟩
  have hd : HMem wd hb k1 k2 k3 k4 { s with n := sn + 1, pos := po, task := sn + 1, begun := true } := by
    rw [← hwd]
    exact ((H2.out.setTask (sn + 1)).setBegun true).kept (Kept.refl NoBlk _).drew
  have KD : Kept (HS hb k1 k2 k3 k4) w wd := by
    rw [← hwd]
    exact ((K2.out.setCell (Or.inl (Or.inl rfl)) _).setCell (Or.inl (Or.inl rfl)) _).drew
  have pd : Blk wd q 24 #[.int .i64 3, .int .i64 po, .int .i64 re, .int .i64 id, .int .i64 li, .int .i64 nn, .slice A L c] := by
    rw [← hwd]
    exact ((HP.out.far (fun e => hne e.symm) _).far (fun e => hne e.symm) _).drew
  rw [hwd]
  clear hwd d5 d6 n5 n6 p0 d0 p2 p3
  have p0 : wd.cell? ⟨q, 0, none⟩ = some (.int .i64 3) := pd.cell 0
  have HD := Lib.hid hd
  have HK := Lib.hid KD
  clear hd KD pd
  have HCl := closes11_any 3
  go_wp2_with fail
  refine (HCl _).mono ?_
  rintro e1 w9 ⟨rfl, rfl⟩
  go_wp2_with fail
  go_ret2
  have e := HSN.out
  subst e
  exact ⟨rfl, HD.out, HK.out⟩

set_option maxRecDepth 100000 in
set_option maxHeartbeats 4000000 in
theorem add_4 {w : World} {hb k1 k2 k3 k4 : Nat} {s : HsD} (h : HMem w hb k1 k2 k3 k4 s) (ok : HOk s) {po re id li nn : Int} {bs : List UInt8} {A : Option Addr} {L c : Nat} (hl : bs.length = L) (hr : okI re) (hR : faultS s ⟨4, po, re, id, li, nn, bs⟩ = wNone) :
    Calls Tryd.prog 34 #[.pointer (some ⟨hb, 0, none⟩), .agg #[.int .i64 4, .int .i64 po, .int .i64 re, .int .i64 id, .int .i64 li, .int .i64 nn, .slice A L c]] w (AddEnd hb k1 k2 k3 k4 (addS s ⟨4, po, re, id, li, nn, bs⟩) wNone true w) := by
  have hFault := fun (W : World) (H : HMem W hb k1 k2 k3 k4 s) => fault_any H ok.kinds ⟨4, po, re, id, li, nn, bs⟩ A L c hl hr
  rw [hR] at hFault
  unfold wNone at hFault
  unfold aggE at hFault
  simp only at hFault
  have HFault := Lib.hid hFault
  have lt0 := h.box.lt
  have lt1 := h.kinds.lt
  have lt2 := h.ids.lt
  have lt3 := h.of_.lt
  have lt4 := h.frm.lt
  obtain ⟨q, hq⟩ : ∃ q, w.heap.size = q := ⟨_, rfl⟩
  have hnq : ¬ HS hb k1 k2 k3 k4 q := by
    intro hh
    unfold HS at hh
    omega
  obtain ⟨wz, hwz⟩ : ∃ wz, w.alloc (.cells #[.int .i64 4, .int .i64 po, .int .i64 re, .int .i64 id, .int .i64 li, .int .i64 nn, .slice A L c] 24) = wz := ⟨_, rfl⟩
  have hz : HMem wz hb k1 k2 k3 k4 s := hwz ▸ h.at_alloc _
  have pe : Blk wz q 24 #[.int .i64 4, .int .i64 po, .int .i64 re, .int .i64 id, .int .i64 li, .int .i64 nn, .slice A L c] := hwz ▸ hq ▸ Blk.new w 24 _
  have kz : Kept NoBlk w wz := hwz ▸ (Kept.refl NoBlk w).alloc _
  have p0 : wz.cell? ⟨q, 0, none⟩ = some (.int .i64 4) := pe.cell 0
  have p1 : wz.cell? ⟨q, 0 + 1, none⟩ = some (.int .i64 po) := pe.cell 1
  have p2 : wz.cell? ⟨q, 0 + 2, none⟩ = some (.int .i64 re) := pe.cell 2
  have p3 : wz.cell? ⟨q, 0 + 3, none⟩ = some (.int .i64 id) := pe.cell 3
  have p4 : wz.cell? ⟨q, 0 + 4, none⟩ = some (.int .i64 li) := pe.cell 4
  have p5 : wz.cell? ⟨q, 0 + 5, none⟩ = some (.int .i64 nn) := pe.cell 5
  have p6 : wz.cell? ⟨q, 0 + 6, none⟩ = some (.slice A L c) := pe.cell 6
  have HZ := Lib.hid hz
  have HP := Lib.hid pe
  have HK := Lib.hid kz
  have HQ := Lib.hid hnq
  have OK := Lib.hid ok
  have HR0 := Lib.hid hr
  clear h hz pe kz hFault hR hl hr hnq ok lt0 lt1 lt2 lt3 lt4
  go_enter Tryd.func34, Tryd.ntmps34
  go_upto_region 1 with fail
  clear hwz hq
  go_upto_region 2 with (go_at_call 48; refine (HFault.out _ HZ.out).mono ?_; rintro e1 w1 ⟨rfl, hk1⟩)
  have h1 : HMem w1 hb k1 k2 k3 k4 s := HZ.out.kept hk1
  have pe1 : Blk w1 q 24 #[.int .i64 4, .int .i64 po, .int .i64 re, .int .i64 id, .int .i64 li, .int .i64 nn, .slice A L c] := HP.out.kept hk1 (fun e => e.elim)
  have K1 : Kept NoBlk w w1 := HK.out.trans hk1
  clear p0 p1 p2 p3 p4 p5 p6 HZ HP HK hk1
  obtain ⟨sn, hsn⟩ : ∃ x, s.n = x := ⟨_, rfl⟩
  have n0 := OK.out.n0
  have n1 := OK.out.n1
  rw [hsn] at n0 n1
  have d0 : w1.cell? ⟨hb, 0, none⟩ = some (.int .i64 sn) := hsn ▸ h1.box.cell 0
  have d1 : w1.cell? ⟨hb, 0 + 1, none⟩ = some (.int .i64 s.pos) := h1.box.cell 1
  have hE : (!(ByteArray.mk #[]).toList.isEmpty) = false := by kernel_rfl
  have hne : hb ≠ q := fun e => HQ.out (by unfold HS; left; exact e.symm)
  have p0 : w1.cell? ⟨q, 0, none⟩ = some (.int .i64 4) := pe1.cell 0
  have p1 : w1.cell? ⟨q, 0 + 1, none⟩ = some (.int .i64 po) := pe1.cell 1
  have f0 := h1.box.frozen
  have H1 := Lib.hid h1
  have HP := Lib.hid pe1
  have HK := Lib.hid K1
  have HSN := Lib.hid hsn
  clear h1 pe1 K1 hsn
  go_upto_region 6 with fail
  obtain ⟨w2, hw2⟩ : ∃ w2, (w1.setCell ⟨hb, 0, none⟩ (.int .i64 (sn + 1))).setCell ⟨hb, 1, none⟩ (.int .i64 po) = w2 := ⟨_, rfl⟩
  have h2 : HMem w2 hb k1 k2 k3 k4 { s with n := sn + 1, pos := po } := by
    rw [← hw2]
    exact (H1.out.setN (sn + 1)).setPos po
  have pe2 : Blk w2 q 24 #[.int .i64 4, .int .i64 po, .int .i64 re, .int .i64 id, .int .i64 li, .int .i64 nn, .slice A L c] := by
    rw [← hw2]
    exact (HP.out.far (fun e => hne e.symm) _).far (fun e => hne e.symm) _
  have K2 : Kept (HS hb k1 k2 k3 k4) w w2 := by
    rw [← hw2]
    exact ((HK.out.mono (fun _ e => e.elim)).setCell (Or.inl (Or.inl rfl)) _).setCell (Or.inl (Or.inl rfl)) _
  rw [hw2]
  clear hw2 p0 p1 d0 d1 H1 HP HK f0 hE
  have hap := h2.apart
  have p0 : w2.cell? ⟨q, 0, none⟩ = some (.int .i64 4) := pe2.cell 0
  have p2 : w2.cell? ⟨q, 0 + 2, none⟩ = some (.int .i64 re) := pe2.cell 2
  have p3 : w2.cell? ⟨q, 0 + 3, none⟩ = some (.int .i64 id) := pe2.cell 3
  have d0 : w2.cell? ⟨hb, 0, none⟩ = some (.int .i64 (sn + 1)) := h2.box.cell 0
  have d5 : w2.cell? ⟨hb, 0 + 5, none⟩ = some (.int .i64 s.task) := h2.box.cell 5
  have d6 : w2.cell? ⟨hb, 0 + 6, none⟩ = some (.bool s.begun) := h2.box.cell 6
  have f0 := h2.box.frozen
  have H2 := Lib.hid h2
  have HP := Lib.hid pe2
  have K2 := Lib.hid K2
  clear h2 pe2 hap
  go_upto_region 31 with fail
  clear f0 d5 d6
  obtain ⟨wd, hwd⟩ : ∃ wd, (w2.setCell ⟨hb, 5, none⟩ (.int .i64 0)).setCell ⟨hb, 6, none⟩ (.bool false) = wd := ⟨_, rfl⟩
  have hd : HMem wd hb k1 k2 k3 k4 { s with n := sn + 1, pos := po, task := 0, begun := false } := by
    rw [← hwd]
    exact (H2.out.setTask 0).setBegun false
  have KD : Kept (HS hb k1 k2 k3 k4) w wd := by
    rw [← hwd]
    exact (K2.out.setCell (Or.inl (Or.inl rfl)) _).setCell (Or.inl (Or.inl rfl)) _
  have pd : Blk wd q 24 #[.int .i64 4, .int .i64 po, .int .i64 re, .int .i64 id, .int .i64 li, .int .i64 nn, .slice A L c] := by
    rw [← hwd]
    exact (HP.out.far (fun e => hne e.symm) _).far (fun e => hne e.symm) _
  rw [hwd]
  clear hwd p0 d0 p2 p3
  have p0 : wd.cell? ⟨q, 0, none⟩ = some (.int .i64 4) := pd.cell 0
  have HD := Lib.hid hd
  have HK := Lib.hid KD
  clear hd KD pd
  have HCl := closes11_any 4
  go_wp2_with fail
  refine (HCl _).mono ?_
  rintro e1 w9 ⟨rfl, rfl⟩
  go_wp2_with fail
  go_ret2
  have e := HSN.out
  subst e
  exact ⟨rfl, HD.out, HK.out⟩

set_option maxRecDepth 100000 in
set_option maxHeartbeats 4000000 in
theorem add_5 {w : World} {hb k1 k2 k3 k4 : Nat} {s : HsD} (h : HMem w hb k1 k2 k3 k4 s) (ok : HOk s) {po re id li nn : Int} {bs : List UInt8} {A : Option Addr} {L c : Nat} (hl : bs.length = L) (hr : okI re) (hR : faultS s ⟨5, po, re, id, li, nn, bs⟩ = wNone) :
    Calls Tryd.prog 34 #[.pointer (some ⟨hb, 0, none⟩), .agg #[.int .i64 5, .int .i64 po, .int .i64 re, .int .i64 id, .int .i64 li, .int .i64 nn, .slice A L c]] w (AddEnd hb k1 k2 k3 k4 (addS s ⟨5, po, re, id, li, nn, bs⟩) wNone true w) := by
  have hFault := fun (W : World) (H : HMem W hb k1 k2 k3 k4 s) => fault_any H ok.kinds ⟨5, po, re, id, li, nn, bs⟩ A L c hl hr
  rw [hR] at hFault
  unfold wNone at hFault
  unfold aggE at hFault
  simp only at hFault
  have HFault := Lib.hid hFault
  have lt0 := h.box.lt
  have lt1 := h.kinds.lt
  have lt2 := h.ids.lt
  have lt3 := h.of_.lt
  have lt4 := h.frm.lt
  obtain ⟨q, hq⟩ : ∃ q, w.heap.size = q := ⟨_, rfl⟩
  have hnq : ¬ HS hb k1 k2 k3 k4 q := by
    intro hh
    unfold HS at hh
    omega
  obtain ⟨wz, hwz⟩ : ∃ wz, w.alloc (.cells #[.int .i64 5, .int .i64 po, .int .i64 re, .int .i64 id, .int .i64 li, .int .i64 nn, .slice A L c] 24) = wz := ⟨_, rfl⟩
  have hz : HMem wz hb k1 k2 k3 k4 s := hwz ▸ h.at_alloc _
  have pe : Blk wz q 24 #[.int .i64 5, .int .i64 po, .int .i64 re, .int .i64 id, .int .i64 li, .int .i64 nn, .slice A L c] := hwz ▸ hq ▸ Blk.new w 24 _
  have kz : Kept NoBlk w wz := hwz ▸ (Kept.refl NoBlk w).alloc _
  have p0 : wz.cell? ⟨q, 0, none⟩ = some (.int .i64 5) := pe.cell 0
  have p1 : wz.cell? ⟨q, 0 + 1, none⟩ = some (.int .i64 po) := pe.cell 1
  have p2 : wz.cell? ⟨q, 0 + 2, none⟩ = some (.int .i64 re) := pe.cell 2
  have p3 : wz.cell? ⟨q, 0 + 3, none⟩ = some (.int .i64 id) := pe.cell 3
  have p4 : wz.cell? ⟨q, 0 + 4, none⟩ = some (.int .i64 li) := pe.cell 4
  have p5 : wz.cell? ⟨q, 0 + 5, none⟩ = some (.int .i64 nn) := pe.cell 5
  have p6 : wz.cell? ⟨q, 0 + 6, none⟩ = some (.slice A L c) := pe.cell 6
  have HZ := Lib.hid hz
  have HP := Lib.hid pe
  have HK := Lib.hid kz
  have HQ := Lib.hid hnq
  have OK := Lib.hid ok
  have HR0 := Lib.hid hr
  clear h hz pe kz hFault hR hl hr hnq ok lt0 lt1 lt2 lt3 lt4
  go_enter Tryd.func34, Tryd.ntmps34
  go_upto_region 1 with fail
  clear hwz hq
  go_upto_region 2 with (go_at_call 48; refine (HFault.out _ HZ.out).mono ?_; rintro e1 w1 ⟨rfl, hk1⟩)
  have h1 : HMem w1 hb k1 k2 k3 k4 s := HZ.out.kept hk1
  have pe1 : Blk w1 q 24 #[.int .i64 5, .int .i64 po, .int .i64 re, .int .i64 id, .int .i64 li, .int .i64 nn, .slice A L c] := HP.out.kept hk1 (fun e => e.elim)
  have K1 : Kept NoBlk w w1 := HK.out.trans hk1
  clear p0 p1 p2 p3 p4 p5 p6 HZ HP HK hk1
  obtain ⟨sn, hsn⟩ : ∃ x, s.n = x := ⟨_, rfl⟩
  have n0 := OK.out.n0
  have n1 := OK.out.n1
  rw [hsn] at n0 n1
  have d0 : w1.cell? ⟨hb, 0, none⟩ = some (.int .i64 sn) := hsn ▸ h1.box.cell 0
  have d1 : w1.cell? ⟨hb, 0 + 1, none⟩ = some (.int .i64 s.pos) := h1.box.cell 1
  have hE : (!(ByteArray.mk #[]).toList.isEmpty) = false := by kernel_rfl
  have hne : hb ≠ q := fun e => HQ.out (by unfold HS; left; exact e.symm)
  have p0 : w1.cell? ⟨q, 0, none⟩ = some (.int .i64 5) := pe1.cell 0
  have p1 : w1.cell? ⟨q, 0 + 1, none⟩ = some (.int .i64 po) := pe1.cell 1
  have f0 := h1.box.frozen
  have H1 := Lib.hid h1
  have HP := Lib.hid pe1
  have HK := Lib.hid K1
  have HSN := Lib.hid hsn
  clear h1 pe1 K1 hsn
  go_upto_region 6 with fail
  obtain ⟨w2, hw2⟩ : ∃ w2, (w1.setCell ⟨hb, 0, none⟩ (.int .i64 (sn + 1))).setCell ⟨hb, 1, none⟩ (.int .i64 po) = w2 := ⟨_, rfl⟩
  have h2 : HMem w2 hb k1 k2 k3 k4 { s with n := sn + 1, pos := po } := by
    rw [← hw2]
    exact (H1.out.setN (sn + 1)).setPos po
  have pe2 : Blk w2 q 24 #[.int .i64 5, .int .i64 po, .int .i64 re, .int .i64 id, .int .i64 li, .int .i64 nn, .slice A L c] := by
    rw [← hw2]
    exact (HP.out.far (fun e => hne e.symm) _).far (fun e => hne e.symm) _
  have K2 : Kept (HS hb k1 k2 k3 k4) w w2 := by
    rw [← hw2]
    exact ((HK.out.mono (fun _ e => e.elim)).setCell (Or.inl (Or.inl rfl)) _).setCell (Or.inl (Or.inl rfl)) _
  rw [hw2]
  clear hw2 p0 p1 d0 d1 H1 HP HK f0 hE
  have hap := h2.apart
  have p0 : w2.cell? ⟨q, 0, none⟩ = some (.int .i64 5) := pe2.cell 0
  have p2 : w2.cell? ⟨q, 0 + 2, none⟩ = some (.int .i64 re) := pe2.cell 2
  have p3 : w2.cell? ⟨q, 0 + 3, none⟩ = some (.int .i64 id) := pe2.cell 3
  have d0 : w2.cell? ⟨hb, 0, none⟩ = some (.int .i64 (sn + 1)) := h2.box.cell 0
  have d5 : w2.cell? ⟨hb, 0 + 5, none⟩ = some (.int .i64 s.task) := h2.box.cell 5
  have d6 : w2.cell? ⟨hb, 0 + 6, none⟩ = some (.bool s.begun) := h2.box.cell 6
  have f0 := h2.box.frozen
  have H2 := Lib.hid h2
  have HP := Lib.hid pe2
  have K2 := Lib.hid K2
  clear h2 pe2 hap
  go_upto_region 31 with fail
  clear f0 d5 d6
  obtain ⟨wd, hwd⟩ : ∃ wd, (w2.setCell ⟨hb, 5, none⟩ (.int .i64 0)).setCell ⟨hb, 6, none⟩ (.bool false) = wd := ⟨_, rfl⟩
  have hd : HMem wd hb k1 k2 k3 k4 { s with n := sn + 1, pos := po, task := 0, begun := false } := by
    rw [← hwd]
    exact (H2.out.setTask 0).setBegun false
  have KD : Kept (HS hb k1 k2 k3 k4) w wd := by
    rw [← hwd]
    exact (K2.out.setCell (Or.inl (Or.inl rfl)) _).setCell (Or.inl (Or.inl rfl)) _
  have pd : Blk wd q 24 #[.int .i64 5, .int .i64 po, .int .i64 re, .int .i64 id, .int .i64 li, .int .i64 nn, .slice A L c] := by
    rw [← hwd]
    exact (HP.out.far (fun e => hne e.symm) _).far (fun e => hne e.symm) _
  rw [hwd]
  clear hwd p0 d0 p2 p3
  have p0 : wd.cell? ⟨q, 0, none⟩ = some (.int .i64 5) := pd.cell 0
  have HD := Lib.hid hd
  have HK := Lib.hid KD
  clear hd KD pd
  have HCl := closes11_any 5
  go_wp2_with fail
  refine (HCl _).mono ?_
  rintro e1 w9 ⟨rfl, rfl⟩
  go_wp2_with fail
  go_ret2
  have e := HSN.out
  subst e
  exact ⟨rfl, HD.out, HK.out⟩

set_option maxRecDepth 100000 in
set_option maxHeartbeats 4000000 in
theorem add_6 {w : World} {hb k1 k2 k3 k4 : Nat} {s : HsD} (h : HMem w hb k1 k2 k3 k4 s) (ok : HOk s) {po re id li nn : Int} {bs : List UInt8} {A : Option Addr} {L c : Nat} (hl : bs.length = L) (hr : okI re) (hR : faultS s ⟨6, po, re, id, li, nn, bs⟩ = wNone) :
    Calls Tryd.prog 34 #[.pointer (some ⟨hb, 0, none⟩), .agg #[.int .i64 6, .int .i64 po, .int .i64 re, .int .i64 id, .int .i64 li, .int .i64 nn, .slice A L c]] w (AddEnd hb k1 k2 k3 k4 (addS s ⟨6, po, re, id, li, nn, bs⟩) wNone true w) := by
  have hFault := fun (W : World) (H : HMem W hb k1 k2 k3 k4 s) => fault_any H ok.kinds ⟨6, po, re, id, li, nn, bs⟩ A L c hl hr
  rw [hR] at hFault
  unfold wNone at hFault
  unfold aggE at hFault
  simp only at hFault
  have HFault := Lib.hid hFault
  have lt0 := h.box.lt
  have lt1 := h.kinds.lt
  have lt2 := h.ids.lt
  have lt3 := h.of_.lt
  have lt4 := h.frm.lt
  obtain ⟨q, hq⟩ : ∃ q, w.heap.size = q := ⟨_, rfl⟩
  have hnq : ¬ HS hb k1 k2 k3 k4 q := by
    intro hh
    unfold HS at hh
    omega
  obtain ⟨wz, hwz⟩ : ∃ wz, w.alloc (.cells #[.int .i64 6, .int .i64 po, .int .i64 re, .int .i64 id, .int .i64 li, .int .i64 nn, .slice A L c] 24) = wz := ⟨_, rfl⟩
  have hz : HMem wz hb k1 k2 k3 k4 s := hwz ▸ h.at_alloc _
  have pe : Blk wz q 24 #[.int .i64 6, .int .i64 po, .int .i64 re, .int .i64 id, .int .i64 li, .int .i64 nn, .slice A L c] := hwz ▸ hq ▸ Blk.new w 24 _
  have kz : Kept NoBlk w wz := hwz ▸ (Kept.refl NoBlk w).alloc _
  have p0 : wz.cell? ⟨q, 0, none⟩ = some (.int .i64 6) := pe.cell 0
  have p1 : wz.cell? ⟨q, 0 + 1, none⟩ = some (.int .i64 po) := pe.cell 1
  have p2 : wz.cell? ⟨q, 0 + 2, none⟩ = some (.int .i64 re) := pe.cell 2
  have p3 : wz.cell? ⟨q, 0 + 3, none⟩ = some (.int .i64 id) := pe.cell 3
  have p4 : wz.cell? ⟨q, 0 + 4, none⟩ = some (.int .i64 li) := pe.cell 4
  have p5 : wz.cell? ⟨q, 0 + 5, none⟩ = some (.int .i64 nn) := pe.cell 5
  have p6 : wz.cell? ⟨q, 0 + 6, none⟩ = some (.slice A L c) := pe.cell 6
  have HZ := Lib.hid hz
  have HP := Lib.hid pe
  have HK := Lib.hid kz
  have HQ := Lib.hid hnq
  have OK := Lib.hid ok
  have HR0 := Lib.hid hr
  clear h hz pe kz hFault hR hl hr hnq ok lt0 lt1 lt2 lt3 lt4
  go_enter Tryd.func34, Tryd.ntmps34
  go_upto_region 1 with fail
  clear hwz hq
  go_upto_region 2 with (go_at_call 48; refine (HFault.out _ HZ.out).mono ?_; rintro e1 w1 ⟨rfl, hk1⟩)
  have h1 : HMem w1 hb k1 k2 k3 k4 s := HZ.out.kept hk1
  have pe1 : Blk w1 q 24 #[.int .i64 6, .int .i64 po, .int .i64 re, .int .i64 id, .int .i64 li, .int .i64 nn, .slice A L c] := HP.out.kept hk1 (fun e => e.elim)
  have K1 : Kept NoBlk w w1 := HK.out.trans hk1
  clear p0 p1 p2 p3 p4 p5 p6 HZ HP HK hk1
  obtain ⟨sn, hsn⟩ : ∃ x, s.n = x := ⟨_, rfl⟩
  have n0 := OK.out.n0
  have n1 := OK.out.n1
  rw [hsn] at n0 n1
  have d0 : w1.cell? ⟨hb, 0, none⟩ = some (.int .i64 sn) := hsn ▸ h1.box.cell 0
  have d1 : w1.cell? ⟨hb, 0 + 1, none⟩ = some (.int .i64 s.pos) := h1.box.cell 1
  have hE : (!(ByteArray.mk #[]).toList.isEmpty) = false := by kernel_rfl
  have hne : hb ≠ q := fun e => HQ.out (by unfold HS; left; exact e.symm)
  have p0 : w1.cell? ⟨q, 0, none⟩ = some (.int .i64 6) := pe1.cell 0
  have p1 : w1.cell? ⟨q, 0 + 1, none⟩ = some (.int .i64 po) := pe1.cell 1
  have f0 := h1.box.frozen
  have H1 := Lib.hid h1
  have HP := Lib.hid pe1
  have HK := Lib.hid K1
  have HSN := Lib.hid hsn
  clear h1 pe1 K1 hsn
  go_upto_region 6 with fail
  obtain ⟨w2, hw2⟩ : ∃ w2, (w1.setCell ⟨hb, 0, none⟩ (.int .i64 (sn + 1))).setCell ⟨hb, 1, none⟩ (.int .i64 po) = w2 := ⟨_, rfl⟩
  have h2 : HMem w2 hb k1 k2 k3 k4 { s with n := sn + 1, pos := po } := by
    rw [← hw2]
    exact (H1.out.setN (sn + 1)).setPos po
  have pe2 : Blk w2 q 24 #[.int .i64 6, .int .i64 po, .int .i64 re, .int .i64 id, .int .i64 li, .int .i64 nn, .slice A L c] := by
    rw [← hw2]
    exact (HP.out.far (fun e => hne e.symm) _).far (fun e => hne e.symm) _
  have K2 : Kept (HS hb k1 k2 k3 k4) w w2 := by
    rw [← hw2]
    exact ((HK.out.mono (fun _ e => e.elim)).setCell (Or.inl (Or.inl rfl)) _).setCell (Or.inl (Or.inl rfl)) _
  rw [hw2]
  clear hw2 p0 p1 d0 d1 H1 HP HK f0 hE
  have hap := h2.apart
  have p0 : w2.cell? ⟨q, 0, none⟩ = some (.int .i64 6) := pe2.cell 0
  have p2 : w2.cell? ⟨q, 0 + 2, none⟩ = some (.int .i64 re) := pe2.cell 2
  have p3 : w2.cell? ⟨q, 0 + 3, none⟩ = some (.int .i64 id) := pe2.cell 3
  have d0 : w2.cell? ⟨hb, 0, none⟩ = some (.int .i64 (sn + 1)) := h2.box.cell 0
  have d5 : w2.cell? ⟨hb, 0 + 5, none⟩ = some (.int .i64 s.task) := h2.box.cell 5
  have d6 : w2.cell? ⟨hb, 0 + 6, none⟩ = some (.bool s.begun) := h2.box.cell 6
  have f0 := h2.box.frozen
  have H2 := Lib.hid h2
  have HP := Lib.hid pe2
  have K2 := Lib.hid K2
  clear h2 pe2 hap
  go_upto_region 31 with fail
  clear f0 d5 d6
  obtain ⟨wd, hwd⟩ : ∃ wd, (w2.setCell ⟨hb, 5, none⟩ (.int .i64 0)).setCell ⟨hb, 6, none⟩ (.bool false) = wd := ⟨_, rfl⟩
  have hd : HMem wd hb k1 k2 k3 k4 { s with n := sn + 1, pos := po, task := 0, begun := false } := by
    rw [← hwd]
    exact (H2.out.setTask 0).setBegun false
  have KD : Kept (HS hb k1 k2 k3 k4) w wd := by
    rw [← hwd]
    exact (K2.out.setCell (Or.inl (Or.inl rfl)) _).setCell (Or.inl (Or.inl rfl)) _
  have pd : Blk wd q 24 #[.int .i64 6, .int .i64 po, .int .i64 re, .int .i64 id, .int .i64 li, .int .i64 nn, .slice A L c] := by
    rw [← hwd]
    exact (HP.out.far (fun e => hne e.symm) _).far (fun e => hne e.symm) _
  rw [hwd]
  clear hwd p0 d0 p2 p3
  have p0 : wd.cell? ⟨q, 0, none⟩ = some (.int .i64 6) := pd.cell 0
  have HD := Lib.hid hd
  have HK := Lib.hid KD
  clear hd KD pd
  have HCl := closes11_any 6
  go_wp2_with fail
  refine (HCl _).mono ?_
  rintro e1 w9 ⟨rfl, rfl⟩
  go_wp2_with fail
  go_ret2
  have e := HSN.out
  subst e
  exact ⟨rfl, HD.out, HK.out⟩

set_option maxRecDepth 100000 in
set_option maxHeartbeats 4000000 in
theorem add_8 {w : World} {hb k1 k2 k3 k4 : Nat} {s : HsD} (h : HMem w hb k1 k2 k3 k4 s) (ok : HOk s) {po re id li nn : Int} {bs : List UInt8} {A : Option Addr} {L c : Nat} (hl : bs.length = L) (hr : okI re) (hR : faultS s ⟨8, po, re, id, li, nn, bs⟩ = wNone) :
    Calls Tryd.prog 34 #[.pointer (some ⟨hb, 0, none⟩), .agg #[.int .i64 8, .int .i64 po, .int .i64 re, .int .i64 id, .int .i64 li, .int .i64 nn, .slice A L c]] w (AddEnd hb k1 k2 k3 k4 (addS s ⟨8, po, re, id, li, nn, bs⟩) wNone true w) := by
  have hFault := fun (W : World) (H : HMem W hb k1 k2 k3 k4 s) => fault_any H ok.kinds ⟨8, po, re, id, li, nn, bs⟩ A L c hl hr
  rw [hR] at hFault
  unfold wNone at hFault
  unfold aggE at hFault
  simp only at hFault
  have HFault := Lib.hid hFault
  have lt0 := h.box.lt
  have lt1 := h.kinds.lt
  have lt2 := h.ids.lt
  have lt3 := h.of_.lt
  have lt4 := h.frm.lt
  obtain ⟨q, hq⟩ : ∃ q, w.heap.size = q := ⟨_, rfl⟩
  have hnq : ¬ HS hb k1 k2 k3 k4 q := by
    intro hh
    unfold HS at hh
    omega
  obtain ⟨wz, hwz⟩ : ∃ wz, w.alloc (.cells #[.int .i64 8, .int .i64 po, .int .i64 re, .int .i64 id, .int .i64 li, .int .i64 nn, .slice A L c] 24) = wz := ⟨_, rfl⟩
  have hz : HMem wz hb k1 k2 k3 k4 s := hwz ▸ h.at_alloc _
  have pe : Blk wz q 24 #[.int .i64 8, .int .i64 po, .int .i64 re, .int .i64 id, .int .i64 li, .int .i64 nn, .slice A L c] := hwz ▸ hq ▸ Blk.new w 24 _
  have kz : Kept NoBlk w wz := hwz ▸ (Kept.refl NoBlk w).alloc _
  have p0 : wz.cell? ⟨q, 0, none⟩ = some (.int .i64 8) := pe.cell 0
  have p1 : wz.cell? ⟨q, 0 + 1, none⟩ = some (.int .i64 po) := pe.cell 1
  have p2 : wz.cell? ⟨q, 0 + 2, none⟩ = some (.int .i64 re) := pe.cell 2
  have p3 : wz.cell? ⟨q, 0 + 3, none⟩ = some (.int .i64 id) := pe.cell 3
  have p4 : wz.cell? ⟨q, 0 + 4, none⟩ = some (.int .i64 li) := pe.cell 4
  have p5 : wz.cell? ⟨q, 0 + 5, none⟩ = some (.int .i64 nn) := pe.cell 5
  have p6 : wz.cell? ⟨q, 0 + 6, none⟩ = some (.slice A L c) := pe.cell 6
  have HZ := Lib.hid hz
  have HP := Lib.hid pe
  have HK := Lib.hid kz
  have HQ := Lib.hid hnq
  have OK := Lib.hid ok
  have HR0 := Lib.hid hr
  clear h hz pe kz hFault hR hl hr hnq ok lt0 lt1 lt2 lt3 lt4
  go_enter Tryd.func34, Tryd.ntmps34
  go_upto_region 1 with fail
  clear hwz hq
  go_upto_region 2 with (go_at_call 48; refine (HFault.out _ HZ.out).mono ?_; rintro e1 w1 ⟨rfl, hk1⟩)
  have h1 : HMem w1 hb k1 k2 k3 k4 s := HZ.out.kept hk1
  have pe1 : Blk w1 q 24 #[.int .i64 8, .int .i64 po, .int .i64 re, .int .i64 id, .int .i64 li, .int .i64 nn, .slice A L c] := HP.out.kept hk1 (fun e => e.elim)
  have K1 : Kept NoBlk w w1 := HK.out.trans hk1
  clear p0 p1 p2 p3 p4 p5 p6 HZ HP HK hk1
  obtain ⟨sn, hsn⟩ : ∃ x, s.n = x := ⟨_, rfl⟩
  have n0 := OK.out.n0
  have n1 := OK.out.n1
  rw [hsn] at n0 n1
  have d0 : w1.cell? ⟨hb, 0, none⟩ = some (.int .i64 sn) := hsn ▸ h1.box.cell 0
  have d1 : w1.cell? ⟨hb, 0 + 1, none⟩ = some (.int .i64 s.pos) := h1.box.cell 1
  have hE : (!(ByteArray.mk #[]).toList.isEmpty) = false := by kernel_rfl
  have hne : hb ≠ q := fun e => HQ.out (by unfold HS; left; exact e.symm)
  have p0 : w1.cell? ⟨q, 0, none⟩ = some (.int .i64 8) := pe1.cell 0
  have p1 : w1.cell? ⟨q, 0 + 1, none⟩ = some (.int .i64 po) := pe1.cell 1
  have f0 := h1.box.frozen
  have H1 := Lib.hid h1
  have HP := Lib.hid pe1
  have HK := Lib.hid K1
  have HSN := Lib.hid hsn
  clear h1 pe1 K1 hsn
  go_upto_region 6 with fail
  obtain ⟨w2, hw2⟩ : ∃ w2, (w1.setCell ⟨hb, 0, none⟩ (.int .i64 (sn + 1))).setCell ⟨hb, 1, none⟩ (.int .i64 po) = w2 := ⟨_, rfl⟩
  have h2 : HMem w2 hb k1 k2 k3 k4 { s with n := sn + 1, pos := po } := by
    rw [← hw2]
    exact (H1.out.setN (sn + 1)).setPos po
  have pe2 : Blk w2 q 24 #[.int .i64 8, .int .i64 po, .int .i64 re, .int .i64 id, .int .i64 li, .int .i64 nn, .slice A L c] := by
    rw [← hw2]
    exact (HP.out.far (fun e => hne e.symm) _).far (fun e => hne e.symm) _
  have K2 : Kept (HS hb k1 k2 k3 k4) w w2 := by
    rw [← hw2]
    exact ((HK.out.mono (fun _ e => e.elim)).setCell (Or.inl (Or.inl rfl)) _).setCell (Or.inl (Or.inl rfl)) _
  rw [hw2]
  clear hw2 p0 p1 d0 d1 H1 HP HK f0 hE
  have hap := h2.apart
  have p0 : w2.cell? ⟨q, 0, none⟩ = some (.int .i64 8) := pe2.cell 0
  have p2 : w2.cell? ⟨q, 0 + 2, none⟩ = some (.int .i64 re) := pe2.cell 2
  have p3 : w2.cell? ⟨q, 0 + 3, none⟩ = some (.int .i64 id) := pe2.cell 3
  have d0 : w2.cell? ⟨hb, 0, none⟩ = some (.int .i64 (sn + 1)) := h2.box.cell 0
  have dA : w2.cell? ⟨hb, 0 + 7, none⟩ = some (.map (some k3)) := h2.box.cell 7
  have dB : w2.cell? ⟨hb, 0 + 8, none⟩ = some (.map (some k4)) := h2.box.cell 8
  go_upto_region 19 with fail
  have hS : ∀ w', Kept (fun k => k = k3 ∨ k = k4) w2 w' → (w'.cell? ⟨hb, 0, none⟩ = some (.int .i64 (sn + 1)) ∧ w'.cell? ⟨hb, 7, none⟩ = some (.map (some k3)) ∧ w'.cell? ⟨hb, 8, none⟩ = some (.map (some k4)) ∧ w'.cell? ⟨q, 0, none⟩ = some (.int .i64 8) ∧ w'.cell? ⟨q, 2, none⟩ = some (.int .i64 re)) := by
    intro w' hk
    have nh : ¬ (hb = k3 ∨ hb = k4) := by
      rintro (e | e)
      · exact h2.of_.ne h2.box e
      · exact h2.frm.ne h2.box e
    have nq : ¬ (q = k3 ∨ q = k4) := by
      rintro (e | e)
      · exact h2.of_.ne pe2 e
      · exact h2.frm.ne pe2 e
    exact ⟨hk.cell d0 nh, hk.cell dA nh, hk.cell dB nh, hk.cell p0 nq, hk.cell p2 nq⟩
  have st0 : PSt w2 k3 k4 s.of_ s.frm (sn + 1) re re (sn + 1) 0 .nilIface 0 .nilIface (w2.drewN 1) :=
    ⟨(Kept.refl _ w2).drewN 1, h2.of_.kept ((Kept.refl NoBlk w2).drewN 1) (fun e => e.elim), h2.frm.kept ((Kept.refl NoBlk w2).drewN 1) (fun e => e.elim)⟩
  have hwn : wf (sn + 1) := wf_of ⟨by omega, by omega⟩
  have hwr : wf re := wf_of HR0.out
  have hap := hap.2.2.2.2.2
  obtain ⟨v0a, va, wa, hra, sta⟩ := st0.enterA hap hwn
  have hra : (Instr.mapEntry 80 (.map (some k3)) (.int .i64 (sn + 1))).run Tryd.prog w2.drew = .ok (.tuple #[v0a, va]) wa := hra
  obtain ⟨wb, hrb, stb⟩ := sta.storeA hap
  obtain ⟨v0c, vc, wc, hrc, stc⟩ := stb.enterB hap hwr
  obtain ⟨wd, hrd, std⟩ := stc.storeB hap
  have SA := Lib.hid (hS _ sta.kept)
  have SB := Lib.hid (hS _ stb.kept)
  have SC := Lib.hid (hS _ stc.kept)
  have SD := Lib.hid (hS _ std.kept)
  have S0 := Lib.hid (hS _ st0.kept)
  have STD := Lib.hid std
  have H2 := Lib.hid h2
  have K2 := Lib.hid K2
  clear hS h2 pe2 st0 sta stb stc std hwn hwr hap
  go_region_held3 (fun w' => w'.cell? ⟨hb, 0, none⟩ = some (.int .i64 (sn + 1)) ∧ w'.cell? ⟨hb, 7, none⟩ = some (.map (some k3)) ∧ w'.cell? ⟨hb, 8, none⟩ = some (.map (some k4)) ∧ w'.cell? ⟨q, 0, none⟩ = some (.int .i64 8) ∧ w'.cell? ⟨q, 2, none⟩ = some (.int .i64 re)) (first | exact S0.out | exact SA.out | exact SB.out | exact SC.out | exact SD.out) (fail)
  have hd : HMem wd hb k1 k2 k3 k4 { s with n := sn + 1, pos := po, of_ := aput s.of_ (sn + 1) re, frm := aput s.frm re (sn + 1) } := STD.out.mem2 H2.out
  have KD : Kept (HS hb k1 k2 k3 k4) w wd := K2.out.trans (STD.out.kept.mono (by rintro b (rfl | rfl) <;> (unfold HS; simp)))
  have p0 : wd.cell? ⟨q, 0, none⟩ = some (.int .i64 8) := SD.out.2.2.2.1
  have HD := Lib.hid hd
  have HK := Lib.hid KD
  clear hd KD hra hrb hrc hrd
  have HCl := closes11_any 8
  go_wp2_with fail
  refine (HCl _).mono ?_
  rintro e1 w9 ⟨rfl, rfl⟩
  go_wp2_with fail
  go_ret2
  have e := HSN.out
  subst e
  exact ⟨rfl, HD.out, HK.out⟩

set_option maxRecDepth 100000 in
set_option maxHeartbeats 4000000 in
theorem add_9 {w : World} {hb k1 k2 k3 k4 : Nat} {s : HsD} (h : HMem w hb k1 k2 k3 k4 s) (ok : HOk s) {po re id li nn : Int} {bs : List UInt8} {A : Option Addr} {L c : Nat} (hl : bs.length = L) (hr : okI re) (hR : faultS s ⟨9, po, re, id, li, nn, bs⟩ = wNone) :
    Calls Tryd.prog 34 #[.pointer (some ⟨hb, 0, none⟩), .agg #[.int .i64 9, .int .i64 po, .int .i64 re, .int .i64 id, .int .i64 li, .int .i64 nn, .slice A L c]] w (AddEnd hb k1 k2 k3 k4 (addS s ⟨9, po, re, id, li, nn, bs⟩) wNone true w) := by
  have hFault := fun (W : World) (H : HMem W hb k1 k2 k3 k4 s) => fault_any H ok.kinds ⟨9, po, re, id, li, nn, bs⟩ A L c hl hr
  rw [hR] at hFault
  unfold wNone at hFault
  unfold aggE at hFault
  simp only at hFault
  have HFault := Lib.hid hFault
  have lt0 := h.box.lt
  have lt1 := h.kinds.lt
  have lt2 := h.ids.lt
  have lt3 := h.of_.lt
  have lt4 := h.frm.lt
  obtain ⟨q, hq⟩ : ∃ q, w.heap.size = q := ⟨_, rfl⟩
  have hnq : ¬ HS hb k1 k2 k3 k4 q := by
    intro hh
    unfold HS at hh
    omega
  obtain ⟨wz, hwz⟩ : ∃ wz, w.alloc (.cells #[.int .i64 9, .int .i64 po, .int .i64 re, .int .i64 id, .int .i64 li, .int .i64 nn, .slice A L c] 24) = wz := ⟨_, rfl⟩
  have hz : HMem wz hb k1 k2 k3 k4 s := hwz ▸ h.at_alloc _
  have pe : Blk wz q 24 #[.int .i64 9, .int .i64 po, .int .i64 re, .int .i64 id, .int .i64 li, .int .i64 nn, .slice A L c] := hwz ▸ hq ▸ Blk.new w 24 _
  have kz : Kept NoBlk w wz := hwz ▸ (Kept.refl NoBlk w).alloc _
  have p0 : wz.cell? ⟨q, 0, none⟩ = some (.int .i64 9) := pe.cell 0
  have p1 : wz.cell? ⟨q, 0 + 1, none⟩ = some (.int .i64 po) := pe.cell 1
  have p2 : wz.cell? ⟨q, 0 + 2, none⟩ = some (.int .i64 re) := pe.cell 2
  have p3 : wz.cell? ⟨q, 0 + 3, none⟩ = some (.int .i64 id) := pe.cell 3
  have p4 : wz.cell? ⟨q, 0 + 4, none⟩ = some (.int .i64 li) := pe.cell 4
  have p5 : wz.cell? ⟨q, 0 + 5, none⟩ = some (.int .i64 nn) := pe.cell 5
  have p6 : wz.cell? ⟨q, 0 + 6, none⟩ = some (.slice A L c) := pe.cell 6
  have HZ := Lib.hid hz
  have HP := Lib.hid pe
  have HK := Lib.hid kz
  have HQ := Lib.hid hnq
  have OK := Lib.hid ok
  have HR0 := Lib.hid hr
  clear h hz pe kz hFault hR hl hr hnq ok lt0 lt1 lt2 lt3 lt4
  go_enter Tryd.func34, Tryd.ntmps34
  go_upto_region 1 with fail
  clear hwz hq
  go_upto_region 2 with (go_at_call 48; refine (HFault.out _ HZ.out).mono ?_; rintro e1 w1 ⟨rfl, hk1⟩)
  have h1 : HMem w1 hb k1 k2 k3 k4 s := HZ.out.kept hk1
  have pe1 : Blk w1 q 24 #[.int .i64 9, .int .i64 po, .int .i64 re, .int .i64 id, .int .i64 li, .int .i64 nn, .slice A L c] := HP.out.kept hk1 (fun e => e.elim)
  have K1 : Kept NoBlk w w1 := HK.out.trans hk1
  clear p0 p1 p2 p3 p4 p5 p6 HZ HP HK hk1
  obtain ⟨sn, hsn⟩ : ∃ x, s.n = x := ⟨_, rfl⟩
  have n0 := OK.out.n0
  have n1 := OK.out.n1
  rw [hsn] at n0 n1
  have d0 : w1.cell? ⟨hb, 0, none⟩ = some (.int .i64 sn) := hsn ▸ h1.box.cell 0
  have d1 : w1.cell? ⟨hb, 0 + 1, none⟩ = some (.int .i64 s.pos) := h1.box.cell 1
  have hE : (!(ByteArray.mk #[]).toList.isEmpty) = false := by kernel_rfl
  have hne : hb ≠ q := fun e => HQ.out (by unfold HS; left; exact e.symm)
  have p0 : w1.cell? ⟨q, 0, none⟩ = some (.int .i64 9) := pe1.cell 0
  have p1 : w1.cell? ⟨q, 0 + 1, none⟩ = some (.int .i64 po) := pe1.cell 1
  have f0 := h1.box.frozen
  have H1 := Lib.hid h1
  have HP := Lib.hid pe1
  have HK := Lib.hid K1
  have HSN := Lib.hid hsn
  clear h1 pe1 K1 hsn
  go_upto_region 6 with fail
  obtain ⟨w2, hw2⟩ : ∃ w2, (w1.setCell ⟨hb, 0, none⟩ (.int .i64 (sn + 1))).setCell ⟨hb, 1, none⟩ (.int .i64 po) = w2 := ⟨_, rfl⟩
  have h2 : HMem w2 hb k1 k2 k3 k4 { s with n := sn + 1, pos := po } := by
    rw [← hw2]
    exact (H1.out.setN (sn + 1)).setPos po
  have pe2 : Blk w2 q 24 #[.int .i64 9, .int .i64 po, .int .i64 re, .int .i64 id, .int .i64 li, .int .i64 nn, .slice A L c] := by
    rw [← hw2]
    exact (HP.out.far (fun e => hne e.symm) _).far (fun e => hne e.symm) _
  have K2 : Kept (HS hb k1 k2 k3 k4) w w2 := by
    rw [← hw2]
    exact ((HK.out.mono (fun _ e => e.elim)).setCell (Or.inl (Or.inl rfl)) _).setCell (Or.inl (Or.inl rfl)) _
  rw [hw2]
  clear hw2 p0 p1 d0 d1 H1 HP HK f0 hE
  have hap := h2.apart
  have p0 : w2.cell? ⟨q, 0, none⟩ = some (.int .i64 9) := pe2.cell 0
  have p2 : w2.cell? ⟨q, 0 + 2, none⟩ = some (.int .i64 re) := pe2.cell 2
  have p3 : w2.cell? ⟨q, 0 + 3, none⟩ = some (.int .i64 id) := pe2.cell 3
  have d0 : w2.cell? ⟨hb, 0, none⟩ = some (.int .i64 (sn + 1)) := h2.box.cell 0
  have d7 : w2.cell? ⟨hb, 0 + 7, none⟩ = some (.map (some k3)) := h2.box.cell 7
  obtain ⟨av, hav⟩ : ∃ x, (aget s.of_ re).getD 0 = x := ⟨_, rfl⟩
  have hav2 : okI av := hav ▸ OK.out.of_ re
  have L1 : ∀ n, (Instr.lookup 80 (.map (some k3)) (.int .i64 re) false).run Tryd.prog (w2.drewN n) = .ok (.int .i64 av) (w2.drewN n) := by
    intro n
    have := (h2.at_drewN n).of_.look (wf_of HR0.out)
    rw [← hav]
    exact this
  have HAV := Lib.hid hav
  have HAV2 := Lib.hid hav2
  clear hav hav2
  have H2 := Lib.hid h2
  have HP := Lib.hid pe2
  have K2 := Lib.hid K2
  clear h2 pe2 hap
  go_upto_region 23 with fail
  go_quiet (fail)
  obtain ⟨w3, hw3⟩ : ∃ w3, w2.drewN nq = w3 := ⟨_, rfl⟩
  have h3 : HMem w3 hb k1 k2 k3 k4 { s with n := sn + 1, pos := po } := hw3 ▸ H2.out.at_drewN _
  have pe3 : Blk w3 q 24 #[.int .i64 9, .int .i64 po, .int .i64 re, .int .i64 id, .int .i64 li, .int .i64 nn, .slice A L c] := hw3 ▸ HP.out.drewN _
  have K3 : Kept (HS hb k1 k2 k3 k4) w w3 := hw3 ▸ K2.out.drewN _
  rw [hw3]
  clear hw3 L1 p0 p2 p3 d0 d7 HP H2 K2
  have p2 : w3.cell? ⟨q, 0 + 2, none⟩ = some (.int .i64 re) := pe3.cell 2
  have d7 : w3.cell? ⟨hb, 0 + 7, none⟩ = some (.map (some k3)) := h3.box.cell 7
  have h3d : HMem w3.drew hb k1 k2 k3 k4 { s with n := sn + 1, pos := po } := h3.kept (Kept.refl NoBlk _).drew
  obtain ⟨w4, hrun4, h4, hk4⟩ := h3d.del_of_ (wf_of HR0.out) 0
  obtain ⟨w5, hrun5, h5, hk5⟩ := h4.del_frm (wf_of HAV2.out) 0
  have hq2 : ¬ HS hb k1 k2 k3 k4 q := HQ.out
  have K5 : Kept (HS hb k1 k2 k3 k4) w w5 := (K3.drew.trans hk4).trans hk5
  have pe5 : Blk w5 q 24 #[.int .i64 9, .int .i64 po, .int .i64 re, .int .i64 id, .int .i64 li, .int .i64 nn, .slice A L c] := (pe3.drew.kept hk4 hq2).kept hk5 hq2
  have d8 : w4.cell? ⟨hb, 0 + 8, none⟩ = some (.map (some k4)) := h4.box.cell 8
  have HDrop := fun (W : World) H => drop_any (w := W) (hb := hb) (k1 := k1) (k2 := k2) (k3 := k3) (k4 := k4) (s := { s with n := sn + 1, pos := po, of_ := adel s.of_ re, frm := adel s.frm av }) H HAV2.out
  have H5 := Lib.hid h5
  have HP := Lib.hid pe5
  have K5 := Lib.hid K5
  clear h3 pe3 K3 h3d h4 hk4 h5 hk5 pe5
  go_upto_region 24 with fail
  go_region
  go_wp2_with fail
  refine (HDrop _ H5.out).mono ?_
  rintro e1 wd ⟨rfl, hd, hkd⟩
  clear p2 d7 d8 hrun4 hrun5
  have p0 : wd.cell? ⟨q, 0, none⟩ = some (.int .i64 9) := (HP.out.kept hkd hq2).cell 0
  have KD : Kept (HS hb k1 k2 k3 k4) w wd := K5.out.trans hkd
  have hd : HMem wd hb k1 k2 k3 k4 (addS { s with n := sn } ⟨9, po, re, id, li, nn, bs⟩) := by
    have e : addS { s with n := sn } ⟨9, po, re, id, li, nn, bs⟩ = { s with n := sn + 1, pos := po, of_ := adel s.of_ re, frm := adel s.frm av, kinds := adel s.kinds av, ids := adel s.ids av } := by
      rw [← HAV.out]
      rfl
    rw [e]
    exact hd
  have HD := Lib.hid hd
  have HK := Lib.hid KD
  clear hd KD hkd hq2
  have HCl := closes11_any 9
  go_wp2_with fail
  refine (HCl _).mono ?_
  rintro e1 w9 ⟨rfl, rfl⟩
  go_wp2_with fail
  go_ret2
  have e := HSN.out
  subst e
  exact ⟨rfl, HD.out, HK.out⟩

set_option maxRecDepth 100000 in
set_option maxHeartbeats 4000000 in
theorem add_10 {w : World} {hb k1 k2 k3 k4 : Nat} {s : HsD} (h : HMem w hb k1 k2 k3 k4 s) (ok : HOk s) {po re id li nn : Int} {bs : List UInt8} {A : Option Addr} {L c : Nat} (hl : bs.length = L) (hr : okI re) (hR : faultS s ⟨10, po, re, id, li, nn, bs⟩ = wNone) :
    Calls Tryd.prog 34 #[.pointer (some ⟨hb, 0, none⟩), .agg #[.int .i64 10, .int .i64 po, .int .i64 re, .int .i64 id, .int .i64 li, .int .i64 nn, .slice A L c]] w (AddEnd hb k1 k2 k3 k4 (addS s ⟨10, po, re, id, li, nn, bs⟩) wNone true w) := by
  have hFault := fun (W : World) (H : HMem W hb k1 k2 k3 k4 s) => fault_any H ok.kinds ⟨10, po, re, id, li, nn, bs⟩ A L c hl hr
  rw [hR] at hFault
  unfold wNone at hFault
  unfold aggE at hFault
  simp only at hFault
  have HFault := Lib.hid hFault
  have lt0 := h.box.lt
  have lt1 := h.kinds.lt
  have lt2 := h.ids.lt
  have lt3 := h.of_.lt
  have lt4 := h.frm.lt
  obtain ⟨q, hq⟩ : ∃ q, w.heap.size = q := ⟨_, rfl⟩
  have hnq : ¬ HS hb k1 k2 k3 k4 q := by
    intro hh
    unfold HS at hh
    omega
  obtain ⟨wz, hwz⟩ : ∃ wz, w.alloc (.cells #[.int .i64 10, .int .i64 po, .int .i64 re, .int .i64 id, .int .i64 li, .int .i64 nn, .slice A L c] 24) = wz := ⟨_, rfl⟩
  have hz : HMem wz hb k1 k2 k3 k4 s := hwz ▸ h.at_alloc _
  have pe : Blk wz q 24 #[.int .i64 10, .int .i64 po, .int .i64 re, .int .i64 id, .int .i64 li, .int .i64 nn, .slice A L c] := hwz ▸ hq ▸ Blk.new w 24 _
  have kz : Kept NoBlk w wz := hwz ▸ (Kept.refl NoBlk w).alloc _
  have p0 : wz.cell? ⟨q, 0, none⟩ = some (.int .i64 10) := pe.cell 0
  have p1 : wz.cell? ⟨q, 0 + 1, none⟩ = some (.int .i64 po) := pe.cell 1
  have p2 : wz.cell? ⟨q, 0 + 2, none⟩ = some (.int .i64 re) := pe.cell 2
  have p3 : wz.cell? ⟨q, 0 + 3, none⟩ = some (.int .i64 id) := pe.cell 3
  have p4 : wz.cell? ⟨q, 0 + 4, none⟩ = some (.int .i64 li) := pe.cell 4
  have p5 : wz.cell? ⟨q, 0 + 5, none⟩ = some (.int .i64 nn) := pe.cell 5
  have p6 : wz.cell? ⟨q, 0 + 6, none⟩ = some (.slice A L c) := pe.cell 6
  have HZ := Lib.hid hz
  have HP := Lib.hid pe
  have HK := Lib.hid kz
  have HQ := Lib.hid hnq
  have OK := Lib.hid ok
  have HR0 := Lib.hid hr
  clear h hz pe kz hFault hR hl hr hnq ok lt0 lt1 lt2 lt3 lt4
  go_enter Tryd.func34, Tryd.ntmps34
  go_upto_region 1 with fail
  clear hwz hq
  go_upto_region 2 with (go_at_call 48; refine (HFault.out _ HZ.out).mono ?_; rintro e1 w1 ⟨rfl, hk1⟩)
  have h1 : HMem w1 hb k1 k2 k3 k4 s := HZ.out.kept hk1
  have pe1 : Blk w1 q 24 #[.int .i64 10, .int .i64 po, .int .i64 re, .int .i64 id, .int .i64 li, .int .i64 nn, .slice A L c] := HP.out.kept hk1 (fun e => e.elim)
  have K1 : Kept NoBlk w w1 := HK.out.trans hk1
  clear p0 p1 p2 p3 p4 p5 p6 HZ HP HK hk1
  obtain ⟨sn, hsn⟩ : ∃ x, s.n = x := ⟨_, rfl⟩
  have n0 := OK.out.n0
  have n1 := OK.out.n1
  rw [hsn] at n0 n1
  have d0 : w1.cell? ⟨hb, 0, none⟩ = some (.int .i64 sn) := hsn ▸ h1.box.cell 0
  have d1 : w1.cell? ⟨hb, 0 + 1, none⟩ = some (.int .i64 s.pos) := h1.box.cell 1
  have hE : (!(ByteArray.mk #[]).toList.isEmpty) = false := by kernel_rfl
  have hne : hb ≠ q := fun e => HQ.out (by unfold HS; left; exact e.symm)
  have p0 : w1.cell? ⟨q, 0, none⟩ = some (.int .i64 10) := pe1.cell 0
  have p1 : w1.cell? ⟨q, 0 + 1, none⟩ = some (.int .i64 po) := pe1.cell 1
  have f0 := h1.box.frozen
  have H1 := Lib.hid h1
  have HP := Lib.hid pe1
  have HK := Lib.hid K1
  have HSN := Lib.hid hsn
  clear h1 pe1 K1 hsn
  go_upto_region 6 with fail
  obtain ⟨w2, hw2⟩ : ∃ w2, (w1.setCell ⟨hb, 0, none⟩ (.int .i64 (sn + 1))).setCell ⟨hb, 1, none⟩ (.int .i64 po) = w2 := ⟨_, rfl⟩
  have h2 : HMem w2 hb k1 k2 k3 k4 { s with n := sn + 1, pos := po } := by
    rw [← hw2]
    exact (H1.out.setN (sn + 1)).setPos po
  have pe2 : Blk w2 q 24 #[.int .i64 10, .int .i64 po, .int .i64 re, .int .i64 id, .int .i64 li, .int .i64 nn, .slice A L c] := by
    rw [← hw2]
    exact (HP.out.far (fun e => hne e.symm) _).far (fun e => hne e.symm) _
  have K2 : Kept (HS hb k1 k2 k3 k4) w w2 := by
    rw [← hw2]
    exact ((HK.out.mono (fun _ e => e.elim)).setCell (Or.inl (Or.inl rfl)) _).setCell (Or.inl (Or.inl rfl)) _
  rw [hw2]
  clear hw2 p0 p1 d0 d1 H1 HP HK f0 hE
  have hap := h2.apart
  have p0 : w2.cell? ⟨q, 0, none⟩ = some (.int .i64 10) := pe2.cell 0
  have p2 : w2.cell? ⟨q, 0 + 2, none⟩ = some (.int .i64 re) := pe2.cell 2
  have p3 : w2.cell? ⟨q, 0 + 3, none⟩ = some (.int .i64 id) := pe2.cell 3
  have d0 : w2.cell? ⟨hb, 0, none⟩ = some (.int .i64 (sn + 1)) := h2.box.cell 0
  have d7 : w2.cell? ⟨hb, 0 + 7, none⟩ = some (.map (some k3)) := h2.box.cell 7
  obtain ⟨av, hav⟩ : ∃ x, (aget s.of_ re).getD 0 = x := ⟨_, rfl⟩
  have hav2 : okI av := hav ▸ OK.out.of_ re
  have L1 : ∀ n, (Instr.lookup 80 (.map (some k3)) (.int .i64 re) false).run Tryd.prog (w2.drewN n) = .ok (.int .i64 av) (w2.drewN n) := by
    intro n
    have := (h2.at_drewN n).of_.look (wf_of HR0.out)
    rw [← hav]
    exact this
  have HAV := Lib.hid hav
  have HAV2 := Lib.hid hav2
  clear hav hav2
  have H2 := Lib.hid h2
  have HP := Lib.hid pe2
  have K2 := Lib.hid K2
  clear h2 pe2 hap
  go_upto_region 23 with fail
  go_quiet (fail)
  obtain ⟨w3, hw3⟩ : ∃ w3, w2.drewN nq = w3 := ⟨_, rfl⟩
  have h3 : HMem w3 hb k1 k2 k3 k4 { s with n := sn + 1, pos := po } := hw3 ▸ H2.out.at_drewN _
  have pe3 : Blk w3 q 24 #[.int .i64 10, .int .i64 po, .int .i64 re, .int .i64 id, .int .i64 li, .int .i64 nn, .slice A L c] := hw3 ▸ HP.out.drewN _
  have K3 : Kept (HS hb k1 k2 k3 k4) w w3 := hw3 ▸ K2.out.drewN _
  rw [hw3]
  clear hw3 L1 p0 p2 p3 d0 d7 HP H2 K2
  have p2 : w3.cell? ⟨q, 0 + 2, none⟩ = some (.int .i64 re) := pe3.cell 2
  have d7 : w3.cell? ⟨hb, 0 + 7, none⟩ = some (.map (some k3)) := h3.box.cell 7
  have h3d : HMem w3.drew hb k1 k2 k3 k4 { s with n := sn + 1, pos := po } := h3.kept (Kept.refl NoBlk _).drew
  obtain ⟨w4, hrun4, h4, hk4⟩ := h3d.del_of_ (wf_of HR0.out) 0
  obtain ⟨w5, hrun5, h5, hk5⟩ := h4.del_frm (wf_of HAV2.out) 0
  have hq2 : ¬ HS hb k1 k2 k3 k4 q := HQ.out
  have K5 : Kept (HS hb k1 k2 k3 k4) w w5 := (K3.drew.trans hk4).trans hk5
  have pe5 : Blk w5 q 24 #[.int .i64 10, .int .i64 po, .int .i64 re, .int .i64 id, .int .i64 li, .int .i64 nn, .slice A L c] := (pe3.drew.kept hk4 hq2).kept hk5 hq2
  have d8 : w4.cell? ⟨hb, 0 + 8, none⟩ = some (.map (some k4)) := h4.box.cell 8
  have HDrop := fun (W : World) H => drop_any (w := W) (hb := hb) (k1 := k1) (k2 := k2) (k3 := k3) (k4 := k4) (s := { s with n := sn + 1, pos := po, of_ := adel s.of_ re, frm := adel s.frm av }) H HAV2.out
  have H5 := Lib.hid h5
  have HP := Lib.hid pe5
  have K5 := Lib.hid K5
  clear h3 pe3 K3 h3d h4 hk4 h5 hk5 pe5
  go_upto_region 24 with fail
  go_region
  go_wp2_with fail
  refine (HDrop _ H5.out).mono ?_
  rintro e1 wd ⟨rfl, hd, hkd⟩
  clear p2 d7 d8 hrun4 hrun5
  have p0 : wd.cell? ⟨q, 0, none⟩ = some (.int .i64 10) := (HP.out.kept hkd hq2).cell 0
  have KD : Kept (HS hb k1 k2 k3 k4) w wd := K5.out.trans hkd
  have hd : HMem wd hb k1 k2 k3 k4 (addS { s with n := sn } ⟨10, po, re, id, li, nn, bs⟩) := by
    have e : addS { s with n := sn } ⟨10, po, re, id, li, nn, bs⟩ = { s with n := sn + 1, pos := po, of_ := adel s.of_ re, frm := adel s.frm av, kinds := adel s.kinds av, ids := adel s.ids av } := by
      rw [← HAV.out]
      rfl
    rw [e]
    exact hd
  have HD := Lib.hid hd
  have HK := Lib.hid KD
  clear hd KD hkd hq2
  have HCl := closes11_any 10
  go_wp2_with fail
  refine (HCl _).mono ?_
  rintro e1 w9 ⟨rfl, rfl⟩
  go_wp2_with fail
  go_ret2
  have e := HSN.out
  subst e
  exact ⟨rfl, HD.out, HK.out⟩

set_option maxRecDepth 100000 in
set_option maxHeartbeats 4000000 in
theorem add_11 {w : World} {hb k1 k2 k3 k4 : Nat} {s : HsD} (h : HMem w hb k1 k2 k3 k4 s) (ok : HOk s) {po re id li nn : Int} {bs : List UInt8} {A : Option Addr} {L c : Nat} (hl : bs.length = L) (hr : okI re) (hR : faultS s ⟨11, po, re, id, li, nn, bs⟩ = wNone) :
    Calls Tryd.prog 34 #[.pointer (some ⟨hb, 0, none⟩), .agg #[.int .i64 11, .int .i64 po, .int .i64 re, .int .i64 id, .int .i64 li, .int .i64 nn, .slice A L c]] w (AddEnd hb k1 k2 k3 k4 (addS s ⟨11, po, re, id, li, nn, bs⟩) wNone true w) := by
  have hFault := fun (W : World) (H : HMem W hb k1 k2 k3 k4 s) => fault_any H ok.kinds ⟨11, po, re, id, li, nn, bs⟩ A L c hl hr
  rw [hR] at hFault
  unfold wNone at hFault
  unfold aggE at hFault
  simp only at hFault
  have HFault := Lib.hid hFault
  have lt0 := h.box.lt
  have lt1 := h.kinds.lt
  have lt2 := h.ids.lt
  have lt3 := h.of_.lt
  have lt4 := h.frm.lt
  obtain ⟨q, hq⟩ : ∃ q, w.heap.size = q := ⟨_, rfl⟩
  have hnq : ¬ HS hb k1 k2 k3 k4 q := by
    intro hh
    unfold HS at hh
    omega
  obtain ⟨wz, hwz⟩ : ∃ wz, w.alloc (.cells #[.int .i64 11, .int .i64 po, .int .i64 re, .int .i64 id, .int .i64 li, .int .i64 nn, .slice A L c] 24) = wz := ⟨_, rfl⟩
  have hz : HMem wz hb k1 k2 k3 k4 s := hwz ▸ h.at_alloc _
  have pe : Blk wz q 24 #[.int .i64 11, .int .i64 po, .int .i64 re, .int .i64 id, .int .i64 li, .int .i64 nn, .slice A L c] := hwz ▸ hq ▸ Blk.new w 24 _
  have kz : Kept NoBlk w wz := hwz ▸ (Kept.refl NoBlk w).alloc _
  have p0 : wz.cell? ⟨q, 0, none⟩ = some (.int .i64 11) := pe.cell 0
  have p1 : wz.cell? ⟨q, 0 + 1, none⟩ = some (.int .i64 po) := pe.cell 1
  have p2 : wz.cell? ⟨q, 0 + 2, none⟩ = some (.int .i64 re) := pe.cell 2
  have p3 : wz.cell? ⟨q, 0 + 3, none⟩ = some (.int .i64 id) := pe.cell 3
  have p4 : wz.cell? ⟨q, 0 + 4, none⟩ = some (.int .i64 li) := pe.cell 4
  have p5 : wz.cell? ⟨q, 0 + 5, none⟩ = some (.int .i64 nn) := pe.cell 5
  have p6 : wz.cell? ⟨q, 0 + 6, none⟩ = some (.slice A L c) := pe.cell 6
  have HZ := Lib.hid hz
  have HP := Lib.hid pe
  have HK := Lib.hid kz
  have HQ := Lib.hid hnq
  have OK := Lib.hid ok
  have HR0 := Lib.hid hr
  clear h hz pe kz hFault hR hl hr hnq ok lt0 lt1 lt2 lt3 lt4
  go_enter Tryd.func34, Tryd.ntmps34
  go_upto_region 1 with fail
  clear hwz hq
  go_upto_region 2 with (go_at_call 48; refine (HFault.out _ HZ.out).mono ?_; rintro e1 w1 ⟨rfl, hk1⟩)
  have h1 : HMem w1 hb k1 k2 k3 k4 s := HZ.out.kept hk1
  have pe1 : Blk w1 q 24 #[.int .i64 11, .int .i64 po, .int .i64 re, .int .i64 id, .int .i64 li, .int .i64 nn, .slice A L c] := HP.out.kept hk1 (fun e => e.elim)
  have K1 : Kept NoBlk w w1 := HK.out.trans hk1
  clear p0 p1 p2 p3 p4 p5 p6 HZ HP HK hk1
  obtain ⟨sn, hsn⟩ : ∃ x, s.n = x := ⟨_, rfl⟩
  have n0 := OK.out.n0
  have n1 := OK.out.n1
  rw [hsn] at n0 n1
  have d0 : w1.cell? ⟨hb, 0, none⟩ = some (.int .i64 sn) := hsn ▸ h1.box.cell 0
  have d1 : w1.cell? ⟨hb, 0 + 1, none⟩ = some (.int .i64 s.pos) := h1.box.cell 1
  have hE : (!(ByteArray.mk #[]).toList.isEmpty) = false := by kernel_rfl
  have hne : hb ≠ q := fun e => HQ.out (by unfold HS; left; exact e.symm)
  have p0 : w1.cell? ⟨q, 0, none⟩ = some (.int .i64 11) := pe1.cell 0
  have p1 : w1.cell? ⟨q, 0 + 1, none⟩ = some (.int .i64 po) := pe1.cell 1
  have f0 := h1.box.frozen
  have H1 := Lib.hid h1
  have HP := Lib.hid pe1
  have HK := Lib.hid K1
  have HSN := Lib.hid hsn
  clear h1 pe1 K1 hsn
  go_upto_region 6 with fail
  obtain ⟨w2, hw2⟩ : ∃ w2, (w1.setCell ⟨hb, 0, none⟩ (.int .i64 (sn + 1))).setCell ⟨hb, 1, none⟩ (.int .i64 po) = w2 := ⟨_, rfl⟩
  have h2 : HMem w2 hb k1 k2 k3 k4 { s with n := sn + 1, pos := po } := by
    rw [← hw2]
    exact (H1.out.setN (sn + 1)).setPos po
  have pe2 : Blk w2 q 24 #[.int .i64 11, .int .i64 po, .int .i64 re, .int .i64 id, .int .i64 li, .int .i64 nn, .slice A L c] := by
    rw [← hw2]
    exact (HP.out.far (fun e => hne e.symm) _).far (fun e => hne e.symm) _
  have K2 : Kept (HS hb k1 k2 k3 k4) w w2 := by
    rw [← hw2]
    exact ((HK.out.mono (fun _ e => e.elim)).setCell (Or.inl (Or.inl rfl)) _).setCell (Or.inl (Or.inl rfl)) _
  rw [hw2]
  clear hw2 p0 p1 d0 d1 H1 HP HK f0 hE
  have hap := h2.apart
  have p0 : w2.cell? ⟨q, 0, none⟩ = some (.int .i64 11) := pe2.cell 0
  have p2 : w2.cell? ⟨q, 0 + 2, none⟩ = some (.int .i64 re) := pe2.cell 2
  have p3 : w2.cell? ⟨q, 0 + 3, none⟩ = some (.int .i64 id) := pe2.cell 3
  have d0 : w2.cell? ⟨hb, 0, none⟩ = some (.int .i64 (sn + 1)) := h2.box.cell 0
  have d7 : w2.cell? ⟨hb, 0 + 7, none⟩ = some (.map (some k3)) := h2.box.cell 7
  obtain ⟨av, hav⟩ : ∃ x, (aget s.of_ re).getD 0 = x := ⟨_, rfl⟩
  have hav2 : okI av := hav ▸ OK.out.of_ re
  have L1 : ∀ n, (Instr.lookup 80 (.map (some k3)) (.int .i64 re) false).run Tryd.prog (w2.drewN n) = .ok (.int .i64 av) (w2.drewN n) := by
    intro n
    have := (h2.at_drewN n).of_.look (wf_of HR0.out)
    rw [← hav]
    exact this
  have HAV := Lib.hid hav
  have HAV2 := Lib.hid hav2
  clear hav hav2
  have H2 := Lib.hid h2
  have HP := Lib.hid pe2
  have K2 := Lib.hid K2
  clear h2 pe2 hap
  go_upto_region 23 with fail
  go_quiet (fail)
  obtain ⟨w3, hw3⟩ : ∃ w3, w2.drewN nq = w3 := ⟨_, rfl⟩
  have h3 : HMem w3 hb k1 k2 k3 k4 { s with n := sn + 1, pos := po } := hw3 ▸ H2.out.at_drewN _
  have pe3 : Blk w3 q 24 #[.int .i64 11, .int .i64 po, .int .i64 re, .int .i64 id, .int .i64 li, .int .i64 nn, .slice A L c] := hw3 ▸ HP.out.drewN _
  have K3 : Kept (HS hb k1 k2 k3 k4) w w3 := hw3 ▸ K2.out.drewN _
  rw [hw3]
  clear hw3 L1 p0 p2 p3 d0 d7 HP H2 K2
  have p2 : w3.cell? ⟨q, 0 + 2, none⟩ = some (.int .i64 re) := pe3.cell 2
  have d7 : w3.cell? ⟨hb, 0 + 7, none⟩ = some (.map (some k3)) := h3.box.cell 7
  have h3d : HMem w3.drew hb k1 k2 k3 k4 { s with n := sn + 1, pos := po } := h3.kept (Kept.refl NoBlk _).drew
  obtain ⟨w4, hrun4, h4, hk4⟩ := h3d.del_of_ (wf_of HR0.out) 0
  obtain ⟨w5, hrun5, h5, hk5⟩ := h4.del_frm (wf_of HAV2.out) 0
  have hq2 : ¬ HS hb k1 k2 k3 k4 q := HQ.out
  have K5 : Kept (HS hb k1 k2 k3 k4) w w5 := (K3.drew.trans hk4).trans hk5
  have pe5 : Blk w5 q 24 #[.int .i64 11, .int .i64 po, .int .i64 re, .int .i64 id, .int .i64 li, .int .i64 nn, .slice A L c] := (pe3.drew.kept hk4 hq2).kept hk5 hq2
  have d8 : w4.cell? ⟨hb, 0 + 8, none⟩ = some (.map (some k4)) := h4.box.cell 8
  have HDrop := fun (W : World) H => drop_any (w := W) (hb := hb) (k1 := k1) (k2 := k2) (k3 := k3) (k4 := k4) (s := { s with n := sn + 1, pos := po, of_ := adel s.of_ re, frm := adel s.frm av }) H HAV2.out
  have H5 := Lib.hid h5
  have HP := Lib.hid pe5
  have K5 := Lib.hid K5
  clear h3 pe3 K3 h3d h4 hk4 h5 hk5 pe5
  go_upto_region 24 with fail
  go_region
  go_wp2_with fail
  refine (HDrop _ H5.out).mono ?_
  rintro e1 wd ⟨rfl, hd, hkd⟩
  clear p2 d7 d8 hrun4 hrun5
  have p0 : wd.cell? ⟨q, 0, none⟩ = some (.int .i64 11) := (HP.out.kept hkd hq2).cell 0
  have KD : Kept (HS hb k1 k2 k3 k4) w wd := K5.out.trans hkd
  have hd : HMem wd hb k1 k2 k3 k4 (addS { s with n := sn } ⟨11, po, re, id, li, nn, bs⟩) := by
    have e : addS { s with n := sn } ⟨11, po, re, id, li, nn, bs⟩ = { s with n := sn + 1, pos := po, of_ := adel s.of_ re, frm := adel s.frm av, kinds := adel s.kinds av, ids := adel s.ids av } := by
      rw [← HAV.out]
      rfl
    rw [e]
    exact hd
  have HD := Lib.hid hd
  have HK := Lib.hid KD
  clear hd KD hkd hq2
  have HCl := closes11_any 11
  go_wp2_with fail
  refine (HCl _).mono ?_
  rintro e1 w9 ⟨rfl, rfl⟩
  go_wp2_with fail
  go_ret2
  have e := HSN.out
  subst e
  exact ⟨rfl, HD.out, HK.out⟩

set_option maxRecDepth 100000 in
set_option maxHeartbeats 4000000 in
theorem add_13 {w : World} {hb k1 k2 k3 k4 : Nat} {s : HsD} (h : HMem w hb k1 k2 k3 k4 s) (ok : HOk s) {po re id li nn : Int} {bs : List UInt8} {A : Option Addr} {L c : Nat} (hl : bs.length = L) (hr : okI re) (hR : faultS s ⟨13, po, re, id, li, nn, bs⟩ = wNone) :
    Calls Tryd.prog 34 #[.pointer (some ⟨hb, 0, none⟩), .agg #[.int .i64 13, .int .i64 po, .int .i64 re, .int .i64 id, .int .i64 li, .int .i64 nn, .slice A L c]] w (AddEnd hb k1 k2 k3 k4 (addS s ⟨13, po, re, id, li, nn, bs⟩) wNone true w) := by
  have hFault := fun (W : World) (H : HMem W hb k1 k2 k3 k4 s) => fault_any H ok.kinds ⟨13, po, re, id, li, nn, bs⟩ A L c hl hr
  rw [hR] at hFault
  unfold wNone at hFault
  unfold aggE at hFault
  simp only at hFault
  have HFault := Lib.hid hFault
  have lt0 := h.box.lt
  have lt1 := h.kinds.lt
  have lt2 := h.ids.lt
  have lt3 := h.of_.lt
  have lt4 := h.frm.lt
  obtain ⟨q, hq⟩ : ∃ q, w.heap.size = q := ⟨_, rfl⟩
  have hnq : ¬ HS hb k1 k2 k3 k4 q := by
    intro hh
    unfold HS at hh
    omega
  obtain ⟨wz, hwz⟩ : ∃ wz, w.alloc (.cells #[.int .i64 13, .int .i64 po, .int .i64 re, .int .i64 id, .int .i64 li, .int .i64 nn, .slice A L c] 24) = wz := ⟨_, rfl⟩
  have hz : HMem wz hb k1 k2 k3 k4 s := hwz ▸ h.at_alloc _
  have pe : Blk wz q 24 #[.int .i64 13, .int .i64 po, .int .i64 re, .int .i64 id, .int .i64 li, .int .i64 nn, .slice A L c] := hwz ▸ hq ▸ Blk.new w 24 _
  have kz : Kept NoBlk w wz := hwz ▸ (Kept.refl NoBlk w).alloc _
  have p0 : wz.cell? ⟨q, 0, none⟩ = some (.int .i64 13) := pe.cell 0
  have p1 : wz.cell? ⟨q, 0 + 1, none⟩ = some (.int .i64 po) := pe.cell 1
  have p2 : wz.cell? ⟨q, 0 + 2, none⟩ = some (.int .i64 re) := pe.cell 2
  have p3 : wz.cell? ⟨q, 0 + 3, none⟩ = some (.int .i64 id) := pe.cell 3
  have p4 : wz.cell? ⟨q, 0 + 4, none⟩ = some (.int .i64 li) := pe.cell 4
  have p5 : wz.cell? ⟨q, 0 + 5, none⟩ = some (.int .i64 nn) := pe.cell 5
  have p6 : wz.cell? ⟨q, 0 + 6, none⟩ = some (.slice A L c) := pe.cell 6
  have HZ := Lib.hid hz
  have HP := Lib.hid pe
  have HK := Lib.hid kz
  have HQ := Lib.hid hnq
  have OK := Lib.hid ok
  have HR0 := Lib.hid hr
  clear h hz pe kz hFault hR hl hr hnq ok lt0 lt1 lt2 lt3 lt4
  go_enter Tryd.func34, Tryd.ntmps34
  go_upto_region 1 with fail
  clear hwz hq
  go_upto_region 2 with (go_at_call 48; refine (HFault.out _ HZ.out).mono ?_; rintro e1 w1 ⟨rfl, hk1⟩)
  have h1 : HMem w1 hb k1 k2 k3 k4 s := HZ.out.kept hk1
  have pe1 : Blk w1 q 24 #[.int .i64 13, .int .i64 po, .int .i64 re, .int .i64 id, .int .i64 li, .int .i64 nn, .slice A L c] := HP.out.kept hk1 (fun e => e.elim)
  have K1 : Kept NoBlk w w1 := HK.out.trans hk1
  clear p0 p1 p2 p3 p4 p5 p6 HZ HP HK hk1
  obtain ⟨sn, hsn⟩ : ∃ x, s.n = x := ⟨_, rfl⟩
  have n0 := OK.out.n0
  have n1 := OK.out.n1
  rw [hsn] at n0 n1
  have d0 : w1.cell? ⟨hb, 0, none⟩ = some (.int .i64 sn) := hsn ▸ h1.box.cell 0
  have d1 : w1.cell? ⟨hb, 0 + 1, none⟩ = some (.int .i64 s.pos) := h1.box.cell 1
  have hE : (!(ByteArray.mk #[]).toList.isEmpty) = false := by kernel_rfl
  have hne : hb ≠ q := fun e => HQ.out (by unfold HS; left; exact e.symm)
  have p0 : w1.cell? ⟨q, 0, none⟩ = some (.int .i64 13) := pe1.cell 0
  have p1 : w1.cell? ⟨q, 0 + 1, none⟩ = some (.int .i64 po) := pe1.cell 1
  have f0 := h1.box.frozen
  have H1 := Lib.hid h1
  have HP := Lib.hid pe1
  have HK := Lib.hid K1
  have HSN := Lib.hid hsn
  clear h1 pe1 K1 hsn
  go_upto_region 6 with fail
  obtain ⟨w2, hw2⟩ : ∃ w2, (w1.setCell ⟨hb, 0, none⟩ (.int .i64 (sn + 1))).setCell ⟨hb, 1, none⟩ (.int .i64 po) = w2 := ⟨_, rfl⟩
  have h2 : HMem w2 hb k1 k2 k3 k4 { s with n := sn + 1, pos := po } := by
    rw [← hw2]
    exact (H1.out.setN (sn + 1)).setPos po
  have pe2 : Blk w2 q 24 #[.int .i64 13, .int .i64 po, .int .i64 re, .int .i64 id, .int .i64 li, .int .i64 nn, .slice A L c] := by
    rw [← hw2]
    exact (HP.out.far (fun e => hne e.symm) _).far (fun e => hne e.symm) _
  have K2 : Kept (HS hb k1 k2 k3 k4) w w2 := by
    rw [← hw2]
    exact ((HK.out.mono (fun _ e => e.elim)).setCell (Or.inl (Or.inl rfl)) _).setCell (Or.inl (Or.inl rfl)) _
  rw [hw2]
  clear hw2 p0 p1 d0 d1 H1 HP HK f0 hE
  have hap := h2.apart
  have p0 : w2.cell? ⟨q, 0, none⟩ = some (.int .i64 13) := pe2.cell 0
  have p2 : w2.cell? ⟨q, 0 + 2, none⟩ = some (.int .i64 re) := pe2.cell 2
  have p3 : w2.cell? ⟨q, 0 + 3, none⟩ = some (.int .i64 id) := pe2.cell 3
  have d0 : w2.cell? ⟨hb, 0, none⟩ = some (.int .i64 (sn + 1)) := h2.box.cell 0
  have H2 := Lib.hid h2
  have HP := Lib.hid pe2
  have K2 := Lib.hid K2
  clear h2 pe2 hap
  have HDrop := fun (W : World) (H : HMem W hb k1 k2 k3 k4 { s with n := sn + 1, pos := po }) => drop_any H HR0.out
  go_wp2_with fail
  refine (HDrop _ H2.out).mono ?_
  rintro e1 wd ⟨rfl, hd, hkd⟩
  clear p0 p2 p3 d0
  have hq2 : ¬ HS hb k1 k2 k3 k4 q := HQ.out
  have p0 : wd.cell? ⟨q, 0, none⟩ = some (.int .i64 13) := (HP.out.kept hkd hq2).cell 0
  have KD : Kept (HS hb k1 k2 k3 k4) w wd := K2.out.trans hkd
  have HD := Lib.hid hd
  have HK := Lib.hid KD
  clear hd KD hkd hq2
  have HCl := closes11_any 13
  go_wp2_with fail
  refine (HCl _).mono ?_
  rintro e1 w9 ⟨rfl, rfl⟩
  go_wp2_with fail
  go_ret2
  have e := HSN.out
  subst e
  exact ⟨rfl, HD.out, HK.out⟩

set_option maxRecDepth 100000 in
set_option maxHeartbeats 4000000 in
theorem add_14 {w : World} {hb k1 k2 k3 k4 : Nat} {s : HsD} (h : HMem w hb k1 k2 k3 k4 s) (ok : HOk s) {po re id li nn : Int} {bs : List UInt8} {A : Option Addr} {L c : Nat} (hl : bs.length = L) (hr : okI re) (hR : faultS s ⟨14, po, re, id, li, nn, bs⟩ = wNone) :
    Calls Tryd.prog 34 #[.pointer (some ⟨hb, 0, none⟩), .agg #[.int .i64 14, .int .i64 po, .int .i64 re, .int .i64 id, .int .i64 li, .int .i64 nn, .slice A L c]] w (AddEnd hb k1 k2 k3 k4 (addS s ⟨14, po, re, id, li, nn, bs⟩) wNone true w) := by
  have hFault := fun (W : World) (H : HMem W hb k1 k2 k3 k4 s) => fault_any H ok.kinds ⟨14, po, re, id, li, nn, bs⟩ A L c hl hr
  rw [hR] at hFault
  unfold wNone at hFault
  unfold aggE at hFault
  simp only at hFault
  have HFault := Lib.hid hFault
  have lt0 := h.box.lt
  have lt1 := h.kinds.lt
  have lt2 := h.ids.lt
  have lt3 := h.of_.lt
  have lt4 := h.frm.lt
  obtain ⟨q, hq⟩ : ∃ q, w.heap.size = q := ⟨_, rfl⟩
  have hnq : ¬ HS hb k1 k2 k3 k4 q := by
    intro hh
    unfold HS at hh
    omega
  obtain ⟨wz, hwz⟩ : ∃ wz, w.alloc (.cells #[.int .i64 14, .int .i64 po, .int .i64 re, .int .i64 id, .int .i64 li, .int .i64 nn, .slice A L c] 24) = wz := ⟨_, rfl⟩
  have hz : HMem wz hb k1 k2 k3 k4 s := hwz ▸ h.at_alloc _
  have pe : Blk wz q 24 #[.int .i64 14, .int .i64 po, .int .i64 re, .int .i64 id, .int .i64 li, .int .i64 nn, .slice A L c] := hwz ▸ hq ▸ Blk.new w 24 _
  have kz : Kept NoBlk w wz := hwz ▸ (Kept.refl NoBlk w).alloc _
  have p0 : wz.cell? ⟨q, 0, none⟩ = some (.int .i64 14) := pe.cell 0
  have p1 : wz.cell? ⟨q, 0 + 1, none⟩ = some (.int .i64 po) := pe.cell 1
  have p2 : wz.cell? ⟨q, 0 + 2, none⟩ = some (.int .i64 re) := pe.cell 2
  have p3 : wz.cell? ⟨q, 0 + 3, none⟩ = some (.int .i64 id) := pe.cell 3
  have p4 : wz.cell? ⟨q, 0 + 4, none⟩ = some (.int .i64 li) := pe.cell 4
  have p5 : wz.cell? ⟨q, 0 + 5, none⟩ = some (.int .i64 nn) := pe.cell 5
  have p6 : wz.cell? ⟨q, 0 + 6, none⟩ = some (.slice A L c) := pe.cell 6
  have HZ := Lib.hid hz
  have HP := Lib.hid pe
  have HK := Lib.hid kz
  have HQ := Lib.hid hnq
  have OK := Lib.hid ok
  have HR0 := Lib.hid hr
  clear h hz pe kz hFault hR hl hr hnq ok lt0 lt1 lt2 lt3 lt4
  go_enter Tryd.func34, Tryd.ntmps34
  go_upto_region 1 with fail
  clear hwz hq
  go_upto_region 2 with (go_at_call 48; refine (HFault.out _ HZ.out).mono ?_; rintro e1 w1 ⟨rfl, hk1⟩)
  have h1 : HMem w1 hb k1 k2 k3 k4 s := HZ.out.kept hk1
  have pe1 : Blk w1 q 24 #[.int .i64 14, .int .i64 po, .int .i64 re, .int .i64 id, .int .i64 li, .int .i64 nn, .slice A L c] := HP.out.kept hk1 (fun e => e.elim)
  have K1 : Kept NoBlk w w1 := HK.out.trans hk1
  clear p0 p1 p2 p3 p4 p5 p6 HZ HP HK hk1
  obtain ⟨sn, hsn⟩ : ∃ x, s.n = x := ⟨_, rfl⟩
  have n0 := OK.out.n0
  have n1 := OK.out.n1
  rw [hsn] at n0 n1
  have d0 : w1.cell? ⟨hb, 0, none⟩ = some (.int .i64 sn) := hsn ▸ h1.box.cell 0
  have d1 : w1.cell? ⟨hb, 0 + 1, none⟩ = some (.int .i64 s.pos) := h1.box.cell 1
  have hE : (!(ByteArray.mk #[]).toList.isEmpty) = false := by kernel_rfl
  have hne : hb ≠ q := fun e => HQ.out (by unfold HS; left; exact e.symm)
  have p0 : w1.cell? ⟨q, 0, none⟩ = some (.int .i64 14) := pe1.cell 0
  have p1 : w1.cell? ⟨q, 0 + 1, none⟩ = some (.int .i64 po) := pe1.cell 1
  have f0 := h1.box.frozen
  have H1 := Lib.hid h1
  have HP := Lib.hid pe1
  have HK := Lib.hid K1
  have HSN := Lib.hid hsn
  clear h1 pe1 K1 hsn
  go_upto_region 6 with fail
  obtain ⟨w2, hw2⟩ : ∃ w2, (w1.setCell ⟨hb, 0, none⟩ (.int .i64 (sn + 1))).setCell ⟨hb, 1, none⟩ (.int .i64 po) = w2 := ⟨_, rfl⟩
  have h2 : HMem w2 hb k1 k2 k3 k4 { s with n := sn + 1, pos := po } := by
    rw [← hw2]
    exact (H1.out.setN (sn + 1)).setPos po
  have pe2 : Blk w2 q 24 #[.int .i64 14, .int .i64 po, .int .i64 re, .int .i64 id, .int .i64 li, .int .i64 nn, .slice A L c] := by
    rw [← hw2]
    exact (HP.out.far (fun e => hne e.symm) _).far (fun e => hne e.symm) _
  have K2 : Kept (HS hb k1 k2 k3 k4) w w2 := by
    rw [← hw2]
    exact ((HK.out.mono (fun _ e => e.elim)).setCell (Or.inl (Or.inl rfl)) _).setCell (Or.inl (Or.inl rfl)) _
  rw [hw2]
  clear hw2 p0 p1 d0 d1 H1 HP HK f0 hE
  have hap := h2.apart
  have p0 : w2.cell? ⟨q, 0, none⟩ = some (.int .i64 14) := pe2.cell 0
  have p2 : w2.cell? ⟨q, 0 + 2, none⟩ = some (.int .i64 re) := pe2.cell 2
  have p3 : w2.cell? ⟨q, 0 + 3, none⟩ = some (.int .i64 id) := pe2.cell 3
  have d0 : w2.cell? ⟨hb, 0, none⟩ = some (.int .i64 (sn + 1)) := h2.box.cell 0
  have H2 := Lib.hid h2
  have HP := Lib.hid pe2
  have K2 := Lib.hid K2
  clear h2 pe2 hap
  have HDrop := fun (W : World) (H : HMem W hb k1 k2 k3 k4 { s with n := sn + 1, pos := po }) => drop_any H HR0.out
  go_wp2_with fail
  refine (HDrop _ H2.out).mono ?_
  rintro e1 wd ⟨rfl, hd, hkd⟩
  clear p0 p2 p3 d0
  have hq2 : ¬ HS hb k1 k2 k3 k4 q := HQ.out
  have p0 : wd.cell? ⟨q, 0, none⟩ = some (.int .i64 14) := (HP.out.kept hkd hq2).cell 0
  have KD : Kept (HS hb k1 k2 k3 k4) w wd := K2.out.trans hkd
  have HD := Lib.hid hd
  have HK := Lib.hid KD
  clear hd KD hkd hq2
  have HCl := closes11_any 14
  go_wp2_with fail
  refine (HCl _).mono ?_
  rintro e1 w9 ⟨rfl, rfl⟩
  go_wp2_with fail
  go_ret2
  have e := HSN.out
  subst e
  exact ⟨rfl, HD.out, HK.out⟩

set_option maxRecDepth 100000 in
set_option maxHeartbeats 4000000 in
theorem add_18 {w : World} {hb k1 k2 k3 k4 : Nat} {s : HsD} (h : HMem w hb k1 k2 k3 k4 s) (ok : HOk s) {po re id li nn : Int} {bs : List UInt8} {A : Option Addr} {L c : Nat} (hl : bs.length = L) (hr : okI re) (hR : faultS s ⟨18, po, re, id, li, nn, bs⟩ = wNone) :
    Calls Tryd.prog 34 #[.pointer (some ⟨hb, 0, none⟩), .agg #[.int .i64 18, .int .i64 po, .int .i64 re, .int .i64 id, .int .i64 li, .int .i64 nn, .slice A L c]] w (AddEnd hb k1 k2 k3 k4 (addS s ⟨18, po, re, id, li, nn, bs⟩) wNone true w) := by
  have hFault := fun (W : World) (H : HMem W hb k1 k2 k3 k4 s) => fault_any H ok.kinds ⟨18, po, re, id, li, nn, bs⟩ A L c hl hr
  rw [hR] at hFault
  unfold wNone at hFault
  unfold aggE at hFault
  simp only at hFault
  have HFault := Lib.hid hFault
  have lt0 := h.box.lt
  have lt1 := h.kinds.lt
  have lt2 := h.ids.lt
  have lt3 := h.of_.lt
  have lt4 := h.frm.lt
  obtain ⟨q, hq⟩ : ∃ q, w.heap.size = q := ⟨_, rfl⟩
  have hnq : ¬ HS hb k1 k2 k3 k4 q := by
    intro hh
    unfold HS at hh
    omega
  obtain ⟨wz, hwz⟩ : ∃ wz, w.alloc (.cells #[.int .i64 18, .int .i64 po, .int .i64 re, .int .i64 id, .int .i64 li, .int .i64 nn, .slice A L c] 24) = wz := ⟨_, rfl⟩
  have hz : HMem wz hb k1 k2 k3 k4 s := hwz ▸ h.at_alloc _
  have pe : Blk wz q 24 #[.int .i64 18, .int .i64 po, .int .i64 re, .int .i64 id, .int .i64 li, .int .i64 nn, .slice A L c] := hwz ▸ hq ▸ Blk.new w 24 _
  have kz : Kept NoBlk w wz := hwz ▸ (Kept.refl NoBlk w).alloc _
  have p0 : wz.cell? ⟨q, 0, none⟩ = some (.int .i64 18) := pe.cell 0
  have p1 : wz.cell? ⟨q, 0 + 1, none⟩ = some (.int .i64 po) := pe.cell 1
  have p2 : wz.cell? ⟨q, 0 + 2, none⟩ = some (.int .i64 re) := pe.cell 2
  have p3 : wz.cell? ⟨q, 0 + 3, none⟩ = some (.int .i64 id) := pe.cell 3
  have p4 : wz.cell? ⟨q, 0 + 4, none⟩ = some (.int .i64 li) := pe.cell 4
  have p5 : wz.cell? ⟨q, 0 + 5, none⟩ = some (.int .i64 nn) := pe.cell 5
  have p6 : wz.cell? ⟨q, 0 + 6, none⟩ = some (.slice A L c) := pe.cell 6
  have HZ := Lib.hid hz
  have HP := Lib.hid pe
  have HK := Lib.hid kz
  have HQ := Lib.hid hnq
  have OK := Lib.hid ok
  have HR0 := Lib.hid hr
  clear h hz pe kz hFault hR hl hr hnq ok lt0 lt1 lt2 lt3 lt4
  go_enter Tryd.func34, Tryd.ntmps34
  go_upto_region 1 with fail
  clear hwz hq
  go_upto_region 2 with (go_at_call 48; refine (HFault.out _ HZ.out).mono ?_; rintro e1 w1 ⟨rfl, hk1⟩)
  have h1 : HMem w1 hb k1 k2 k3 k4 s := HZ.out.kept hk1
  have pe1 : Blk w1 q 24 #[.int .i64 18, .int .i64 po, .int .i64 re, .int .i64 id, .int .i64 li, .int .i64 nn, .slice A L c] := HP.out.kept hk1 (fun e => e.elim)
  have K1 : Kept NoBlk w w1 := HK.out.trans hk1
  clear p0 p1 p2 p3 p4 p5 p6 HZ HP HK hk1
  obtain ⟨sn, hsn⟩ : ∃ x, s.n = x := ⟨_, rfl⟩
  have n0 := OK.out.n0
  have n1 := OK.out.n1
  rw [hsn] at n0 n1
  have d0 : w1.cell? ⟨hb, 0, none⟩ = some (.int .i64 sn) := hsn ▸ h1.box.cell 0
  have d1 : w1.cell? ⟨hb, 0 + 1, none⟩ = some (.int .i64 s.pos) := h1.box.cell 1
  have hE : (!(ByteArray.mk #[]).toList.isEmpty) = false := by kernel_rfl
  have hne : hb ≠ q := fun e => HQ.out (by unfold HS; left; exact e.symm)
  have p0 : w1.cell? ⟨q, 0, none⟩ = some (.int .i64 18) := pe1.cell 0
  have p1 : w1.cell? ⟨q, 0 + 1, none⟩ = some (.int .i64 po) := pe1.cell 1
  have f0 := h1.box.frozen
  have H1 := Lib.hid h1
  have HP := Lib.hid pe1
  have HK := Lib.hid K1
  have HSN := Lib.hid hsn
  clear h1 pe1 K1 hsn
  go_upto_region 6 with fail
  obtain ⟨w2, hw2⟩ : ∃ w2, (w1.setCell ⟨hb, 0, none⟩ (.int .i64 (sn + 1))).setCell ⟨hb, 1, none⟩ (.int .i64 po) = w2 := ⟨_, rfl⟩
  have h2 : HMem w2 hb k1 k2 k3 k4 { s with n := sn + 1, pos := po } := by
    rw [← hw2]
    exact (H1.out.setN (sn + 1)).setPos po
  have pe2 : Blk w2 q 24 #[.int .i64 18, .int .i64 po, .int .i64 re, .int .i64 id, .int .i64 li, .int .i64 nn, .slice A L c] := by
    rw [← hw2]
    exact (HP.out.far (fun e => hne e.symm) _).far (fun e => hne e.symm) _
  have K2 : Kept (HS hb k1 k2 k3 k4) w w2 := by
    rw [← hw2]
    exact ((HK.out.mono (fun _ e => e.elim)).setCell (Or.inl (Or.inl rfl)) _).setCell (Or.inl (Or.inl rfl)) _
  rw [hw2]
  clear hw2 p0 p1 d0 d1 H1 HP HK f0 hE
  have hap := h2.apart
  have p0 : w2.cell? ⟨q, 0, none⟩ = some (.int .i64 18) := pe2.cell 0
  have p2 : w2.cell? ⟨q, 0 + 2, none⟩ = some (.int .i64 re) := pe2.cell 2
  have p3 : w2.cell? ⟨q, 0 + 3, none⟩ = some (.int .i64 id) := pe2.cell 3
  have d0 : w2.cell? ⟨hb, 0, none⟩ = some (.int .i64 (sn + 1)) := h2.box.cell 0
  have H2 := Lib.hid h2
  have HP := Lib.hid pe2
  have K2 := Lib.hid K2
  clear h2 pe2 hap
  have HDrop := fun (W : World) (H : HMem W hb k1 k2 k3 k4 { s with n := sn + 1, pos := po }) => drop_any H HR0.out
  go_wp2_with fail
  refine (HDrop _ H2.out).mono ?_
  rintro e1 wd ⟨rfl, hd, hkd⟩
  clear p0 p2 p3 d0
  have hq2 : ¬ HS hb k1 k2 k3 k4 q := HQ.out
  have p0 : wd.cell? ⟨q, 0, none⟩ = some (.int .i64 18) := (HP.out.kept hkd hq2).cell 0
  have KD : Kept (HS hb k1 k2 k3 k4) w wd := K2.out.trans hkd
  have HD := Lib.hid hd
  have HK := Lib.hid KD
  clear hd KD hkd hq2
  have HCl := closes11_any 18
  go_wp2_with fail
  refine (HCl _).mono ?_
  rintro e1 w9 ⟨rfl, rfl⟩
  go_wp2_with fail
  go_ret2
  have e := HSN.out
  subst e
  exact ⟨rfl, HD.out, HK.out⟩

set_option maxRecDepth 100000 in
set_option maxHeartbeats 4000000 in
theorem add_rest {w : World} {hb k1 k2 k3 k4 : Nat} {s : HsD} (h : HMem w hb k1 k2 k3 k4 s) (ok : HOk s) {ki : Int} (hk : ki ≠ 2 ∧ ki ≠ 3 ∧ ki ≠ 4 ∧ ki ≠ 5 ∧ ki ≠ 6 ∧ ki ≠ 7 ∧ ki ≠ 8 ∧ ki ≠ 9 ∧ ki ≠ 10 ∧ ki ≠ 11 ∧ ki ≠ 12 ∧ ki ≠ 13 ∧ ki ≠ 14 ∧ ki ≠ 17 ∧ ki ≠ 18) {po re id li nn : Int} {bs : List UInt8} {A : Option Addr} {L c : Nat} (hl : bs.length = L) (hr : okI re) (hR : faultS s ⟨ki, po, re, id, li, nn, bs⟩ = wNone) :
    Calls Tryd.prog 34 #[.pointer (some ⟨hb, 0, none⟩), .agg #[.int .i64 ki, .int .i64 po, .int .i64 re, .int .i64 id, .int .i64 li, .int .i64 nn, .slice A L c]] w (AddEnd hb k1 k2 k3 k4 (addS s ⟨ki, po, re, id, li, nn, bs⟩) wNone true w) := by
  have hFault := fun (W : World) (H : HMem W hb k1 k2 k3 k4 s) => fault_any H ok.kinds ⟨ki, po, re, id, li, nn, bs⟩ A L c hl hr
  rw [hR] at hFault
  unfold wNone at hFault
  unfold aggE at hFault
  simp only at hFault
  have HFault := Lib.hid hFault
  have lt0 := h.box.lt
  have lt1 := h.kinds.lt
  have lt2 := h.ids.lt
  have lt3 := h.of_.lt
  have lt4 := h.frm.lt
  obtain ⟨q, hq⟩ : ∃ q, w.heap.size = q := ⟨_, rfl⟩
  have hnq : ¬ HS hb k1 k2 k3 k4 q := by
    intro hh
    unfold HS at hh
    omega
  obtain ⟨wz, hwz⟩ : ∃ wz, w.alloc (.cells #[.int .i64 ki, .int .i64 po, .int .i64 re, .int .i64 id, .int .i64 li, .int .i64 nn, .slice A L c] 24) = wz := ⟨_, rfl⟩
  have hz : HMem wz hb k1 k2 k3 k4 s := hwz ▸ h.at_alloc _
  have pe : Blk wz q 24 #[.int .i64 ki, .int .i64 po, .int .i64 re, .int .i64 id, .int .i64 li, .int .i64 nn, .slice A L c] := hwz ▸ hq ▸ Blk.new w 24 _
  have kz : Kept NoBlk w wz := hwz ▸ (Kept.refl NoBlk w).alloc _
  have p0 : wz.cell? ⟨q, 0, none⟩ = some (.int .i64 ki) := pe.cell 0
  have p1 : wz.cell? ⟨q, 0 + 1, none⟩ = some (.int .i64 po) := pe.cell 1
  have p2 : wz.cell? ⟨q, 0 + 2, none⟩ = some (.int .i64 re) := pe.cell 2
  have p3 : wz.cell? ⟨q, 0 + 3, none⟩ = some (.int .i64 id) := pe.cell 3
  have p4 : wz.cell? ⟨q, 0 + 4, none⟩ = some (.int .i64 li) := pe.cell 4
  have p5 : wz.cell? ⟨q, 0 + 5, none⟩ = some (.int .i64 nn) := pe.cell 5
  have p6 : wz.cell? ⟨q, 0 + 6, none⟩ = some (.slice A L c) := pe.cell 6
  have HZ := Lib.hid hz
  have HP := Lib.hid pe
  have HK := Lib.hid kz
  have HQ := Lib.hid hnq
  have OK := Lib.hid ok
  have HR0 := Lib.hid hr
  clear h hz pe kz hFault hR hl hr hnq ok lt0 lt1 lt2 lt3 lt4
  go_enter Tryd.func34, Tryd.ntmps34
  go_upto_region 1 with fail
  clear hwz hq
  go_upto_region 2 with (go_at_call 48; refine (HFault.out _ HZ.out).mono ?_; rintro e1 w1 ⟨rfl, hk1⟩)
  have h1 : HMem w1 hb k1 k2 k3 k4 s := HZ.out.kept hk1
  have pe1 : Blk w1 q 24 #[.int .i64 ki, .int .i64 po, .int .i64 re, .int .i64 id, .int .i64 li, .int .i64 nn, .slice A L c] := HP.out.kept hk1 (fun e => e.elim)
  have K1 : Kept NoBlk w w1 := HK.out.trans hk1
  clear p0 p1 p2 p3 p4 p5 p6 HZ HP HK hk1
  obtain ⟨sn, hsn⟩ : ∃ x, s.n = x := ⟨_, rfl⟩
  have n0 := OK.out.n0
  have n1 := OK.out.n1
  rw [hsn] at n0 n1
  have d0 : w1.cell? ⟨hb, 0, none⟩ = some (.int .i64 sn) := hsn ▸ h1.box.cell 0
  have d1 : w1.cell? ⟨hb, 0 + 1, none⟩ = some (.int .i64 s.pos) := h1.box.cell 1
  have hE : (!(ByteArray.mk #[]).toList.isEmpty) = false := by kernel_rfl
  have hne : hb ≠ q := fun e => HQ.out (by unfold HS; left; exact e.symm)
  have p0 : w1.cell? ⟨q, 0, none⟩ = some (.int .i64 ki) := pe1.cell 0
  have p1 : w1.cell? ⟨q, 0 + 1, none⟩ = some (.int .i64 po) := pe1.cell 1
  have f0 := h1.box.frozen
  have H1 := Lib.hid h1
  have HP := Lib.hid pe1
  have HK := Lib.hid K1
  have HSN := Lib.hid hsn
  clear h1 pe1 K1 hsn
  go_upto_region 6 with fail
  obtain ⟨w2, hw2⟩ : ∃ w2, (w1.setCell ⟨hb, 0, none⟩ (.int .i64 (sn + 1))).setCell ⟨hb, 1, none⟩ (.int .i64 po) = w2 := ⟨_, rfl⟩
  have h2 : HMem w2 hb k1 k2 k3 k4 { s with n := sn + 1, pos := po } := by
    rw [← hw2]
    exact (H1.out.setN (sn + 1)).setPos po
  have pe2 : Blk w2 q 24 #[.int .i64 ki, .int .i64 po, .int .i64 re, .int .i64 id, .int .i64 li, .int .i64 nn, .slice A L c] := by
    rw [← hw2]
    exact (HP.out.far (fun e => hne e.symm) _).far (fun e => hne e.symm) _
  have K2 : Kept (HS hb k1 k2 k3 k4) w w2 := by
    rw [← hw2]
    exact ((HK.out.mono (fun _ e => e.elim)).setCell (Or.inl (Or.inl rfl)) _).setCell (Or.inl (Or.inl rfl)) _
  rw [hw2]
  clear hw2 p0 p1 d0 d1 H1 HP HK f0 hE
  have hap := h2.apart
  have p0 : w2.cell? ⟨q, 0, none⟩ = some (.int .i64 ki) := pe2.cell 0
  have p2 : w2.cell? ⟨q, 0 + 2, none⟩ = some (.int .i64 re) := pe2.cell 2
  have p3 : w2.cell? ⟨q, 0 + 3, none⟩ = some (.int .i64 id) := pe2.cell 3
  have d0 : w2.cell? ⟨hb, 0, none⟩ = some (.int .i64 (sn + 1)) := h2.box.cell 0
  have d2 : w2.cell? ⟨hb, 0 + 2, none⟩ = some (.int .i64 s.closed) := h2.box.cell 2
  have f0 := h2.box.frozen
  have H2 := Lib.hid h2
  have HP := Lib.hid pe2
  have K2 := Lib.hid K2
  clear h2 pe2 hap
  obtain ⟨g2, g3, g4, g5, g6, g7, g8, g9, g10, g11, g12, g13, g14, g17, g18⟩ := hk
  have HCl := closes11_any ki
  have hadd : addS s ⟨ki, po, re, id, li, nn, bs⟩ = if closesB ki then { s with n := s.n + 1, pos := po, closed := ki } else { s with n := s.n + 1, pos := po } := by
    unfold addS
    simp only
    rw [if_neg g2, if_neg g3, if_neg (by omega), if_neg (by omega), if_neg g8, if_neg (by omega), if_neg (by omega)]
  have HA := Lib.hid hadd
  clear hadd
  obtain ⟨cb, hcb⟩ : ∃ cb, closesB ki = cb := ⟨_, rfl⟩
  rw [hcb] at HCl
  have HCB := Lib.hid hcb
  clear hcb
  cases cb
  · go_wp2_with fail
    refine (HCl _).mono ?_
    rintro e1 w9 ⟨rfl, rfl⟩
    go_wp2_with fail
    go_ret2
    have e := HSN.out
    subst e
    rw [HA.out, HCB.out]
    exact ⟨rfl, H2.out, K2.out⟩
  · go_wp2_with fail
    refine (HCl _).mono ?_
    rintro e1 w9 ⟨rfl, rfl⟩
    go_wp2_with fail
    go_ret2
    have e := HSN.out
    subst e
    rw [HA.out, HCB.out]
    exact ⟨rfl, H2.out.setClosed _, K2.out.setCell (Or.inl (Or.inl rfl)) _⟩

end Go.Proofs.YtndnbjpcjlbcjaaDoor
