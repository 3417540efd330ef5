/- What does not fit. -/
import Derived.Test.YtndnbjpcjlbcjaaDoorRef
namespace Go.Proofs.YtndnbjpcjlbcjaaDoor
open Go.RowKit Go.Maps

/-- The words. -/
def wEvent : ByteArray := ⟨#[101, 118, 101, 110, 116]⟩
def wTime : ByteArray := ⟨#[116, 105, 109, 101]⟩
def wFirst : ByteArray := ⟨#[102, 105, 114, 115, 116]⟩
def wClosed : ByteArray := ⟨#[99, 108, 111, 115, 101, 100]⟩
def wRef : ByteArray := ⟨#[114, 101, 102]⟩
def wTask : ByteArray := ⟨#[116, 97, 115, 107]⟩
def wId : ByteArray := ⟨#[105, 100]⟩
def wNone : ByteArray := ⟨#[]⟩

def faultS (s : HsD) (e : EvD) : ByteArray :=
  if rightB e = false then wEvent
  else if e.pos < s.pos then wTime
  else if (!(s.n == 0) == (e.kind == 1)) = true then wFirst
  else if (s.closed != 0) = true then wClosed
  else if refB s e.kind e.ref = false then wRef
  else if e.kind = 2 ∧ (s.task != 0) = true then wTask
  else if (e.kind = 7 ∨ e.kind = 12 ∨ e.kind = 17) ∧ usesB s e.kind e.id = true then wId
  else wNone

set_option maxRecDepth 100000 in
set_option maxHeartbeats 4000000 in
theorem fault_any {w : World} {hb k1 k2 k3 k4 : Nat} {s : HsD} (h : HMem w hb k1 k2 k3 k4 s) (hs : s.kinds.length ≤ 1000000) (e : EvD) (A : Option Addr) (L c : Nat) (hl : e.data.length = L) (hr : okI e.ref) :
    Calls Tryd.prog 48 #[.pointer (some ⟨hb, 0, none⟩), aggE e (.slice A L c)] w (ValEnd (.string (faultS s e)) w) := by
  have hRight := fun W => right13_any e A L c hl W
  have hRef := fun (W : World) (H : HMem W hb k1 k2 k3 k4 s) => ref_any H e (.slice A L c) hr
  have hUses := fun (W : World) (H : HMem W hb k1 k2 k3 k4 s) => uses_any H hs e.kind e.id
  obtain ⟨R, hR⟩ : ∃ R, faultS s e = R := ⟨_, rfl⟩
  have hR' := hR
  unfold faultS at hR'
  rw [hR]
  clear hR
  obtain ⟨rb, hrb⟩ : ∃ b, rightB e = b := ⟨_, rfl⟩
  obtain ⟨fb, hfb⟩ : ∃ b, refB s e.kind e.ref = b := ⟨_, rfl⟩
  obtain ⟨ub, hub⟩ : ∃ b, usesB s e.kind e.id = b := ⟨_, rfl⟩
  rw [hrb, hfb, hub] at hR'
  rw [hrb] at hRight
  rw [hfb] at hRef
  rw [hub] at hUses
  clear hrb hfb hub
  obtain ⟨ki, po, re, id, li, nn, bs⟩ := e
  unfold aggE at hRight hRef ⊢
  simp only at hRight hRef hUses hR' hr ⊢
  have HRight := Lib.hid hRight
  have HRef := Lib.hid hRef
  have HUses := Lib.hid hUses
  clear hRight hRef hUses hl hs
  obtain ⟨q, hq⟩ : ∃ q, w.heap.size = q := ⟨_, rfl⟩
  obtain ⟨wz, hwz⟩ : ∃ wz, w.alloc (.cells #[.int .i64 ki, .int .i64 po, .int .i64 re, .int .i64 id, .int .i64 li, .int .i64 nn, .slice A L c] 24) = wz := ⟨_, rfl⟩
  have hz : HMem wz hb k1 k2 k3 k4 s := hwz ▸ h.at_alloc _
  have pe : Blk wz q 24 #[.int .i64 ki, .int .i64 po, .int .i64 re, .int .i64 id, .int .i64 li, .int .i64 nn, .slice A L c] := hwz ▸ hq ▸ Blk.new w 24 _
  have kz : Kept NoBlk w wz := hwz ▸ (Kept.refl NoBlk w).alloc _
  have p0 : wz.cell? ⟨q, 0, none⟩ = some (.int .i64 ki) := pe.cell 0
  have p1 : wz.cell? ⟨q, 0 + 1, none⟩ = some (.int .i64 po) := pe.cell 1
  have p2 : wz.cell? ⟨q, 0 + 2, none⟩ = some (.int .i64 re) := pe.cell 2
  have p3 : wz.cell? ⟨q, 0 + 3, none⟩ = some (.int .i64 id) := pe.cell 3
  have p4 : wz.cell? ⟨q, 0 + 4, none⟩ = some (.int .i64 li) := pe.cell 4
  have p5 : wz.cell? ⟨q, 0 + 5, none⟩ = some (.int .i64 nn) := pe.cell 5
  have p6 : wz.cell? ⟨q, 0 + 6, none⟩ = some (.slice A L c) := pe.cell 6
  have HZ := Lib.hid hz
  have HP := Lib.hid pe
  have HK := Lib.hid kz
  have HR := Lib.hid hR'
  clear h hz pe kz hR'
  go_enter Tryd.func48, Tryd.ntmps48
  go_upto_region 1 with fail
  clear hwz hq
  go_wp2_with fail
  refine (HRight.out _).mono ?_
  rintro e1 w1 ⟨rfl, hk1⟩
  have h1 : HMem w1 hb k1 k2 k3 k4 s := HZ.out.kept hk1
  have pe1 : Blk w1 q 24 #[.int .i64 ki, .int .i64 po, .int .i64 re, .int .i64 id, .int .i64 li, .int .i64 nn, .slice A L c] := HP.out.kept hk1 (fun e => e.elim)
  have K1 : Kept NoBlk w w1 := HK.out.trans hk1
  clear p0 p1 p2 p3 p4 p5 p6 HZ HP HK hk1
  have p0 : w1.cell? ⟨q, 0, none⟩ = some (.int .i64 ki) := pe1.cell 0
  have p1 : w1.cell? ⟨q, 0 + 1, none⟩ = some (.int .i64 po) := pe1.cell 1
  have p2 : w1.cell? ⟨q, 0 + 2, none⟩ = some (.int .i64 re) := pe1.cell 2
  have p3 : w1.cell? ⟨q, 0 + 3, none⟩ = some (.int .i64 id) := pe1.cell 3
  have p4 : w1.cell? ⟨q, 0 + 4, none⟩ = some (.int .i64 li) := pe1.cell 4
  have p5 : w1.cell? ⟨q, 0 + 5, none⟩ = some (.int .i64 nn) := pe1.cell 5
  have p6 : w1.cell? ⟨q, 0 + 6, none⟩ = some (.slice A L c) := pe1.cell 6
  have d0 : w1.cell? ⟨hb, 0, none⟩ = some (.int .i64 s.n) := h1.box.cell 0
  have d1 : w1.cell? ⟨hb, 0 + 1, none⟩ = some (.int .i64 s.pos) := h1.box.cell 1
  have d2 : w1.cell? ⟨hb, 0 + 2, none⟩ = some (.int .i64 s.closed) := h1.box.cell 2
  have H1 := Lib.hid h1
  have HP := Lib.hid pe1
  have HK := Lib.hid K1
  clear h1 pe1 K1
  cases rb
  · have hw : R = wEvent := by rw [← HR.out, if_pos rfl]
    go_wp2_with fail
    go_ret
    exact ⟨by rw [hw]; rfl, HK.out⟩
  obtain ⟨sp, hsp⟩ : ∃ x, s.pos = x := ⟨_, rfl⟩
  obtain ⟨sn, hsn⟩ : ∃ x, s.n = x := ⟨_, rfl⟩
  obtain ⟨sc, hsc⟩ : ∃ x, s.closed = x := ⟨_, rfl⟩
  rw [hsp] at d1
  rw [hsn] at d0
  rw [hsc] at d2
  have hR' := HR.out
  rw [if_neg (by decide), hsp, hsn, hsc] at hR'
  have HR := Lib.hid hR'
  clear hR' hsp hsn hsc
  by_cases hpo : po < sp
  · have hw : R = wTime := by rw [← HR.out, if_pos hpo]
    have HW := Lib.hid hw
    clear hw
    go_wp2_with fail
    go_quiet (fail)
    go_wp2_with fail
    go_ret
    exact ⟨by rw [HW.out]; rfl, HK.out.drewN _⟩
  cases b3 : (!(sn == 0) == (ki == 1))
  rotate_left
  · have hw : R = wFirst := by rw [← HR.out, if_neg hpo, if_pos b3]
    have HW := Lib.hid hw
    clear hw
    go_wp2_with fail
    go_quiet (fail)
    go_wp2_with fail
    go_quiet (fail)
    go_wp2_with fail
    go_ret
    exact ⟨by rw [HW.out]; rfl, by first | exact HK.out.drewN _ | exact (HK.out.drewN _).drewN _⟩
  cases b4 : (sc != 0)
  rotate_left
  · have hw : R = wClosed := by rw [← HR.out, if_neg hpo, if_neg (by rw [b3]; decide), if_pos b4]
    have HW := Lib.hid hw
    clear hw
    go_wp2_with fail
    go_quiet (fail)
    go_wp2_with fail
    go_quiet (fail)
    go_wp2_with fail
    go_ret
    exact ⟨by rw [HW.out]; rfl, by first | exact HK.out.drewN _ | exact (HK.out.drewN _).drewN _⟩
  have hR' := HR.out
  rw [if_neg hpo, if_neg (by rw [b3]; decide), if_neg (by rw [b4]; decide)] at hR'
  have HR := Lib.hid hR'
  clear hR'
  go_wp2_with fail
  go_quiet (fail)
  go_wp2_with fail
  go_quiet (fail)
  go_wp2_with fail
  refine (HRef.out _ ?_).mono ?_
  · first | exact H1.out.at_drewN _ | exact (H1.out.at_drewN _).at_drewN _
  rintro e1 w2 ⟨rfl, hk2⟩
  have hk2 : Kept NoBlk w1 w2 := by
    first
      | exact ((Kept.refl NoBlk _).drewN _).trans hk2
      | exact (((Kept.refl NoBlk _).drewN _).drewN _).trans hk2
  have h2 : HMem w2 hb k1 k2 k3 k4 s := H1.out.kept hk2
  have pe2 : Blk w2 q 24 #[.int .i64 ki, .int .i64 po, .int .i64 re, .int .i64 id, .int .i64 li, .int .i64 nn, .slice A L c] := HP.out.kept hk2 (fun e => e.elim)
  have K2 : Kept NoBlk w w2 := HK.out.trans hk2
  clear p0 p1 p2 p3 p4 p5 p6 d0 d1 d2 H1 HP HK hk2
  have p0 : w2.cell? ⟨q, 0, none⟩ = some (.int .i64 ki) := pe2.cell 0
  have p3 : w2.cell? ⟨q, 0 + 3, none⟩ = some (.int .i64 id) := pe2.cell 3
  have d5 : w2.cell? ⟨hb, 0 + 5, none⟩ = some (.int .i64 s.task) := h2.box.cell 5
  have H1 := Lib.hid h2
  have HK := Lib.hid K2
  clear h2 pe2 K2
  cases fb
  · have hw : R = wRef := by rw [← HR.out, if_pos rfl]
    have HW := Lib.hid hw
    clear hw
    go_wp2_with fail
    go_ret
    exact ⟨by rw [HW.out]; rfl, HK.out⟩
  obtain ⟨tk, htk⟩ : ∃ x, s.task = x := ⟨_, rfl⟩
  rw [htk] at d5
  have hR' := HR.out
  rw [if_neg (by decide), htk] at hR'
  have HR := Lib.hid hR'
  clear hR' htk
  by_cases c2 : ki = 2
  · subst c2
    cases b6 : (tk != 0)
    · have hw : R = wNone := by rw [← HR.out, if_neg (by rw [b6]; decide), if_neg (by omega)]
      have HW := Lib.hid hw
      clear hw
      go_wp2_with fail
      go_ret
      exact ⟨by rw [HW.out]; rfl, HK.out⟩
    · have hw : R = wTask := by rw [← HR.out, if_pos ⟨rfl, b6⟩]
      have HW := Lib.hid hw
      clear hw
      go_wp2_with fail
      go_ret
      exact ⟨by rw [HW.out]; rfl, HK.out⟩
  have hR' := HR.out
  rw [if_neg (fun h => c2 h.1)] at hR'
  have HR := Lib.hid hR'
  clear hR'
  by_cases c7 : ki = 7 ∨ ki = 12 ∨ ki = 17
  · have HC := Lib.hid c7
    cases ub
    · have hw : R = wNone := by rw [← HR.out, if_neg (fun h => by cases h.2)]
      have HW := Lib.hid hw
      clear hw
      rcases c7 with rfl | rfl | rfl
      all_goals
        go_wp2_with fail
        refine (HUses.out _ H1.out).mono ?_
        rintro e1 w3 ⟨rfl, hk3⟩
        go_wp2_with fail
        go_ret
        exact ⟨by rw [HW.out]; rfl, HK.out.trans hk3⟩
    · have hw : R = wId := by rw [← HR.out, if_pos ⟨c7, rfl⟩]
      have HW := Lib.hid hw
      clear hw
      rcases c7 with rfl | rfl | rfl
      all_goals
        go_wp2_with fail
        refine (HUses.out _ H1.out).mono ?_
        rintro e1 w3 ⟨rfl, hk3⟩
        go_wp2_with fail
        go_ret
        exact ⟨by rw [HW.out]; rfl, HK.out.trans hk3⟩
  · have hw : R = wNone := by rw [← HR.out, if_neg (fun h => c7 h.1)]
    have HW := Lib.hid hw
    clear hw
    simp only [not_or] at c7
    obtain ⟨c71, c72, c73⟩ := c7
    go_wp2_with fail
    go_ret
    exact ⟨by rw [HW.out]; rfl, HK.out⟩
#print axioms fault_any
end Go.Proofs.YtndnbjpcjlbcjaaDoor
