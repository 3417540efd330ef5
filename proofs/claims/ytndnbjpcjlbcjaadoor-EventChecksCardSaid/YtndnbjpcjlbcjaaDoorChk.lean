/- Check goes over events: the first that does not fit. -/
import Derived.Test.YtndnbjpcjlbcjaaDoorAddAny
import Derived.Test.YtndnbjpcjlbcjaaDoorPlays
namespace Go.Proofs.YtndnbjpcjlbcjaaDoor
open Go.RowKit Go.Maps
/-- How the program's Check goes over events. -/
structure ChkRel (w : World) (hb k1 k2 k3 k4 : Nat) (s : HsD) (wr : World) : Prop where
  mem : HMem wr hb k1 k2 k3 k4 s
  new : ∀ b, HS hb k1 k2 k3 k4 b → w.heap.size ≤ b
  kept : Kept NoBlk w wr

def CheckEnd (xs : List EvD) (w : World) (e : Ending) (w' : World) : Prop :=
  Kept NoBlk w w' ∧ match chk HsD.none_ 0 xs with
    | none => e = .returned .nilIface
    | some r => ∃ eb, e = .returned (.iface 36 (.pointer (some ⟨eb, 0, none⟩))) ∧ Blk w' eb 53 #[.int .i64 r.1, .string r.2, .iface 55 (.int .i64 8)] ∧ w.heap.size ≤ eb

theorem hok_of {l : List EvD} (h : chk HsD.none_ 0 l = none) (hl : l.length ≤ 1000) : HOk (runS HsD.none_ l) := by
  have i := Inv.of h
  have m := More.of h
  have hc := (cntR_le l).1
  have hm := m.cnt
  refine ⟨by rw [i.n]; omega, by rw [i.n]; omega, by omega, fun x => ?_⟩
  rw [i.of_]
  split
  · rename_i h8
    have := act_ref i h8.1
    exact ⟨by simp; omega, by simp; omega⟩
  · exact ⟨by decide, by decide⟩
theorem chk_next {xs : List EvD} {k : Nat} {e : EvD} (he : xs[k]? = some e) (h : chk HsD.none_ 0 (xs.take k) = none) :
    (faultS (runS HsD.none_ (xs.take k)) e = wNone → chk HsD.none_ 0 (xs.take (k + 1)) = none) ∧ (faultS (runS HsD.none_ (xs.take k)) e ≠ wNone → chk HsD.none_ 0 xs = some (k + 1, faultS (runS HsD.none_ (xs.take k)) e)) ∧
      runS HsD.none_ (xs.take (k + 1)) = stepS (runS HsD.none_ (xs.take k)) e := by
  obtain ⟨hk, rfl⟩ := List.getElem?_eq_some_iff.1 he
  have e1 : xs.take (k + 1) = xs.take k ++ [xs[k]] := List.take_succ_eq_append_getElem hk
  refine ⟨fun h0 => ?_, fun h0 => ?_, ?_⟩
  · rw [e1, chk_snoc _ h, if_pos h0]
  · have : chk HsD.none_ 0 (xs.take (k + 1)) = some (k + 1, faultS (runS HsD.none_ (xs.take k)) xs[k]) := by
      rw [e1, chk_snoc _ h, if_neg h0, List.length_take]
      have : 0 + min k xs.length + 1 = k + 1 := by omega
      rw [this]
    have h2 := chk_some (b := xs.drop (k + 1)) this
    rw [List.take_append_drop] at h2
    exact h2
  · rw [e1, runS_snoc']
theorem ChkRel.step {w : World} {hb k1 k2 k3 k4 : Nat} {s s' : HsD} {wr w' : World} (h : ChkRel w hb k1 k2 k3 k4 s wr) (hm : HMem w' hb k1 k2 k3 k4 s') (hk : Kept (HS hb k1 k2 k3 k4) wr w') : ChkRel w hb k1 k2 k3 k4 s' w' :=
  ⟨hm, h.new, h.kept.inner hk (fun b hb => Or.inr (h.new b hb))⟩
theorem ChkRel.alloc {w : World} {hb k1 k2 k3 k4 : Nat} {s : HsD} {wr : World} (h : ChkRel w hb k1 k2 k3 k4 s wr) (o : Obj) : ChkRel w hb k1 k2 k3 k4 s (wr.alloc o) :=
  ⟨h.mem.at_alloc o, h.new, h.kept.alloc o⟩

set_option maxRecDepth 100000 in
set_option maxHeartbeats 4000000 in
theorem check_any (A : Option Addr) (n c : Nat) (xs : List EvD) (w : World) (h : Evs w A n xs) (hn : n ≤ 1000) :
    Calls Tryd.prog 16 #[.slice A n c] w (CheckEnd xs w) := by
  have HB := Lib.hid (begin_any w)
  have HE := Lib.hid h
  clear h
  go_enter Tryd.func16, Tryd.ntmps16
  go_wp2_with fail
  refine HB.out.mono ?_
  rintro e1 w1 ⟨hb, k1, k2, k3, k4, rfl, hm, hnew, hk⟩
  have HR := Lib.hid (show ChkRel w hb k1 k2 k3 k4 HsD.none_ w1 from ⟨hm, hnew, hk⟩)
  clear hm hnew hk
  go_wp2_with fail
  go_loopg [11] n (fun g v wr => ∃ (k : Nat), g + k = n ∧ v = .int .i64 k ∧ chk HsD.none_ 0 (xs.take k) = none ∧ ChkRel w hb k1 k2 k3 k4 (runS HsD.none_ (xs.take k)) wr)
  case atStart => exact ⟨0, by omega, rfl, rfl, HR.out⟩
  case round =>
    obtain ⟨k, hgk, rfl, hchk, hrel⟩ := hrel
    have Hgk := Lib.hid hgk
    have HC := Lib.hid hchk
    have HR := Lib.hid hrel
    obtain ⟨wx, hwx⟩ : ∃ wx, wr = wx := ⟨_, rfl⟩
    rw [hwx] at HR ⊢
    clear hgk hchk hrel hwx
    by_cases hlt : k < n
    · obtain ⟨b, off, a, v, rfl, ha, hev⟩ := HE.out.at_ hlt
      have hev := hev.kept HR.out.kept (NoCells.none _)
      have HEV := Lib.hid hev
      obtain ⟨h0, h1, h2, h3, h4, h5, h6, h7, h8⟩ := hev
      obtain ⟨A', n', c', rfl, _⟩ := h7
      have hl := Lib.hid (RdB.length hev.2.2.2.2.2.2.2.1)
      have hr := Lib.hid h8.ref
      have hnx := Lib.hid (chk_next ha HC.out)
      clear ha h8 hev
      obtain ⟨ki, po, re, id, li, nn, bs⟩ := a
      simp only at h0 h1 h2 h3 h4 h5 h6
      have ok := hok_of HC.out (by rw [List.length_take]; omega)
      have hAdd := fun (W : World) (H : HMem W hb k1 k2 k3 k4 (runS HsD.none_ (xs.take k))) => add_any H ok ⟨ki, po, re, id, li, nn, bs⟩ (A := A') (L := n') (c := c') hl.out hr.out
      unfold aggE at hAdd
      simp only at hAdd
      have ki0 : (0 : Int) ≤ (k : Int) := by omega
      have ki1 : (k : Int) < (n : Int) := by omega
      obtain ⟨q, hq⟩ : ∃ q, wx.heap.size = q := ⟨_, rfl⟩
      obtain ⟨wz, hwz⟩ : ∃ wz, wx.alloc (.cells #[.int .i64 ki, .int .i64 po, .int .i64 re, .int .i64 id, .int .i64 li, .int .i64 nn, .slice A' n' c'] 24) = wz := ⟨_, rfl⟩
      have pe : Blk wz q 24 #[.int .i64 ki, .int .i64 po, .int .i64 re, .int .i64 id, .int .i64 li, .int .i64 nn, .slice A' n' c'] := hwz ▸ hq ▸ Blk.new wx 24 _
      have hrz : ChkRel w hb k1 k2 k3 k4 (runS HsD.none_ (xs.take k)) wz := hwz ▸ HR.out.alloc _
      have HP := Lib.hid pe
      have HRZ := Lib.hid hrz
      obtain ⟨R, hR⟩ : ∃ R, faultS (runS HsD.none_ (xs.take k)) ⟨ki, po, re, id, li, nn, bs⟩ = R := ⟨_, rfl⟩
      rw [hR] at hnx
      simp only [hR] at hAdd
      have HAdd := Lib.hid hAdd
      clear pe hrz hAdd ok
      go_upto_region 5 with fail
      clear hwz hq h0 h1 h2 h3 h4 h5 h6
      have p0 : wz.cell? ⟨q, 0, none⟩ = some (.int .i64 ki) := HP.out.cell 0
      have p1 : wz.cell? ⟨q, 0 + 1, none⟩ = some (.int .i64 po) := HP.out.cell 1
      have p2 : wz.cell? ⟨q, 0 + 2, none⟩ = some (.int .i64 re) := HP.out.cell 2
      have p3 : wz.cell? ⟨q, 0 + 3, none⟩ = some (.int .i64 id) := HP.out.cell 3
      have p4 : wz.cell? ⟨q, 0 + 4, none⟩ = some (.int .i64 li) := HP.out.cell 4
      have p5 : wz.cell? ⟨q, 0 + 5, none⟩ = some (.int .i64 nn) := HP.out.cell 5
      have p6 : wz.cell? ⟨q, 0 + 6, none⟩ = some (.slice A' n' c') := HP.out.cell 6
      go_wp2_with fail
      refine (HAdd.out _ HRZ.out.mem).mono ?_
      rintro e1 w3 ⟨rfl, hm3, hk3⟩
      have HR3 := Lib.hid (HRZ.out.step hm3 hk3)
      clear hm3 hk3 p0 p1 p2 p3 p4 p5 p6
      by_cases hf : R = wNone
      · have hd : decide (R = wNone) = true := decide_eq_true hf
        have HF := Lib.hid hf
        clear hf
        rw [hd]
        go_wp2_with fail
        go_roundg (gk - 1)
        case measure => have := Hgk.out; omega
        case rel =>
          have := Hgk.out
          refine ⟨k + 1, by omega, by go_num, hnx.out.1 (hR ▸ HF.out), ?_⟩
          rw [hnx.out.2.2]
          exact HR3.out
      · have hd : decide (R = wNone) = false := decide_eq_false hf
        have HF := Lib.hid hf
        clear hf
        rw [hd]
        go_wp2_with fail
        go_ret
        refine ⟨HR3.out.kept.alloc _, ?_⟩
        rw [hnx.out.2.1 (hR ▸ HF.out)]
        exact ⟨w3.heap.size, rfl, Blk.new w3 53 _, HR3.out.kept.size⟩
    · have hkn : k = n := by have := Hgk.out; omega
      have hall : xs.take k = xs := by rw [List.take_of_length_le (by rw [HE.out.1]; omega)]
      have hres : chk HsD.none_ 0 xs = none := by
        have := HC.out
        rw [hall] at this
        exact this
      have HRes := Lib.hid hres
      have ki1 : ¬ (k : Int) < (n : Int) := fun h => hlt (by omega)
      clear hall hres hkn hlt
      go_wp2_with fail
      go_ret
      refine ⟨HR.out.kept, ?_⟩
      rw [HRes.out]
      rfl
#print axioms check_any
end Go.Proofs.YtndnbjpcjlbcjaaDoor
