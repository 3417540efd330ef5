/- Same, Prefix: events are the same as themselves. -/
import Derived.Test.YtndnbjpcjlbcjaaDoorChk
import Derived.Test.YtndnbjpcjlbcjaaDoorMore
import Derived.Laws.BytesArg
namespace Go.Proofs.YtndnbjpcjlbcjaaDoor
open Go.RowKit

theorem RdB.cells {w : World} {ad : Addr} {n c : Nat} {bs : List UInt8} (h : RdB w (.slice (some ad) n c) bs) : ∀ j u, (bs.map bv)[j]? = some u → w.cell? (ad.add j) = some u := by
  intro j u hu
  obtain ⟨A, n', c', e, _, _, _, _, h1, h2⟩ := h
  injection e with e1 e2 e3
  subst e1 e2 e3
  have hj := (List.getElem?_eq_some_iff.1 hu).1
  obtain ⟨ad', e', _, hc⟩ := h2 (by omega)
  cases e'
  exact hc j u hu

/-- Bytes as a string. -/
theorem str_run {w : World} {v : Value} {bs : List UInt8} (h : RdB w v bs) : (convert 22 9 v).run Tryd.prog w = .ok (.string ⟨bs.toArray⟩) w := by
  obtain ⟨A, n, c, rfl, _, _, _, h4, h5⟩ := h
  have hl : bs.length = n := by simpa using h5.1
  cases A with
  | none =>
    obtain ⟨rfl, rfl⟩ := h4 rfl
    have : bs = [] := List.eq_nil_of_length_eq_zero hl
    subst this
    exact run_convert_bytes_nil w 22 5 Tryd.underlying22 Tryd.underlying5 0 0 9 Tryd.underlying9
  | some ad =>
    subst hl
    refine run_convert_bytes_back w 22 9 5 ad c bs Tryd.underlying22 Tryd.underlying5 Tryd.underlying9 (fun j hj => ?_)
    obtain ⟨ad', e, _, hc⟩ := h5.2 (by omega)
    cases e
    exact hc j _ (by simp [List.getElem?_eq_getElem hj, bv])

set_option maxRecDepth 100000 in
set_option maxHeartbeats 1000000 in
theorem equal57_self {w : World} {A : Option Addr} {n c : Nat} {bs : List UInt8} (h : RdB w (.slice A n c) bs) : Calls Tryd.prog 57 #[.slice A n c, .slice A n c] w (ValEnd (.bool true) w) := by
  have hs := str_run h
  obtain ⟨s, hs0⟩ : ∃ s : ByteArray, (⟨bs.toArray⟩ : ByteArray) = s := ⟨_, rfl⟩
  rw [hs0] at hs
  clear h hs0
  go_enter Tryd.func57, Tryd.ntmps57
  go_wp2_with fail
  go_ret
  exact ⟨by simp, Kept.refl _ _⟩

set_option maxRecDepth 100000 in
set_option maxHeartbeats 2000000 in
theorem same44_self {w : World} (e : EvD) {A : Option Addr} {L c : Nat} (h : RdB w (.slice A L c) e.data) : Calls Tryd.prog 44 #[aggE e (.slice A L c), aggE e (.slice A L c)] w (ValEnd (.bool true) w) := by
  obtain ⟨ki, po, re, id, li, nn, bs⟩ := e
  unfold aggE
  simp only at h ⊢
  have H := Lib.hid h
  clear h
  obtain ⟨q, hq⟩ : ∃ q, w.heap.size = q := ⟨_, rfl⟩
  obtain ⟨wz, hwz⟩ : ∃ wz, w.alloc (.cells #[.int .i64 ki, .int .i64 po, .int .i64 re, .int .i64 id, .int .i64 li, .int .i64 nn, .slice A L c] 24) = wz := ⟨_, rfl⟩
  obtain ⟨r, hr⟩ : ∃ r, wz.heap.size = r := ⟨_, rfl⟩
  obtain ⟨wy, hwy⟩ : ∃ wy, wz.alloc (.cells #[.int .i64 ki, .int .i64 po, .int .i64 re, .int .i64 id, .int .i64 li, .int .i64 nn, .slice A L c] 24) = wy := ⟨_, rfl⟩
  have P := s7 (show Blk wy q 24 #[.int .i64 ki, .int .i64 po, .int .i64 re, .int .i64 id, .int .i64 li, .int .i64 nn, .slice A L c] from hwy ▸ (hwz ▸ hq ▸ Blk.new w 24 _ : Blk wz q 24 #[.int .i64 ki, .int .i64 po, .int .i64 re, .int .i64 id, .int .i64 li, .int .i64 nn, .slice A L c]).alloc _)
  have R := s7 (show Blk wy r 24 #[.int .i64 ki, .int .i64 po, .int .i64 re, .int .i64 id, .int .i64 li, .int .i64 nn, .slice A L c] from hwy ▸ hr ▸ Blk.new wz 24 _)
  have HK := Lib.hid (show Kept NoBlk w wy from hwy ▸ (hwz ▸ (Kept.refl NoBlk w).alloc _ : Kept NoBlk w wz).alloc _)
  obtain ⟨p0, p1, p2, p3, p4, p5, p6⟩ := P
  obtain ⟨r0, r1, r2, r3, r4, r5, r6⟩ := R
  go_enter Tryd.func44, Tryd.ntmps44
  go_upto_region 1 with fail
  clear hwz hq hwy hr
  go_wp2_with fail
  refine (equal57_self (H.out.kept HK.out (NoCells.none _))).mono ?_
  rintro e1 w1 ⟨rfl, hk1⟩
  go_wp2_with fail
  go_ret
  exact ⟨by simp, HK.out.trans hk1⟩

set_option maxRecDepth 100000 in
set_option maxHeartbeats 2000000 in
theorem eqfunc43_self {w : World} (A : Option Addr) (n c c2 : Nat) (xs : List EvD) (h : Evs w A n xs) : Calls Tryd.prog 43 #[.slice A n c, .slice A n c2, .func (.func 44) #[] #[]] w (ValEnd (.bool true) w) := by
  have hn := h.2.1
  have H := Lib.hid h
  clear h
  go_enter Tryd.func43, Tryd.ntmps43
  go_wp2_with fail
  go_loopg [17] n (fun g v wr => ∃ (k : Nat), g + k = n ∧ v = .int .i64 k ∧ Kept NoBlk w wr)
  case atStart => exact ⟨0, by omega, rfl, Kept.refl _ _⟩
  case round =>
    obtain ⟨k, hgk, rfl, hrel⟩ := hrel
    obtain ⟨wx, hwx⟩ : ∃ wx, wr = wx := ⟨_, rfl⟩
    rw [hwx] at hrel
    have Hgk := Lib.hid hgk
    have HK := Lib.hid hrel
    rw [hwx]
    clear hgk hrel hwx
    by_cases hlt : k < n
    · obtain ⟨b, off, a, v, hA, ha, hev⟩ := H.out.at_ hlt
      subst hA
      have hev := hev.kept HK.out (NoCells.none _)
      obtain ⟨h0, h1, h2, h3, h4, h5, h6, h7, h8⟩ := hev
      obtain ⟨A', L', c', rfl, hrd⟩ := h7
      have HRd := Lib.hid (show RdB wx (.slice A' L' c') a.data from ⟨A', L', c', rfl, hrd⟩)
      have hsame := fun (W : World) (h : RdB W (.slice A' L' c') a.data) => same44_self a h
      obtain ⟨ki, po, re, id, li, nn, bs⟩ := a
      unfold aggE at hsame
      simp only at h0 h1 h2 h3 h4 h5 h6 hsame
      have HSame := Lib.hid hsame
      have ki0 : (0 : Int) ≤ (k : Int) := by omega
      have ki1 : (k : Int) < (n : Int) := by omega
      clear ha h8 hrd hsame
      obtain ⟨q, hq⟩ : ∃ q, wx.heap.size = q := ⟨_, rfl⟩
      obtain ⟨wz, hwz⟩ : ∃ wz, wx.alloc (.cells #[.int .i64 ki, .int .i64 po, .int .i64 re, .int .i64 id, .int .i64 li, .int .i64 nn, .slice A' L' c'] 24) = wz := ⟨_, rfl⟩
      have HPq := Lib.hid (show Blk wz q 24 #[.int .i64 ki, .int .i64 po, .int .i64 re, .int .i64 id, .int .i64 li, .int .i64 nn, .slice A' L' c'] from hwz ▸ hq ▸ Blk.new wx 24 _)
      have kz := (hwz ▸ (Kept.refl NoBlk wx).alloc _ : Kept NoBlk wx wz)
      have HKz := Lib.hid kz
      go_upto_region 6 with fail
      clear hwz hq
      have h0 := kz.cell h0 (fun e => e.elim)
      have h1 := kz.cell h1 (fun e => e.elim)
      have h2 := kz.cell h2 (fun e => e.elim)
      have h3 := kz.cell h3 (fun e => e.elim)
      have h4 := kz.cell h4 (fun e => e.elim)
      have h5 := kz.cell h5 (fun e => e.elim)
      have h6 := kz.cell h6 (fun e => e.elim)
      clear kz
      obtain ⟨r, hr⟩ : ∃ r, wz.heap.size = r := ⟨_, rfl⟩
      obtain ⟨wy, hwy⟩ : ∃ wy, wz.alloc (.cells #[.int .i64 ki, .int .i64 po, .int .i64 re, .int .i64 id, .int .i64 li, .int .i64 nn, .slice A' L' c'] 24) = wy := ⟨_, rfl⟩
      have P := s7 (show Blk wy q 24 #[.int .i64 ki, .int .i64 po, .int .i64 re, .int .i64 id, .int .i64 li, .int .i64 nn, .slice A' L' c'] from hwy ▸ HPq.out.alloc _)
      have R := s7 (show Blk wy r 24 #[.int .i64 ki, .int .i64 po, .int .i64 re, .int .i64 id, .int .i64 li, .int .i64 nn, .slice A' L' c'] from hwy ▸ hr ▸ Blk.new wz 24 _)
      have HKy := Lib.hid (show Kept NoBlk wx wy from hwy ▸ HKz.out.alloc _)
      obtain ⟨p0, p1, p2, p3, p4, p5, p6⟩ := P
      obtain ⟨r0, r1, r2, r3, r4, r5, r6⟩ := R
      go_upto_region 7 with fail
      clear hwy hr h0 h1 h2 h3 h4 h5 h6
      go_wp2_with fail
      refine (HSame.out _ (HRd.out.kept HKy.out (NoCells.none _))).mono ?_
      rintro e1 w1 ⟨rfl, hk1⟩
      have HK1 := Lib.hid ((HK.out.trans HKy.out).trans hk1)
      clear hk1 p0 p1 p2 p3 p4 p5 p6 r0 r1 r2 r3 r4 r5 r6
      go_wp2_with fail
      go_roundg (n - (k + 1))
      case measure => have := Hgk.out; omega
      case rel => exact ⟨k + 1, by omega, by go_num, HK1.out⟩
    · have ki1 : ¬ (k : Int) < (n : Int) := fun h => hlt (by omega)
      go_wp2_with fail
      go_ret
      exact ⟨rfl, HK.out⟩

set_option maxRecDepth 100000 in
set_option maxHeartbeats 2000000 in
/-- A front is a beginning. -/
theorem prefix21_self {w : World} (A : Option Addr) (n c k : Nat) (xs : List EvD) (h : Evs w A n xs) (hk : k ≤ n) (hc : n ≤ c) : Calls Tryd.prog 21 #[.slice A k c, .slice A n c] w (ValEnd (.bool true) w) := by
  have hn := h.2.1
  have hE := fun (W : World) (H : Evs W A k (xs.take k)) => eqfunc43_self A k c c (xs.take k) H
  have HE := Lib.hid hE
  have H := Lib.hid (h.front hk)
  have h1 : (k : Int) ≤ (n : Int) := by omega
  have h2 : (k : Int) ≤ (c : Int) := by omega
  clear h hE
  go_enter Tryd.func21, Tryd.ntmps21
  go_wp2_with fail
  refine (HE.out _ H.out).mono ?_
  rintro e1 w1 ⟨rfl, hk1⟩
  go_wp2_with fail
  go_ret
  exact ⟨by simp, hk1⟩
end Go.Proofs.YtndnbjpcjlbcjaaDoor
