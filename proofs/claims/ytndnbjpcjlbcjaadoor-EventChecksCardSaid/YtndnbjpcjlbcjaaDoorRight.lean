/- Right: may an event be? -/
import Derived.Test.YtndnbjpcjlbcjaaDoorKinds
namespace Go.Proofs.YtndnbjpcjlbcjaaDoor
open Go.RowKit

structure EvD where
  kind : Int
  pos : Int
  ref : Int
  id : Int
  list : Int
  n : Int
  data : List UInt8

def rightB (e : EvD) : Bool := decide (1 ≤ e.kind) && decide (e.kind ≤ 23) && inB e.pos && inB e.ref && inB e.id && inB e.list && inB e.n && decide ((e.data.length : Int) ≤ 4096)
def aggE (e : EvD) (dv : Value) : Value := .agg #[.int .i64 e.kind, .int .i64 e.pos, .int .i64 e.ref, .int .i64 e.id, .int .i64 e.list, .int .i64 e.n, dv]

theorem name_some : ∀ {k : Nat}, 1 ≤ k ∧ k ≤ 23 → (nmL.getD k ⟨#[]⟩).data.toList ≠ [] := by
  intro k h
  rcases kinds23 h with rfl | rfl | rfl | rfl | rfl | rfl | rfl | rfl | rfl | rfl | rfl | rfl | rfl | rfl | rfl | rfl | rfl | rfl | rfl | rfl | rfl | rfl | rfl <;> decide

set_option maxRecDepth 100000 in
set_option maxHeartbeats 4000000 in
theorem right13_any (e : EvD) (A : Option Addr) (L c : Nat) (hl : e.data.length = L) (w : World) : Calls Tryd.prog 13 #[aggE e (.slice A L c)] w (ValEnd (.bool (rightB e)) w) := by
  obtain ⟨ki, po, re, id, li, nn, bs⟩ := e
  unfold rightB aggE
  obtain ⟨b0, hb0⟩ : ∃ b, inB po = b := ⟨_, rfl⟩
  obtain ⟨b1, hb1⟩ : ∃ b, inB re = b := ⟨_, rfl⟩
  obtain ⟨b2, hb2⟩ : ∃ b, inB id = b := ⟨_, rfl⟩
  obtain ⟨b3, hb3⟩ : ∃ b, inB li = b := ⟨_, rfl⟩
  obtain ⟨b4, hb4⟩ : ∃ b, inB nn = b := ⟨_, rfl⟩
  have h0 := fun W => in31_any po W
  have h1 := fun W => in31_any re W
  have h2 := fun W => in31_any id W
  have h3 := fun W => in31_any li W
  have h4 := fun W => in31_any nn W
  rw [hb0] at h0
  rw [hb1] at h1
  rw [hb2] at h2
  rw [hb3] at h3
  rw [hb4] at h4
  have hl : bs.length = L := hl
  simp only [hb0, hb1, hb2, hb3, hb4, hl]
  have H0 := Lib.hid h0
  have H1 := Lib.hid h1
  have H2 := Lib.hid h2
  have H3 := Lib.hid h3
  have H4 := Lib.hid h4
  clear h0 h1 h2 h3 h4 hb0 hb1 hb2 hb3 hb4 hl
  by_cases hk1 : 1 ≤ ki
  · by_cases hk2 : ki ≤ 23
    · cases b0
      · go_enter Tryd.func13, Tryd.ntmps13
        go_wp2_with fail
        refine (H0.out _).mono ?_
        rintro e w0 ⟨rfl, rfl⟩
        go_wp2_with fail
        go_ret
        exact ⟨by simp; try omega, (Kept.refl NoBlk w).alloc _⟩
      · skip
        cases b1
        · go_enter Tryd.func13, Tryd.ntmps13
          go_wp2_with fail
          refine (H0.out _).mono ?_
          rintro e w0 ⟨rfl, rfl⟩
          go_wp2_with fail
          refine (H1.out _).mono ?_
          rintro e w1 ⟨rfl, rfl⟩
          go_wp2_with fail
          go_ret
          exact ⟨by simp; try omega, (Kept.refl NoBlk w).alloc _⟩
        · skip
          cases b2
          · go_enter Tryd.func13, Tryd.ntmps13
            go_wp2_with fail
            refine (H0.out _).mono ?_
            rintro e w0 ⟨rfl, rfl⟩
            go_wp2_with fail
            refine (H1.out _).mono ?_
            rintro e w1 ⟨rfl, rfl⟩
            go_wp2_with fail
            refine (H2.out _).mono ?_
            rintro e w2 ⟨rfl, rfl⟩
            go_wp2_with fail
            go_ret
            exact ⟨by simp; try omega, (Kept.refl NoBlk w).alloc _⟩
          · skip
            cases b3
            · go_enter Tryd.func13, Tryd.ntmps13
              go_wp2_with fail
              refine (H0.out _).mono ?_
              rintro e w0 ⟨rfl, rfl⟩
              go_wp2_with fail
              refine (H1.out _).mono ?_
              rintro e w1 ⟨rfl, rfl⟩
              go_wp2_with fail
              refine (H2.out _).mono ?_
              rintro e w2 ⟨rfl, rfl⟩
              go_wp2_with fail
              refine (H3.out _).mono ?_
              rintro e w3 ⟨rfl, rfl⟩
              go_wp2_with fail
              go_ret
              exact ⟨by simp; try omega, (Kept.refl NoBlk w).alloc _⟩
            · skip
              cases b4
              · go_enter Tryd.func13, Tryd.ntmps13
                go_wp2_with fail
                refine (H0.out _).mono ?_
                rintro e w0 ⟨rfl, rfl⟩
                go_wp2_with fail
                refine (H1.out _).mono ?_
                rintro e w1 ⟨rfl, rfl⟩
                go_wp2_with fail
                refine (H2.out _).mono ?_
                rintro e w2 ⟨rfl, rfl⟩
                go_wp2_with fail
                refine (H3.out _).mono ?_
                rintro e w3 ⟨rfl, rfl⟩
                go_wp2_with fail
                refine (H4.out _).mono ?_
                rintro e w4 ⟨rfl, rfl⟩
                go_wp2_with fail
                go_ret
                exact ⟨by simp; try omega, (Kept.refl NoBlk w).alloc _⟩
              · by_cases hk3 : L ≤ 4096
                · have hk4 : (L : Int) ≤ 4096 := by omega
                  go_enter Tryd.func13, Tryd.ntmps13
                  go_wp2_with fail
                  refine (H0.out _).mono ?_
                  rintro e w0 ⟨rfl, rfl⟩
                  go_wp2_with fail
                  refine (H1.out _).mono ?_
                  rintro e w1 ⟨rfl, rfl⟩
                  go_wp2_with fail
                  refine (H2.out _).mono ?_
                  rintro e w2 ⟨rfl, rfl⟩
                  go_wp2_with fail
                  refine (H3.out _).mono ?_
                  rintro e w3 ⟨rfl, rfl⟩
                  go_wp2_with fail
                  refine (H4.out _).mono ?_
                  rintro e w4 ⟨rfl, rfl⟩
                  go_wp2_with fail
                  go_ret
                  exact ⟨by simp; try omega, (Kept.refl NoBlk w).alloc _⟩
                · have hk4 : ¬ (L : Int) ≤ 4096 := by omega
                  go_enter Tryd.func13, Tryd.ntmps13
                  go_wp2_with fail
                  refine (H0.out _).mono ?_
                  rintro e w0 ⟨rfl, rfl⟩
                  go_wp2_with fail
                  refine (H1.out _).mono ?_
                  rintro e w1 ⟨rfl, rfl⟩
                  go_wp2_with fail
                  refine (H2.out _).mono ?_
                  rintro e w2 ⟨rfl, rfl⟩
                  go_wp2_with fail
                  refine (H3.out _).mono ?_
                  rintro e w3 ⟨rfl, rfl⟩
                  go_wp2_with fail
                  refine (H4.out _).mono ?_
                  rintro e w4 ⟨rfl, rfl⟩
                  go_wp2_with fail
                  go_ret
                  exact ⟨by simp; try omega, (Kept.refl NoBlk w).alloc _⟩
    · go_enter Tryd.func13, Tryd.ntmps13
      go_wp2_with fail
      go_ret
      exact ⟨by simp; try omega, (Kept.refl NoBlk w).alloc _⟩
  · go_enter Tryd.func13, Tryd.ntmps13
    go_wp2_with fail
    go_ret
    exact ⟨by simp; try omega, (Kept.refl NoBlk w).alloc _⟩

theorem name_none : (⟨#[]⟩ : ByteArray).toList = [] := by kernel_rfl
theorem name_full : ∀ {k : Nat}, 1 ≤ k ∧ k ≤ 23 → ¬ (nmL.getD k ⟨#[]⟩).toList = [] := by
  intro k h e
  have e2 : (nmL.getD k ⟨#[]⟩).toList.isEmpty = true := by rw [e]; rfl
  have e3 : (nmL.getD k ⟨#[]⟩).toList.isEmpty = false := by rcases kinds23 h with rfl | rfl | rfl | rfl | rfl | rfl | rfl | rfl | rfl | rfl | rfl | rfl | rfl | rfl | rfl | rfl | rfl | rfl | rfl | rfl | rfl | rfl | rfl <;> kernel_rfl
  rw [e3] at e2
  cases e2

set_option maxRecDepth 100000 in
set_option maxHeartbeats 4000000 in
theorem right14_any (e : EvD) (A : Option Addr) (L c : Nat) (hl : e.data.length = L) (w : World) : Calls Tryd.prog 14 #[aggE e (.slice A L c)] w (ValEnd (.bool (rightB e)) w) := by
  obtain ⟨ki, po, re, id, li, nn, bs⟩ := e
  unfold rightB aggE
  obtain ⟨b0, hb0⟩ : ∃ b, inB po = b := ⟨_, rfl⟩
  obtain ⟨b1, hb1⟩ : ∃ b, inB re = b := ⟨_, rfl⟩
  obtain ⟨b2, hb2⟩ : ∃ b, inB id = b := ⟨_, rfl⟩
  obtain ⟨b3, hb3⟩ : ∃ b, inB li = b := ⟨_, rfl⟩
  obtain ⟨b4, hb4⟩ : ∃ b, inB nn = b := ⟨_, rfl⟩
  have h0 := fun W => in32_any po W
  have h1 := fun W => in32_any re W
  have h2 := fun W => in32_any id W
  have h3 := fun W => in32_any li W
  have h4 := fun W => in32_any nn W
  rw [hb0] at h0
  rw [hb1] at h1
  rw [hb2] at h2
  rw [hb3] at h3
  rw [hb4] at h4
  have hl : bs.length = L := hl
  simp only [hb0, hb1, hb2, hb3, hb4, hl]
  have hnm := fun W => name10_any ki W
  obtain ⟨s, hs⟩ : ∃ s, nameOf ki = s := ⟨_, rfl⟩
  rw [hs] at hnm
  have HNm := Lib.hid hnm
  have hblk := fun (W : World) (hk : Kept NoBlk (w.alloc (.cells #[.int .i64 ki, .int .i64 po, .int .i64 re, .int .i64 id, .int .i64 li, .int .i64 nn, .slice A L c] 24)) W) => (Blk.new w 24 #[.int .i64 ki, .int .i64 po, .int .i64 re, .int .i64 id, .int .i64 li, .int .i64 nn, .slice A L c]).kept hk (fun e => e.elim)
  have HBlk := Lib.hid hblk
  have H0 := Lib.hid h0
  have H1 := Lib.hid h1
  have H2 := Lib.hid h2
  have H3 := Lib.hid h3
  have H4 := Lib.hid h4
  have HS := Lib.hid hs
  clear h0 h1 h2 h3 h4 hb0 hb1 hb2 hb3 hb4 hl hnm hs hblk
  by_cases hk : 1 ≤ ki ∧ ki ≤ 23
  · have hs1 : ¬ s.toList = [] := by
      obtain ⟨k, rfl⟩ : ∃ k : Nat, ki = (k : Int) := ⟨ki.toNat, by omega⟩
      rw [← HS.out, nameOf_in (by omega)]
      exact name_full (by omega)
    have hs2 : s.toList.isEmpty = false := by
      cases hb : s.toList with
      | nil => exact absurd hb hs1
      | cons a l => rfl
    obtain ⟨hk1, hk2⟩ := hk
    cases b0
    · go_enter Tryd.func14, Tryd.ntmps14
      go_wp2_with fail
      refine (HNm.out _).mono ?_
      rintro e wn ⟨rfl, hkn⟩
      have c1 : wn.cell? ⟨w.heap.size, 0 + 1, none⟩ = some (.int .i64 po) := (HBlk.out wn hkn).cell 1
      have c2 : wn.cell? ⟨w.heap.size, 0 + 2, none⟩ = some (.int .i64 re) := (HBlk.out wn hkn).cell 2
      have c3 : wn.cell? ⟨w.heap.size, 0 + 3, none⟩ = some (.int .i64 id) := (HBlk.out wn hkn).cell 3
      have c4 : wn.cell? ⟨w.heap.size, 0 + 4, none⟩ = some (.int .i64 li) := (HBlk.out wn hkn).cell 4
      have c5 : wn.cell? ⟨w.heap.size, 0 + 5, none⟩ = some (.int .i64 nn) := (HBlk.out wn hkn).cell 5
      have c6 : wn.cell? ⟨w.heap.size, 0 + 6, none⟩ = some (.slice A L c) := (HBlk.out wn hkn).cell 6
      go_wp2_with fail
      refine (H0.out _).mono ?_
      rintro e w0 ⟨rfl, rfl⟩
      go_wp2_with fail
      go_ret
      exact ⟨by simp [hk1, hk2]; try omega, ((Kept.refl NoBlk w).alloc _).trans hkn⟩
    · skip
      cases b1
      · go_enter Tryd.func14, Tryd.ntmps14
        go_wp2_with fail
        refine (HNm.out _).mono ?_
        rintro e wn ⟨rfl, hkn⟩
        have c1 : wn.cell? ⟨w.heap.size, 0 + 1, none⟩ = some (.int .i64 po) := (HBlk.out wn hkn).cell 1
        have c2 : wn.cell? ⟨w.heap.size, 0 + 2, none⟩ = some (.int .i64 re) := (HBlk.out wn hkn).cell 2
        have c3 : wn.cell? ⟨w.heap.size, 0 + 3, none⟩ = some (.int .i64 id) := (HBlk.out wn hkn).cell 3
        have c4 : wn.cell? ⟨w.heap.size, 0 + 4, none⟩ = some (.int .i64 li) := (HBlk.out wn hkn).cell 4
        have c5 : wn.cell? ⟨w.heap.size, 0 + 5, none⟩ = some (.int .i64 nn) := (HBlk.out wn hkn).cell 5
        have c6 : wn.cell? ⟨w.heap.size, 0 + 6, none⟩ = some (.slice A L c) := (HBlk.out wn hkn).cell 6
        go_wp2_with fail
        refine (H0.out _).mono ?_
        rintro e w0 ⟨rfl, rfl⟩
        go_wp2_with fail
        refine (H1.out _).mono ?_
        rintro e w1 ⟨rfl, rfl⟩
        go_wp2_with fail
        go_ret
        exact ⟨by simp [hk1, hk2]; try omega, ((Kept.refl NoBlk w).alloc _).trans hkn⟩
      · skip
        cases b2
        · go_enter Tryd.func14, Tryd.ntmps14
          go_wp2_with fail
          refine (HNm.out _).mono ?_
          rintro e wn ⟨rfl, hkn⟩
          have c1 : wn.cell? ⟨w.heap.size, 0 + 1, none⟩ = some (.int .i64 po) := (HBlk.out wn hkn).cell 1
          have c2 : wn.cell? ⟨w.heap.size, 0 + 2, none⟩ = some (.int .i64 re) := (HBlk.out wn hkn).cell 2
          have c3 : wn.cell? ⟨w.heap.size, 0 + 3, none⟩ = some (.int .i64 id) := (HBlk.out wn hkn).cell 3
          have c4 : wn.cell? ⟨w.heap.size, 0 + 4, none⟩ = some (.int .i64 li) := (HBlk.out wn hkn).cell 4
          have c5 : wn.cell? ⟨w.heap.size, 0 + 5, none⟩ = some (.int .i64 nn) := (HBlk.out wn hkn).cell 5
          have c6 : wn.cell? ⟨w.heap.size, 0 + 6, none⟩ = some (.slice A L c) := (HBlk.out wn hkn).cell 6
          go_wp2_with fail
          refine (H0.out _).mono ?_
          rintro e w0 ⟨rfl, rfl⟩
          go_wp2_with fail
          refine (H1.out _).mono ?_
          rintro e w1 ⟨rfl, rfl⟩
          go_wp2_with fail
          refine (H2.out _).mono ?_
          rintro e w2 ⟨rfl, rfl⟩
          go_wp2_with fail
          go_ret
          exact ⟨by simp [hk1, hk2]; try omega, ((Kept.refl NoBlk w).alloc _).trans hkn⟩
        · skip
          cases b3
          · go_enter Tryd.func14, Tryd.ntmps14
            go_wp2_with fail
            refine (HNm.out _).mono ?_
            rintro e wn ⟨rfl, hkn⟩
            have c1 : wn.cell? ⟨w.heap.size, 0 + 1, none⟩ = some (.int .i64 po) := (HBlk.out wn hkn).cell 1
            have c2 : wn.cell? ⟨w.heap.size, 0 + 2, none⟩ = some (.int .i64 re) := (HBlk.out wn hkn).cell 2
            have c3 : wn.cell? ⟨w.heap.size, 0 + 3, none⟩ = some (.int .i64 id) := (HBlk.out wn hkn).cell 3
            have c4 : wn.cell? ⟨w.heap.size, 0 + 4, none⟩ = some (.int .i64 li) := (HBlk.out wn hkn).cell 4
            have c5 : wn.cell? ⟨w.heap.size, 0 + 5, none⟩ = some (.int .i64 nn) := (HBlk.out wn hkn).cell 5
            have c6 : wn.cell? ⟨w.heap.size, 0 + 6, none⟩ = some (.slice A L c) := (HBlk.out wn hkn).cell 6
            go_wp2_with fail
            refine (H0.out _).mono ?_
            rintro e w0 ⟨rfl, rfl⟩
            go_wp2_with fail
            refine (H1.out _).mono ?_
            rintro e w1 ⟨rfl, rfl⟩
            go_wp2_with fail
            refine (H2.out _).mono ?_
            rintro e w2 ⟨rfl, rfl⟩
            go_wp2_with fail
            refine (H3.out _).mono ?_
            rintro e w3 ⟨rfl, rfl⟩
            go_wp2_with fail
            go_ret
            exact ⟨by simp [hk1, hk2]; try omega, ((Kept.refl NoBlk w).alloc _).trans hkn⟩
          · skip
            cases b4
            · go_enter Tryd.func14, Tryd.ntmps14
              go_wp2_with fail
              refine (HNm.out _).mono ?_
              rintro e wn ⟨rfl, hkn⟩
              have c1 : wn.cell? ⟨w.heap.size, 0 + 1, none⟩ = some (.int .i64 po) := (HBlk.out wn hkn).cell 1
              have c2 : wn.cell? ⟨w.heap.size, 0 + 2, none⟩ = some (.int .i64 re) := (HBlk.out wn hkn).cell 2
              have c3 : wn.cell? ⟨w.heap.size, 0 + 3, none⟩ = some (.int .i64 id) := (HBlk.out wn hkn).cell 3
              have c4 : wn.cell? ⟨w.heap.size, 0 + 4, none⟩ = some (.int .i64 li) := (HBlk.out wn hkn).cell 4
              have c5 : wn.cell? ⟨w.heap.size, 0 + 5, none⟩ = some (.int .i64 nn) := (HBlk.out wn hkn).cell 5
              have c6 : wn.cell? ⟨w.heap.size, 0 + 6, none⟩ = some (.slice A L c) := (HBlk.out wn hkn).cell 6
              go_wp2_with fail
              refine (H0.out _).mono ?_
              rintro e w0 ⟨rfl, rfl⟩
              go_wp2_with fail
              refine (H1.out _).mono ?_
              rintro e w1 ⟨rfl, rfl⟩
              go_wp2_with fail
              refine (H2.out _).mono ?_
              rintro e w2 ⟨rfl, rfl⟩
              go_wp2_with fail
              refine (H3.out _).mono ?_
              rintro e w3 ⟨rfl, rfl⟩
              go_wp2_with fail
              refine (H4.out _).mono ?_
              rintro e w4 ⟨rfl, rfl⟩
              go_wp2_with fail
              go_ret
              exact ⟨by simp [hk1, hk2]; try omega, ((Kept.refl NoBlk w).alloc _).trans hkn⟩
            · by_cases hk3 : L ≤ 4096
              · have hk4 : (L : Int) ≤ 4096 := by omega
                go_enter Tryd.func14, Tryd.ntmps14
                go_wp2_with fail
                refine (HNm.out _).mono ?_
                rintro e wn ⟨rfl, hkn⟩
                have c1 : wn.cell? ⟨w.heap.size, 0 + 1, none⟩ = some (.int .i64 po) := (HBlk.out wn hkn).cell 1
                have c2 : wn.cell? ⟨w.heap.size, 0 + 2, none⟩ = some (.int .i64 re) := (HBlk.out wn hkn).cell 2
                have c3 : wn.cell? ⟨w.heap.size, 0 + 3, none⟩ = some (.int .i64 id) := (HBlk.out wn hkn).cell 3
                have c4 : wn.cell? ⟨w.heap.size, 0 + 4, none⟩ = some (.int .i64 li) := (HBlk.out wn hkn).cell 4
                have c5 : wn.cell? ⟨w.heap.size, 0 + 5, none⟩ = some (.int .i64 nn) := (HBlk.out wn hkn).cell 5
                have c6 : wn.cell? ⟨w.heap.size, 0 + 6, none⟩ = some (.slice A L c) := (HBlk.out wn hkn).cell 6
                go_wp2_with fail
                refine (H0.out _).mono ?_
                rintro e w0 ⟨rfl, rfl⟩
                go_wp2_with fail
                refine (H1.out _).mono ?_
                rintro e w1 ⟨rfl, rfl⟩
                go_wp2_with fail
                refine (H2.out _).mono ?_
                rintro e w2 ⟨rfl, rfl⟩
                go_wp2_with fail
                refine (H3.out _).mono ?_
                rintro e w3 ⟨rfl, rfl⟩
                go_wp2_with fail
                refine (H4.out _).mono ?_
                rintro e w4 ⟨rfl, rfl⟩
                go_wp2_with fail
                go_ret
                exact ⟨by simp [hk1, hk2]; try omega, ((Kept.refl NoBlk w).alloc _).trans hkn⟩
              · have hk4 : ¬ (L : Int) ≤ 4096 := by omega
                go_enter Tryd.func14, Tryd.ntmps14
                go_wp2_with fail
                refine (HNm.out _).mono ?_
                rintro e wn ⟨rfl, hkn⟩
                have c1 : wn.cell? ⟨w.heap.size, 0 + 1, none⟩ = some (.int .i64 po) := (HBlk.out wn hkn).cell 1
                have c2 : wn.cell? ⟨w.heap.size, 0 + 2, none⟩ = some (.int .i64 re) := (HBlk.out wn hkn).cell 2
                have c3 : wn.cell? ⟨w.heap.size, 0 + 3, none⟩ = some (.int .i64 id) := (HBlk.out wn hkn).cell 3
                have c4 : wn.cell? ⟨w.heap.size, 0 + 4, none⟩ = some (.int .i64 li) := (HBlk.out wn hkn).cell 4
                have c5 : wn.cell? ⟨w.heap.size, 0 + 5, none⟩ = some (.int .i64 nn) := (HBlk.out wn hkn).cell 5
                have c6 : wn.cell? ⟨w.heap.size, 0 + 6, none⟩ = some (.slice A L c) := (HBlk.out wn hkn).cell 6
                go_wp2_with fail
                refine (H0.out _).mono ?_
                rintro e w0 ⟨rfl, rfl⟩
                go_wp2_with fail
                refine (H1.out _).mono ?_
                rintro e w1 ⟨rfl, rfl⟩
                go_wp2_with fail
                refine (H2.out _).mono ?_
                rintro e w2 ⟨rfl, rfl⟩
                go_wp2_with fail
                refine (H3.out _).mono ?_
                rintro e w3 ⟨rfl, rfl⟩
                go_wp2_with fail
                refine (H4.out _).mono ?_
                rintro e w4 ⟨rfl, rfl⟩
                go_wp2_with fail
                go_ret
                exact ⟨by simp [hk1, hk2]; try omega, ((Kept.refl NoBlk w).alloc _).trans hkn⟩
  · have hs1 : s.toList = [] := by
      rw [← HS.out, nameOf_out (by omega)]
      exact name_none
    have hk2 : (decide (1 ≤ ki) && decide (ki ≤ 23)) = false := by simp; omega
    have HK2 := Lib.hid hk2
    clear hk2 hk
    go_enter Tryd.func14, Tryd.ntmps14
    go_wp2_with fail
    refine (HNm.out _).mono ?_
    rintro e wn ⟨rfl, hkn⟩
    go_wp2_with fail
    go_ret
    exact ⟨by rw [HK2.out]; simp, ((Kept.refl NoBlk w).alloc _).trans hkn⟩

end Go.Proofs.YtndnbjpcjlbcjaaDoor
