/- What ChunkBuilds does: it returns true, and turns nothing that was there. -/
import Derived.Test.YtnaacgglbeipcaaDoorKnown
import Derived.Test.YtnaacgglbeipcaaDoorActs
import Derived.Test.YtnaacgglbeipcaaDoorIsBroken
namespace Go.Proofs.YtnaacgglbeipcaaDoor
open Go.RowKit

/-- What holds at the head of each round. -/
structure PlayRel (w : World) (bb rb : Nat) (s : BlD) (wr : World) : Prop where
  b : Bld wr bb s
  r : RBld wr rb s
  hb : w.heap.size ≤ bb
  hr : w.heap.size ≤ rb
  id : okId s.id
  kept : Kept NoBlk w wr

theorem PlayRel.next {w : World} {bb rb : Nat} {s : BlD} {wr w' : World} (h : PlayRel w bb rb s wr) (hk : Kept NoBlk wr w') : PlayRel w bb rb s w' := ⟨h.b.same hk, h.r.same hk, h.hb, h.hr, h.id, h.kept.trans hk⟩
theorem addTo_id {s : BlD} {p : PcD} (hs : okId s.id) (hp : okId p.id) : okId (addTo s p).id := by
  unfold addTo
  split
  · unfold addData restart
    split <;> split <;> first | exact hs | exact hp
  · exact hs
theorem doneTo_id {s : BlD} (hs : okId s.id) : okId (doneTo s).id := by
  unfold doneTo
  split
  · exact hs
  · unfold okId BlD.none_
    decide
theorem addErr_is {s : BlD} {p : PcD} (h : addErr s p ≠ 0) : IsErr (addErr s p) := by
  unfold addErr at h ⊢
  unfold IsErr
  repeat' split
  all_goals first | omega | (exfalso; simp_all)
theorem doneErr_is {s : BlD} (h : doneErr s ≠ 0) : IsErr (doneErr s) := by
  unfold doneErr at h ⊢
  unfold IsErr
  repeat' split
  all_goals first | omega | (exfalso; simp_all)
theorem rbld_new (w : World) : RBld (w.alloc (.cells #[.int .i64 (-1), .int .i64 0, .int .u32 0, .slice none 0 0] 51)) w.heap.size BlD.none_ :=
  ⟨none, 0, Blk.new w 51 _, ⟨rfl, Or.inl ⟨rfl, rfl⟩⟩, by show 0 ≤ 1048576; omega⟩

theorem doneTo_zero {s : BlD} (h : doneErr s = 0) : doneTo s = BlD.none_ := by
  unfold doneErr at h
  unfold doneTo
  by_cases hn : s.id < 0 ∨ (s.data.length : Int) < s.total
  · rw [if_pos hn] at h
    omega
  · rw [if_neg hn]
theorem rdone_ok_at {w : World} {bb : Nat} {s : BlD} (h : RBld w bb s) (hz : doneErr s = 0) : Calls Tryd.prog 16 #[.pointer (some ⟨bb, 0, none⟩)] w fun e w' =>
    ∃ v, e = .returned (.tuple #[v, .int .i64 s.id, .int .i64 0]) ∧ RdB w' v s.data ∧ RBld w' bb BlD.none_ ∧ Kept (Only bb) w w' := by
  refine (rdone_any h).mono fun e w' h1 => ?_
  unfold RDoneEnd at h1
  rw [hz, if_pos rfl, doneTo_zero hz] at h1
  exact h1
theorem rdone_bad_at {w : World} {bb : Nat} {s : BlD} (h : RBld w bb s) (r : Int) (hz : doneErr s = r) (hr : r ≠ 0) : Calls Tryd.prog 16 #[.pointer (some ⟨bb, 0, none⟩)] w fun e w' =>
    ∃ v, e = .returned (.tuple #[v, .int .i64 s.id, .int .i64 r]) ∧ RdB w' v [] ∧ RBld w' bb (doneTo s) ∧ Kept (Only bb) w w' := by
  refine (rdone_any h).mono fun e w' h1 => ?_
  unfold RDoneEnd at h1
  rw [hz, if_neg hr] at h1
  exact h1
theorem radd_at {w : World} {bb base : Nat} {s : BlD} (h : RBld w bb s) {p : PcD} {dv : Value} (hd : RdU w base dv p.data) (hbb : base ≤ bb) (r : Int) (hz : addErr s p = r) (b : Bool) (hb : wholeR s p = b) :
    Calls Tryd.prog 18 #[.pointer (some ⟨bb, 0, none⟩), aggP p dv] w fun e w' => e = .returned (.tuple #[.bool b, .int .i64 r]) ∧ RBld w' bb (addTo s p) ∧ Kept (Only bb) w w' := by
  refine (radd_any h hd hbb).mono fun e w' h1 => ?_
  unfold RAddAnyEnd at h1
  rw [hz, hb] at h1
  exact h1
theorem only_ge {w : World} {b : Nat} (h : w.heap.size ≤ b) : ∀ k, Only b k → NoBlk k ∨ w.heap.size ≤ k := fun k e => by unfold Only at e; exact Or.inr (by omega)

set_option maxRecDepth 100000 in
set_option maxHeartbeats 4000000 in
theorem builds_main (A : Option Addr) (n c : Nat) (xs : List ActC) (w : World) (h : ActsC w w.heap.size A n xs) (he : Env w) (hf : fewB xs = true) :
    Calls Tryd.prog 5 #[.slice A n c] w (TrueEnd w) := by
  have hn := h.2.1
  have HA := Lib.hid h
  have Hf := Lib.hid hf
  have HE := Lib.hid he
  clear h hf he
  go_enter Tryd.func5, Tryd.ntmps5
  go_wp2_with fail
  refine (known_any HE.out).mono ?_
  rintro e w1 ⟨rfl, hk1⟩
  have HK1 := Lib.hid hk1
  clear hk1
  go_wp2_with fail
  refine (few_any _ A n c xs w1 (HA.out.kept HK1.out)).mono ?_
  rw [Hf.out]
  rintro e w1' ⟨rfl, rfl⟩
  go_wp2_with fail
  refine (newb_any w1).mono ?_
  rintro e w2 ⟨bb, rfl, hB, hbb, hk2⟩
  have HP := Lib.hid (show PlayRel w bb w2.heap.size BlD.none_ (w2.alloc (.cells #[.int .i64 (-1), .int .i64 0, .int .u32 0, .slice none 0 0] 51)) from
    ⟨hB.same ((Kept.refl NoBlk w2).alloc _), rbld_new w2, by have := HK1.out.size; omega, (HK1.out.trans hk2).size, by unfold okId BlD.none_; decide, (HK1.out.trans hk2).alloc _⟩)
  clear hB hbb hk2 HK1
  go_wp2_with fail
  go_loopg [4, 5] n (fun g u v wr => ∃ (k rb : Nat) (s : BlD), g + k = n ∧ u = .pointer (some ⟨rb, 0, none⟩) ∧ v = .int .i64 k ∧ PlayRel w bb rb s wr)
  case atStart => exact ⟨0, _, _, by omega, rfl, rfl, HP.out⟩
  case round =>
    obtain ⟨k, rb, s, hgk, rfl, rfl, hrel⟩ := hrel
    have Hgk := Lib.hid hgk
    have HR := Lib.hid hrel
    obtain ⟨wx, hwx⟩ : ∃ wx, wr = wx := ⟨_, rfl⟩
    rw [hwx] at HR ⊢
    clear hgk hrel HP hwx
    by_cases hlt : k < n
    · obtain ⟨b, off, a, v, rfl, ha, hact⟩ := HA.out.at_ hlt
      have HACT := Lib.hid hact
      obtain ⟨h0, h1, h2, h3, h4, h5, h6, h7⟩ := hact.kept HR.out.kept
      clear hact
      have k0 : (0 : Int) ≤ (k : Int) := by omega
      have k1 : (k : Int) < (n : Int) := by omega
      have H6 := Lib.hid h6
      have H7 := Lib.hid h7
      obtain ⟨o, ho⟩ : ∃ o, a.op = o := ⟨_, rfl⟩
      rw [ho] at h0
      clear ha h6 h7 ho
      by_cases ho2 : o = 2
      · subst ho2
        by_cases hz : doneErr s = 0
        · have HZ := Lib.hid hz
          clear hz
          go_wp2_with fail
          refine (done_ok_at HR.out.b HZ.out).mono ?_
          rintro e w3 ⟨v3, rfl, ⟨_, ho3⟩, hB3, hk3⟩
          have HB3 := Lib.hid hB3
          have HK3 := Lib.hid hk3
          have HR3 := Lib.hid (HR.out.r.far HR.out.b hk3)
          have HO3 := Lib.hid ho3
          clear hB3 hk3 ho3
          go_wp2_with fail
          refine (rdone_ok_at HR3.out HZ.out).mono ?_
          rintro e w4 ⟨v4, rfl, hr4, hB4, hk4⟩
          have hs3 := str_run (RdB.of_own (ownsRow_no5 HO3.out hk4 HR3.out.no5) (by obtain ⟨_, _, _, _, h⟩ := HR.out.b; omega))
          have hs4 := str_run hr4
          have HPP := Lib.hid (show PlayRel w bb rb BlD.none_ w4 from ⟨HB3.out.far HR3.out hk4, hB4, HR.out.hb, HR.out.hr, by unfold okId BlD.none_; decide, (HR.out.kept.inner HK3.out (only_ge HR.out.hb)).inner hk4 (only_ge HR.out.hr)⟩)
          clear hr4 hB4 hk4
          go_wp2_with fail
          refine (broken_nil _ _).mono ?_
          rintro e w5 ⟨rfl, hk5⟩
          have HQ := Lib.hid (HPP.out.next hk5)
          clear hk5 hs3 hs4 h0 h1 h2 h3 h4 h5
          obtain ⟨A9, c9, g9, _⟩ := HQ.out.r
          have d0 : (w5).cell? ⟨rb, 0, none⟩ = some (.int .i64 (BlD.none_).id) := g9.cell 0
          have d3 : (w5).cell? ⟨rb, 0 + 3, none⟩ = some (.slice A9 (BlD.none_).data.length c9) := g9.cell 3
          clear g9
          go_wp2_with fail
          refine (next_any HQ.out.b).mono ?_
          rintro e w9 ⟨rfl, hk9⟩
          have HQ6 := Lib.hid (HQ.out.next hk9)
          have d0 := hk9.cell d0 (fun e => e.elim)
          have d3 := hk9.cell d3 (fun e => e.elim)
          clear hk9
          go_wp2_with fail
          go_roundg (gk - 1)
          case measure => have := Hgk.out; omega
          case rel => exact ⟨k + 1, _, _, by have := Hgk.out; omega, rfl, by go_num, HQ6.out⟩
        · have HZ := Lib.hid hz
          obtain ⟨r, hr⟩ : ∃ r, doneErr s = r := ⟨_, rfl⟩
          have HRR := Lib.hid hr
          clear hz hr
          go_wp2_with fail
          refine (done_bad_at HR.out.b r HRR.out (by rw [← HRR.out]; exact HZ.out) _ rfl).mono ?_
          rintro e w3 ⟨eb, rfl, hib, hB3, hk3⟩
          have HIB := Lib.hid hib
          have HB3 := Lib.hid hB3
          have HK3 := Lib.hid hk3
          have HR3 := Lib.hid (HR.out.r.far HR.out.b hk3)
          clear hB3 hk3 hib
          go_wp2_with fail
          refine (rdone_bad_at HR3.out r HRR.out (by rw [← HRR.out]; exact HZ.out)).mono ?_
          rintro e w4 ⟨v4, rfl, hr4, hB4, hk4⟩
          have hs3 := str_run (RdB.nil_ w4)
          have hs4 := str_run hr4
          have HIB4 := Lib.hid (show IsB w4 eb s.id r from HIB.out.kept hk4 (fun e => by unfold Only at e; subst e; obtain ⟨_, _, g, _⟩ := HR3.out; have h := HIB.out; unfold IsB Blk at h; unfold Blk at g; rw [g] at h; cases h))
          have HPP := Lib.hid (show PlayRel w bb rb (doneTo s) w4 from ⟨HB3.out.far HR3.out hk4, hB4, HR.out.hb, HR.out.hr, doneTo_id HR.out.id, (HR.out.kept.inner HK3.out (only_ge HR.out.hb)).inner hk4 (only_ge HR.out.hr)⟩)
          clear hr4 hB4 hk4
          go_wp2_with fail
          refine (broken_any HIB4.out (by rw [← HRR.out]; exact doneErr_is HZ.out) HR.out.id (HE.out.kept HPP.out.kept)).mono ?_
          rintro e w5 ⟨rfl, hk5⟩
          have HQ := Lib.hid (HPP.out.next hk5)
          clear hk5 hs3 hs4 h0 h1 h2 h3 h4 h5
          obtain ⟨A9, c9, g9, _⟩ := HQ.out.r
          have d0 : (w5).cell? ⟨rb, 0, none⟩ = some (.int .i64 (doneTo s).id) := g9.cell 0
          have d3 : (w5).cell? ⟨rb, 0 + 3, none⟩ = some (.slice A9 (doneTo s).data.length c9) := g9.cell 3
          clear g9
          go_wp2_with fail
          refine (next_any HQ.out.b).mono ?_
          rintro e w9 ⟨rfl, hk9⟩
          have HQ6 := Lib.hid (HQ.out.next hk9)
          have d0 := hk9.cell d0 (fun e => e.elim)
          have d3 := hk9.cell d3 (fun e => e.elim)
          clear hk9
          go_wp2_with fail
          go_roundg (gk - 1)
          case measure => have := Hgk.out; omega
          case rel => exact ⟨k + 1, _, _, by have := Hgk.out; omega, rfl, by go_num, HQ6.out⟩
      · by_cases ho3 : o = 3
        · subst ho3
          clear ho2
          go_wp2_with fail
          refine (drop_any HR.out.b).mono ?_
          rintro e w3 ⟨rfl, hB3, hk3⟩
          have HQ := Lib.hid (show PlayRel w bb w3.heap.size BlD.none_ (w3.alloc (.cells #[.int .i64 (-1), .int .i64 0, .int .u32 0, .slice none 0 0] 51)) from
            ⟨hB3.same ((Kept.refl NoBlk w3).alloc _), rbld_new w3, HR.out.hb, ((HR.out.kept.inner hk3 (only_ge HR.out.hb))).size, by unfold okId BlD.none_; decide, (HR.out.kept.inner hk3 (only_ge HR.out.hb)).alloc _⟩)
          clear hB3 hk3 h0 h1 h2 h3 h4 h5
          obtain ⟨A9, c9, g9, _⟩ := HQ.out.r
          have d0 : (w3.alloc (.cells #[.int .i64 (-1), .int .i64 0, .int .u32 0, .slice none 0 0] 51)).cell? ⟨w3.heap.size, 0, none⟩ = some (.int .i64 (BlD.none_).id) := g9.cell 0
          have d3 : (w3.alloc (.cells #[.int .i64 (-1), .int .i64 0, .int .u32 0, .slice none 0 0] 51)).cell? ⟨w3.heap.size, 0 + 3, none⟩ = some (.slice A9 (BlD.none_).data.length c9) := g9.cell 3
          clear g9
          go_wp2_with fail
          refine (next_any HQ.out.b).mono ?_
          rintro e w9 ⟨rfl, hk9⟩
          have HQ6 := Lib.hid (HQ.out.next hk9)
          have d0 := hk9.cell d0 (fun e => e.elim)
          have d3 := hk9.cell d3 (fun e => e.elim)
          clear hk9
          go_wp2_with fail
          go_roundg (gk - 1)
          case measure => have := Hgk.out; omega
          case rel => exact ⟨k + 1, _, _, by have := Hgk.out; omega, rfl, by go_num, HQ6.out⟩
        · have hb2 : (o == 2) = false := by simpa using ho2
          have hb3 : (o == 3) = false := by simpa using ho3
          clear ho2 ho3
          obtain ⟨A', L, c', rfl⟩ : ∃ A n c, v = .slice A n c := by obtain ⟨A, n, c, e, _⟩ := H6.out; exact ⟨A, n, c, e⟩
          obtain ⟨pi, hpi⟩ : ∃ pi, a.p.id = pi := ⟨_, rfl⟩
          rw [hpi] at h1
          have HPI := Lib.hid hpi
          clear hpi
          by_cases hz : addErr s a.p = 0
          · have HZ := Lib.hid hz
            clear hz
            obtain ⟨wb, hwb⟩ : ∃ wb, wholeB (addTo s a.p) = wb := ⟨_, rfl⟩
            have hwr : wholeR s a.p = wb := by unfold wholeR; rw [if_pos HZ.out, hwb]
            have hc1 := addP_at HR.out.b H6.out HR.out.hb HZ.out _ rfl wb hwb
            have hc2 := fun W (hW : RBld W rb s) (hd : RdU W w.heap.size (.slice A' L c') a.p.data) => radd_at hW hd HR.out.hr 0 HZ.out wb hwr
            have hof := fun W => of_any (w := W) a.p A' L c'
            unfold aggP at hc1 hc2 hof
            rw [HPI.out] at hc1 hc2 hof
            have HC1 := Lib.hid hc1
            have HC2 := Lib.hid hc2
            have HOF := Lib.hid hof
            clear hc1 hc2 hwb hwr hof
            go_wp2_with fail
            refine (HC1.out).mono ?_
            rintro e w3 ⟨rfl, hB3, hk3⟩
            have HB3 := Lib.hid hB3
            have HR3 := Lib.hid (HR.out.r.far HR.out.b hk3)
            have HK3 := Lib.hid (HR.out.kept.inner hk3 (only_ge HR.out.hb))
            clear hB3 hk3 h0 h1 h2 h3 h4 h5
            obtain ⟨_, h1, h2, h3, h4, h5, _, _⟩ := HACT.out.kept HK3.out
            rw [HPI.out] at h1
            go_wp2_with fail
            refine (HOF.out _).mono ?_
            rintro e w4 ⟨rfl, hk4⟩
            have HB4 := Lib.hid (HB3.out.same hk4)
            have HR4 := Lib.hid (HR3.out.same hk4)
            have HK4 := Lib.hid (HK3.out.trans hk4)
            clear hk4 h1 h2 h3 h4 h5
            go_wp2_with fail
            refine (HC2.out _ HR4.out (HACT.out.kept HK4.out).2.2.2.2.2.2.1).mono ?_
            rintro e w5 ⟨rfl, hR5, hk5⟩
            have HPP := Lib.hid (show PlayRel w bb rb (addTo s a.p) w5 from ⟨HB4.out.far HR4.out hk5, hR5, HR.out.hb, HR.out.hr, addTo_id HR.out.id H7.out, HK4.out.inner hk5 (only_ge HR.out.hr)⟩)
            clear hR5 hk5
            have h1 := (HACT.out.kept HPP.out.kept).2.1
            rw [HPI.out] at h1
            go_wp2_with fail
            refine (broken_nil _ _).mono ?_
            rintro e w6 ⟨rfl, hk6⟩
            have HQ := Lib.hid (HPP.out.next hk6)
            clear hk6 h1
            obtain ⟨A9, c9, g9, _⟩ := HQ.out.r
            have d0 : (w6).cell? ⟨rb, 0, none⟩ = some (.int .i64 (addTo s a.p).id) := g9.cell 0
            have d3 : (w6).cell? ⟨rb, 0 + 3, none⟩ = some (.slice A9 (addTo s a.p).data.length c9) := g9.cell 3
            clear g9
            go_wp2_with fail
            refine (next_any HQ.out.b).mono ?_
            rintro e w9 ⟨rfl, hk9⟩
            have HQ6 := Lib.hid (HQ.out.next hk9)
            have d0 := hk9.cell d0 (fun e => e.elim)
            have d3 := hk9.cell d3 (fun e => e.elim)
            clear hk9
            go_wp2_with fail
            go_roundg (gk - 1)
            case measure => have := Hgk.out; omega
            case rel => exact ⟨k + 1, _, _, by have := Hgk.out; omega, rfl, by go_num, HQ6.out⟩
          · have HZ := Lib.hid hz
            obtain ⟨r, hr⟩ : ∃ r, addErr s a.p = r := ⟨_, rfl⟩
            have HRR := Lib.hid hr
            have hid : addTo s a.p = s := by unfold addTo; rw [if_neg hz]
            have HID := Lib.hid hid
            have hwr : wholeR s a.p = false := by unfold wholeR; rw [if_neg hz]
            have hc1 := addP_bad HR.out.b H6.out HR.out.hb hz
            rw [hr] at hc1
            have hc2 := fun W (hW : RBld W rb s) (hd : RdU W w.heap.size (.slice A' L c') a.p.data) => radd_at hW hd HR.out.hr r hr false hwr
            have hof := fun W => of_any (w := W) a.p A' L c'
            unfold aggP at hc1 hc2 hof
            rw [HPI.out] at hc1 hc2 hof
            have HC1 := Lib.hid hc1
            have HC2 := Lib.hid hc2
            have HOF := Lib.hid hof
            clear hc1 hc2 hwr hof hz hr hid
            go_wp2_with fail
            refine (HC1.out).mono ?_
            rintro e w3 ⟨eb, rfl, hib, hB3, hk3⟩
            have HIB := Lib.hid hib
            have HB3 := Lib.hid hB3
            have HR3 := Lib.hid (HR.out.r.far HR.out.b hk3)
            have HK3 := Lib.hid (HR.out.kept.inner hk3 (only_ge HR.out.hb))
            clear hB3 hk3 hib h0 h1 h2 h3 h4 h5
            obtain ⟨_, h1, h2, h3, h4, h5, _, _⟩ := HACT.out.kept HK3.out
            rw [HPI.out] at h1
            go_wp2_with fail
            refine (HOF.out _).mono ?_
            rintro e w4 ⟨rfl, hk4⟩
            have HB4 := Lib.hid (HB3.out.same hk4)
            have HR4 := Lib.hid (HR3.out.same hk4)
            have HK4 := Lib.hid (HK3.out.trans hk4)
            have HIB4 := Lib.hid (show IsB w4 eb pi r from HIB.out.kept hk4 (fun e => e.elim))
            clear hk4 h1 h2 h3 h4 h5
            go_wp2_with fail
            refine (HC2.out _ HR4.out (HACT.out.kept HK4.out).2.2.2.2.2.2.1).mono ?_
            rintro e w5 ⟨rfl, hR5, hk5⟩
            rw [HID.out] at hR5
            have HPP := Lib.hid (show PlayRel w bb rb s w5 from ⟨HB4.out.far HR4.out hk5, hR5, HR.out.hb, HR.out.hr, HR.out.id, HK4.out.inner hk5 (only_ge HR.out.hr)⟩)
            have HIB5 := Lib.hid (show IsB w5 eb pi r from HIB4.out.kept hk5 (fun e => by unfold Only at e; subst e; obtain ⟨_, _, g, _⟩ := HR4.out; have h := HIB4.out; unfold IsB Blk at h; unfold Blk at g; rw [g] at h; cases h))
            clear hR5 hk5
            have h1 := (HACT.out.kept HPP.out.kept).2.1
            rw [HPI.out] at h1
            go_wp2_with fail
            refine (broken_any HIB5.out (by rw [← HRR.out]; exact addErr_is HZ.out) (by rw [← HPI.out]; exact H7.out) (HE.out.kept HPP.out.kept)).mono ?_
            rintro e w6 ⟨rfl, hk6⟩
            have HQ := Lib.hid (HPP.out.next hk6)
            clear hk6 h1
            obtain ⟨A9, c9, g9, _⟩ := HQ.out.r
            have d0 : (w6).cell? ⟨rb, 0, none⟩ = some (.int .i64 (s).id) := g9.cell 0
            have d3 : (w6).cell? ⟨rb, 0 + 3, none⟩ = some (.slice A9 (s).data.length c9) := g9.cell 3
            clear g9
            go_wp2_with fail
            refine (next_any HQ.out.b).mono ?_
            rintro e w9 ⟨rfl, hk9⟩
            have HQ6 := Lib.hid (HQ.out.next hk9)
            have d0 := hk9.cell d0 (fun e => e.elim)
            have d3 := hk9.cell d3 (fun e => e.elim)
            clear hk9
            go_wp2_with fail
            go_roundg (gk - 1)
            case measure => have := Hgk.out; omega
            case rel => exact ⟨k + 1, _, _, by have := Hgk.out; omega, rfl, by go_num, HQ6.out⟩
    · go_wp2_with fail
      go_ret
      exact ⟨rfl, HR.out.kept⟩
end Go.Proofs.YtnaacgglbeipcaaDoor
