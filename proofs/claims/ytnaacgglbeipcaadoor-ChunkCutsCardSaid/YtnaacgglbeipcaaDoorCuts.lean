/- What ChunkCuts does: it returns true, and turns nothing that was there. -/
import Derived.Test.YtnaacgglbeipcaaDoorKnown
import Derived.Test.YtnaacgglbeipcaaDoorSameP
namespace Go.Proofs.YtnaacgglbeipcaaDoor
open Go.RowKit

set_option maxRecDepth 100000 in
set_option maxHeartbeats 2000000 in
theorem cuts_long (id size : Int) (A : Option Addr) (n c : Nat) (w : World) (he : Env w) (hn : 4096 < n) : Calls Tryd.prog 3 #[.int .i64 id, .slice A n c, .int .i64 size] w (TrueEnd w) := by
  have HE := Lib.hid he
  have q : (4096 : Int) < (n : Int) := by omega
  clear he
  go_enter Tryd.func3, Tryd.ntmps3
  go_wp2_with fail
  refine (known_any HE.out).mono ?_
  rintro e w1 ⟨rfl, hk1⟩
  go_wp2_with fail
  go_ret
  exact ⟨rfl, hk1⟩

set_option maxRecDepth 100000 in
set_option maxHeartbeats 2000000 in
theorem cuts_bad (id size : Int) (A : Option Addr) (n c : Nat) (w : World) (he : Env w) (hid : okId id) (hn : ¬ 4096 < n) (h : id < 0 ∨ size < 1 ∨ 65536 < size) : Calls Tryd.prog 3 #[.int .i64 id, .slice A n c, .int .i64 size] w (TrueEnd w) := by
  have HE := Lib.hid he
  have HI := Lib.hid hid
  have q : ¬ (4096 : Int) < (n : Int) := by omega
  have HC := Lib.hid (fun W => cut_bad id A n c size W h)
  have HR := Lib.hid (fun W => refcut_bad id A n c size W h)
  clear he hid h
  go_enter Tryd.func3, Tryd.ntmps3
  go_wp2_with fail
  refine (known_any HE.out).mono ?_
  rintro e w1 ⟨rfl, hk1⟩
  have HK1 := Lib.hid hk1
  clear hk1
  go_wp2_with fail
  refine (HC.out _).mono ?_
  rintro e w2 ⟨eb, rfl, hb2, hk2⟩
  have HB2 := Lib.hid hb2
  have HK2 := Lib.hid (HK1.out.trans hk2)
  clear hb2 hk2
  go_wp2_with fail
  refine (HR.out _).mono ?_
  rintro e w3 ⟨v, ds, rfl, hp, hk3⟩
  obtain ⟨A3, c3, rfl⟩ := hp.len
  have HB3 := Lib.hid (HB2.out.kept hk3 (fun e => e.elim))
  have HK3 := Lib.hid (HK2.out.trans hk3)
  clear hp hk3
  go_wp2_with fail
  refine (broken_any HB3.out (by unfold IsErr; omega) HI.out (HE.out.kept HK3.out)).mono ?_
  rintro e w4 ⟨rfl, hk4⟩
  have HK4 := Lib.hid (HK3.out.trans hk4)
  clear hk4
  go_wp2_with fail
  refine wp_loop_rounds 1 ?_
  rw [rounds_succ]
  go_wp2_with fail
  go_ret
  exact ⟨rfl, HK4.out⟩

set_option maxRecDepth 100000 in
set_option maxHeartbeats 4000000 in
theorem cuts_good (id : Int) (size : Nat) (A : Option Addr) (n c : Nat) (bs : List UInt8) (w : World) (he : Env w) (hr : RdB w (.slice A n c) bs) (hn : ¬ 4096 < n) (h0 : 0 ≤ id) (h1 : 1 ≤ size) (h2 : size ≤ 65536) :
    Calls Tryd.prog 3 #[.int .i64 id, .slice A n c, .int .i64 (size : Int)] w (TrueEnd w) := by
  have hl := hr.length
  have HE := Lib.hid he
  have HRD := Lib.hid hr
  have q : ¬ (4096 : Int) < (n : Int) := by omega
  obtain ⟨ps, hps⟩ : ∃ ps, cutD id bs size = ps := ⟨_, rfl⟩
  have hc1 : ∀ W, RdB W (.slice A n c) bs → Calls Tryd.prog 8 #[.int .i64 id, .slice A n c, .int .i64 (size : Int)] W (CutEnd W.heap.size ps W) := fun W h => by
    rw [← hps]
    exact cut_any h (by omega) h0 h1 h2
  have hc2 : ∀ W, RdB W (.slice A n c) bs → Calls Tryd.prog 9 #[.int .i64 id, .slice A n c, .int .i64 (size : Int)] W (RefCutEnd W.heap.size ps 0 W) := fun W h => by
    rw [← hps]
    exact refcut_any h (by omega) h0 h1 h2
  have HC1 := Lib.hid hc1
  have HC2 := Lib.hid hc2
  have hpl : ps.length ≤ 1048577 := by
    rw [← hps]
    unfold cutD
    rw [cutN_length]
    have h3 := lt_nP (len := bs.length) (k := 1048577) h1
    have h4 : 1048577 * 1 ≤ 1048577 * size := Nat.mul_le_mul_left _ h1
    rcases Nat.lt_or_ge 1048577 (nP bs.length size) with h | h
    · rcases h3.1 h with h | h <;> omega
    · exact h
  obtain ⟨N, hN⟩ : ∃ N, ps.length = N := ⟨_, rfl⟩
  rw [hN] at hpl
  have HN := Lib.hid hN
  clear he hr hl hps hc1 hc2 hN
  go_enter Tryd.func3, Tryd.ntmps3
  go_wp2_with fail
  refine (known_any HE.out).mono ?_
  rintro e w1 ⟨rfl, hk1⟩
  have HK1 := Lib.hid hk1
  clear hk1
  go_wp2_with fail
  refine (HC1.out _ (HRD.out.kept HK1.out (NoCells.none _))).mono ?_
  rintro e w2 ⟨v, ds, rfl, hp, hk2⟩
  obtain ⟨A2, c2, rfl⟩ := hp.len
  have HP := Lib.hid hp
  have HK2 := Lib.hid (HK1.out.trans hk2)
  rw [HN.out] at HP ⊢
  clear hp hk2
  go_wp2_with fail
  refine (HC2.out _ (HRD.out.kept HK2.out (NoCells.none _))).mono ?_
  rintro e w3 ⟨v', ds', rfl, hp', hk3⟩
  obtain ⟨A3, c3, rfl⟩ := hp'.len
  have HP3 := Lib.hid (HP.out.kept hk3 (fun _ _ _ e => e.elim))
  have HQ3 := Lib.hid hp'
  have HK3 := Lib.hid (HK2.out.trans hk3)
  rw [HN.out] at HQ3 ⊢
  clear hp' hk3
  go_wp2_with fail
  refine (broken_nil _ _).mono ?_
  rintro e w4 ⟨rfl, hk4⟩
  have HP4 := Lib.hid (HP3.out.kept hk4 (fun _ _ _ e => e.elim))
  have HQ4 := Lib.hid (HQ3.out.kept hk4 (fun _ _ _ e => e.elim))
  have HK4 := Lib.hid (HK3.out.trans hk4)
  clear hk4
  go_wp2_with fail
  go_loopg [11] N (fun g v wr => ∃ k : Nat, g + k = N ∧ v = .int .i64 k ∧ Kept NoBlk w4 wr)
  case atStart => exact ⟨0, by omega, rfl, Kept.refl _ _⟩
  case round =>
    obtain ⟨k, hgk, rfl, hkr⟩ := hrel
    have Hgk := Lib.hid hgk
    have HKR := Lib.hid hkr
    obtain ⟨wx, hwx⟩ : ∃ wx, wr = wx := ⟨_, rfl⟩
    rw [hwx] at HKR ⊢
    clear hgk hkr hwx
    by_cases hlt : k < N
    · obtain ⟨g, p, rfl, _, e0, a0, a1, a2, a3, a4, r0⟩ := (HP4.out.kept HKR.out (fun _ _ _ e => e.elim)).at_ hlt
      obtain ⟨g', p', rfl, _, e1, b0, b1, b2, b3, b4, r1⟩ := (HQ4.out.kept HKR.out (fun _ _ _ e => e.elim)).at_ hlt
      obtain rfl : p' = p := by rw [e0] at e1; exact (Option.some.inj e1).symm
      have k0 : (0 : Int) ≤ (k : Int) := by omega
      have k1 : (k : Int) < (N : Int) := by omega
      obtain ⟨d, hd⟩ : ∃ d, ds k = d := ⟨_, rfl⟩
      obtain ⟨d', hd'⟩ : ∃ d', ds' k = d' := ⟨_, rfl⟩
      rw [hd] at a4 r0
      rw [hd'] at b4 r1
      obtain ⟨pi, pp, pt, pu, pd⟩ := p'
      have hsame : ∀ W, Kept NoBlk wx W → Calls Tryd.prog 11 #[.agg #[.int .i64 pi, .int .i64 pp, .int .i64 pt, .int .u32 pu, d], .agg #[.int .i64 pi, .int .i64 pp, .int .i64 pt, .int .u32 pu, d']] W (TrueEnd W) :=
        fun W hW => same_any (p := ⟨pi, pp, pt, pu, pd⟩) (r0.kept hW (NoCells.none _)) (r1.kept hW (NoCells.none _))
      have HS := Lib.hid hsame
      clear hsame r0 r1 e0 e1 hd hd'
      go_wp2_with fail
      go_region_held3 (fun w' => (w'.cell? ⟨g, k * 5, none⟩ = some (.int .i64 pi) ∧ w'.cell? ⟨g, k * 5 + 1, none⟩ = some (.int .i64 pp) ∧ w'.cell? ⟨g, k * 5 + 2, none⟩ = some (.int .i64 pt) ∧ w'.cell? ⟨g, k * 5 + 3, none⟩ = some (.int .u32 pu) ∧ w'.cell? ⟨g, k * 5 + 4, none⟩ = some d) ∧
          w'.cell? ⟨g', k * 5, none⟩ = some (.int .i64 pi) ∧ w'.cell? ⟨g', k * 5 + 1, none⟩ = some (.int .i64 pp) ∧ w'.cell? ⟨g', k * 5 + 2, none⟩ = some (.int .i64 pt) ∧ w'.cell? ⟨g', k * 5 + 3, none⟩ = some (.int .u32 pu) ∧ w'.cell? ⟨g', k * 5 + 4, none⟩ = some d')
        (first
        | exact ⟨⟨a0, a1, a2, a3, a4⟩, b0, b1, b2, b3, b4⟩
        | exact ⟨⟨hk5.cell a0 (fun e => e.elim), hk5.cell a1 (fun e => e.elim), hk5.cell a2 (fun e => e.elim), hk5.cell a3 (fun e => e.elim), hk5.cell a4 (fun e => e.elim)⟩, hk5.cell b0 (fun e => e.elim), hk5.cell b1 (fun e => e.elim), hk5.cell b2 (fun e => e.elim), hk5.cell b3 (fun e => e.elim), hk5.cell b4 (fun e => e.elim)⟩)
        (first
        | (go_at_call 11; refine (HS.out _ ((Kept.refl NoBlk wx).drewN _)).mono ?_; rintro e w5 ⟨rfl, hk5'⟩; have hk5 : Kept NoBlk wx w5 := ((Kept.refl NoBlk wx).drewN _).trans hk5'; clear hk5'))
      all_goals
        go_wp2_with fail
        go_roundg (gk - 1)
        case measure => have := Hgk.out; omega
        case rel => exact ⟨k + 1, by have := Hgk.out; omega, by go_num, HKR.out.trans hk5⟩
    · go_wp2_with fail
      go_ret
      exact ⟨rfl, HK4.out.trans HKR.out⟩

theorem cuts_any (id size : Int) (A : Option Addr) (n c : Nat) (bs : List UInt8) (w : World) (he : Env w) (hid : okId id) (hr : RdB w (.slice A n c) bs) : Calls Tryd.prog 3 #[.int .i64 id, .slice A n c, .int .i64 size] w (TrueEnd w) := by
  by_cases hn : 4096 < n
  · exact cuts_long id size A n c w he hn
  · by_cases h : id < 0 ∨ size < 1 ∨ 65536 < size
    · exact cuts_bad id size A n c w he hid hn h
    · obtain ⟨s, rfl⟩ : ∃ s : Nat, size = (s : Int) := ⟨size.toNat, by omega⟩
      exact cuts_good id s A n c bs w he hr hn (by omega) (by omega) (by omega)
end Go.Proofs.YtnaacgglbeipcaaDoor
