/- What ChunkWhole does: it returns true, and turns nothing that was there. -/
import Derived.Test.YtnaacgglbeipcaaDoorPlays
import Derived.Test.YtnaacgglbeipcaaDoorKnown
import Derived.Test.YtnaacgglbeipcaaDoorBuilds
namespace Go.Proofs.YtnaacgglbeipcaaDoor
open Go.RowKit

/-- '.slice A N c' holds N pieces, below block 'base': piece k reads as qs k. -/
def PR (w : World) (base : Nat) (A : Option Addr) (N : Nat) (qs : Nat → PcD) : Prop :=
  ∀ k, k < N → ∃ g d, A = some ⟨g, 0, none⟩ ∧ g < base ∧ w.cell? ⟨g, k * 5, none⟩ = some (.int .i64 (qs k).id) ∧ w.cell? ⟨g, k * 5 + 1, none⟩ = some (.int .i64 (qs k).pos) ∧ w.cell? ⟨g, k * 5 + 2, none⟩ = some (.int .i64 (qs k).total) ∧
    w.cell? ⟨g, k * 5 + 3, none⟩ = some (.int .u32 (qs k).sum) ∧ w.cell? ⟨g, k * 5 + 4, none⟩ = some d ∧ RdU w base d (qs k).data

theorem PR.kept {w w' : World} {base : Nat} {A : Option Addr} {N : Nat} {qs : Nat → PcD} (h : PR w base A N qs) {S : Nat → Prop} (hk : Kept S w w') (hs : ∀ g, S g → base ≤ g) : PR w' base A N qs := by
  intro k hkN
  obtain ⟨g, d, e, hg, a0, a1, a2, a3, a4, r⟩ := h k hkN
  have hn : ¬ S g := fun e => by have := hs g e; omega
  exact ⟨g, d, e, hg, hk.cell a0 hn, hk.cell a1 hn, hk.cell a2 hn, hk.cell a3 hn, hk.cell a4 hn, r.kept hk hs⟩
theorem PR.more {w : World} {base base' : Nat} {A : Option Addr} {N : Nat} {qs : Nat → PcD} (h : PR w base A N qs) (hb : base ≤ base') : PR w base' A N qs := by
  intro k hkN
  obtain ⟨g, d, e, hg, a0, a1, a2, a3, a4, r⟩ := h k hkN
  exact ⟨g, d, e, by omega, a0, a1, a2, a3, a4, r.more hb⟩

theorem cutD_at {id : Int} {bs : List UInt8} {size k : Nat} (hk : k < nP bs.length size) : (cutD id bs size)[k]? = some (pc id (sumOf bs) bs size k) := by
  unfold cutD cutN
  simp [hk, pieceAt_pc]
theorem cutD_length (id : Int) (bs : List UInt8) (size : Nat) : (cutD id bs size).length = nP bs.length size := by
  unfold cutD
  exact cutN_length id bs size _
theorem pr_of_pcs {w : World} {base : Nat} {A : Option Addr} {c : Nat} {id : Int} {bs : List UInt8} {size : Nat} {ds : Nat → Value} (h : Pcs w base 36 (.slice A (nP bs.length size) c) (cutD id bs size) ds) :
    PR w w.heap.size A (nP bs.length size) (pc id (sumOf bs) bs size) := by
  intro k hk
  obtain ⟨g, p, e, _, hp, a0, a1, a2, a3, a4, r⟩ := h.at_ hk
  rw [cutD_at hk] at hp
  obtain rfl := Option.some.inj hp
  exact ⟨g, ds k, e, World.block_lt_of_cell? _ _ a0, a0, a1, a2, a3, a4, r⟩

def CutPR (id : Int) (bs : List UInt8) (size N : Nat) (w : World) (e : Ending) (w' : World) : Prop := ∃ A c, e = .returned (.tuple #[.slice A N c, .nilIface]) ∧ PR w' w'.heap.size A N (pc id (sumOf bs) bs size) ∧ Kept NoBlk w w'
theorem cut_pr {id : Int} {v : Value} {size N : Nat} {bs : List UInt8} {w : World} (h : RdB w v bs) (hn : bs.length ≤ 1048576) (hid : 0 ≤ id) (h1 : 1 ≤ size) (h2 : size ≤ 65536) (hN : nP bs.length size = N) :
    Calls Tryd.prog 8 #[.int .i64 id, v, .int .i64 (size : Int)] w (CutPR id bs size N w) := by
  subst hN
  refine (cut_any h hn hid h1 h2).mono fun e w' ⟨v', ds, he, hp, hk⟩ => ?_
  obtain ⟨A, c, rfl⟩ := hp.len
  rw [cutD_length] at he hp
  exact ⟨A, c, he, pr_of_pcs hp, hk⟩

theorem nP_le {len size : Nat} (h1 : 1 ≤ size) (hl : len ≤ 2048) : nP len size ≤ 2049 := by
  rcases Nat.lt_or_ge 2049 (nP len size) with h | h
  · have h3 := (lt_nP (len := len) (k := 2049) h1).1 h
    have h4 : 2049 * 1 ≤ 2049 * size := Nat.mul_le_mul_left _ h1
    omega
  · exact h

/-- The call, whatever it answers. -/
theorem addP_some {w : World} {bb base : Nat} {s : BlD} (h : Bld w bb s) {p : PcD} {dv : Value} (hd : RdU w base dv p.data) (hbb : base ≤ bb) :
    Calls Tryd.prog 13 #[.pointer (some ⟨bb, 0, none⟩), aggP p dv] w fun e w' => ∃ v1 v2, e = .returned (.tuple #[v1, v2]) ∧ Bld w' bb (addTo s p) ∧ Kept (Only bb) w w' := by
  by_cases hz : addErr s p = 0
  · exact (addP_ok h hd hbb hz).mono fun e w' ⟨h1, h2, h3⟩ => ⟨_, _, h1, h2, h3⟩
  · refine (addP_bad h hd hbb hz).mono fun e w' ⟨eb, h1, _, h2, h3⟩ => ⟨_, _, h1, ?_, h3⟩
    unfold addTo
    rw [if_neg hz]
    exact h2

theorem Part.idle {id u : Int} {bs : List UInt8} {s : BlD} (h : Part id u bs s) : s.id ≤ id := by
  rcases h with h | ⟨m, _, rfl⟩
  · omega
  · exact Int.le_refl _
theorem Upto.idle {id u : Int} {bs : List UInt8} {size i : Nat} {s : BlD} (h : Upto id u bs size i s) : s.id ≤ id := by
  rcases h with ⟨_, h⟩ | ⟨m, _, _, rfl⟩
  · exact h.idle
  · exact Int.le_refl _

/-- Whole numbers in memory. -/
def RdI (w : World) (A : Option Addr) (n : Nat) (zs : List Int) : Prop := zs.length = n ∧ ∀ k, k < n → ∃ b off, A = some ⟨b, off, none⟩ ∧ w.cell? ⟨b, off + k, none⟩ = some (.int .i64 (zs.getD k 0))
theorem RdI.kept {w w' : World} {A : Option Addr} {n : Nat} {zs : List Int} (h : RdI w A n zs) (hk : Kept NoBlk w w') : RdI w' A n zs :=
  ⟨h.1, fun k hkn => by
    obtain ⟨b, off, e, hc⟩ := h.2 k hkn
    exact ⟨b, off, e, hk.cell hc (fun e => e.elim)⟩⟩

theorem rem_bound (z : Int) (N : Nat) (hN : 1 ≤ N) : -(N : Int) < z.tmod N ∧ z.tmod N < N := by
  rcases Int.lt_or_le z 0 with h | h
  · have e : z.tmod N = -((-z).tmod N) := by rw [Int.neg_tmod, Int.neg_neg]
    have h1 := Int.tmod_nonneg (a := -z) (N : Int) (by omega)
    have h2 := Int.tmod_lt_of_pos (-z) (b := (N : Int)) (by omega)
    omega
  · have h1 := Int.tmod_nonneg (a := z) (N : Int) h
    have h2 := Int.tmod_lt_of_pos z (b := (N : Int)) (by omega)
    omega

/-- What holds of the builder between the adds: it lies in block bb; what it has built is s. -/
structure BRel (w : World) (base bb : Nat) (s : BlD) (wr : World) : Prop where
  b : Bld wr bb s
  base : base ≤ bb
  hb : w.heap.size ≤ bb
  kept : Kept NoBlk w wr
theorem BRel.next {w : World} {base bb : Nat} {s s' : BlD} {wr w' : World} (h : BRel w base bb s wr) (hB : Bld w' bb s') (hk : Kept (Only bb) wr w') : BRel w base bb s' w' := ⟨hB, h.base, h.hb, h.kept.inner hk (only_ge h.hb)⟩
theorem BRel.pr {w : World} {base bb : Nat} {s : BlD} {wr w' : World} (h : BRel w base bb s wr) {A : Option Addr} {N : Nat} {qs : Nat → PcD} (hp : PR wr base A N qs) (hk : Kept (Only bb) wr w') : PR w' base A N qs :=
  hp.kept hk (fun g e => by unfold Only at e; have := h.base; omega)

set_option maxRecDepth 100000 in
set_option maxHeartbeats 8000000 in
theorem whole_main (size : Nat) (many : Int) (A0 A2 A4 : Option Addr) (n0 c0 n2 c2 n4 c4 : Nat) (bs0 bs2 : List UInt8) (zs : List Int) (w : World) (he : Env w) (h0 : RdB w (.slice A0 n0 c0) bs0) (h2 : RdB w (.slice A2 n2 c2) bs2) (h4 : RdI w A4 n4 zs)
    (g0 : ¬ 2048 < n0) (g2 : ¬ 2048 < n2) (g1 : 1 ≤ size) (g3 : size ≤ 4096) (g4 : ¬ 200 < n4) :
    Calls Tryd.prog 4 #[.slice A0 n0 c0, .int .i64 (size : Int), .slice A2 n2 c2, .int .i64 many, .slice A4 n4 c4] w (TrueEnd w) := by
  have HE := Lib.hid he
  have H0 := Lib.hid h0
  have H2 := Lib.hid h2
  have H4 := Lib.hid h4
  have l0 := h0.length
  have l2 := h2.length
  obtain ⟨N, hN⟩ : ∃ N, nP bs0.length size = N := ⟨_, rfl⟩
  obtain ⟨M, hM⟩ : ∃ M, nP bs2.length size = M := ⟨_, rfl⟩
  have hN1 : 1 ≤ N := by rw [← hN]; exact nP_pos g1
  have hN2 : N ≤ 2049 := by rw [← hN]; exact nP_le g1 (by omega)
  have hM2 : M ≤ 2049 := by rw [← hM]; exact nP_le g1 (by omega)
  obtain ⟨u, hu⟩ : ∃ u, sumOf bs0 = u := ⟨_, rfl⟩
  obtain ⟨u2, hu2⟩ : ∃ u2, sumOf bs2 = u2 := ⟨_, rfl⟩
  have HC0 := Lib.hid (fun W (h : RdB W (.slice A0 n0 c0) bs0) => cut_pr (id := 9) h (by omega) (by decide) g1 (by omega) hN)
  have HC2 := Lib.hid (fun W (h : RdB W (.slice A2 n2 c2) bs2) => cut_pr (id := 4) h (by omega) (by decide) g1 (by omega) hM)
  have HL := Lib.hid (show bs0.length ≤ 1048576 ∧ bs2.length ≤ 1048576 from ⟨by omega, by omega⟩)
  have HN := Lib.hid hN
  have HM := Lib.hid hM
  have HU := Lib.hid hu
  have HU2 := Lib.hid hu2
  have q0 : ¬ (2048 : Int) < (n0 : Int) := by omega
  have q1 : ¬ (size : Int) < 1 := by omega
  have q2 : ¬ (2048 : Int) < (n2 : Int) := by omega
  have q3 : ¬ (4096 : Int) < (size : Int) := by omega
  have q4 : ¬ (200 : Int) < (n4 : Int) := by omega
  clear he h0 h2 h4 l0 l2 hN hM hu hu2
  go_enter Tryd.func4, Tryd.ntmps4
  go_wp2_with fail
  refine (known_any HE.out).mono ?_
  rintro e w1 ⟨rfl, hk1⟩
  have HK1 := Lib.hid hk1
  clear hk1
  go_wp2_with fail
  refine (HC0.out _ (H0.out.kept HK1.out (NoCells.none _))).mono ?_
  rintro e w2 ⟨Al, cl, rfl, hp, hk2⟩
  have HPL := Lib.hid hp
  have HK2 := Lib.hid (HK1.out.trans hk2)
  clear hp hk2
  go_wp2_with fail
  refine (HC2.out _ (H2.out.kept HK2.out (NoCells.none _))).mono ?_
  rintro e w3 ⟨Ao, co, rfl, hp, hk3⟩
  have HPO3 := Lib.hid hp
  have HPL3 := Lib.hid ((HPL.out.kept hk3 (fun _ e => e.elim)).more hk3.size)
  have HK3 := Lib.hid (HK2.out.trans hk3)
  clear hp hk3
  go_wp2_with fail
  refine (newb_any w3).mono ?_
  rintro e w4 ⟨bb, rfl, hB, hbb, hk4⟩
  have HR := Lib.hid (show BRel w w3.heap.size bb BlD.none_ w4 from ⟨hB, hbb, by have := HK3.out.size; omega, HK3.out.trans hk4⟩)
  have HPL4 := Lib.hid (HPL3.out.kept hk4 (fun _ e => e.elim))
  have HPO4 := Lib.hid (HPO3.out.kept hk4 (fun _ e => e.elim))
  obtain ⟨base, hbase⟩ : ∃ base, w3.heap.size = base := ⟨_, rfl⟩
  rw [hbase] at HR HPL4 HPO4
  clear hB hbb hk4 hbase
  go_wp2_with fail
  go_loopg [16] M (fun g v wr => ∃ (i : Nat) (s : BlD), g + i = M ∧ v = .int .i64 i ∧ Upto 4 u2 bs2 size i s ∧ BRel w base bb s wr ∧ PR wr base Al N (pc 9 (sumOf bs0) bs0 size) ∧ PR wr base Ao M (pc 4 (sumOf bs2) bs2 size))
  case atStart => exact ⟨0, _, by omega, rfl, Upto.start (Or.inl (by decide)), HR.out, HPL4.out, HPO4.out⟩
  case round =>
    obtain ⟨i, s, hgi, rfl, hup, hrel, hpl, hpo⟩ := hrel
    have Hgi := Lib.hid hgi
    have HUp := Lib.hid hup
    have HRr := Lib.hid hrel
    have HPLr := Lib.hid hpl
    have HPOr := Lib.hid hpo
    obtain ⟨wx, hwx⟩ : ∃ wx, wr = wx := ⟨_, rfl⟩
    rw [hwx] at HRr HPLr HPOr ⊢
    clear hgi hup hrel hpl hpo HR HPL4 HPO4 hwx
    by_cases hgo : i < M ∧ (i : Int) < many
    · obtain ⟨hlt, hmany⟩ := hgo
      obtain ⟨g, d, rfl, hg, a0, a1, a2, a3, a4, r⟩ := HPOr.out i hlt
      have k0 : (0 : Int) ≤ (i : Int) := by omega
      have k1 : (i : Int) < (M : Int) := by omega
      have hstep := HUp.out.add (by decide) g1 HL.out.2 (by
        have h3 := (lt_nP (len := bs2.length) (k := i) g1).1 (by rw [HM.out]; exact hlt)
        exact h3)
      rw [HU2.out] at a3 r
      have hc := addP_at HRr.out.b r HRr.out.base hstep.1 _ rfl _ rfl
      unfold aggP at hc
      have HC := Lib.hid hc
      have HStep := Lib.hid hstep.2
      clear hc hstep r
      go_wp2_with fail
      refine (HC.out).mono ?_
      rintro e w5 ⟨rfl, hB5, hk5⟩
      have HR5 := Lib.hid (HRr.out.next hB5 hk5)
      have HPL5 := Lib.hid (HRr.out.pr HPLr.out hk5)
      have HPO5 := Lib.hid (HRr.out.pr HPOr.out hk5)
      clear hB5 hk5 a0 a1 a2 a3 a4
      go_wp2_with fail
      go_roundg (gk - 1)
      case measure => have := Hgi.out; omega
      case rel => exact ⟨i + 1, _, by have := Hgi.out; omega, by go_num, HStep.out, HR5.out, HPL5.out, HPO5.out⟩
    · have hstop : ¬ i < M ∨ (i < M ∧ ¬ (i : Int) < many) := by omega
      have HPart := Lib.hid (show Part 9 u bs0 s from Or.inl (by have := HUp.out.idle; omega))
      clear hgo
      go_upto_region 11 with fail
      go_cut [80] (fun b wy => b = .bool false ∧ wy = wx)
      case first =>
        rcases hstop with hs | ⟨hs, hs2⟩
        all_goals
          go_wp2_with fail
          go_meet
          exact ⟨by simp; try omega, rfl⟩
      case rest =>
        obtain ⟨hb8, hw8⟩ := hcut
        rw [hb8, hw8]
        clear hb8 hw8 hstop HUp
        go_wp2_with fail
        go_loopg [19] n4 (fun g v wr => ∃ (i : Nat) (s : BlD), g + i = n4 ∧ v = .int .i64 i ∧ Part 9 u bs0 s ∧ BRel w base bb s wr ∧ PR wr base Al N (pc 9 (sumOf bs0) bs0 size))
        case atStart => exact ⟨0, _, by omega, rfl, HPart.out, HRr.out, HPLr.out⟩
        case round =>
          obtain ⟨j, s, hgi, rfl, hup, hrel, hpl⟩ := hrel
          have Hgj := Lib.hid hgi
          have HPj := Lib.hid hup
          have HRj := Lib.hid hrel
          have HPLj := Lib.hid hpl
          obtain ⟨wy, hwy⟩ : ∃ wy, wr = wy := ⟨_, rfl⟩
          rw [hwy] at HRj HPLj ⊢
          clear hgi hup hrel hpl hwy HRr HPLr HPOr HPart
          by_cases hlt : j < n4
          · obtain ⟨b, off, rfl, hz⟩ := (H4.out.kept HRj.out.kept).2 j hlt
            obtain ⟨z, hzz⟩ : ∃ z, zs.getD j 0 = z := ⟨_, rfl⟩
            rw [hzz] at hz
            have k0 : (0 : Int) ≤ (j : Int) := by omega
            have k1 : (j : Int) < (n4 : Int) := by omega
            have n1 : (1 : Int) ≤ (N : Int) := by omega
            have hrb := rem_bound z N hN1
            clear hzz
            have hadd : ∀ k, k < N → k = 0 ∨ k * size < bs0.length := fun k hk => (lt_nP (len := bs0.length) (k := k) g1).1 (by rw [HN.out]; exact hk)
            have HADD := Lib.hid hadd
            clear hadd
            go_upto_region 19 with fail
            go_cut [20] (fun v wq => v = .int .i64 (z.tmod N) ∧ wq = wy)
            case first =>
              by_cases hz0 : 0 ≤ z
              · have et : z % (N : Int) = z.tmod N := by rw [Int.tmod_eq_emod_of_nonneg hz0]
                have HET := Lib.hid et
                clear et hrb
                go_wp2_with fail
                go_meet
                exact ⟨by rw [HET.out], rfl⟩
              · clear hrb
                go_wp2_with fail
                go_meet
                exact ⟨rfl, rfl⟩
            case rest =>
              obtain ⟨hv9, hw9⟩ := hcut
              obtain ⟨t, ht⟩ : ∃ t, z.tmod N = t := ⟨_, rfl⟩
              rw [hw9]
              rw [ht] at hv9 hrb
              obtain ⟨t1, t2⟩ := hrb
              obtain ⟨k, hk, htk⟩ : ∃ k : Nat, k < N ∧ ((t = (k : Int)) ∨ (t = -(k : Int) ∧ 1 ≤ k)) := by
                rcases Int.lt_or_le t 0 with h | h
                · exact ⟨(-t).toNat, by omega, Or.inr ⟨by omega, by omega⟩⟩
                · exact ⟨t.toNat, by omega, Or.inl (by omega)⟩
              obtain ⟨g, d, rfl, hg, a0, a1, a2, a3, a4, r⟩ := HPLj.out k hk
              have hp2 := HPj.out.add (u := u) (k := k) (by decide) g1 HL.out.1 (HADD.out k hk)
              rw [HU.out] at a0 a1 a2 a3 r
              have hc := addP_some HRj.out.b r HRj.out.base
              unfold aggP at hc
              have HC := Lib.hid hc
              have HP2 := Lib.hid hp2
              have m0 : (0 : Int) ≤ (k : Int) := by omega
              have m1 : (k : Int) < (N : Int) := by omega
              clear hc hp2 r ht hw9 hz t1 t2
              rcases htk with htk | ⟨htk, hk1⟩
              all_goals
                subst htk
                rw [hv9]
                clear hv9
                go_wp2_with fail
                refine (HC.out).mono ?_
                rintro e w5 ⟨v1, v2, rfl, hB5, hk5⟩
                have HR5 := Lib.hid (HRj.out.next hB5 hk5)
                have HPL5 := Lib.hid (HRj.out.pr HPLj.out hk5)
                clear hB5 hk5 a0 a1 a2 a3 a4
                go_wp2_with fail
                go_roundg (gk - 1)
                case measure => have := Hgj.out; omega
                case rel => exact ⟨j + 1, _, by have := Hgj.out; omega, by go_num, HP2.out, HR5.out, HPL5.out⟩
          · go_wp2_with fail
            go_loopg [21, 22] N (fun g v x wr => ∃ (i : Nat) (s : BlD) (wb : Bool), g + i = N ∧ v = .bool wb ∧ x = .int .i64 i ∧ (i = N → wb = true) ∧ Upto 9 u bs0 size i s ∧ BRel w base bb s wr ∧ PR wr base Al N (pc 9 (sumOf bs0) bs0 size))
            case atStart => exact ⟨0, _, false, by omega, rfl, rfl, fun e => by omega, Upto.start HPj.out, HRj.out, HPLj.out⟩
            case round =>
              obtain ⟨i, s, wb, hgi, rfl, rfl, hall, hup, hrel, hpl⟩ := hrel
              have Hgk := Lib.hid hgi
              have HAk := Lib.hid hall
              have HUk := Lib.hid hup
              have HRk := Lib.hid hrel
              have HPLk := Lib.hid hpl
              obtain ⟨wz, hwz⟩ : ∃ wz, wr = wz := ⟨_, rfl⟩
              rw [hwz] at HRk HPLk ⊢
              clear hgi hall hup hrel hpl hwz HRj HPLj HPj hlt
              by_cases hlt : i < N
              · obtain ⟨g, d, rfl, hg, a0, a1, a2, a3, a4, r⟩ := HPLk.out i hlt
                have k0 : (0 : Int) ≤ (i : Int) := by omega
                have k1 : (i : Int) < (N : Int) := by omega
                have hstep := HUk.out.add (by decide) g1 HL.out.1 ((lt_nP (len := bs0.length) (k := i) g1).1 (by rw [HN.out]; exact hlt))
                rw [HU.out] at a0 a1 a2 a3 r
                obtain ⟨s', hs'⟩ : ∃ s', addTo s (pc 9 u bs0 size i) = s' := ⟨_, rfl⟩
                obtain ⟨wb', hwb'⟩ : ∃ wb', wholeB s' = wb' := ⟨_, rfl⟩
                have hc := addP_at HRk.out.b r HRk.out.base hstep.1 s' hs' wb' hwb'
                rw [hs'] at hstep
                have hfull : i + 1 = N → wb' = true := by
                  intro e
                  have h5 := hstep.2.all (by omega) (by rw [e, ← HN.out]; exact nP_all g1)
                  rw [← hwb', h5]
                  unfold wholeB
                  simp
                unfold aggP at hc
                have HC := Lib.hid hc
                have HStep := Lib.hid hstep.2
                have HFull := Lib.hid hfull
                clear hc hstep r hs' hwb' hfull
                go_wp2_with fail
                refine (HC.out).mono ?_
                rintro e w5 ⟨rfl, hB5, hk5⟩
                have HR5 := Lib.hid (HRk.out.next hB5 hk5)
                have HPL5 := Lib.hid (HRk.out.pr HPLk.out hk5)
                clear hB5 hk5 a0 a1 a2 a3 a4
                go_wp2_with fail
                go_roundg (gk - 1)
                case measure => have := Hgk.out; omega
                case rel => exact ⟨i + 1, _, wb', by have := Hgk.out; omega, rfl, by go_num, HFull.out, HStep.out, HR5.out, HPL5.out⟩
              · have hiN : i = N := by have := Hgk.out; omega
                have hsall := HUk.out.all (by omega) (by rw [hiN, ← HN.out]; exact nP_all g1)
                have hwt := HAk.out hiN
                have hde : doneErr s = 0 := by
                  rw [hsall, done_all (by decide), HU.out]
                  simp
                have hd := done_ok_at HRk.out.b hde
                have HD := Lib.hid hd
                have HS := Lib.hid hsall
                subst hwt
                clear hiN hsall hde hd
                go_wp2_with fail
                refine (HD.out).mono ?_
                rintro e w5 ⟨v5, rfl, ⟨hr5, _⟩, hB5, hk5⟩
                rw [HS.out] at hr5
                have HK5 := Lib.hid (HRk.out.kept.inner hk5 (only_ge HRk.out.hb))
                have s5 := str_run hr5
                have s6 := str_run (H0.out.kept HK5.out (NoCells.none _))
                clear hr5 hB5 hk5
                go_wp2_with fail
                go_ret
                exact ⟨by simp, HK5.out⟩

set_option maxRecDepth 100000 in
set_option maxHeartbeats 2000000 in
theorem whole_out (size many : Int) (A0 A2 A4 : Option Addr) (n0 c0 n2 c2 n4 c4 : Nat) (w : World) (he : Env w) (h : 2048 < n0 ∨ 2048 < n2 ∨ size < 1 ∨ 4096 < size ∨ 200 < n4) :
    Calls Tryd.prog 4 #[.slice A0 n0 c0, .int .i64 size, .slice A2 n2 c2, .int .i64 many, .slice A4 n4 c4] w (TrueEnd w) := by
  have HE := Lib.hid he
  have q : (2048 : Int) < n0 ∨ (¬ (2048 : Int) < n0 ∧ (2048 : Int) < n2) ∨ (¬ (2048 : Int) < n0 ∧ ¬ (2048 : Int) < n2 ∧ size < 1) ∨ (¬ (2048 : Int) < n0 ∧ ¬ (2048 : Int) < n2 ∧ ¬ size < 1 ∧ 4096 < size) ∨
      (¬ (2048 : Int) < n0 ∧ ¬ (2048 : Int) < n2 ∧ ¬ size < 1 ∧ ¬ 4096 < size ∧ (200 : Int) < n4) := by omega
  clear h he
  rcases q with q1 | ⟨q1, q2⟩ | ⟨q1, q2, q3⟩ | ⟨q1, q2, q3, q4⟩ | ⟨q1, q2, q3, q4, q5⟩
  all_goals
    go_enter Tryd.func4, Tryd.ntmps4
    go_wp2_with fail
    refine (known_any HE.out).mono ?_
    rintro e w1 ⟨rfl, hk1⟩
    go_wp2_with fail
    go_ret
    exact ⟨rfl, hk1⟩

theorem whole_any (size many : Int) (A0 : Option Addr) (n0 c0 : Nat) (bs0 : List UInt8) (A2 : Option Addr) (n2 c2 : Nat) (bs2 : List UInt8) (A4 : Option Addr) (n4 c4 : Nat) (zs : List Int) (w : World) (he : Env w)
    (h0 : RdB w (.slice A0 n0 c0) bs0) (h2 : RdB w (.slice A2 n2 c2) bs2) (h4 : RdI w A4 n4 zs) :
    Calls Tryd.prog 4 #[.slice A0 n0 c0, .int .i64 size, .slice A2 n2 c2, .int .i64 many, .slice A4 n4 c4] w (TrueEnd w) := by
  by_cases h : 2048 < n0 ∨ 2048 < n2 ∨ size < 1 ∨ 4096 < size ∨ 200 < n4
  · exact whole_out size many A0 A2 A4 n0 c0 n2 c2 n4 c4 w he h
  · obtain ⟨s, rfl⟩ : ∃ s : Nat, size = (s : Int) := ⟨size.toNat, by omega⟩
    exact whole_main s many A0 A2 A4 n0 c0 n2 c2 n4 c4 bs0 bs2 zs w he h0 h2 h4 (by omega) (by omega) (by omega) (by omega) (by omega)
end Go.Proofs.YtnaacgglbeipcaaDoor
