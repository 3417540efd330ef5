/- The document's Cut. -/
import Derived.Test.YtnaacgglbeipcaaDoorCutBad
namespace Go.Proofs.YtnaacgglbeipcaaDoor
open Go.RowKit

theorem refpiece_info : (Tryd.prog.info? 37).map (fun i => (i.zero, i.size, i.bytes)) = some (some (.agg #[.int .i64 0, .int .i64 0, .int .i64 0, .int .u32 0, .slice none 0 0]), 5, 56) := by kernel_rfl

theorem RdB.cells {w : World} {ad : Addr} {n c : Nat} {bs : List UInt8} (h : RdB w (.slice (some ad) n c) bs) : ∀ (j : Nat) (u : Value), (bs.map bv)[j]? = some u → w.cell? (ad.add j) = some u := by
  obtain ⟨A', n', c', e, _, _, _, _, h5⟩ := h
  injection e with e1 e2 e3
  subst e1
  subst e2
  intro j u hu
  rcases Nat.eq_zero_or_pos n with h0 | h0
  · subst h0
    have hl := h5.1
    simp at hl
    subst hl
    simp at hu
  · obtain ⟨ad', e, hlt, hc'⟩ := h5.2 h0
    cases e
    exact hc' j u hu
theorem u8_info' : (Tryd.prog.info? 5).map (fun i => (i.zero, i.size, i.bytes)) = some (some (.int .u8 0), 1, 1) := by kernel_rfl

def RefCutEnd (base : Nat) (ps : List PcD) (num : Int) (w : World) (e : Ending) (w' : World) : Prop := ∃ v ds, e = .returned (.tuple #[v, .int .i64 num]) ∧ Pcs w' base 37 v ps ds ∧ Kept NoBlk w w'

set_option maxRecDepth 100000 in
set_option maxHeartbeats 2000000 in
theorem refcut_bad (id : Int) (A : Option Addr) (n c : Nat) (size : Int) (w : World) (h : id < 0 ∨ size < 1 ∨ 65536 < size) :
    Calls Tryd.prog 9 #[.int .i64 id, .slice A n c, .int .i64 size] w (RefCutEnd w.heap.size [] 1 w) := by
  have q : (id < 0) ∨ (¬ id < 0 ∧ size < 1) ∨ (¬ id < 0 ∧ ¬ size < 1 ∧ 65536 < size) := by omega
  clear h
  rcases q with q1 | ⟨q1, q2⟩ | ⟨q1, q2, q3⟩
  all_goals
    go_enter Tryd.func9, Tryd.ntmps9
    go_wp2_with fail
    go_ret2
    exact ⟨_, fun _ => .nilIface, rfl, Pcs.nil_ _ _ _ _, Kept.refl _ _⟩

set_option maxRecDepth 100000 in
set_option maxHeartbeats 2000000 in
theorem refcut_some (id : Int) (ad : Addr) (n c size : Nat) (bs : List UInt8) (w : World) (h : Reads w w.heap.size 1 (some ad) n (bs.map bv)) (hnc : n ≤ c) (hc : c ≤ maxLen) (hn : n ≤ 1048576) (hid : 0 ≤ id) (h1 : 1 ≤ size) (h2 : size ≤ 65536) :
    Calls Tryd.prog 9 #[.int .i64 id, .slice (some ad) n c, .int .i64 (size : Int)] w (RefCutEnd w.heap.size (cutD id bs size) 0 w) := by
  have hR : RdB w (.slice (some ad) n c) bs := ⟨_, _, _, rfl, hnc, hc, by omega, (fun e => by cases e), h⟩
  have HR := Lib.hid hR
  have HL := Lib.hid (show bs.length = n by simpa using h.1)
  have H := Lib.hid h
  have q0 : ¬ id < 0 := by omega
  have q1 : ¬ (size : Int) < 1 := by omega
  have q2 : ¬ 65536 < (size : Int) := by omega
  have q3 : ¬ 1048576 < (n : Int) := by omega
  clear h hR
  go_enter Tryd.func9, Tryd.ntmps9
  go_wp2_with fail
  refine (sumRef_any HR.out).mono ?_
  rintro e w1 ⟨rfl, hk1⟩
  obtain ⟨s, hs⟩ : ∃ s, sumOf bs = s := ⟨_, rfl⟩
  rw [hs]
  have Hs := Lib.hid hs
  have HK1 := Lib.hid hk1
  clear hs hk1
  go_wp2_with fail
  go_loopg [10, 9, 11] (nP n size) (fun r u v _ wr => ∃ (k : Nat) (ds : Nat → Value), r + k = nP n size ∧ u = .int .i64 ((k * size : Nat) : Int) ∧ Pcs wr w.heap.size 37 v (cutN id bs size k) ds ∧ Kept NoBlk w wr)
  case atStart => exact ⟨0, fun _ => .nilIface, by omega, by simp, Pcs.nil_ _ _ _ _, HK1.out⟩
  case round =>
    obtain ⟨k, ds, hgk, rfl, hpc, hkp⟩ := hrel
    obtain ⟨t, ht⟩ : ∃ t, k * size = t := ⟨_, rfl⟩
    rw [ht]
    have Hgk := Lib.hid hgk
    have Ht := Lib.hid ht
    have HPc := Lib.hid hpc
    have HKp := Lib.hid hkp
    obtain ⟨wx, hwx⟩ : ∃ wx, wr = wx := ⟨_, rfl⟩
    rw [hwx] at HPc HKp ⊢
    clear hgk ht hpc hkp HK1 hwx
    by_cases hlt : k < nP n size
    · have hk0 := (lt_nP (k := k) h1).1 hlt
      rw [Ht.out] at hk0
      have hat : t ≤ n := by
        have h3 := Ht.out
        rcases hk0 with rfl | h
        · omega
        · omega
      obtain ⟨p, hp⟩ : ∃ p, min (t + size) n = p := ⟨_, rfl⟩
      have hp1 : t ≤ p := by omega
      have hp2 : p ≤ n := by omega
      have Hp := Lib.hid hp
      clear hp
      have hdata : (bs.drop t).take (p - t) = (bs.drop t).take size := by
        have := Hp.out
        rw [List.take_eq_take_iff, List.length_drop, HL.out]
        omega
      have hdl : ((bs.drop t).take size).length = p - t := by
        rw [← hdata, List.length_take, List.length_drop, HL.out]
        omega
      have hv : ∃ cv : Value, (convCut ad t p c = cv) ∧ RdB wx cv ((bs.drop t).take size) := by
        refine ⟨_, rfl, ?_⟩
        unfold convCut
        split
        · rename_i hct
          have e : (bs.drop t).take size = [] := List.eq_nil_of_length_eq_zero (by omega)
          rw [e]
          have e2 : p - t = 0 := by omega
          rw [e2]
          exact RdB.empty ad
        · rw [← hdata]
          exact (HR.out.kept HKp.out (NoCells.none w)).sub hp1 hp2
      have p0 : (0 : Int) ≤ (t : Int) := by omega
      have p1 : (t : Int) ≤ (p : Int) := by omega
      have p2 : (p : Int) ≤ (c : Int) := by omega
      have hlk := cutN_length id bs size k
      have hkb : k ≤ 1048576 := by
        have h4 : k * 1 ≤ k * size := Nat.mul_le_mul_left k h1
        have h5 := Ht.out
        omega
      obtain ⟨D, hD⟩ : ∃ D, (bs.drop t).take size = D := ⟨_, rfl⟩
      rw [hD] at hdl hv
      have HD := Lib.hid hD
      have Hdl := Lib.hid hdl
      have Hlk := Lib.hid hlk
      have Hlt := Lib.hid hlt
      obtain ⟨i0, hi, hz0, hz1, hz2⟩ := info_parts refpiece_info
      have Hi := Lib.hid hi
      have Hz0 := Lib.hid hz0
      have Hz1 := Lib.hid hz1
      have Hz2 := Lib.hid hz2
      obtain ⟨j0, hj, hy0, hy1, hy2⟩ := info_parts u8_info'
      have Hj := Lib.hid hj
      have Hy0 := Lib.hid hy0
      have Hy1 := Lib.hid hy1
      have Hy2 := Lib.hid hy2
      have qm : ((n : Int) - (t : Int) < (size : Int) ∧ p = n) ∨ (¬ (n : Int) - (t : Int) < (size : Int) ∧ (t : Int) + (size : Int) = (p : Int)) := by
        have := Hp.out
        omega
      have q0 : (((t : Int) == 0) = true) ∨ (((t : Int) == 0) = false ∧ (t : Int) < (n : Int)) := by
        have h3 := Ht.out
        by_cases e : t = 0
        · left
          rw [e]
          rfl
        · right
          refine ⟨?_, ?_⟩
          · have : ¬ (t : Int) = 0 := by omega
            simpa using this
          · rcases hk0 with rfl | h
            · omega
            · omega
      clear hlk hi hz0 hz1 hz2 hj hy0 hy1 hy2 hdata hdl hD hlt hk0
      rcases q0 with q0a | ⟨q0a, q0b⟩
      all_goals
       rcases qm with ⟨qm1, qm2⟩ | ⟨qm1, qm2⟩
      all_goals
       first | (have QM2 := Lib.hid qm2; subst p) | skip
      all_goals
       by_cases hct : c = t
      all_goals (try (exfalso; omega))
      all_goals
        unfold convCut at hv
        first | (rw [if_pos hct] at hv; subst c) | rw [if_neg hct] at hv
        obtain ⟨cv, hcv, hrd⟩ := hv
        have HRd := Lib.hid hrd
        have Hcv := Lib.hid hcv
        clear hrd hcv
        go_upto_region 13 with fail
      all_goals
        have hown := World.ownsRow_made (e := 5) (size := 1) wx #[] 0 (Nat.le_refl _) (Nat.zero_le _) rfl
        have hrd2 := HRd.out.kept ((Kept.refl NoBlk wx).alloc (.cells #[] 5)) (NoCells.none wx)
        rw [← Hcv.out] at hrd2
        have hcells := hrd2.cells
        have hdl2 : (D.map bv).length = D.length := List.length_map _
        rw [Hdl.out] at hdl2
        have Hdl2 := Lib.hid hdl2
        have Hcells := Lib.hid hcells
        have Hown := Lib.hid hown
        clear hrd2 hcells hdl2 hown
        have hnext : ∀ (dv : Value) (w2 : World) (q : Nat), w2.ownsRow wx.heap.size 5 1 dv q ([] ++ D.map bv) → (wx.alloc (.cells #[] 5)).grownBy w2 (Value.slice (some ⟨wx.heap.size, 0, none⟩) 0 0).ownBlock →
            ∃ A2 n2 c2, dv = .slice A2 n2 c2 ∧ Kept NoBlk wx w2 ∧ w2.ownsRow wx.heap.size 5 1 (.slice A2 n2 c2) D.length (D.map bv) ∧
              (w2.alloc (.cells #[.int .i64 id, .int .i64 (t : Int), .int .i64 (n : Int), .int .u32 s, .slice A2 n2 c2] 37)).ownsRow w.heap.size 37 5 u9 k (flatP ds 0 (cutN id bs size k)) := by
          intro dv w2 q h3 h4
          have e : q = D.length := by have := h3.1; simp at this; omega
          rw [e, List.nil_append] at h3
          obtain ⟨A2, n2, c2, e2⟩ : ∃ A2 n2 c2, dv = .slice A2 n2 c2 := by
            rcases h3.2 with ⟨e3, _⟩ | ⟨g, cap, cur, e3, _⟩
            · exact ⟨_, _, _, e3⟩
            · exact ⟨_, _, _, e3⟩
          subst e2
          have hk : Kept NoBlk wx w2 := ((Kept.refl NoBlk wx).alloc _).grown h4 (fun g hg => Or.inr (by have e : wx.heap.size = g := Option.some.inj hg; omega))
          refine ⟨A2, n2, c2, rfl, hk, h3, ?_⟩
          have := ownsRow_kept HPc.out.row (hk.alloc (.cells #[.int .i64 id, .int .i64 (t : Int), .int .i64 (n : Int), .int .u32 s, .slice A2 n2 c2] 37)) (fun _ _ e => e.elim)
          rw [Hlk.out] at this
          exact this
        have Hnext := Lib.hid hnext
        clear hnext
        go_wp2_with (first
          | (at_builtin; refine wpList_append_own _ rfl (.tmp 55) (.tmp 61) 22 rfl wx.heap.size 5 j0 (.int .u8 0) 1 1 Tryd.underlying22 Hj.out Hy0.out Hy1.out Hy2.out rfl (by decide) _ _ _ rfl Hown.out _ _ _ (D.map bv) rfl (by have := Hdl2.out; omega) Hcells.out (bv_one D) (by unfold maxLen; omega) (by omega) (by simp) ?_; intro dv w2 hown2 hg2 _; obtain ⟨A2, n2, c2, hdv, hk2, hown3, hrow⟩ := Hnext.out dv w2 _ hown2 hg2; rw [hdv]; have HK2 := Lib.hid hk2; have Hown3 := Lib.hid hown3; clear hown2 hg2 hdv hk2 hown3)
          | (at_builtin; refine wpList_append_own _ rfl (.tmp 49) (.tmp 64) 29 rfl w.heap.size 37 i0 (.agg #[.int .i64 0, .int .i64 0, .int .i64 0, .int .u32 0, .slice none 0 0]) 5 56 Tryd.underlying29 Hi.out Hz0.out Hz1.out Hz2.out rfl (by decide) _ _ _ rfl hrow ⟨w2.heap.size, 0, none⟩ 1 1 (cellsOf (PcD.mk id t n s []) (.slice A2 n2 c2)) rfl rfl (World.news_of_block (cs := #[.int .i64 id, .int .i64 (t : Int), .int .i64 (n : Int), .int .u32 s, .slice A2 n2 c2]) (t := 37) (fr := (0, 0)) (heap_alloc_new w2 _)) (by simp [cellsOf, Value.oneCell']) (by unfold maxLen; omega) (by omega) (by have := (HKp.out.trans HK2.out).size; simp; omega) ?_; intro v' w3 hown4 hg4 _; have R4 := Lib.hid hown4; have G4 := Lib.hid hg4; clear hown4 hg4))
        have hsn : Pcs w3 w.heap.size 37 v' (cutN id bs size (k + 1)) (fun i => if i = (cutN id bs size k).length then .slice A2 n2 c2 else ds i) := by
          rw [cutN_succ]
          refine HPc.out.snoc (by decide) (p := pieceAt id bs size k) (S := fun g => u9.ownBlock = some g) HK2.out ?_ HKp.out.size ?_ ?_ (((Kept.refl _ w2).alloc _).grown G4.out (fun g hg => Or.inl hg)) (fun g hg => hg)
          · unfold pieceAt
            rw [Ht.out, HD.out]
            exact Hown3.out
          · unfold pieceAt
            rw [Ht.out, HD.out]
            have := Hdl.out
            show D.length ≤ _
            omega
          · unfold pieceAt cellsOf
            rw [Ht.out, HL.out, Hs.out, Hlk.out]
            exact R4.out
        have hkk : Kept NoBlk w w3 := ((HKp.out.trans HK2.out).alloc _).grown G4.out (fun g hg => Or.inr (ownsRow_lt HPc.out.row hg).2)
        go_roundg (nP n size - (k + 1))
        case measure => have h1 := Hgk.out; have h2 := Hlt.out; omega
        case rel =>
          have hmul : (k + 1) * size = t + size := by rw [Nat.add_mul, Ht.out]; omega
          exact ⟨k + 1, _, by have h2 := Hlt.out; omega, by rw [hmul]; go_num, hsn, hkk⟩
    · have hk0 := fun h => hlt ((lt_nP (k := k) h1).2 h)
      rw [Ht.out] at hk0
      have hk1 : ¬ (t : Int) = 0 := by
        intro e
        have h3 := Ht.out
        have h4 : t = 0 := by omega
        rw [h4] at h3
        rcases Nat.mul_eq_zero.1 h3 with h | h
        · exact hk0 (Or.inl h)
        · omega
      have hk2 : ¬ (t : Int) < (n : Int) := fun h => hk0 (Or.inr (by omega))
      have hkN : k = nP n size := by have := Hgk.out; omega
      have HkN := Lib.hid hkN
      clear hk0 hlt hkN
      go_wp2_with fail
      go_ret2
      refine ⟨_, ds, rfl, ?_, HKp.out⟩
      unfold cutD
      rw [HL.out, ← HkN.out]
      exact HPc.out
end Go.Proofs.YtnaacgglbeipcaaDoor
