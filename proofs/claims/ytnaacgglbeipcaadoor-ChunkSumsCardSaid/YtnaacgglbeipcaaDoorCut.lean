/- chunk.Cut: the pieces. -/
import Derived.Test.YtnaacgglbeipcaaDoorSumSame
import Derived.Test.YtnaacgglbeipcaaDoorPieces
import Derived.Deep.QuietTactic
import Derived.WalkMore
namespace Go.Proofs.YtnaacgglbeipcaaDoor
open Go.RowKit

def nP (len size : Nat) : Nat := if len = 0 then 1 else (len + size - 1) / size
def pieceAt (id : Int) (bs : List UInt8) (size k : Nat) : PcD := ⟨id, ((k * size : Nat) : Int), (bs.length : Int), sumOf bs, (bs.drop (k * size)).take size⟩
def cutN (id : Int) (bs : List UInt8) (size k : Nat) : List PcD := (List.range k).map (pieceAt id bs size)
def cutD (id : Int) (bs : List UInt8) (size : Nat) : List PcD := cutN id bs size (nP bs.length size)

theorem cutN_succ (id : Int) (bs : List UInt8) (size k : Nat) : cutN id bs size (k + 1) = cutN id bs size k ++ [pieceAt id bs size k] := by
  unfold cutN
  rw [List.range_succ, List.map_append]
  rfl
theorem cutN_length (id : Int) (bs : List UInt8) (size k : Nat) : (cutN id bs size k).length = k := by
  unfold cutN
  simp
theorem nP_pos {len size : Nat} (hs : 1 ≤ size) : 1 ≤ nP len size := by
  unfold nP
  split
  · omega
  · rw [Nat.le_div_iff_mul_le (by omega)]
    omega
theorem lt_nP {len size k : Nat} (hs : 1 ≤ size) : k < nP len size ↔ k = 0 ∨ k * size < len := by
  rcases Nat.eq_zero_or_pos k with rfl | hk
  · have := nP_pos (len := len) hs
    simp
    omega
  · unfold nP
    split
    · subst_vars
      omega
    · show k + 1 ≤ _ ↔ _
      rw [Nat.le_div_iff_mul_le (by omega), Nat.add_mul]
      omega

theorem piece_info : (Tryd.prog.info? 36).map (fun i => (i.zero, i.size, i.bytes)) = some (some (.agg #[.int .i64 0, .int .i64 0, .int .i64 0, .int .u32 0, .slice none 0 0]), 5, 56) := by kernel_rfl

theorem RdB.sub {w : World} {ad : Addr} {n c t p : Nat} {bs : List UInt8} (h : RdB w (.slice (some ad) n c) bs) (h1 : t ≤ p) (h2 : p ≤ n) : RdB w (.slice (some (ad.add t)) (p - t) (c - t)) ((bs.drop t).take (p - t)) := by
  obtain ⟨A', n', c', e, g1, g2, g3, g4, g5⟩ := h
  injection e with e1 e2 e3
  subst e1
  subst e2
  subst e3
  have hl : bs.length = n := by simpa using g5.1
  refine ⟨_, _, _, rfl, by omega, by omega, by omega, (fun e => by cases e), ?_, fun hp => ?_⟩
  · simp
    omega
  · obtain ⟨ad', e, hb, hc⟩ := g5.2 (by omega)
    cases e
    refine ⟨_, rfl, by rw [block_of_add]; exact hb, fun j u hu => ?_⟩
    rw [Addr.add_add]
    refine hc (t + j) u ?_
    rw [List.getElem?_map] at hu ⊢
    rw [List.getElem?_take] at hu
    split at hu
    · rw [List.getElem?_drop] at hu
      exact hu
    · simp at hu
theorem RdB.empty {w : World} (ad : Addr) : RdB w (.slice (some ad) 0 0) [] :=
  ⟨_, _, _, rfl, Nat.le_refl _, by unfold maxLen; omega, by omega, (fun e => by cases e), rfl, fun h => absurd h (by omega)⟩

/-- What the slicing of a slice gives. -/
def convCut (ad : Addr) (t p c : Nat) : Value := if c = t then .slice (some ad) (p - t) 0 else .slice (some (ad.add t)) (p - t) (c - t)

def CutEnd (base : Nat) (ps : List PcD) (w : World) (e : Ending) (w' : World) : Prop := ∃ v ds, e = .returned (.tuple #[v, .nilIface]) ∧ Pcs w' base 36 v ps ds ∧ Kept NoBlk w w'

set_option maxRecDepth 100000 in
set_option maxHeartbeats 2000000 in
theorem cut_some (id : Int) (ad : Addr) (n c size : Nat) (bs : List UInt8) (w : World) (h : Reads w w.heap.size 1 (some ad) n (bs.map bv)) (hnc : n ≤ c) (hc : c ≤ maxLen) (hn : n ≤ 1048576) (hid : 0 ≤ id) (h1 : 1 ≤ size) (h2 : size ≤ 65536) :
    Calls Tryd.prog 8 #[.int .i64 id, .slice (some ad) n c, .int .i64 (size : Int)] w (CutEnd w.heap.size (cutD id bs size) w) := by
  have hR : RdB w (.slice (some ad) n c) bs := ⟨_, _, _, rfl, hnc, hc, by omega, (fun e => by cases e), h⟩
  have HR := Lib.hid hR
  have HL := Lib.hid (show bs.length = n by simpa using h.1)
  have H := Lib.hid h
  have q0 : ¬ id < 0 := by omega
  have q1 : ¬ (size : Int) < 1 := by omega
  have q2 : ¬ 65536 < (size : Int) := by omega
  have q3 : ¬ 1048576 < (n : Int) := by omega
  clear h hR
  go_enter Tryd.func8, Tryd.ntmps8
  go_wp2_with fail
  go_step3
  go_wp2_with fail
  refine (sum_any HR.out).mono ?_
  rintro e w1 ⟨rfl, hk1⟩
  obtain ⟨s, hs⟩ : ∃ s, sumOf bs = s := ⟨_, rfl⟩
  rw [hs]
  have Hs := Lib.hid hs
  have HK1 := Lib.hid hk1
  clear hs hk1
  go_wp2_with fail
  go_step3
  go_wp2_with fail
  go_loopg [10, 8, 11] (nP n size) (fun r u v _ wr => ∃ (k : Nat) (ds : Nat → Value), r + k = nP n size ∧ k < nP n size ∧ u = .int .i64 ((k * size : Nat) : Int) ∧ Pcs wr w.heap.size 36 v (cutN id bs size k) ds ∧ Kept NoBlk w wr)
  case atStart => exact ⟨0, fun _ => .nilIface, by omega, nP_pos h1, by simp, Pcs.nil_ _ _ _ _, HK1.out⟩
  case round =>
    obtain ⟨k, ds, hgk, hlt, rfl, hpc, hkp⟩ := hrel
    have hat : k * size ≤ n := by
      rcases (lt_nP (k := k) h1).1 hlt with rfl | h
      · simp
      · omega
    obtain ⟨t, ht⟩ : ∃ t, k * size = t := ⟨_, rfl⟩
    rw [ht] at hat ⊢
    have hcl : (((bs.drop t).take size).length = min size (n - t)) := by
      rw [List.length_take, List.length_drop, HL.out]
    have Hcl := Lib.hid hcl
    have Hgk := Lib.hid hgk
    have Hlt := Lib.hid hlt
    have Ht := Lib.hid ht
    have HPc := Lib.hid hpc
    have HKp := Lib.hid hkp
    obtain ⟨wx, hwx⟩ : ∃ wx, wr = wx := ⟨_, rfl⟩
    rw [hwx] at HPc HKp ⊢
    clear hgk hlt ht hpc hkp HK1 hcl hwx
    obtain ⟨p, hp⟩ : ∃ p, min (t + size) n = p := ⟨_, rfl⟩
    have hp1 : t ≤ p := by omega
    have hp2 : p ≤ n := by omega
    have Hp := Lib.hid hp
    clear hp
    go_upto_region 9 with fail
    go_cut [11] (fun v wy => v = .int .i64 (p : Int) ∧ wy = wx)
    case first =>
      go_wp2
      all_goals
        go_meet
        refine ⟨?_, rfl⟩
        have := Hp.out
        exact congrArg (Value.int .i64) (by omega)
    case rest =>
      obtain ⟨hu, hw⟩ := hcut
      rw [hu, hw]
      clear hu hw
      have hdata : (bs.drop t).take (p - t) = (bs.drop t).take size := by
        have := Hp.out
        rw [List.take_eq_take_iff, List.length_drop, HL.out]
        omega
      have hv : ∃ cv : Value, (convCut ad t p c = cv) ∧ RdB wx cv ((bs.drop t).take size) := by
        refine ⟨_, rfl, ?_⟩
        unfold convCut
        split
        · rename_i hct
          have e : (bs.drop t).take size = [] := by
            have h1 := HL.out
            have h2 : n ≤ t := by omega
            rw [List.drop_eq_nil_of_le (by omega)]
            simp
          rw [e]
          have e2 : p - t = 0 := by omega
          rw [e2]
          exact RdB.empty ad
        · rw [← hdata]
          exact (HR.out.kept HKp.out (NoCells.none w)).sub hp1 hp2
      have p0 : (0 : Int) ≤ (t : Int) := by omega
      have p1 : (t : Int) ≤ (p : Int) := by omega
      have p2 : (p : Int) ≤ (c : Int) := by omega
      have hlk := cutN_length id bs size k
      have hkb : k ≤ 1048576 := by
        have h3 := (lt_nP (k := k) h1).1 Hlt.out
        have h4 : k * 1 ≤ k * size := Nat.mul_le_mul_left k h1
        rcases h3 with h3 | h3 <;> omega
      have hpl : ∀ x : List UInt8, x = (bs.drop t).take size → x.length ≤ 140737488351232 := by
        intro x hx
        have := Hcl.out
        rw [hx]
        omega
      have Hpl := Lib.hid hpl
      have Hlk := Lib.hid hlk
      obtain ⟨i0, hi, hz0, hz1, hz2⟩ := info_parts piece_info
      have Hi := Lib.hid hi
      have Hz0 := Lib.hid hz0
      have Hz1 := Lib.hid hz1
      have Hz2 := Lib.hid hz2
      clear hpl hlk hi hz0 hz1 hz2 hdata
      have hbb : ((p : Int) == (n : Int)) = decide (p = n) := by
        by_cases e : p = n
        · subst e
          simp
        · have : ¬ (p : Int) = (n : Int) := by omega
          simp [e, this]
      by_cases hpn : p = n
      all_goals
       (first | rw [decide_eq_true hpn] at hbb | rw [decide_eq_false hpn] at hbb)
       have Hpn := Lib.hid hpn
       clear hpn
      all_goals
       by_cases hct : c = t
      all_goals
        unfold convCut at hv
        first | rw [if_pos hct] at hv | rw [if_neg hct] at hv
        obtain ⟨cv, hcv, hrd⟩ := hv
        have HRd := Lib.hid hrd
        have Hcv := Lib.hid hcv
        clear hrd hcv
        go_wp2_with fail
        refine (clone_any _ ((bs.drop t).take size) _ (by rw [Hcv.out]; exact HRd.out)).mono ?_
        rintro e w2 ⟨dv, rfl, hrd2, hk2, hown⟩
        obtain ⟨A2, n2, c2, hdv⟩ : ∃ A2 n2 c2, dv = .slice A2 n2 c2 := by
          obtain ⟨A2, n2, c2, e, _⟩ := hrd2
          exact ⟨A2, n2, c2, e⟩
        rw [hdv] at hown ⊢
        have hkb2 : Kept NoBlk wx (w2.alloc (.cells #[.int .i64 id, .int .i64 (t : Int), .int .i64 (n : Int), .int .u32 s, .slice A2 n2 c2] 36)) := hk2.alloc _
        have hrow := ownsRow_kept HPc.out.row hkb2 (fun _ _ e => e.elim)
        have hbase : w.heap.size ≤ w2.heap.size := (HKp.out.trans hk2).size
        have Hown := Lib.hid hown
        have HK2 := Lib.hid hk2
        clear hrd2 hdv hown hk2 hkb2
        rw [Hlk.out] at hrow
        go_wp2_with (at_builtin; refine wpList_append_own _ rfl (.tmp 48) (.tmp 60) 24 rfl w.heap.size 36 i0 (.agg #[.int .i64 0, .int .i64 0, .int .i64 0, .int .u32 0, .slice none 0 0]) 5 56 Tryd.underlying24 Hi.out Hz0.out Hz1.out Hz2.out rfl (by decide) _ _ _ rfl hrow ⟨w2.heap.size, 0, none⟩ 1 1 [.int .i64 id, .int .i64 (t : Int), .int .i64 (n : Int), .int .u32 s, .slice A2 n2 c2] rfl rfl (World.news_of_block (cs := #[.int .i64 id, .int .i64 (t : Int), .int .i64 (n : Int), .int .u32 s, .slice A2 n2 c2]) (t := 36) (fr := (0, 0)) (heap_alloc_new w2 _)) (by simp [Value.oneCell']) (by unfold maxLen; omega) (by omega) (by simp; omega) ?_; intro v' w3 hown3 hg3 _; have R3 := Lib.hid hown3; have G3 := Lib.hid hg3; clear hown3 hg3)
        all_goals
          have hsn : Pcs w3 w.heap.size 36 v' (cutN id bs size (k + 1)) (fun i => if i = (cutN id bs size k).length then .slice A2 n2 c2 else ds i) := by
            rw [cutN_succ]
            refine HPc.out.snoc (by decide) (p := pieceAt id bs size k) (S := fun g => u8.ownBlock = some g) HK2.out ?_ HKp.out.size ?_ ?_ (((Kept.refl _ w2).alloc _).grown G3.out (fun g hg => Or.inl hg)) (fun g hg => hg)
            · unfold pieceAt
              rw [Ht.out]
              exact Hown.out
            · unfold pieceAt
              rw [Ht.out]
              exact Hpl.out _ rfl
            · unfold pieceAt cellsOf
              rw [Ht.out, HL.out, Hs.out, Hlk.out]
              exact R3.out
          have hkk : Kept NoBlk w w3 := ((HKp.out.trans HK2.out).alloc _).grown G3.out (fun g hg => Or.inr (ownsRow_lt HPc.out.row hg).2)
          have hpp := Hp.out
          have hpn := Hpn.out
          have htt := Ht.out
          have hll := Hlt.out
          have hnn := lt_nP (len := n) (k := k + 1) h1
          have hmul : (k + 1) * size = t + size := by rw [Nat.add_mul, htt]; omega
          rw [hmul] at hnn
          by_cases hlast : n ≤ t + size
          · have hN : nP n size = k + 1 := by
              rcases Nat.lt_or_ge (k + 1) (nP n size) with h | h
              · rcases hnn.1 h with h | h <;> omega
              · omega
            first
              | (exfalso; omega)
              | (rw [Exit.noGoto_ret]
                 go_ret2
                 refine ⟨v', (fun i => if i = (cutN id bs size k).length then .slice A2 n2 c2 else ds i), rfl, ?_, hkk⟩
                 unfold cutD
                 rw [HL.out, hN]
                 exact hsn)
          · first
              | (exfalso; omega)
              | (go_roundg (nP n size - (k + 1))
                 case measure => have := Hgk.out; omega
                 case rel =>
                   have h4 : k + 1 < nP n size := hnn.2 (Or.inr (by omega))
                   exact ⟨k + 1, _, by omega, h4, by rw [hmul]; go_num, hsn, hkk⟩)
end Go.Proofs.YtnaacgglbeipcaaDoor
