/- codec.Sum: the bytes' CRC, by a table of sixteen; the document's, bit by bit. -/
import Derived.Test.YtnaacgglbeipcaaDoorRows
import Derived.Test.YtnaacgglbeipcaaDoorWords
import Derived.WalkKit
import Derived.WalkSpells
import Derived.WalkLawsBesides
import Derived.Lib.Hide
import Derived.LoopTactic
import Derived.Deep.LoopGhost
import Derived.Deep.DeepCutAuto
namespace Go.Proofs.YtnaacgglbeipcaaDoor
open Go.RowKit

def halfL : List Int := [0, 274646895, 549293790, 820201905, 1098587580, 1361435347, 1640403810, 1905808397, 2197175160, 2460548119, 2722870694, 2987750089, 3280807620, 3553878443, 3811616794, 4084100981]
def half (i : Nat) : Int := halfL.getD i 0
def hv (z : Int) : Value := .int .u32 z
def xor32 (a b : Int) : Int := bits .xor .u32 a b
def low4 (a : Int) : Int := bits .and .u32 a 15
def nib (v : Int) : Int := xor32 (v / 16) (half (low4 v).toNat)
def stepB (v x : Int) : Int := nib (nib (xor32 v x))
def sumT (v : Int) (bs : List UInt8) : Int := bs.foldl (fun v b => stepB v b.toNat) v

theorem wrap32_bound (n : Int) : 0 ≤ IntKind.u32.wrap n ∧ IntKind.u32.wrap n < 4294967296 := by
  rw [IntKind.wrap_u32]
  omega
theorem xor32_bound (a b : Int) : 0 ≤ xor32 a b ∧ xor32 a b < 4294967296 := wrap32_bound _
theorem low4_bound (a : Int) : 0 ≤ low4 a ∧ low4 a < 16 := by
  have e : low4 a = IntKind.u32.wrap (((BitVec.ofInt 32 a &&& BitVec.ofInt 32 15).toNat : Nat) : Int) := rfl
  rw [e, BitVec.toNat_and, IntKind.wrap_u32]
  have h3 : (BitVec.ofInt 32 15).toNat = 15 := by decide
  rw [h3]
  have := Nat.and_le_right (n := (BitVec.ofInt 32 a).toNat) (m := 15)
  omega

theorem half_cell {w : World} {g : Nat} {t : TypeId} (h : Blk w g t (halfL.map hv).toArray) {i : Nat} (hi : i < 16) : w.cell? ⟨g, i, none⟩ = some (.int .u32 (half i)) := by
  rw [h.cell i]
  have hl : i < halfL.length := hi
  simp [half, hv, List.getElem?_eq_getElem hl]

theorem sumT_snoc {v : Int} {bs : List UInt8} {k : Nat} {b : UInt8} (h : bs[k]? = some b) : sumT v (bs.take (k + 1)) = stepB (sumT v (bs.take k)) b.toNat := by
  obtain ⟨hk, rfl⟩ := List.getElem?_eq_some_iff.1 h
  unfold sumT
  rw [List.take_succ_eq_append_getElem hk, List.foldl_append]
  rfl
theorem sumT_bound (v : Int) (hv : 0 ≤ v) (bs : List UInt8) : 0 ≤ sumT v bs := by
  rcases List.eq_nil_or_concat bs with rfl | ⟨l, b, rfl⟩
  · exact hv
  · rw [List.concat_eq_append]
    unfold sumT
    rw [List.foldl_append]
    exact (xor32_bound _ _).1

def SumEnd (z : Int) (w : World) (e : Ending) (w' : World) : Prop := e = .returned (.int .u32 z) ∧ Kept NoBlk w w'
/-- The CRC's bits turned round in the end. -/
def sumOf (bs : List UInt8) : Int := bits .xor .u32 IntKind.u32.max (sumT 4294967295 bs)

set_option maxRecDepth 100000 in
set_option maxHeartbeats 1000000 in
theorem sum_some (A : Option Addr) (n c : Nat) (bs : List UInt8) (w : World) (h : Reads w w.heap.size 1 A n (bs.map bv)) (hn : n ≤ 140737488351232) :
    Calls Tryd.prog 21 #[.slice A n c] w (SumEnd (sumOf bs) w) := by
  have H := Lib.hid h
  have HL := Lib.hid (show bs.length = n by simpa using h.1)
  clear h
  go_enter Tryd.func21, Tryd.ntmps21
  go_upto_region 2 with fail
  go_cut [3, 4] (fun u v wx => u = .pointer (some ⟨w.heap.size, 0, none⟩) ∧ v = .int .u32 4294967295 ∧ Blk wx w.heap.size 78 (halfL.map hv).toArray ∧ Kept NoBlk w wx)
  case first =>
    go_wp2
    go_meet
    exact ⟨rfl, rfl, Blk.new w 78 _, (Kept.refl NoBlk w).alloc _⟩
  case rest =>
    obtain ⟨hu, hv, hb, hk⟩ := hcut
    rw [hu, hv]
    obtain ⟨g, hg⟩ : ∃ g, w.heap.size = g := ⟨_, rfl⟩
    rw [hg] at hb ⊢
    obtain ⟨w1, hw1⟩ : ∃ w1, wc = w1 := ⟨_, rfl⟩
    rw [hw1] at hb hk ⊢
    have HB := Lib.hid hb
    have HK := Lib.hid hk
    have HX := Lib.hid (H.out.kept hk (NoCells.none w))
    clear hu hv hb hk hg hw1
    go_wp2_with fail
    go_loopg [10, 4, 6] n (fun r u v _ wr => ∃ k : Nat, r + k = n ∧ u = .int .i64 k ∧ v = .int .u32 (sumT 4294967295 (bs.take k)) ∧ wr = w1)
    case atStart => exact ⟨0, by omega, rfl, rfl, rfl⟩
    case round =>
      obtain ⟨k, hgk, rfl, rfl, hwr⟩ := hrel
      rw [hwr]
      have Hgk := Lib.hid hgk
      obtain ⟨v0, hv0⟩ : ∃ v0, sumT 4294967295 (bs.take k) = v0 := ⟨_, rfl⟩
      rw [hv0]
      have HV0 := Lib.hid hv0
      clear hgk hwr hv0
      by_cases hlt : k < n
      · obtain ⟨ad, u, rfl, _, hxu, hc⟩ := HX.out.at_ hlt
        rw [List.getElem?_map] at hxu
        obtain ⟨b8, hb8, rfl⟩ := Option.map_eq_some_iff.1 hxu
        obtain ⟨b, off, spot⟩ := ad
        obtain ⟨x, hx⟩ : ∃ x : Int, (b8.toNat : Int) = x := ⟨_, rfl⟩
        rw [show bv b8 = .int .u8 x from by rw [← hx]; rfl] at hc
        have x0 : 0 ≤ x := by omega
        have x1 : x < 256 := by have := b8.toNat_lt; omega
        have k0 : (0 : Int) ≤ (k : Int) := by omega
        have k1 : (k : Int) < (n : Int) := by omega
        have Hx := Lib.hid hx
        clear hx
        go_upto_region 7 with fail
        obtain ⟨v1, hv1⟩ : ∃ v1, bits .xor .u32 v0 x = v1 := ⟨_, rfl⟩
        rw [hv1]
        have Hv1 := Lib.hid hv1
        have b1 : 0 ≤ bits .and .u32 v1 15 ∧ bits .and .u32 v1 15 < 16 := low4_bound v1
        obtain ⟨b1a, b1b⟩ := b1
        have c1 := half_cell HB.out (i := (bits .and .u32 v1 15).toNat) (by omega)
        clear hv1
        go_upto_region 8 with fail
        obtain ⟨v2, hv2⟩ : ∃ v2, bits .xor .u32 (v1 / 16) (half (bits .and .u32 v1 15).toNat) = v2 := ⟨_, rfl⟩
        rw [hv2]
        have Hv2 := Lib.hid hv2
        have b2 : 0 ≤ bits .and .u32 v2 15 ∧ bits .and .u32 v2 15 < 16 := low4_bound v2
        obtain ⟨b2a, b2b⟩ := b2
        have c2 := half_cell HB.out (i := (bits .and .u32 v2 15).toNat) (by omega)
        clear hv2 c1 b1a b1b
        go_wp2_with fail
        go_roundg (n - (k + 1))
        case measure => have := Hgk.out; omega
        case rel =>
          refine ⟨k + 1, by omega, by go_num, ?_, rfl⟩
          rw [sumT_snoc hb8, HV0.out, Hx.out]
          show _ = Value.int .u32 (nib (nib (bits .xor .u32 v0 x)))
          rw [Hv1.out]
          show _ = Value.int .u32 (nib (bits .xor .u32 (v1 / 16) (half (bits .and .u32 v1 15).toNat)))
          rw [Hv2.out]
          rfl
      · have hkn : bs.take k = bs := by
          rw [List.take_of_length_le]
          have h1 := HL.out
          have h2 := Hgk.out
          omega
        rw [hkn] at HV0
        clear hkn
        go_wp2_with fail
        go_ret
        unfold SumEnd sumOf
        rw [HV0.out]
        exact ⟨rfl, HK.out⟩
end Go.Proofs.YtnaacgglbeipcaaDoor
