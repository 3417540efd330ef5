/- The document's Sum: the bytes' CRC bit by bit. -/
import Derived.Test.YtnaacgglbeipcaaDoorSum
namespace Go.Proofs.YtnaacgglbeipcaaDoor
open Go.RowKit

def bit1 (v : Int) : Int := if bits .and .u32 v 1 = 1 then bits .xor .u32 (v / 2) 2197175160 else v / 2
def bitN : Nat → Int → Int
  | 0, v => v
  | n + 1, v => bit1 (bitN n v)
def stepR (v x : Int) : Int := bitN 8 (xor32 v x)
def sumR (v : Int) (bs : List UInt8) : Int := bs.foldl (fun v b => stepR v b.toNat) v
def sumRef (bs : List UInt8) : Int := bits .xor .u32 IntKind.u32.max (sumR 4294967295 bs)

theorem sumR_snoc {v : Int} {bs : List UInt8} {k : Nat} {b : UInt8} (h : bs[k]? = some b) : sumR v (bs.take (k + 1)) = stepR (sumR v (bs.take k)) b.toNat := by
  obtain ⟨hk, rfl⟩ := List.getElem?_eq_some_iff.1 h
  unfold sumR
  rw [List.take_succ_eq_append_getElem hk, List.foldl_append]
  rfl

set_option maxRecDepth 100000 in
set_option maxHeartbeats 1000000 in
theorem sumRef_some (A : Option Addr) (n c : Nat) (bs : List UInt8) (w : World) (h : Reads w w.heap.size 1 A n (bs.map bv)) (hn : n ≤ 140737488351232) :
    Calls Tryd.prog 23 #[.slice A n c] w (SumEnd (sumRef bs) w) := by
  have H := Lib.hid h
  have HL := Lib.hid (show bs.length = n by simpa using h.1)
  clear h
  go_enter Tryd.func23, Tryd.ntmps23
  go_wp2_with fail
  go_loopg [4, 3, 5] n (fun r u v _ wr => ∃ k : Nat, r + k = n ∧ u = .int .i64 k ∧ v = .int .u32 (sumR 4294967295 (bs.take k)) ∧ wr = w)
  case atStart => exact ⟨0, by omega, rfl, rfl, rfl⟩
  case round =>
    obtain ⟨k, hgk, rfl, rfl, hwr⟩ := hrel
    rw [hwr]
    have Hgk := Lib.hid hgk
    obtain ⟨v0, hv0⟩ : ∃ v0, sumR 4294967295 (bs.take k) = v0 := ⟨_, rfl⟩
    rw [hv0]
    have HV0 := Lib.hid hv0
    clear hgk hwr hv0
    by_cases hlt : k < n
    · obtain ⟨ad, u, rfl, _, hxu, hc⟩ := H.out.at_ hlt
      rw [List.getElem?_map] at hxu
      obtain ⟨b8, hb8, rfl⟩ := Option.map_eq_some_iff.1 hxu
      obtain ⟨b, off, spot⟩ := ad
      obtain ⟨x, hx⟩ : ∃ x : Int, (b8.toNat : Int) = x := ⟨_, rfl⟩
      rw [show bv b8 = .int .u8 x from by rw [← hx]; rfl] at hc
      have x0 : 0 ≤ x := by omega
      have x1 : x < 256 := by have := b8.toNat_lt; omega
      have k0 : (0 : Int) ≤ (k : Int) := by omega
      have k1 : (k : Int) < (n : Int) := by omega
      have Hx := Lib.hid hx
      clear hx
      go_upto_region 6 with fail
      obtain ⟨v1, hv1⟩ : ∃ v1, bits .xor .u32 v0 x = v1 := ⟨_, rfl⟩
      rw [hv1]
      have Hv1 := Lib.hid hv1
      clear hv1
      go_wp2_with fail
      go_loopg [5, 3] 8 (fun r u v wi => ∃ j : Nat, r + j = 8 ∧ u = .int .i64 j ∧ v = .int .u32 (bitN j v1) ∧ wi = w)
      case atStart => exact ⟨0, by omega, rfl, rfl, rfl⟩
      case round =>
        obtain ⟨j, hgj, rfl, rfl, hwi⟩ := hrel
        rw [hwi]
        have Hgj := Lib.hid hgj
        obtain ⟨v2, hv2⟩ : ∃ v2, bitN j v1 = v2 := ⟨_, rfl⟩
        rw [hv2]
        have HV2 := Lib.hid hv2
        clear hgj hwi hv2
        by_cases hlj : j < 8
        · have j1 : (j : Int) < 8 := by omega
          have j2 : decide ((j : Int) < 8) = true := by simpa using j1
          by_cases hb : bits .and .u32 v2 1 = 1
          · go_wp2_with fail
            go_roundg (8 - (j + 1))
            case measure => have := Hgj.out; omega
            case rel =>
              refine ⟨j + 1, by omega, by go_num, ?_, rfl⟩
              show _ = Value.int .u32 (bit1 (bitN j v1))
              rw [HV2.out]
              unfold bit1
              rw [if_pos hb]
          · go_wp2_with fail
            go_roundg (8 - (j + 1))
            case measure => have := Hgj.out; omega
            case rel =>
              refine ⟨j + 1, by omega, by go_num, ?_, rfl⟩
              show _ = Value.int .u32 (bit1 (bitN j v1))
              rw [HV2.out]
              unfold bit1
              rw [if_neg hb]
        · have j1 : ¬ (j : Int) < 8 := by omega
          have HJ := Lib.hid (show j = 8 by have := Hgj.out; omega)
          go_wp2_with fail
          go_roundg (n - (k + 1))
          case measure => have := Hgk.out; omega
          case rel =>
            refine ⟨k + 1, by omega, by go_num, ?_, rfl⟩
            rw [sumR_snoc hb8, HV0.out, Hx.out]
            show _ = Value.int .u32 (bitN 8 (bits .xor .u32 v0 x))
            rw [Hv1.out, ← HV2.out, HJ.out]
    · have hkn : bs.take k = bs := by
        rw [List.take_of_length_le]
        have h1 := HL.out
        have h2 := Hgk.out
        omega
      rw [hkn] at HV0
      clear hkn
      go_wp2_with fail
      go_ret
      unfold SumEnd sumRef
      rw [HV0.out]
      exact ⟨rfl, Kept.refl _ _⟩
end Go.Proofs.YtnaacgglbeipcaaDoor
