/- place: a number's digits. -/
import Derived.Test.YtndnbjpcjlbcjaaDoorBroken
namespace Go.Proofs.YtndnbjpcjlbcjaaDoor
open Go.RowKit

/-- The digits ahead of the last. -/
def preD (m : Nat) : List UInt8 := if m < 10 then [] else Lib.decDigits (m / 10)
theorem preD_ge {m : Nat} (h : ¬ m < 10) : preD m = preD (m / 10) ++ [UInt8.ofNat (48 + m / 10 % 10)] := by
  unfold preD
  rw [if_neg h]
  conv => lhs; unfold Lib.decDigits
  split
  · rename_i h'
    have : m / 10 % 10 = m / 10 := Nat.mod_eq_of_lt h'
    rw [this]
    rfl
  · rfl
theorem preD_start (m : Nat) : Lib.decDigits m = preD m ++ [UInt8.ofNat (48 + m % 10)] := by
  conv => lhs; unfold Lib.decDigits
  unfold preD
  split
  · rename_i h'
    have : m % 10 = m := Nat.mod_eq_of_lt h'
    rw [this]
    rfl
  · rfl
theorem one_str (w : World) (m : Nat) (h : m < 256) : (convert 22 9 (.slice (some ⟨w.heap.size, 0, none⟩) 1 1)).run Tryd.prog (w.alloc (.cells #[.int .u8 (m : Int)] 5)) = .ok (.string ⟨#[UInt8.ofNat m]⟩) (w.alloc (.cells #[.int .u8 (m : Int)] 5)) := by
  have := run_convert_bytes_back (P := Tryd.prog) (w.alloc (.cells #[.int .u8 (m : Int)] 5)) 22 9 5 ⟨w.heap.size, 0, none⟩ 1 [UInt8.ofNat m] Tryd.underlying22 Tryd.underlying5 Tryd.underlying9 (fun j hj => by
    have hj0 : j = 0 := by simp at hj; omega
    subst hj0
    have e : (UInt8.ofNat m).toNat = m := by
      rw [UInt8.toNat_ofNat']
      omega
    show _ = some (Value.int IntKind.u8 ((UInt8.ofNat m).toNat : Int))
    rw [e]
    exact (Blk.new w 5 #[.int .u8 (m : Int)]).cell 0)
  simpa using this
theorem digit_of (M : Nat) : ∃ d : Nat, 48 + M % 10 = d ∧ d < 256 ∧ (48 : Int) + (M : Int) % 10 = (d : Int) ∧ (d : Int) % 256 = (d : Int) := ⟨48 + M % 10, rfl, by omega, by omega, by omega⟩
theorem dec_len {M : Nat} (h : M ≤ 9223372036854775807) : (Lib.decDigits M).length ≤ 21 := by
  have := Lib.itoa_length_le (M : Int) (by omega) (by omega)
  unfold Lib.itoa at this
  rw [if_neg (by omega)] at this
  simpa using this

set_option maxRecDepth 100000 in
set_option maxHeartbeats 1000000 in
theorem place20_any (M : Nat) (hM2 : M ≤ 1000) (w : World) : Calls Tryd.prog 20 #[.int .i64 M] w (ValEnd (.string ⟨(Lib.itoa M).toArray⟩) w) := by
  obtain ⟨d, hd1, hd2, hd3, hd4⟩ := digit_of M
  have hs := one_str w d hd2
  have Hd := Lib.hid hd1
  clear hd1
  go_enter Tryd.func20, Tryd.ntmps20
  go_upto_region 2 with fail
  have HR := Lib.hid (show ∃ l : List UInt8, (⟨#[UInt8.ofNat d]⟩ : ByteArray) = ⟨l.toArray⟩ ∧ Lib.decDigits M = preD M ++ l from ⟨[UInt8.ofNat d], rfl, by rw [preD_start M, Hd.out]⟩)
  obtain ⟨s0, hs0⟩ : ∃ s0 : ByteArray, (⟨#[UInt8.ofNat d]⟩ : ByteArray) = s0 := ⟨_, rfl⟩
  obtain ⟨w0, hw0⟩ : ∃ w0, w.alloc (.cells #[.int .u8 (d : Int)] 5) = w0 := ⟨_, rfl⟩
  have HK := Lib.hid (show Kept NoBlk w w0 from by rw [← hw0]; exact (Kept.refl _ w).alloc _)
  rw [hs0] at HR ⊢
  rw [hw0]
  clear hs hs0 hw0 hd2 hd3 hd4 Hd
  go_loopg [0, 3] M (fun r u v wr => ∃ (m : Nat) (s : ByteArray), r = m ∧ u = .int .i64 (m : Int) ∧ v = .string s ∧ m ≤ M ∧ (∃ l : List UInt8, s = ⟨l.toArray⟩ ∧ Lib.decDigits M = preD m ++ l) ∧ Kept NoBlk w wr)
  case atStart => exact ⟨M, s0, rfl, rfl, rfl, Nat.le_refl _, HR.out, HK.out⟩
  case round =>
    obtain ⟨m, s, hrm, rfl, rfl, hmM, hl, hk⟩ := hrel
    have Hrm := Lib.hid hrm
    have Hl := Lib.hid hl
    have Hk := Lib.hid hk
    have hsz : s.size ≤ 100 := by
      obtain ⟨l, rfl, h2⟩ := hl
      have h3 := dec_len (M := M) (by omega)
      rw [h2, List.length_append] at h3
      show l.toArray.size ≤ 100
      simp
      omega
    clear hl hk hrm HR HK
    by_cases hge : m < 10
    · have g1 : (m : Int) < 10 := by omega
      have g2 : ¬ 10 ≤ (m : Int) := by omega
      go_wp2_with fail
      go_ret
      refine ⟨?_, Hk.out⟩
      obtain ⟨l, rfl, h2⟩ := Hl.out
      unfold preD at h2
      rw [if_pos hge, List.nil_append] at h2
      unfold Lib.itoa
      rw [if_neg (by omega), show (M : Int).toNat = M from by omega, h2]
      rfl
    · have g1 : ¬ (m : Int) < 10 := by omega
      have g2 : 10 ≤ (m : Int) := by omega
      obtain ⟨m1, hm1⟩ : ∃ m1, m / 10 = m1 := ⟨_, rfl⟩
      have g3 : (m : Int) / 10 = (m1 : Int) := by omega
      obtain ⟨d1, hd1, hd2, hd3, hd4⟩ := digit_of m1
      have hs := one_str wr d1 hd2
      have g4 : (⟨#[UInt8.ofNat d1]⟩ : ByteArray).size + s.size ≤ 9223372036854775807 := by
        have : (⟨#[UInt8.ofNat d1]⟩ : ByteArray).size = 1 := rfl
        omega
      have hm1M : m1 ≤ M := by omega
      have Hd1 := Lib.hid hd1
      have Hm1 := Lib.hid hm1
      clear hd1 hm1
      go_wp2_with fail
      go_roundg m1
      case measure => have h1 := Hrm.out; have h2 := Hm1.out; omega
      case rel =>
        refine ⟨m1, _, rfl, rfl, rfl, by have := Hm1.out; omega, ?_, Hk.out.alloc _⟩
        obtain ⟨l, rfl, h2⟩ := Hl.out
        refine ⟨UInt8.ofNat d1 :: l, str_app [UInt8.ofNat d1] l, ?_⟩
        rw [h2, preD_ge hge, Hm1.out, Hd1.out]
        simp
end Go.Proofs.YtndnbjpcjlbcjaaDoor
