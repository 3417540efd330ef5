/- The table's CRC is the one bit by bit. -/
import Derived.Test.YtnaacgglbeipcaaDoorRefSum
namespace Go.Proofs.YtnaacgglbeipcaaDoor
open Go.RowKit

def tI (V : BitVec 32) : Int := (V.toNat : Int)
def poly : BitVec 32 := 0x82F63B78#32
def bB (v : BitVec 32) : BitVec 32 := (v >>> 1) ^^^ (if v.getLsbD 0 then poly else 0#32)

theorem wrap_tI (V : BitVec 32) : IntKind.u32.wrap (V.toNat : Int) = tI V := by
  rw [IntKind.wrap_u32]
  have := V.isLt
  unfold tI
  omega
theorem ofInt_tI (V : BitVec 32) : BitVec.ofInt 32 (tI V) = V := by
  unfold tI
  rw [BitVec.ofInt_natCast, BitVec.ofNat_toNat, BitVec.setWidth_eq]
theorem bits_xor (V W : BitVec 32) : bits .xor .u32 (tI V) (tI W) = tI (V ^^^ W) := by
  have e : bits .xor .u32 (tI V) (tI W) = IntKind.u32.wrap (((BitVec.ofInt 32 (tI V) ^^^ BitVec.ofInt 32 (tI W)).toNat : Nat) : Int) := rfl
  rw [e, ofInt_tI, ofInt_tI, wrap_tI]
theorem bits_and (V W : BitVec 32) : bits .and .u32 (tI V) (tI W) = tI (V &&& W) := by
  have e : bits .and .u32 (tI V) (tI W) = IntKind.u32.wrap (((BitVec.ofInt 32 (tI V) &&& BitVec.ofInt 32 (tI W)).toNat : Nat) : Int) := rfl
  rw [e, ofInt_tI, ofInt_tI, wrap_tI]
theorem tI_half (V : BitVec 32) : tI V / (2 : Int) = tI (V >>> 1) := by
  unfold tI
  rw [BitVec.toNat_ushiftRight, Nat.shiftRight_eq_div_pow]
  omega
theorem tI_16 (V : BitVec 32) : tI V / (16 : Int) = tI (V >>> 4) := by
  unfold tI
  rw [BitVec.toNat_ushiftRight, Nat.shiftRight_eq_div_pow]
  omega
theorem tI_of {v : Int} (h0 : 0 ≤ v) (h1 : v < 4294967296) : ∃ V : BitVec 32, v = tI V := by
  refine ⟨BitVec.ofNat 32 v.toNat, ?_⟩
  unfold tI
  rw [BitVec.toNat_ofNat]
  omega
theorem tI_one : (1 : Int) = tI 1#32 := by decide
theorem tI_15 : (15 : Int) = tI 15#32 := by decide
theorem tI_poly : (2197175160 : Int) = tI poly := by decide
theorem tI_inj {V W : BitVec 32} (h : tI V = tI W) : V = W := by
  unfold tI at h
  exact BitVec.eq_of_toNat_eq (by omega)

theorem low_bit (V : BitVec 32) : V &&& 1#32 = 1#32 ↔ V.getLsbD 0 = true := by
  constructor
  · intro h
    have := congrArg (fun x => BitVec.getLsbD x 0) h
    simpa using this
  · intro h
    apply BitVec.eq_of_getLsbD_eq
    intro i hi
    rw [BitVec.getLsbD_and]
    by_cases e : i = 0
    · subst e
      rw [h]
      rfl
    · have h1 : (1#32).getLsbD i = false := by
        rw [BitVec.getLsbD_one]
        simp
        omega
      rw [h1]
      simp

theorem bit1_tI (V : BitVec 32) : bit1 (tI V) = tI (bB V) := by
  unfold bit1 bB
  rw [tI_one, tI_poly, bits_and, tI_half, bits_xor]
  by_cases h : V.getLsbD 0 = true
  · rw [if_pos (by rw [(low_bit V).2 h]), if_pos h]
  · rw [if_neg (fun e => h ((low_bit V).1 (tI_inj e))), if_neg h, BitVec.xor_zero]

theorem bB_xor (x y : BitVec 32) : bB (x ^^^ y) = bB x ^^^ bB y := by
  unfold bB
  rw [BitVec.ushiftRight_xor_distrib, BitVec.getLsbD_xor]
  have a4 : ∀ a b c d : BitVec 32, a ^^^ b ^^^ (c ^^^ d) = a ^^^ c ^^^ (b ^^^ d) := by
    intro a b c d
    rw [BitVec.xor_assoc, BitVec.xor_assoc, ← BitVec.xor_assoc b, BitVec.xor_comm b c, BitVec.xor_assoc]
  cases x.getLsbD 0 <;> cases y.getLsbD 0
  · simp
  · simp [BitVec.xor_assoc]
  · have := a4 (x >>> 1) poly (y >>> 1) 0#32
    simp at this ⊢
    rw [this]
  · have := a4 (x >>> 1) poly (y >>> 1) poly
    simp at this ⊢
    rw [this]

theorem bB_even {v : BitVec 32} (h : v.getLsbD 0 = false) : bB v = v >>> 1 := by
  unfold bB
  rw [h]
  simp

def b4 (v : BitVec 32) : BitVec 32 := bB (bB (bB (bB v)))
theorem b4_xor (x y : BitVec 32) : b4 (x ^^^ y) = b4 x ^^^ b4 y := by
  unfold b4
  rw [bB_xor, bB_xor, bB_xor, bB_xor]
def hiB (v : BitVec 32) : BitVec 32 := (v >>> 4) <<< 4
theorem split_hi (v : BitVec 32) : v = hiB v ^^^ (v &&& 15#32) := by
  apply BitVec.eq_of_getLsbD_eq
  intro i hi
  unfold hiB
  rw [BitVec.getLsbD_xor, BitVec.getLsbD_and, BitVec.getLsbD_shiftLeft, BitVec.getLsbD_ushiftRight]
  by_cases e : i < 4
  · have h15 : (15#32).getLsbD i = true := by
      have : i = 0 ∨ i = 1 ∨ i = 2 ∨ i = 3 := by omega
      rcases this with rfl | rfl | rfl | rfl <;> decide
    rw [h15]
    simp [e]
  · have h15 : (15#32).getLsbD i = false := by
      rw [show (15#32) = BitVec.ofNat 32 (2^4 - 1) from rfl, BitVec.getLsbD_ofNat, Nat.testBit_two_pow_sub_one]
      simp [e]
    rw [h15]
    have e4 : 4 + (i - 4) = i := by omega
    simp [e, hi, e4]
theorem hi_bit (v : BitVec 32) (i : Nat) (h : i < 4) : (hiB v).getLsbD i = false := by
  unfold hiB
  rw [BitVec.getLsbD_shiftLeft]
  simp [h]
theorem b4_hi (v : BitVec 32) : b4 (hiB v) = v >>> 4 := by
  have h1 : bB (hiB v) = hiB v >>> 1 := bB_even (hi_bit v 0 (by omega))
  have h2 : bB (hiB v >>> 1) = hiB v >>> 1 >>> 1 := bB_even (by rw [BitVec.getLsbD_ushiftRight]; exact hi_bit v 1 (by omega))
  have h3 : bB (hiB v >>> 1 >>> 1) = hiB v >>> 1 >>> 1 >>> 1 := bB_even (by rw [BitVec.getLsbD_ushiftRight, BitVec.getLsbD_ushiftRight]; exact hi_bit v 2 (by omega))
  have h4 : bB (hiB v >>> 1 >>> 1 >>> 1) = hiB v >>> 1 >>> 1 >>> 1 >>> 1 := bB_even (by rw [BitVec.getLsbD_ushiftRight, BitVec.getLsbD_ushiftRight, BitVec.getLsbD_ushiftRight]; exact hi_bit v 3 (by omega))
  unfold b4
  rw [h1, h2, h3, h4]
  apply BitVec.eq_of_getLsbD_eq
  intro i hi
  unfold hiB
  simp only [BitVec.getLsbD_ushiftRight, BitVec.getLsbD_shiftLeft]
  by_cases e : i < 28
  · have h1 : 1 + (1 + (1 + (1 + i))) < 32 := by omega
    have h2 : ¬ 1 + (1 + (1 + (1 + i))) < 4 := by omega
    have h3 : 4 + (1 + (1 + (1 + (1 + i))) - 4) = 4 + i := by omega
    simp [h1, h2, h3]
  · have h1 : ¬ 1 + (1 + (1 + (1 + i))) < 32 := by omega
    have h2 : v.getLsbD (4 + i) = false := BitVec.getLsbD_of_ge _ _ (by omega)
    simp [h1, h2]
theorem tab_b4 : ∀ i : Fin 16, half i.val = tI (b4 (BitVec.ofNat 32 i.val)) := by decide +kernel
theorem low15 (v : BitVec 32) : ∃ i : Fin 16, v &&& 15#32 = BitVec.ofNat 32 i.val := by
  have h : (v &&& 15#32).toNat < 16 := by
    rw [BitVec.toNat_and]
    have := Nat.and_le_right (n := v.toNat) (m := (15#32).toNat)
    have h15 : (15#32).toNat = 15 := by decide
    omega
  exact ⟨⟨_, h⟩, by simp⟩

theorem nib_tI (V : BitVec 32) : nib (tI V) = tI (b4 V) := by
  have hs := congrArg b4 (split_hi V)
  rw [b4_xor, b4_hi] at hs
  unfold nib low4 xor32
  rw [tI_15, bits_and, tI_16]
  obtain ⟨i, hi⟩ := low15 V
  rw [hi] at hs ⊢
  have e : (tI (BitVec.ofNat 32 i.val)).toNat = i.val := by
    unfold tI
    rw [BitVec.toNat_ofNat]
    have := i.isLt
    omega
  rw [e, tab_b4 i, bits_xor, ← hs]

theorem bitN8_tI (V : BitVec 32) : bitN 8 (tI V) = tI (b4 (b4 V)) := by
  unfold b4
  simp only [bitN, bit1_tI]
theorem step_same (V X : BitVec 32) : stepB (tI V) (tI X) = stepR (tI V) (tI X) := by
  unfold stepB stepR xor32
  rw [bits_xor, nib_tI, nib_tI, bitN8_tI]
theorem step_tI (V X : BitVec 32) : ∃ U, stepB (tI V) (tI X) = tI U := by
  unfold stepB xor32
  rw [bits_xor, nib_tI, nib_tI]
  exact ⟨_, rfl⟩
theorem byte_tI (b : UInt8) : (b.toNat : Int) = tI (BitVec.ofNat 32 b.toNat) := by
  unfold tI
  rw [BitVec.toNat_ofNat]
  have := b.toNat_lt
  omega
theorem sum_same : ∀ (bs : List UInt8) (V : BitVec 32), sumT (tI V) bs = sumR (tI V) bs
  | [], _ => rfl
  | b :: bs, V => by
    show sumT (stepB (tI V) b.toNat) bs = sumR (stepR (tI V) b.toNat) bs
    rw [byte_tI b, ← step_same]
    obtain ⟨U, hU⟩ := step_tI V (BitVec.ofNat 32 b.toNat)
    rw [hU]
    exact sum_same bs U
theorem sumOf_ref (bs : List UInt8) : sumRef bs = sumOf bs := by
  unfold sumRef sumOf
  have e : (4294967295 : Int) = tI 4294967295#32 := by decide
  rw [e, sum_same bs]

/-- A slice of bytes: nil or not. -/
theorem sum_any {v : Value} {bs : List UInt8} {w : World} (h : RdB w v bs) : Calls Tryd.prog 21 #[v] w (SumEnd (sumOf bs) w) := by
  obtain ⟨A, n, c, rfl, _, _, hn, _, hr⟩ := h
  exact sum_some A n c bs w hr hn
theorem sumRef_any {v : Value} {bs : List UInt8} {w : World} (h : RdB w v bs) : Calls Tryd.prog 23 #[v] w (SumEnd (sumOf bs) w) := by
  obtain ⟨A, n, c, rfl, _, _, hn, _, hr⟩ := h
  rw [← sumOf_ref]
  exact sumRef_some A n c bs w hr hn
end Go.Proofs.YtnaacgglbeipcaaDoor
