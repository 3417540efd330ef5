/- The sum of bytes of which one was turned is another: plain Lean. -/
import Derived.Test.YtnaacgglbeipcaaDoorSumSame
namespace Go.Proofs.YtnaacgglbeipcaaDoor
open Go.RowKit

theorem bB_top (v : BitVec 32) : (bB v).getLsbD 31 = v.getLsbD 0 := by
  unfold bB
  rw [BitVec.getLsbD_xor, BitVec.getLsbD_ushiftRight]
  have h1 : v.getLsbD (1 + 31) = false := BitVec.getLsbD_of_ge _ _ (by omega)
  rw [h1]
  cases v.getLsbD 0
  · rfl
  · rfl
theorem bB_inj {x y : BitVec 32} (h : bB x = bB y) : x = y := by
  have h0 : x.getLsbD 0 = y.getLsbD 0 := by rw [← bB_top x, ← bB_top y, h]
  have hs : x >>> 1 = y >>> 1 := by
    unfold bB at h
    rw [h0] at h
    have h2 := congrArg (fun z => z ^^^ (if y.getLsbD 0 then poly else 0#32)) h
    simpa [BitVec.xor_assoc] using h2
  apply BitVec.eq_of_getLsbD_eq
  intro i hi
  cases i with
  | zero => exact h0
  | succ i =>
    have h3 := congrArg (fun z => BitVec.getLsbD z i) hs
    simp only [BitVec.getLsbD_ushiftRight] at h3
    rw [Nat.add_comm i 1]
    exact h3
theorem b4_inj {x y : BitVec 32} (h : b4 x = b4 y) : x = y := bB_inj (bB_inj (bB_inj (bB_inj h)))

def fB (v : BitVec 32) (b : UInt8) : BitVec 32 := b4 (b4 (v ^^^ BitVec.ofNat 32 b.toNat))
theorem sumT_fB : ∀ (bs : List UInt8) (V : BitVec 32), sumT (tI V) bs = tI (bs.foldl fB V)
  | [], _ => rfl
  | b :: bs, V => by
    show sumT (stepB (tI V) b.toNat) bs = tI (bs.foldl fB (fB V b))
    rw [← sumT_fB bs (fB V b)]
    congr 1
    rw [byte_tI b]
    unfold stepB xor32 fB
    rw [bits_xor, nib_tI, nib_tI]
theorem xor_left_inj {x y z : BitVec 32} (h : x ^^^ z = y ^^^ z) : x = y := by
  have h2 := congrArg (fun u => u ^^^ z) h
  simpa [BitVec.xor_assoc] using h2
theorem xor_right_inj {x y z : BitVec 32} (h : z ^^^ x = z ^^^ y) : x = y := by
  rw [BitVec.xor_comm z x, BitVec.xor_comm z y] at h
  exact xor_left_inj h
theorem fold_inj : ∀ (bs : List UInt8) {V W : BitVec 32}, bs.foldl fB V = bs.foldl fB W → V = W
  | [], _, _, h => h
  | b :: bs, V, W, h => xor_left_inj (b4_inj (b4_inj (fold_inj bs (V := fB V b) (W := fB W b) h)))
theorem byte_inj {a b : UInt8} (h : BitVec.ofNat 32 a.toNat = BitVec.ofNat 32 b.toNat) : a = b := by
  have h1 := congrArg BitVec.toNat h
  rw [BitVec.toNat_ofNat, BitVec.toNat_ofNat] at h1
  have ha := a.toNat_lt
  have hb := b.toNat_lt
  exact UInt8.toNat_inj.1 (by omega)
theorem fold_set : ∀ (bs : List UInt8) (p : Nat) (b a : UInt8) {V : BitVec 32}, bs[p]? = some a → (bs.set p b).foldl fB V = bs.foldl fB V → b = a
  | [], _, _, _, _, h, _ => by simp at h
  | x :: bs, 0, b, a, V, h, hf => by
    have e : x = a := by simpa using h
    subst e
    exact byte_inj (xor_right_inj (b4_inj (b4_inj (fold_inj bs (V := fB V b) (W := fB V x) hf))))
  | x :: bs, p + 1, b, a, V, h, hf => fold_set bs p b a (V := fB V x) (by simpa using h) hf
/-- One byte turned: another sum. -/
theorem sum_turned {bs : List UInt8} {p : Nat} {a b : UInt8} (h : bs[p]? = some a) (hne : b ≠ a) : sumOf (bs.set p b) ≠ sumOf bs := by
  intro hs
  unfold sumOf at hs
  have e : (4294967295 : Int) = tI 4294967295#32 := by decide
  have e2 : (IntKind.u32.max : Int) = tI 4294967295#32 := by decide
  rw [e, e2, sumT_fB, sumT_fB, bits_xor, bits_xor] at hs
  exact hne (fold_set bs p b a h (xor_right_inj (tI_inj hs)))

/-! ### A byte, turned -/
theorem byte_xor (b : UInt8) {t : Int} (h0 : 0 ≤ t) (h1 : t < 256) (hne : t ≠ 0) : ∃ b' : UInt8, bits .xor .u8 (b.toNat : Int) t = (b'.toNat : Int) ∧ b' ≠ b := by
  obtain ⟨n, rfl⟩ : ∃ n : Nat, t = (n : Int) := ⟨t.toNat, by omega⟩
  have e : bits .xor .u8 (b.toNat : Int) (n : Int) = IntKind.u8.wrap (((BitVec.ofInt 8 (b.toNat : Int) ^^^ BitVec.ofInt 8 (n : Int)).toNat : Nat) : Int) := rfl
  have hw : ∀ x : BitVec 8, IntKind.u8.wrap ((x.toNat : Nat) : Int) = (x.toNat : Int) := by
    intro x
    have := x.isLt
    rw [IntKind.wrap_u8]
    omega
  refine ⟨⟨BitVec.ofInt 8 (b.toNat : Int) ^^^ BitVec.ofInt 8 (n : Int)⟩, by rw [e, hw]; rfl, ?_⟩
  intro hb
  have h2 : BitVec.ofInt 8 (b.toNat : Int) ^^^ BitVec.ofInt 8 (n : Int) = b.toBitVec := congrArg UInt8.toBitVec hb
  have h3 : BitVec.ofInt 8 (b.toNat : Int) = b.toBitVec := by
    rw [BitVec.ofInt_natCast]
    apply BitVec.eq_of_toNat_eq
    rw [BitVec.toNat_ofNat]
    have := b.toNat_lt
    exact Nat.mod_eq_of_lt (by omega)
  rw [h3] at h2
  have h4 := congrArg (fun u => b.toBitVec ^^^ u) h2
  simp only [← BitVec.xor_assoc, BitVec.xor_self, BitVec.zero_xor] at h4
  have h5 := congrArg BitVec.toNat h4
  rw [BitVec.ofInt_natCast, BitVec.toNat_ofNat] at h5
  have h6 : n % 2 ^ 8 = 0 := h5
  omega
end Go.Proofs.YtnaacgglbeipcaaDoor
