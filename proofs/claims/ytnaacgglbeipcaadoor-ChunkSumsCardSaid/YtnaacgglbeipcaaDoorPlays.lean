/- What Add makes of the pieces of some bytes, one after the other: plain Lean. -/
import Derived.Test.YtnaacgglbeipcaaDoorAddAny
import Derived.Test.YtnaacgglbeipcaaDoorDone
namespace Go.Proofs.YtnaacgglbeipcaaDoor
open Go.RowKit

/-- Piece k of bytes, with a sum; the builder that has m bytes of them. -/
def pc (id u : Int) (bs : List UInt8) (size k : Nat) : PcD := ⟨id, ((k * size : Nat) : Int), (bs.length : Int), u, (bs.drop (k * size)).take size⟩
def st (id u : Int) (bs : List UInt8) (m : Nat) : BlD := ⟨id, (bs.length : Int), u, bs.take m⟩

theorem pieceAt_pc (id : Int) (bs : List UInt8) (size k : Nat) : pieceAt id bs size k = pc id (sumOf bs) bs size k := rfl

theorem pc_len (id u : Int) (bs : List UInt8) (size k : Nat) : (pc id u bs size k).data.length = min size (bs.length - k * size) := by
  unfold pc
  rw [List.length_take, List.length_drop]

theorem pc_good {id u : Int} {bs : List UInt8} {size k : Nat} (h0 : 0 ≤ id) (h1 : 1 ≤ size) (hl : bs.length ≤ 1048576) (hk : k = 0 ∨ k * size < bs.length) : ¬ badN (pc id u bs size k).id (pc id u bs size k).pos (pc id u bs size k).total (pc id u bs size k).data.length := by
  have h2 := pc_len id u bs size k
  rw [h2]
  show ¬ badN id ((k * size : Nat) : Int) (bs.length : Int) _
  obtain ⟨t, ht⟩ : ∃ t, k * size = t := ⟨_, rfl⟩
  rw [ht] at hk ⊢
  have : k = 0 → t = 0 := fun e => by rw [← ht, e, Nat.zero_mul]
  unfold badN
  omega

theorem take_more {bs : List UInt8} {m t size : Nat} (h1 : t ≤ m) (h2 : m ≤ bs.length) : bs.take m ++ ((bs.drop t).take size).drop (m - t) = bs.take (max m (min (t + size) bs.length)) := by
  have e : ((bs.drop t).take size).drop (m - t) = (bs.drop m).take (t + size - m) := by
    rw [List.drop_take, List.drop_drop]
    congr 1
    · omega
    · congr 1
      omega
  rw [e, ← List.take_add]
  rw [List.take_eq_take_iff]
  omega

/-- A piece that follows, or that is there. -/
theorem add_there {id u : Int} {bs : List UInt8} {size k m : Nat} (h0 : 0 ≤ id) (h1 : 1 ≤ size) (hl : bs.length ≤ 1048576) (hk : k = 0 ∨ k * size < bs.length) (hm : m ≤ bs.length) (ht : k * size ≤ m) :
    addErr (st id u bs m) (pc id u bs size k) = 0 ∧ addTo (st id u bs m) (pc id u bs size k) = st id u bs (max m (min (k * size + size) bs.length)) := by
  have hlen : (bs.take m).length = m := by rw [List.length_take]; omega
  have hr : restart (st id u bs m) id (bs.length : Int) u = st id u bs m := by
    unfold restart
    rw [if_neg (by show ¬ id < id; omega)]
  have e : addErr (st id u bs m) (pc id u bs size k) = 0 := by
    unfold addErr
    rw [if_neg (pc_good h0 h1 hl hk), if_neg (by show ¬ id < id; omega), if_neg (by
      rintro ⟨_, h | h⟩
      · exact h rfl
      · exact h rfl)]
    show (if ¬ ((k * size : Nat) : Int) ≤ ((restart (st id u bs m) id (bs.length : Int) u).data.length : Int) then (6 : Int) else 0) = 0
    rw [hr]
    show (if ¬ ((k * size : Nat) : Int) ≤ ((bs.take m).length : Int) then (6 : Int) else 0) = 0
    rw [hlen, if_neg (by omega)]
  refine ⟨e, ?_⟩
  unfold addTo
  rw [if_pos e]
  show addData (restart (st id u bs m) id (bs.length : Int) u) (((k * size : Nat) : Int)).toNat _ = _
  rw [hr, Int.toNat_natCast]
  unfold addData
  have h2 := pc_len id u bs size k
  show (if (bs.take m).length < k * size + (pc id u bs size k).data.length then (⟨id, (bs.length : Int), u, bs.take m ++ (pc id u bs size k).data.drop ((bs.take m).length - k * size)⟩ : BlD) else st id u bs m) = _
  rw [h2, hlen]
  by_cases h3 : m < k * size + min size (bs.length - k * size)
  · rw [if_pos h3]
    unfold st
    congr 1
    exact take_more ht hm
  · rw [if_neg h3]
    have : max m (min (k * size + size) bs.length) = m := by omega
    rw [this]

/-- The first piece, where an elder Id is built, or nothing. -/
theorem add_first {id u : Int} {bs : List UInt8} {size : Nat} {s : BlD} (h0 : 0 ≤ id) (h1 : 1 ≤ size) (hl : bs.length ≤ 1048576) (hs : s.id < id) :
    addErr s (pc id u bs size 0) = 0 ∧ addTo s (pc id u bs size 0) = st id u bs (min size bs.length) := by
  have hr : restart s id (bs.length : Int) u = ⟨id, (bs.length : Int), u, []⟩ := by
    unfold restart
    rw [if_pos hs]
  have e : addErr s (pc id u bs size 0) = 0 := by
    unfold addErr
    rw [if_neg (pc_good h0 h1 hl (Or.inl rfl)), if_neg (by show ¬ id < s.id; omega), if_neg (by
      rintro ⟨h, _⟩
      have h : id = s.id := h
      omega)]
    show (if ¬ ((0 * size : Nat) : Int) ≤ ((restart s id (bs.length : Int) u).data.length : Int) then (6 : Int) else 0) = 0
    rw [hr, if_neg (by simp)]
  refine ⟨e, ?_⟩
  unfold addTo
  rw [if_pos e]
  show addData (restart s id (bs.length : Int) u) (((0 * size : Nat) : Int)).toNat _ = _
  rw [hr]
  unfold addData
  have h2 := pc_len id u bs size 0
  rw [Nat.zero_mul] at h2 ⊢
  show (if 0 < 0 + (pc id u bs size 0).data.length then (⟨id, (bs.length : Int), u, [] ++ (pc id u bs size 0).data.drop (0 - 0)⟩ : BlD) else ⟨id, (bs.length : Int), u, []⟩) = _
  rw [h2]
  unfold st pc
  by_cases h3 : 0 < min size (bs.length - 0)
  · rw [if_pos (by omega)]
    congr 1
    simp only [Nat.zero_mul, List.drop_zero, Nat.sub_zero, List.nil_append]
    rw [List.take_eq_take_iff]
    omega
  · rw [if_neg (by omega)]
    congr 1
    have : min size bs.length = 0 := by omega
    rw [this]
    rfl

/-- A piece that comes too soon. -/
theorem add_soon {id u : Int} {bs : List UInt8} {size k : Nat} {s : BlD} (h0 : 0 ≤ id) (h1 : 1 ≤ size) (hl : bs.length ≤ 1048576) (hk : k = 0 ∨ k * size < bs.length) (hs : s.id < id) (hk0 : k ≠ 0) : addErr s (pc id u bs size k) ≠ 0 := by
  have hr : restart s id (bs.length : Int) u = ⟨id, (bs.length : Int), u, []⟩ := by
    unfold restart
    rw [if_pos hs]
  unfold addErr
  rw [if_neg (pc_good h0 h1 hl hk), if_neg (by show ¬ id < s.id; omega), if_neg (by
    rintro ⟨h, _⟩
    have h : id = s.id := h
    omega)]
  show (if ¬ ((k * size : Nat) : Int) ≤ ((restart s id (bs.length : Int) u).data.length : Int) then (6 : Int) else 0) ≠ 0
  have h3 : 1 * 1 ≤ k * size := Nat.mul_le_mul (by omega) h1
  rw [hr, if_pos (by show ¬ ((k * size : Nat) : Int) ≤ ((([] : List UInt8).length : Nat) : Int); simp; omega)]
  decide
theorem add_gap {id u : Int} {bs : List UInt8} {size k m : Nat} (h0 : 0 ≤ id) (h1 : 1 ≤ size) (hl : bs.length ≤ 1048576) (hk : k = 0 ∨ k * size < bs.length) (hm : m ≤ bs.length) (ht : ¬ k * size ≤ m) : addErr (st id u bs m) (pc id u bs size k) ≠ 0 := by
  have hlen : (bs.take m).length = m := by rw [List.length_take]; omega
  have hr : restart (st id u bs m) id (bs.length : Int) u = st id u bs m := by
    unfold restart
    rw [if_neg (by show ¬ id < id; omega)]
  unfold addErr
  rw [if_neg (pc_good h0 h1 hl hk), if_neg (by show ¬ id < id; omega), if_neg (by
    rintro ⟨_, h | h⟩
    · exact h rfl
    · exact h rfl)]
  show (if ¬ ((k * size : Nat) : Int) ≤ ((restart (st id u bs m) id (bs.length : Int) u).data.length : Int) then (6 : Int) else 0) ≠ 0
  rw [hr]
  show (if ¬ ((k * size : Nat) : Int) ≤ ((bs.take m).length : Int) then (6 : Int) else 0) ≠ 0
  rw [hlen, if_pos (by omega)]
  decide

/-- What may be built while the pieces of some bytes are added in whatever order: an elder one, or the first m bytes. -/
def Part (id u : Int) (bs : List UInt8) (s : BlD) : Prop := s.id < id ∨ ∃ m, m ≤ bs.length ∧ s = st id u bs m
theorem Part.add {id u : Int} {bs : List UInt8} {size k : Nat} {s : BlD} (h : Part id u bs s) (h0 : 0 ≤ id) (h1 : 1 ≤ size) (hl : bs.length ≤ 1048576) (hk : k = 0 ∨ k * size < bs.length) : Part id u bs (addTo s (pc id u bs size k)) := by
  rcases h with hs | ⟨m, hm, rfl⟩
  · by_cases hk0 : k = 0
    · subst hk0
      rw [(add_first h0 h1 hl hs).2]
      exact Or.inr ⟨_, by omega, rfl⟩
    · have := add_soon (u := u) h0 h1 hl hk hs hk0
      unfold addTo
      rw [if_neg this]
      exact Or.inl hs
  · by_cases ht : k * size ≤ m
    · rw [(add_there h0 h1 hl hk hm ht).2]
      exact Or.inr ⟨_, by omega, rfl⟩
    · unfold addTo
      rw [if_neg (add_gap h0 h1 hl hk hm ht)]
      exact Or.inr ⟨m, hm, rfl⟩

/-- What is built before piece i is added, the pieces coming in their order. -/
def Upto (id u : Int) (bs : List UInt8) (size i : Nat) (s : BlD) : Prop := (i = 0 ∧ Part id u bs s) ∨ ∃ m, m ≤ bs.length ∧ min (i * size) bs.length ≤ m ∧ s = st id u bs m
theorem Upto.add {id u : Int} {bs : List UInt8} {size i : Nat} {s : BlD} (h : Upto id u bs size i s) (h0 : 0 ≤ id) (h1 : 1 ≤ size) (hl : bs.length ≤ 1048576) (hk : i = 0 ∨ i * size < bs.length) :
    addErr s (pc id u bs size i) = 0 ∧ Upto id u bs size (i + 1) (addTo s (pc id u bs size i)) := by
  have e : (i + 1) * size = i * size + size := by rw [Nat.add_mul, Nat.one_mul]
  have there : ∀ m, m ≤ bs.length → i * size ≤ m → s = st id u bs m → addErr s (pc id u bs size i) = 0 ∧ Upto id u bs size (i + 1) (addTo s (pc id u bs size i)) := by
    intro m hm ht hs
    subst hs
    obtain ⟨e1, e2⟩ := add_there (u := u) h0 h1 hl hk hm ht
    refine ⟨e1, ?_⟩
    rw [e2]
    exact Or.inr ⟨_, by omega, by rw [e]; omega, rfl⟩
  rcases h with ⟨hi, h⟩ | ⟨m, hm, hge, hs⟩
  · subst hi
    rcases h with hs | ⟨m, hm, hs⟩
    · obtain ⟨e1, e2⟩ := add_first (u := u) h0 h1 hl hs
      refine ⟨e1, ?_⟩
      rw [e2]
      exact Or.inr ⟨_, by omega, by rw [e, Nat.zero_mul]; omega, rfl⟩
    · exact there m hm (by omega) hs
  · refine there m hm ?_ hs
    rcases hk with rfl | hk
    · omega
    · omega
theorem Upto.start {id u : Int} {bs : List UInt8} {size : Nat} {s : BlD} (h : Part id u bs s) : Upto id u bs size 0 s := Or.inl ⟨rfl, h⟩
/-- All pieces are there. -/
theorem Upto.all {id u : Int} {bs : List UInt8} {size i : Nat} {s : BlD} (h : Upto id u bs size i s) (hi : i ≠ 0) (hall : bs.length ≤ i * size) : s = ⟨id, (bs.length : Int), u, bs⟩ := by
  rcases h with ⟨h, _⟩ | ⟨m, hm, hge, rfl⟩
  · exact absurd h hi
  · have : m = bs.length := by omega
    subst this
    unfold st
    rw [List.take_length]
theorem nP_all {len size : Nat} (h1 : 1 ≤ size) : len ≤ nP len size * size := by
  rcases Nat.lt_or_ge (nP len size * size) len with h | h
  · have := (lt_nP (len := len) (size := size) (k := nP len size) h1).2 (Or.inr h)
    omega
  · exact h
theorem done_all {id u : Int} {bs : List UInt8} (h0 : 0 ≤ id) : doneErr ⟨id, (bs.length : Int), u, bs⟩ = if sumOf bs ≠ u then 9 else 0 := by
  unfold doneErr
  rw [if_neg (by show ¬ (id < 0 ∨ ((bs.length : Nat) : Int) < (bs.length : Int)); omega)]
end Go.Proofs.YtnaacgglbeipcaaDoor
