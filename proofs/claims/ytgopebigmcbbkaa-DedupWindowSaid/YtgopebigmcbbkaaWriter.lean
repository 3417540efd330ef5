/- The codec's writer in memory: Int, Bytes, numbers, Done. -/
import Derived.Test.YtgopebigmcbbkaaPut
import Derived.Maps.AppendAt
import Derived.Deep.AppendLies
import Derived.RegionTactic
import Derived.OwnWalk
namespace Go.Proofs.Ytgopebigmcbbkaa
open Go.RowKit

/-! ### The frame -/

/-- From w to w' nothing below B has turned, and above it only block g and rows of bytes. -/
structure WKept (B g : Nat) (w w' : World) : Prop where
  os : w'.os = w.os
  tape : w'.tape = w.tape
  output : w'.output = w.output
  size : w.heap.size ≤ w'.heap.size
  block : ∀ k, k < w.heap.size → (k < B ∨ (k ≠ g ∧ ∀ cs f, w.heap[k]? ≠ some (.cells cs 5 f))) → w'.heap[k]? = w.heap[k]?

theorem WKept.refl (B g : Nat) (w : World) : WKept B g w w := ⟨rfl, rfl, rfl, Nat.le_refl _, fun _ _ _ => rfl⟩
theorem WKept.trans {B g : Nat} {a b c : World} (h : WKept B g a b) (k : WKept B g b c) : WKept B g a c :=
  ⟨k.os.trans h.os, k.tape.trans h.tape, k.output.trans h.output, Nat.le_trans h.size k.size, fun i hi hn => by
    have e1 := h.block i hi hn
    refine (k.block i (Nat.lt_of_lt_of_le hi h.size) ?_).trans e1
    rcases hn with hn | ⟨h1, h2⟩
    · exact Or.inl hn
    · exact Or.inr ⟨h1, fun cs f => by rw [e1]; exact h2 cs f⟩⟩
theorem WKept.of_kept {B g : Nat} {w w' : World} (h : Kept NoBlk w w') : WKept B g w w' := ⟨h.os, h.tape, h.output, h.size, fun k hk _ => h.block k hk (fun e => e.elim)⟩
theorem WKept.below {B g : Nat} {w w' : World} (h : WKept B g w w') (hB : B ≤ w.heap.size) : Below B w w' := ⟨h.os, h.tape, h.output, h.size, fun k hk => h.block k (by omega) (Or.inl hk)⟩
theorem WKept.blk {B g k : Nat} {t : TypeId} {cs : Array Value} {w w' : World} (h : WKept B g w w') (hb : Blk w k t cs) (hk : k ≠ g) (ht : t ≠ 5) : Blk w' k t cs :=
  (h.block k hb.lt (Or.inr ⟨hk, fun cs' f e => by
    have hb' := hb
    unfold Blk at hb'
    rw [hb'] at e
    injection e with e
    injection e with _ e2 _
    exact ht e2⟩)).trans hb

theorem own_ne {w : World} {g : Nat} {t : TypeId} {cs : Array Value} {base : Nat} {e : TypeId} {size n : Nat} {v : Value} {xs : List Value} (h : w.ownsRow base e size v n xs) (hg : Blk w g t cs) (hne : e ≠ t) : v.ownBlock ≠ some g := by
  rcases h.2 with ⟨rfl, _⟩ | ⟨g', cap, cur, rfl, _, hh, _⟩
  · simp [Value.ownBlock]
  · intro he
    have : g' = g := by simpa [Value.ownBlock] using he
    subst this
    unfold Blk at hg
    rw [hh] at hg
    injection hg with hg
    injection hg with _ ht
    exact hne ht

/-- Block g is a writer that has the bytes bs; it and its bytes lie from B on. -/
def Wr (w : World) (B g : Nat) (bs : List UInt8) : Prop := ∃ v, Blk w g 65 #[v] ∧ w.ownsRow B 5 1 v bs.length (bs.map bv) ∧ B ≤ g ∧ B ≤ w.heap.size

theorem Wr.kept {w w' : World} {B g : Nat} {bs : List UInt8} (h : Wr w B g bs) (hk : Kept NoBlk w w') : Wr w' B g bs := by
  obtain ⟨v, h1, h2, h3, h4⟩ := h
  exact ⟨v, h1.kept hk (fun e => e.elim), h2.kept (row := none) ⟨hk.os, hk.tape, hk.output, hk.size, fun k hk' _ => hk.block k hk' (fun e => e.elim)⟩ (by cases v.ownBlock <;> simp), h3, Nat.le_trans h4 hk.size⟩

/-- What an append to a writer's bytes leaves, and the store behind it. -/
theorem Wr.store {w w1 : World} {B g : Nat} {v v' : Value} {bs news : List UInt8} (h1 : Blk w g 65 #[v]) (hB : B ≤ w.heap.size) (hg : B ≤ g) (hown : w.ownsRow B 5 1 v bs.length (bs.map bv))
    (hown1 : w1.ownsRow B 5 1 v' (bs.length + news.length) (bs.map bv ++ news.map bv)) (hgr : w.grownBy w1 v.ownBlock) :
    w1.cell? ⟨g, 0, none⟩ = some v ∧ w1.frozen? ⟨g, 0, none⟩ = false ∧ Wr (w1.setCell ⟨g, 0, none⟩ v') B g (bs ++ news) ∧ WKept B g w (w1.setCell ⟨g, 0, none⟩ v') := by
  have hne := own_ne hown h1 (by decide)
  have h1' : Blk w1 g 65 #[v] := h1.grown hgr (fun e => hne e.symm)
  have hne' := own_ne hown1 h1' (by decide)
  refine ⟨h1'.cell 0, h1'.frozen 0, ⟨v', h1'.set_ 0 v', ?_, hg, ?_⟩, ⟨hgr.os, hgr.tape, hgr.output, by simpa [World.setCell] using hgr.size, fun k hk hn => ?_⟩⟩
  · have := hown1.kept (w' := w1.setCell ⟨g, 0, none⟩ v') (row := some g) ⟨rfl, rfl, rfl, by simp [World.setCell], fun k _ hk => Below.heap_setCell _ _ _ _ (fun e => hk (by rw [e]))⟩ (Or.inr hne')
    simpa using this
  · have := hgr.size
    simp [World.setCell]
    omega
  · have hkg : k ≠ g := by
      rcases hn with hn | hn
      · omega
      · exact hn.1
    rw [Below.heap_setCell _ _ _ _ hkg]
    refine hgr.block k hk (fun e => ?_)
    rcases hown.2 with ⟨rfl, _⟩ | ⟨g', cap, cur, rfl, hbg, hh, _⟩
    · simp [Value.ownBlock] at e
    · have : k = g' := by simpa [Value.ownBlock] using e
      subst this
      rcases hn with hn | hn
      · omega
      · exact hn.2 _ _ hh

/-! ### A number's bytes -/

def zz (x : Int) : Int := bits .xor .u64 (IntKind.u64.wrap (IntKind.u64.wrap x * 2)) (IntKind.u64.wrap (x / 9223372036854775808))
def U64 : Int := 18446744073709551616
theorem zz_bound (x : Int) : 0 ≤ zz x ∧ zz x < U64 := by
  have hw : ∀ n : Int, 0 ≤ IntKind.u64.wrap n ∧ IntKind.u64.wrap n < U64 := by
    intro n
    unfold U64
    rw [IntKind.wrap_u64]
    omega
  unfold zz
  obtain ⟨a1, a2⟩ := hw (IntKind.u64.wrap x * 2)
  obtain ⟨b1, b2⟩ := hw (x / 9223372036854775808)
  unfold U64 at a2 b2
  rw [u64_xor _ _ a1 a2 b1 b2]
  refine ⟨Int.natCast_nonneg _, ?_⟩
  unfold U64
  have : ((IntKind.u64.wrap (IntKind.u64.wrap x * 2)).toNat ^^^ (IntKind.u64.wrap (x / 9223372036854775808)).toNat) < 2 ^ 64 := Nat.xor_lt_two_pow (by omega) (by omega)
  omega

def more (y : Int) : Int := bits .or .u8 (IntKind.u8.wrap y) 128
theorem more_bound (y : Int) : 0 ≤ more y ∧ more y < 256 := by
  unfold more
  have hw : 0 ≤ IntKind.u8.wrap y ∧ IntKind.u8.wrap y < 256 := by
    rw [IntKind.wrap_u8]
    omega
  rw [u8_or _ _ hw.1 hw.2 (by omega) (by omega)]
  refine ⟨Int.natCast_nonneg _, ?_⟩
  have : ((IntKind.u8.wrap y).toNat ||| (128 : Int).toNat) < 2 ^ 8 := Nat.or_lt_two_pow (by omega) (by decide)
  omega
def byteOf (z : Int) : UInt8 := UInt8.ofNat z.toNat
theorem bv_byteOf {z : Int} (h : 0 ≤ z ∧ z < 256) : bv (byteOf z) = .int .u8 z := by
  unfold bv byteOf
  congr 1
  simp
  omega

/-- The bytes of a number, from the lowest on; k bounds how many. -/
def vb : Nat → Int → List UInt8
  | 0, _ => []
  | k + 1, y => if 128 ≤ y then byteOf (more y) :: vb k (y / 128) else [byteOf y]
def vint (x : Int) : List UInt8 := vb 10 (zz x)
theorem vb_length : ∀ (k : Nat) (y : Int), (vb k y).length ≤ k
  | 0, _ => by simp [vb]
  | k + 1, y => by
    unfold vb
    split
    · simp
      exact vb_length k _
    · simp
theorem vint_length (x : Int) : (vint x).length ≤ 10 := vb_length 10 _

theorem vint_pos (x : Int) : 0 < (vint x).length := by
  unfold vint vb
  split <;> simp
theorem vb_more (k : Nat) {y : Int} (h : 128 ≤ y) : vb (k + 1) y = byteOf (more y) :: vb k (y / 128) := by simp [vb, h]
theorem vb_last (k : Nat) {y : Int} (h : ¬ 128 ≤ y) : vb (k + 1) y = [byteOf y] := by simp [vb, h]

/-- y fits k + 1 groups of seven bits. -/
def fits (k : Nat) (y : Int) : Prop := 0 ≤ y ∧ y < 128 ^ (k + 1)
theorem fits_zz (x : Int) : fits 9 (zz x) := by
  obtain ⟨h1, h2⟩ := zz_bound x
  refine ⟨h1, ?_⟩
  unfold U64 at h2
  have : (128 : Int) ^ (9 + 1) = 1180591620717411303424 := by decide
  omega
theorem fits_next {k : Nat} {y : Int} (h : fits (k + 1) y) : fits k (y / 128) := by
  obtain ⟨h1, h2⟩ := h
  refine ⟨by omega, ?_⟩
  have e : (128 : Int) ^ (k + 1 + 1) = 128 ^ (k + 1) * 128 := Int.pow_succ _ _
  rw [e] at h2
  omega
theorem fits_zero {y : Int} (h : fits 0 y) : ¬ 128 ≤ y := by
  obtain ⟨_, h2⟩ := h
  simp at h2
  omega

/-- What holds in the loop of 'Int': the groups that are still to come. -/
structure IntRel (B g : Nat) (bs : List UInt8) (x : Int) (w : World) (k : Nat) (y : Int) (wr : World) : Prop where
  fit : fits k y
  hwr : ∃ done, Wr wr B g (bs ++ done) ∧ done ++ vb (k + 1) y = vint x ∧ done.length + k = 9
  kept : WKept B g w wr

theorem IntRel.start {B g : Nat} {bs : List UInt8} {x : Int} {w : World} (h : Wr w B g bs) : IntRel B g bs x w 9 (zz x) w :=
  ⟨fits_zz x, ⟨[], by simpa using h, rfl, rfl⟩, WKept.refl _ _ _⟩

/-- A writer's cell, what it owns, and what an append of one byte leaves. -/
theorem one_byte {w : World} {B g : Nat} {bs : List UInt8} (h : Wr w B g bs) : ∃ v, w.cell? ⟨g, 0, none⟩ = some v ∧ Blk w g 65 #[v] ∧ w.ownsRow B 5 1 v bs.length (bs.map bv) ∧ B ≤ g ∧ B ≤ w.heap.size := by
  obtain ⟨v, h1, h2, h3, h4⟩ := h
  exact ⟨v, h1.cell 0, h1, h2, h3, h4⟩

/-- One byte more: what the append's law leaves, as the store behind it wants it. -/
theorem Wr.one {wr w1 : World} {B g n : Nat} {v v' : Value} {bs : List UInt8} {z : Int} (hn : bs.length = n) (hz : 0 ≤ z ∧ z < 256) (hb : Blk wr g 65 #[v]) (hown : wr.ownsRow B 5 1 v n (bs.map bv)) (hg : B ≤ g) (hB : B ≤ wr.heap.size)
    (hown1 : w1.ownsRow B 5 1 v' (n + 1) (bs.map bv ++ [.int .u8 z])) (hgr : (wr.alloc (.cells #[.int .u8 z] 5)).grownBy w1 v.ownBlock) :
    ∃ g' cap', v' = .slice (some ⟨g', 0, none⟩) (n + 1) cap' ∧ w1.cell? ⟨g, 0, none⟩ = some v ∧ w1.frozen? ⟨g, 0, none⟩ = false ∧
      Wr (w1.setCell ⟨g, 0, none⟩ v') B g (bs ++ [byteOf z]) ∧ WKept B g wr (w1.setCell ⟨g, 0, none⟩ v') := by
  obtain ⟨g', cap', hv, _⟩ := hown1.form (by omega)
  subst hn
  obtain ⟨s1, s2, s3, s4⟩ := Wr.store (news := [byteOf z]) (hb.alloc _) (by simp; omega) hg (hown.alloc _) (by simpa [bv_byteOf hz] using hown1) hgr
  exact ⟨g', cap', hv, s1, s2, s3, (WKept.of_kept ((Kept.refl NoBlk wr).alloc _)).trans s4⟩

def IntEnd (B g : Nat) (bs : List UInt8) (x : Int) (w : World) (e : Ending) (w' : World) : Prop := e = .returned (.pointer (some ⟨g, 0, none⟩)) ∧ Wr w' B g (bs ++ vint x) ∧ WKept B g w w'

set_option maxHeartbeats 1000000 in
theorem int_any (B g : Nat) (bs : List UInt8) (x : Int) (w : World) (h : Wr w B g bs) (hlen : bs.length ≤ 100000000000) :
    Calls Try.prog 29 #[.pointer (some ⟨g, 0, none⟩), .int .i64 x] w (IntEnd B g bs x w) := by
  have HW := Lib.hid h
  clear h
  obtain ⟨i0, hi, hz0, hz1, hz2⟩ := info_parts u8_info
  have Hi := Lib.hid hi
  have Hz0 := Lib.hid hz0
  have Hz1 := Lib.hid hz1
  have Hz2 := Lib.hid hz2
  clear hi hz0 hz1 hz2
  go_enter Try.func29, Try.ntmps29
  go_upto_region 1 with fail
  go_cut [5] (fun u wx => u = .int .u64 (zz x) ∧ wx = w)
  case first =>
    go_wp2
    go_meet
    exact ⟨rfl, rfl⟩
  case rest =>
    obtain ⟨hu, hw⟩ := hcut
    rw [hu, hw]
    go_wp2_with fail
    go_loopg [5] 9 (fun k u wr => ∃ y, u = .int .u64 y ∧ IntRel B g bs x w k y wr)
    case atStart => exact ⟨zz x, rfl, IntRel.start HW.out⟩
    case round =>
      obtain ⟨y, rfl, hr⟩ := hrel
      have HR := Lib.hid hr
      have y0 : 0 ≤ y := hr.fit.1
      clear hr
      obtain ⟨done, hw1, hd1, hd2⟩ := HR.out.hwr
      have HD := Lib.hid hd1
      have HD2 := Lib.hid hd2
      obtain ⟨v, c0, hb, hown, hg, hB⟩ := one_byte hw1
      have hl : (bs ++ done).length ≤ 100000000009 := by rw [List.length_append]; omega
      obtain ⟨n, hn⟩ : ∃ n, (bs ++ done).length = n := ⟨_, rfl⟩
      rw [hn] at hown hl
      have Hn := Lib.hid hn
      clear hn
      clear hd1 hd2 hw1
      by_cases hy : 128 ≤ y
      · have hrow := hown.alloc (.cells #[.int .u8 (more y)] 5)
        go_wp2_with (at_builtin; refine wpList_append_own _ rfl (.tmp 21) (.tmp 25) 30 rfl B 5 i0 (.int .u8 0) 1 1 Try.underlying30 Hi.out Hz0.out Hz1.out Hz2.out rfl (by decide) _ _ _ rfl hrow ⟨wr.heap.size, 0, none⟩ 1 1 [.int .u8 (more y)] rfl rfl (World.news_of_block (cs := #[.int .u8 (more y)]) (t := 5) (fr := (0, 0)) (heap_alloc_new wr _)) (by simp [Value.oneCell']) (by unfold maxLen; omega) (by omega) (by simp; omega) ?_; intro v' w1 hown1 hg1 _; obtain ⟨g', cap', hv', s1, s2, s3, s4⟩ := Wr.one Hn.out (more_bound y) hb hown hg hB hown1 hg1; rw [hv'] at s3 s4 ⊢; have S3 := Lib.hid s3; have S4 := Lib.hid s4; clear hown1 hg1 hv' s3 s4)
        cases gk with
        | zero => exact absurd hy (fits_zero HR.out.fit)
        | succ k =>
          go_roundg k
          case measure => omega
          case rel => exact ⟨y / 128, rfl, fits_next HR.out.fit, ⟨done ++ [byteOf (more y)], by rw [← List.append_assoc]; exact S3.out, by rw [List.append_assoc, ← HD.out, vb_more _ hy]; rfl, by have := HD2.out; simp; omega⟩, HR.out.kept.trans S4.out⟩
      · have hrow := hown.alloc (.cells #[.int .u8 (y)] 5)
        go_wp2_with (at_builtin; refine wpList_append_own _ rfl (.tmp 33) (.tmp 36) 30 rfl B 5 i0 (.int .u8 0) 1 1 Try.underlying30 Hi.out Hz0.out Hz1.out Hz2.out rfl (by decide) _ _ _ rfl hrow ⟨wr.heap.size, 0, none⟩ 1 1 [.int .u8 (y)] rfl rfl (World.news_of_block (cs := #[.int .u8 (y)]) (t := 5) (fr := (0, 0)) (heap_alloc_new wr _)) (by simp [Value.oneCell']) (by unfold maxLen; omega) (by omega) (by simp; omega) ?_; intro v' w1 hown1 hg1 _; obtain ⟨g', cap', hv', s1, s2, s3, s4⟩ := Wr.one Hn.out ⟨y0, by omega⟩ hb hown hg hB hown1 hg1; rw [hv'] at s3 s4 ⊢; have S3 := Lib.hid s3; have S4 := Lib.hid s4; clear hown1 hg1 hv' s3 s4)
        go_ret
        exact ⟨rfl, by rw [← HD.out, vb_last _ (by omega : ¬ 128 ≤ y), ← List.append_assoc]; exact S3.out, HR.out.kept.trans S4.out⟩

/-! ### Several numbers -/

/-- A slice of ints that came from somewhere: '.slice A n c' reads as xs. -/
def Ints (w : World) (A : Option Addr) (n : Nat) (xs : List Int) : Prop :=
  xs.length = n ∧ n ≤ 1000000 ∧ (0 < n → ∃ b, A = some ⟨b, 0, none⟩ ∧ ∀ i x, xs[i]? = some x → w.cell? ⟨b, i, none⟩ = some (.int .i64 x)) ∧ ∀ b, A = some ⟨b, 0, none⟩ → ∃ cs f, w.heap[b]? = some (.cells cs 3 f)

theorem Ints.wkept {w w' : World} {A : Option Addr} {n B g : Nat} {t : TypeId} {cs : Array Value} {xs : List Int} (h : Ints w A n xs) (hk : WKept B g w w') (hg : Blk w g t cs) (ht : t ≠ 3) : Ints w' A n xs := by
  obtain ⟨h1, h2, h3, h4⟩ := h
  have key : ∀ b, A = some ⟨b, 0, none⟩ → w'.heap[b]? = w.heap[b]? := by
    intro b hb
    obtain ⟨cs', f, e⟩ := h4 b hb
    refine hk.block b (heap_lt e) (Or.inr ⟨fun e' => ?_, fun cs'' f' e' => ?_⟩)
    · subst e'
      unfold Blk at hg
      rw [hg] at e
      injection e with e
      injection e with _ e2 _
      exact ht e2
    · rw [e] at e'
      injection e' with e'
      injection e' with _ e2 _
      cases e2
  refine ⟨h1, h2, fun hn => ?_, fun b hb => ?_⟩
  · obtain ⟨b, hb, hc⟩ := h3 hn
    exact ⟨b, hb, fun i x hi => (World.cell?_of_block (a := ⟨b, i, none⟩) (key b hb)).trans (hc i x hi)⟩
  · obtain ⟨cs', f, e⟩ := h4 b hb
    exact ⟨cs', f, (key b hb).trans e⟩
theorem Ints.at_ {w : World} {A : Option Addr} {n : Nat} {xs : List Int} (h : Ints w A n xs) {k : Nat} (hk : k < n) : ∃ b x, A = some ⟨b, 0, none⟩ ∧ xs[k]? = some x ∧ w.cell? ⟨b, k, none⟩ = some (.int .i64 x) := by
  obtain ⟨b, e, hc⟩ := h.2.2.1 (by omega)
  have hl : k < xs.length := by rw [h.1]; exact hk
  exact ⟨b, xs[k], e, List.getElem?_eq_getElem hl, hc k _ (List.getElem?_eq_getElem hl)⟩

theorem Ints.kept {w w' : World} {A : Option Addr} {n : Nat} {xs : List Int} (h : Ints w A n xs) (hk : Kept NoBlk w w') : Ints w' A n xs := by
  obtain ⟨h1, h2, h3, h4⟩ := h
  refine ⟨h1, h2, fun hn => ?_, fun b hb => ?_⟩
  · obtain ⟨b, hb, hc⟩ := h3 hn
    exact ⟨b, hb, fun i x hi => hk.cell (hc i x hi) (fun e => e.elim)⟩
  · obtain ⟨cs', f, e⟩ := h4 b hb
    exact ⟨cs', f, (hk.block b (heap_lt e) (fun e => e.elim)).trans e⟩
theorem Ints.new (w : World) (xs : List Int) (n : Nat) (hn : xs.length = n) (hs : n ≤ 1000000) (C : Array Value) (hC : C = (xs.map iv).toArray) : Ints (w.alloc (.cells C 3)) (some ⟨w.heap.size, 0, none⟩) n xs := by
  subst hC
  have hh : (w.alloc (.cells (xs.map iv).toArray 3)).heap[w.heap.size]? = some (.cells (xs.map iv).toArray 3) := heap_alloc_new w _
  refine ⟨hn, hs, fun _ => ⟨_, rfl, fun i x hi => ?_⟩, fun b hb => ?_⟩
  · simp only [World.cell?, hh]
    simp [hi, iv]
  · cases hb
    exact ⟨_, _, hh⟩
theorem Ints.of_own {w : World} {B : Nat} {v : Value} {n : Nat} {xs : List Int} (h : w.ownsRow B 3 1 v n (xs.map iv)) (hs : n ≤ 1000000) : ∃ A c, v = .slice A n c ∧ Ints w A n xs := by
  have hl : xs.length = n := by simpa using h.1
  rcases h.2 with ⟨rfl, rfl⟩ | ⟨g, cap, cur, rfl, hg, hh, _⟩
  · exact ⟨none, 0, rfl, hl, hs, fun e => absurd e (by omega), fun b hb => by cases hb⟩
  · refine ⟨some ⟨g, 0, none⟩, cap, rfl, hl, hs, fun _ => ⟨g, rfl, fun i x hi => ?_⟩, fun b hb => ?_⟩
    · have := h.cells (g := g) rfl i (iv x) (by simp [hi])
      unfold Addr.add at this
      split at this
      · rename_i h0
        subst h0
        exact this
      · simpa [iv] using this
    · cases hb
      exact ⟨_, _, hh⟩

/-- The bytes of some numbers, one behind the other. -/
def vints (xs : List Int) : List UInt8 := xs.flatMap vint
theorem vints_length (xs : List Int) : (vints xs).length ≤ 10 * xs.length := by
  induction xs with
  | nil => simp [vints]
  | cons x xs ih =>
    unfold vints at *
    simp only [List.flatMap_cons, List.length_append, List.length_cons]
    have := vint_length x
    omega
theorem vints_snoc {xs : List Int} {k : Nat} {x : Int} (h : xs[k]? = some x) : vints (xs.take (k + 1)) = vints (xs.take k) ++ vint x := by
  obtain ⟨hk, rfl⟩ := List.getElem?_eq_some_iff.1 h
  unfold vints
  rw [List.take_succ_eq_append_getElem hk, List.flatMap_append]
  simp

def NumsEnd (B g : Nat) (bs : List UInt8) (xs : List Int) (w : World) (e : Ending) (w' : World) : Prop := e = .returned (.pointer (some ⟨g, 0, none⟩)) ∧ Wr w' B g (bs ++ vints xs) ∧ WKept B g w w'

structure NumsRel (B g : Nat) (bs : List UInt8) (xs : List Int) (w : World) (A : Option Addr) (n k : Nat) (wr : World) : Prop where
  le : k ≤ n
  hwr : Wr wr B g (bs ++ vints (xs.take k))
  ints : Ints wr A n xs
  kept : WKept B g w wr

set_option maxHeartbeats 1000000 in
theorem numbers_any (B g : Nat) (bs : List UInt8) (A : Option Addr) (n c : Nat) (xs : List Int) (w : World) (h : Wr w B g bs) (hx : Ints w A n xs) (hlen : bs.length ≤ 10000000000) :
    Calls Try.prog 28 #[.pointer (some ⟨g, 0, none⟩), .slice A n c] w (NumsEnd B g bs xs w) := by
  have HR := Lib.hid (show NumsRel B g bs xs w A n 0 w from ⟨Nat.zero_le _, by simpa [vints] using h, hx, WKept.refl _ _ _⟩)
  have hn := hx.2.1
  have hxl := Lib.hid hx.1
  clear h hx
  go_enter Try.func28, Try.ntmps28
  go_wp2_with fail
  go_loopg [9, 6] n (fun r u _ wr => ∃ k : Nat, r + k = n ∧ u = .int .i64 k ∧ NumsRel B g bs xs w A n k wr)
  case atStart => exact ⟨0, by omega, rfl, HR.out⟩
  case round =>
    obtain ⟨k, hgk, rfl, hr⟩ := hrel
    have Hgk := Lib.hid hgk
    have HRr := Lib.hid hr
    have hk := hr.le
    clear hgk hr HR
    by_cases hlt : k < n
    · obtain ⟨b, x, rfl, hx, hc⟩ := HRr.out.ints.at_ hlt
      have Hx := Lib.hid hx
      have k0 : (0 : Int) ≤ (k : Int) := by omega
      have k1 : (k : Int) < (n : Int) := by omega
      have hlen2 : (bs ++ vints (xs.take k)).length ≤ 100000000000 := by
        rw [List.length_append]
        have h1 := vints_length (xs.take k)
        have h2 : (xs.take k).length ≤ k := List.length_take_le _ _
        omega
      have Hlen := Lib.hid hlen2
      clear hx hlen2
      go_wp2_with (go_at_call 29; refine (int_any B g _ x _ HRr.out.hwr Hlen.out).mono ?_; rintro e w1 ⟨rfl, h1, h2⟩)
      go_roundg (gk - 1)
      case measure => have := Hgk.out; omega
      case rel =>
        obtain ⟨v, hb, _⟩ := HRr.out.hwr
        exact ⟨k + 1, by have := Hgk.out; omega, by go_num, ⟨by omega, by rw [vints_snoc Hx.out, ← List.append_assoc]; exact h1, HRr.out.ints.wkept h2 hb (by decide), HRr.out.kept.trans h2⟩⟩
    · go_wp2_with fail
      go_ret
      have e : xs.take k = xs := by rw [List.take_of_length_le]; have := hxl.out; omega
      have h1 := HRr.out.hwr
      rw [e] at h1
      exact ⟨rfl, h1, HRr.out.kept⟩

set_option maxHeartbeats 400000 in
theorem numbersP_any (B g : Nat) (bs : List UInt8) (A : Option Addr) (n c : Nat) (xs : List Int) (w : World) (h : Wr w B g bs) (hx : Ints w A n xs) (hlen : bs.length ≤ 10000000000) :
    Calls Try.prog 22 #[.pointer (some ⟨g, 0, none⟩), .slice A n c] w (NumsEnd B g bs xs w) := by
  have H := Lib.hid (numbers_any B g bs A n c xs w h hx hlen)
  clear h hx
  go_enter Try.func22, Try.ntmps22
  go_wp2_with (go_at_call 28; refine H.out.mono ?_; rintro e w1 ⟨rfl, h1, h2⟩)
  go_ret
  exact ⟨rfl, h1, h2⟩

/-! ### Bytes with their length ahead -/

section
variable {P : Program} (w : World)

theorem run_append_of_nil (base : Nat) (t ty e : TypeId) (i : TypeInfo) (size : Nat) (ht : P.underlying t = some (.slice e)) (hi : P.info? e = some i)
    (v : Value) (n : Nat) (xs : List Value) (hown : w.ownsRow base e size v n xs) (c : Nat) : (Builtin.append_ #[t, t] ty #[v, .slice none 0 c]).run P w = .ok v w := by
  rcases hown.2 with ⟨rfl, rfl⟩ | ⟨g, cap, cur, rfl, _, _, hnc, _⟩
  · simp [Builtin.append_, run_underlying ht, sizeOf, typeInfo, hi, Builtin.lenOf, Builtin.firstCells]
  · simp [Builtin.append_, run_underlying ht, sizeOf, typeInfo, hi, Builtin.lenOf, Builtin.firstCells, hnc, storeCells]

theorem run_append_any (base : Nat) (t ty e : TypeId) (i : TypeInfo) (z : Value) (size bytes : Nat) (ht : P.underlying t = some (.slice e)) (hi : P.info? e = some i) (hz : i.zero = some z)
    (hsize : i.size = size) (hby : i.bytes = bytes) (hzs : z.cells.size = size) (hsz : 0 < size)
    (v : Value) (n : Nat) (xs : List Value) (hown : w.ownsRow base e size v n xs)
    (B : Nat) (A : Option Addr) (m c : Nat) (news : List Value) (hr : Reads w B size A m news) (h1 : ∀ u ∈ news, u.oneCell' = true)
    (h63 : n + m ≤ maxLen) (hbytes : (n + m) * bytes ≤ 140737488355328) (hbase : base ≤ w.heap.size) :
    ∃ v' w', (Builtin.append_ #[t, t] ty #[v, .slice A m c]).run P w = .ok v' w' ∧ w'.ownsRow base e size v' (n + m) (xs ++ news) ∧ w.grownBy w' v.ownBlock ∧
      (v'.ownBlock = v.ownBlock ∨ v'.ownBlock = some w.heap.size) := by
  rcases A with _ | ad
  · have hm : m = 0 := by
      rcases Nat.eq_zero_or_pos m with h0 | h0
      · exact h0
      · obtain ⟨ad, h, _⟩ := hr.2 h0
        cases h
    subst hm
    have hn : news = [] := List.eq_nil_of_length_eq_zero (by simpa using hr.1)
    subst hn
    exact ⟨v, w, run_append_of_nil w base t ty e i size ht hi v n xs hown c, by simpa using hown, World.grownBy.refl w _, .inl rfl⟩
  · have hcells : ∀ j u, news[j]? = some u → w.cell? (ad.add j) = some u := by
      intro j u hu
      rcases Nat.eq_zero_or_pos m with h0 | h0
      · subst h0
        have hn : news = [] := List.eq_nil_of_length_eq_zero (by simpa using hr.1)
        subst hn
        simp at hu
      · obtain ⟨ad', h, _, hc⟩ := hr.2 h0
        injection h with h
        subst h
        exact hc j u hu
    obtain ⟨v', w', hrun, h2, h3, _, h5⟩ := run_append_own_at (P := P) w base t ty e i z size bytes ht hi hz hsize hby hzs hsz v n xs hown ad m c news hr.1 hcells h1 h63 hbytes hbase
    exact ⟨v', w', hrun, h2, h3, h5⟩

theorem wp_append_any {o : Oper} {a : Act} {K : Act → World → Prop} {Q : Exit → Act → World → Prop} (s x : Operand) (t : TypeId)
    (ho : o.op = .call { callee := .builtin .append, args := #[s, x], argTypes := #[t, t] })
    (base : Nat) (e : TypeId) (i : TypeInfo) (z : Value) (size bytes : Nat) (ht : P.underlying t = some (.slice e)) (hi : P.info? e = some i) (hz : i.zero = some z)
    (hsize : i.size = size) (hby : i.bytes = bytes) (hzs : z.cells.size = size) (hsz : 0 < size)
    (v : Value) (n : Nat) (xs : List Value) (hs : a.eval s = v) (hown : w.ownsRow base e size v n xs)
    (B : Nat) (A : Option Addr) (m c : Nat) (news : List Value) (hx : a.eval x = .slice A m c) (hr : Reads w B size A m news) (h1 : ∀ u ∈ news, u.oneCell' = true)
    (h63 : n + m ≤ maxLen) (hbytes : (n + m) * bytes ≤ 140737488355328) (hbase : base ≤ w.heap.size)
    (h : ∀ v' w', w'.ownsRow base e size v' (n + m) (xs ++ news) → w.grownBy w' v.ownBlock → (v'.ownBlock = v.ownBlock ∨ v'.ownBlock = some w.heap.size) → K (a.put o.dst v') w') : o.wp P a w K Q := by
  obtain ⟨v', w', hrun, h2, h3, h4⟩ := run_append_any (P := P) w base t o.type e i z size bytes ht hi hz hsize hby hzs hsz v n xs hown B A m c news hr h1 h63 hbytes hbase
  unfold Oper.wp execOp
  simp only [ho, resolve, invoke, builtin, Sem.run_bind, Sem.run_pure, Result.andThen_ok, List.map_toArray, List.map_cons, List.map_nil, hs, hx, hrun]
  exact h v' w' h2 h3 h4

theorem wpList_append_any {ops : Array Oper} {rest : List Oper} {o : Oper} {a : Act} {Q : Exit → Act → World → Prop} (hgd : o.guard = none) (s x : Operand) (t : TypeId)
    (ho : o.op = .call { callee := .builtin .append, args := #[s, x], argTypes := #[t, t] })
    (base : Nat) (e : TypeId) (i : TypeInfo) (z : Value) (size bytes : Nat) (ht : P.underlying t = some (.slice e)) (hi : P.info? e = some i) (hz : i.zero = some z)
    (hsize : i.size = size) (hby : i.bytes = bytes) (hzs : z.cells.size = size) (hsz : 0 < size)
    (v : Value) (n : Nat) (xs : List Value) (hs : a.eval s = v) (hown : w.ownsRow base e size v n xs)
    (B : Nat) (A : Option Addr) (m c : Nat) (news : List Value) (hx : a.eval x = .slice A m c) (hr : Reads w B size A m news) (h1 : ∀ u ∈ news, u.oneCell' = true)
    (h63 : n + m ≤ maxLen) (hbytes : (n + m) * bytes ≤ 140737488355328) (hbase : base ≤ w.heap.size)
    (h : ∀ v' w', w'.ownsRow base e size v' (n + m) (xs ++ news) → w.grownBy w' v.ownBlock → (v'.ownBlock = v.ownBlock ∨ v'.ownBlock = some w.heap.size) → wpList P ops Q rest (a.put o.dst v') w') : wpList P ops Q (o :: rest) a w :=
  wpList_plain hgd fun _ hK => wp_append_any w s x t ho base e i z size bytes ht hi hz hsize hby hzs hsz v n xs hs hown B A m c news hx hr h1 h63 hbytes hbase fun v' w' h2 h3 h4 => hK _ _ (h v' w' h2 h3 h4)

end

theorem Wr.several {wr w1 : World} {B g n m : Nat} {v v' : Value} {bs xs : List UInt8} (hm : bs.length = m) (hp : 0 < m) (hn : xs.length = n) (hb : Blk wr g 65 #[v]) (hown : wr.ownsRow B 5 1 v m (bs.map bv)) (hg : B ≤ g) (hB : B ≤ wr.heap.size)
    (hown1 : w1.ownsRow B 5 1 v' (m + n) (bs.map bv ++ xs.map bv)) (hgr : wr.grownBy w1 v.ownBlock) :
    ∃ g' cap', v' = .slice (some ⟨g', 0, none⟩) (m + n) cap' ∧ w1.cell? ⟨g, 0, none⟩ = some v ∧ w1.frozen? ⟨g, 0, none⟩ = false ∧
      Wr (w1.setCell ⟨g, 0, none⟩ v') B g (bs ++ xs) ∧ WKept B g wr (w1.setCell ⟨g, 0, none⟩ v') := by
  obtain ⟨g', cap', hv, _⟩ := hown1.form (by omega)
  subst hm
  subst hn
  obtain ⟨s1, s2, s3, s4⟩ := Wr.store (news := xs) hb hB hg hown hown1 hgr
  exact ⟨g', cap', hv, s1, s2, s3, s4⟩

def BytesEnd (B g : Nat) (bs xs : List UInt8) (w : World) (e : Ending) (w' : World) : Prop := e = .returned (.pointer (some ⟨g, 0, none⟩)) ∧ Wr w' B g (bs ++ (vint xs.length ++ xs)) ∧ WKept B g w w'

theorem Wr.keptReads {w w' : World} {B g : Nat} {A : Option Addr} {n : Nat} {xs : List Value} (h : Reads w B 1 A n xs) (hk : WKept B g w w') (hB : B ≤ w.heap.size) : Reads w' B 1 A n xs := h.below (hk.below hB)

theorem Reads.len1 {w : World} {B n : Nat} {A : Option Addr} {xs : List UInt8} (h : Reads w B 1 A n (xs.map bv)) : xs.length = n := by simpa using h.1

set_option maxHeartbeats 1000000 in
theorem bytes_any (B g : Nat) (bs xs : List UInt8) (A : Option Addr) (n c : Nat) (w : World) (h : Wr w B g bs) (hx : Reads w B 1 A n (xs.map bv)) (hlen : bs.length ≤ 10000000000) (hn : n ≤ 10000000000) :
    Calls Try.prog 23 #[.pointer (some ⟨g, 0, none⟩), .slice A n c] w (BytesEnd B g bs xs w) := by
  have HW := Lib.hid h
  have HX := Lib.hid hx
  have HXL := Lib.hid hx.len1
  obtain ⟨i0, hi, hz0, hz1, hz2⟩ := info_parts u8_info
  have Hi := Lib.hid hi
  have Hz0 := Lib.hid hz0
  have Hz1 := Lib.hid hz1
  have Hz2 := Lib.hid hz2
  clear hi hz0 hz1 hz2 h hx
  go_enter Try.func23, Try.ntmps23
  go_wp2_with fail
  refine (int_any B g bs _ _ HW.out (by omega)).mono ?_
  rintro e w1 ⟨rfl, h1, h2⟩
  have hX1 := Wr.keptReads HX.out h2 (by obtain ⟨_, _, _, _, h⟩ := HW.out; exact h)
  have H2 := Lib.hid h2
  obtain ⟨v, c0, hb, hown, hg, hB⟩ := one_byte h1
  have hl : (bs ++ vint n).length ≤ 10000000010 := by
    rw [List.length_append]
    have := vint_length n
    omega
  obtain ⟨m, hm⟩ : ∃ m, (bs ++ vint n).length = m := ⟨_, rfl⟩
  rw [hm] at hown hl
  have Hm := Lib.hid hm
  clear hm h1 h2
  go_wp2_with (at_builtin; refine wpList_append_any _ rfl (.tmp 13) (.tmp 14) 30 rfl B 5 i0 (.int .u8 0) 1 1 Try.underlying30 Hi.out Hz0.out Hz1.out Hz2.out rfl (by decide) _ _ _ rfl hown B A n c (xs.map bv) rfl hX1 (bv_one xs) (by unfold maxLen; omega) (by omega) hB ?_; intro v' w2 hown2 hg2 _; obtain ⟨g', cap', hv', s1, s2, s3, s4⟩ := Wr.several Hm.out (by have := Hm.out; have := vint_pos n; simp at *; omega) HXL.out hb hown hg hB hown2 hg2; rw [hv'] at s3 s4 ⊢; have S3 := Lib.hid s3; have S4 := Lib.hid s4; clear hown2 hg2 hv' s3 s4)
  go_ret
  exact ⟨rfl, by have h := S3.out; rw [List.append_assoc, ← HXL.out] at h; rw [HXL.out] at h ⊢; exact h, H2.out.trans S4.out⟩

set_option maxHeartbeats 400000 in
theorem newWriter_any (B : Nat) (w : World) (hB : B ≤ w.heap.size) : Calls Try.prog 21 #[] w fun e w' => ∃ g, e = .returned (.pointer (some ⟨g, 0, none⟩)) ∧ Wr w' B g [] ∧ Kept NoBlk w w' := by
  go_enter Try.func21, Try.ntmps21
  go_wp2
  go_ret
  exact ⟨w.heap.size, rfl, ⟨.slice none 0 0, Blk.new w 65 _, World.ownsRow_nil _ _ _ _, hB, by simp; omega⟩, (Kept.refl NoBlk w).alloc _⟩

theorem Wr.rd {w : World} {B g : Nat} {bs : List UInt8} (h : Wr w B g bs) (hl : bs.length ≤ 140737488351232) : ∃ v, w.cell? ⟨g, 0, none⟩ = some v ∧ RdB w v bs := by
  obtain ⟨v, c0, hb, hown, _⟩ := one_byte h
  exact ⟨v, c0, RdB.of_own hown hl⟩

set_option maxHeartbeats 400000 in
theorem done_any (B g : Nat) (bs : List UInt8) (w : World) (h : Wr w B g bs) (hl : bs.length ≤ 140737488351232) : Calls Try.prog 24 #[.pointer (some ⟨g, 0, none⟩)] w (CloneEnd bs w) := by
  obtain ⟨v, c0, hr⟩ := h.rd hl
  have H := Lib.hid (clone_any v bs w hr)
  clear h hr
  go_enter Try.func24, Try.ntmps24
  go_wp2_with (go_at_call 17; refine H.out.mono ?_; rintro e w1 ⟨v1, rfl, h1, h2⟩)
  go_ret
  exact ⟨_, rfl, h1, h2⟩
end Go.Proofs.Ytgopebigmcbbkaa
