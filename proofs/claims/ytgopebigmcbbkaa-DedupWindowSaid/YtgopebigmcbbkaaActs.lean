/- A slice of acts in memory; few; NewTable; known. -/
import Derived.Test.YtgopebigmcbbkaaPut
namespace Go.Proofs.Ytgopebigmcbbkaa
open Go.RowKit Go.Maps

structure ActD where
  op : Int
  client : Int
  seq : Int
  ans : List UInt8

/-- The four cells of an act at an address. -/
def ActAt (w : World) (b off i : Nat) (v : Value) (a : ActD) : Prop :=
  w.cell? ⟨b, off + i * 4, none⟩ = some (.int .i64 a.op) ∧ w.cell? ⟨b, off + i * 4 + 1, none⟩ = some (.int .i64 a.client) ∧ w.cell? ⟨b, off + i * 4 + 2, none⟩ = some (.int .i64 a.seq) ∧ w.cell? ⟨b, off + i * 4 + 3, none⟩ = some v ∧
    RdB w v a.ans

/-- A slice of acts: '.slice A n c' reads as xs. -/
def Acts (w : World) (A : Option Addr) (n : Nat) (xs : List ActD) : Prop :=
  xs.length = n ∧ n ≤ 9223372036854775807 ∧ (0 < n → ∃ b off, A = some ⟨b, off, none⟩ ∧ ∀ i a, xs[i]? = some a → ∃ v, ActAt w b off i v a)

theorem ActAt.kept {w w' : World} {S : Nat → Prop} {b off i : Nat} {v : Value} {a : ActD} (h : ActAt w b off i v a) (hk : Kept S w w') (hs : NoCells w S) : ActAt w' b off i v a :=
  ⟨hk.cell h.1 (hs.cell h.1), hk.cell h.2.1 (hs.cell h.2.1), hk.cell h.2.2.1 (hs.cell h.2.2.1), hk.cell h.2.2.2.1 (hs.cell h.2.2.2.1), h.2.2.2.2.kept hk hs⟩
theorem Acts.kept {w w' : World} {S : Nat → Prop} {A : Option Addr} {n : Nat} {xs : List ActD} (h : Acts w A n xs) (hk : Kept S w w') (hs : NoCells w S) : Acts w' A n xs :=
  ⟨h.1, h.2.1, fun hn => by
    obtain ⟨b, off, e, hc⟩ := h.2.2 hn
    exact ⟨b, off, e, fun i a hi => by
      obtain ⟨v, hv⟩ := hc i a hi
      exact ⟨v, hv.kept hk hs⟩⟩⟩
theorem Acts.at_ {w : World} {A : Option Addr} {n : Nat} {xs : List ActD} (h : Acts w A n xs) {k : Nat} (hk : k < n) : ∃ b off a v, A = some ⟨b, off, none⟩ ∧ xs[k]? = some a ∧ ActAt w b off k v a := by
  obtain ⟨b, off, e, hc⟩ := h.2.2 (by omega)
  have hl : k < xs.length := by rw [h.1]; exact hk
  obtain ⟨v, hv⟩ := hc k xs[k] (List.getElem?_eq_getElem hl)
  exact ⟨b, off, xs[k], v, e, List.getElem?_eq_getElem hl, hv⟩

/-- How many bytes the answers of some acts have. -/
def ansLen (xs : List ActD) : Nat := (xs.map (·.ans.length)).sum
def fewB (xs : List ActD) : Bool := decide (xs.length ≤ 200) && decide ((ansLen xs : Int) ≤ 8192)

theorem ansLen_snoc {xs : List ActD} {k : Nat} {a : ActD} (h : xs[k]? = some a) : ansLen (xs.take (k + 1)) = ansLen (xs.take k) + a.ans.length := by
  obtain ⟨hk, rfl⟩ := List.getElem?_eq_some_iff.1 h
  unfold ansLen
  rw [List.take_succ_eq_append_getElem hk, List.map_append, List.sum_append]
  rfl
theorem RdB.small {w : World} {v : Value} {bs : List UInt8} (h : RdB w v bs) : bs.length ≤ 140737488351232 := by
  obtain ⟨A, n, c, rfl, _, _, h1, _, h2, _⟩ := h
  simp at h2
  omega
theorem Acts.sum {w : World} {A : Option Addr} {n : Nat} {xs : List ActD} (h : Acts w A n xs) : ∀ k, k ≤ n → ansLen (xs.take k) ≤ k * 140737488351232
  | 0, _ => by simp [ansLen]
  | k + 1, hk => by
    obtain ⟨b, off, a, v, _, ha, hv⟩ := h.at_ (k := k) (by omega)
    rw [ansLen_snoc ha]
    have h1 := h.sum k (by omega)
    have h2 := hv.2.2.2.2.small
    omega

def FewEnd (r : Bool) (w : World) (e : Ending) (w' : World) : Prop := e = .returned (.bool r) ∧ w = w'

set_option maxHeartbeats 400000 in
theorem few_long (A : Option Addr) (n c : Nat) (xs : List ActD) (w : World) (h : Acts w A n xs) (hl : ¬ n ≤ 200) :
    Calls Try.prog 7 #[.slice A n c] w (FewEnd false w) := by
  have hn := h.2.1
  have H := Lib.hid h
  clear h
  go_enter Try.func7, Try.ntmps7
  go_wp2
  go_loop [3, 4] (fun t i => ∃ (k : Nat) (x : Int), k ≤ n ∧ i = .int .i64 k ∧ t = .int .i64 x) (fun _ i => n - (intOf i).toNat)
  case atStart => exact ⟨0, 0, Nat.zero_le _, rfl, rfl⟩
  case round =>
    obtain ⟨k, x, hk, rfl, rfl⟩ := hrel
    by_cases hlt : k < n
    · obtain ⟨b, off, a, v, rfl, _, _, _, _, h4, h5⟩ := H.out.at_ hlt
      obtain ⟨A', n', c', rfl, _⟩ := h5
      go_wp2
      go_round
      case rel => exact ⟨k + 1, _, by omega, by go_num, rfl⟩
      case measure => simp [intOf]; omega
    · go_wp2
      go_ret
      exact ⟨rfl, rfl⟩

set_option maxHeartbeats 400000 in
theorem few_short (A : Option Addr) (n c : Nat) (xs : List ActD) (w : World) (h : Acts w A n xs) (hl : n ≤ 200) :
    Calls Try.prog 7 #[.slice A n c] w (FewEnd (decide ((ansLen xs : Int) ≤ 8192)) w) := by
  have H := Lib.hid h
  clear h
  go_enter Try.func7, Try.ntmps7
  go_wp2
  go_loop [3, 4] (fun t i => ∃ (k : Nat), k ≤ n ∧ i = .int .i64 k ∧ t = .int .i64 (ansLen (xs.take k))) (fun _ i => n - (intOf i).toNat)
  case atStart => exact ⟨0, Nat.zero_le _, rfl, rfl⟩
  case round =>
    obtain ⟨k, hk, rfl, rfl⟩ := hrel
    have hs := H.out.sum k hk
    by_cases hlt : k < n
    · obtain ⟨b, off, a, v, rfl, ha, _, _, _, h4, h5⟩ := H.out.at_ hlt
      have hsn := Lib.hid (ansLen_snoc ha)
      have hal := Lib.hid h5
      obtain ⟨A', n', c', rfl, _, _, hb, _⟩ := h5
      have hal := Lib.hid hal.out.length
      clear ha
      go_wp2
      go_round
      case rel => exact ⟨k + 1, by omega, by go_num, by rw [hsn.out, hal.out]; go_num⟩
      case measure => simp [intOf]; omega
    · have hkn : k = n := by omega
      have hkx := Lib.hid hkn
      have hx : (xs.take k) = xs := by rw [List.take_of_length_le]; have := H.out.1; omega
      rw [hx] at hs ⊢
      clear hkn hx
      go_wp2
      go_ret
      exact ⟨rfl, rfl⟩

theorem few_any (A : Option Addr) (n c : Nat) (xs : List ActD) (w : World) (h : Acts w A n xs) :
    Calls Try.prog 7 #[.slice A n c] w (FewEnd (fewB xs) w) := by
  by_cases hl : n ≤ 200
  · have : fewB xs = decide ((ansLen xs : Int) ≤ 8192) := by simp [fewB, h.1, hl]
    rw [this]
    exact few_short A n c xs w h hl
  · have : fewB xs = false := by simp [fewB, h.1, hl]
    rw [this]
    exact few_long A n c xs w h hl

/-! ### NewTable -/

def NewEnd (W : Int) (w : World) (e : Ending) (w' : World) : Prop :=
  ∃ tb lb mb, e = .returned (.tuple #[.pointer (some ⟨tb, 0, none⟩), .int .i64 0]) ∧ Tab w' tb lb mb W [] [] ∧ lb ≠ mb ∧ w.heap.size ≤ tb ∧ w.heap.size ≤ lb ∧ w.heap.size ≤ mb ∧ Kept NoBlk w w'

set_option maxHeartbeats 400000 in
theorem new_any (W : Int) (h1 : 1 ≤ W) (h2 : W ≤ 4096) (w : World) : Calls Try.prog 8 #[.int .i64 W] w (NewEnd W w) := by
  have hmm := @run_makeMap Try.prog
  have q1 : ¬ W < 1 := by omega
  have q2 : ¬ 4096 < W := by omega
  go_enter Try.func8, Try.ntmps8
  go_wp2
  go_ret2
  refine ⟨w.heap.size + 2, w.heap.size, w.heap.size + 1, rfl, ⟨?_, ?_, ?_⟩, by omega, by omega, by omega, by omega, (((Kept.refl NoBlk w).alloc _).alloc _).alloc _⟩
  · simpa using Blk.new ((w.alloc (.map #[] 0)).alloc (.map #[] 0)) 48 _
  · exact ((MapOf.made Try.prog 51 kk _ w).kept ((Kept.refl NoBlk _).alloc _) (fun e => e.elim)).kept ((Kept.refl NoBlk _).alloc _) (fun e => e.elim)
  · simpa using (MapOf.made Try.prog 3 iv _ (w.alloc (.map #[] 0))).kept ((Kept.refl NoBlk _).alloc _) (fun e => e.elim)

/-! ### known -/

theorem okTab_two : okTab 2 [] := ⟨by decide, by intro c t h; cases h⟩

/-- 'Put' at numbers that are known: what it answers as a number, and the table as a name. -/
theorem put_at {w : World} {tb lb mb : Nat} {W : Int} {L : List ((Int × Int) × List UInt8)} {T : List (Int × Int)} (h : Tab w tb lb mb W L T) (hok : okTab W T) (hlm : lb ≠ mb) (c s : Int) (v : Value) (bs : List UInt8) (hv : RdB w v bs)
    (r : Int) (hr : lookOf W L T c s = r) (L' : List ((Int × Int) × List UInt8)) (hL : putL W L T c s bs = L') (T' : List (Int × Int)) (hT : putT W L T c s = T') :
    Calls Try.prog 9 #[.pointer (some ⟨tb, 0, none⟩), .int .i64 c, .int .i64 s, v] w fun e w' => e = .returned (.int .i64 r) ∧ Tab w' tb lb mb W L' T' ∧ okTab W T' ∧ Kept (Two lb mb) w w' := by
  refine (put_any h hok hlm c s v bs hv).mono ?_
  rintro e w' ⟨he, h1, h2⟩
  rw [hr] at he
  rw [hL, hT] at h1
  have := okTab_put (L := L) hok c s
  rw [hT] at this
  exact ⟨he, h1, this, h2⟩

theorem look_at {w : World} {tb lb mb : Nat} {W : Int} {L : List ((Int × Int) × List UInt8)} {T : List (Int × Int)} (h : Tab w tb lb mb W L T) (hok : okTab W T) (c s : Int)
    (r : Int) (hr : lookOf W L T c s = r) (bs : List UInt8) (hb : (if lookOf W L T c s = 1 then aget L (c, s) else none).getD [] = bs) :
    Calls Try.prog 10 #[.pointer (some ⟨tb, 0, none⟩), .int .i64 c, .int .i64 s] w fun e w' => ∃ v, e = .returned (.tuple #[.int .i64 r, v]) ∧ RdB w' v bs ∧ Kept NoBlk w w' := by
  refine (look_any h hok c s).mono ?_
  rintro e w' ⟨v, he, h1, h2⟩
  rw [hb] at h1
  rw [hr] at he
  exact ⟨v, he, h1, h2⟩

set_option maxHeartbeats 1000000 in
theorem known_any (w : World) : Calls Try.prog 6 #[] w fun e w' => e = .returned (.bool true) ∧ Kept NoBlk w w' := by
  have kc := fun (w : World) (C : Array Value) (n c : Nat) => Lib.run_convert_bytes_const (P := Try.prog) w 30 5 C n c Try.underlying30 Try.underlying5
  go_enter Try.func6, Try.ntmps6
  go_wp2_with fail
  refine (new_any 2 (by omega) (by omega) w).mono ?_
  rintro e w1 ⟨tb, lb, mb, rfl, hT, hlm, htb, hlb, hmb, hk1⟩
  have HT := Lib.hid hT
  clear hT
  go_wp2_with fail
  refine (put_at (HT.out.kept ((Kept.refl NoBlk w1).alloc _)) okTab_two hlm 1 5 _ [120] (rd_new w1 [120] (by decide) 5 (1, 2) 1 rfl _ rfl) 0 (by decide) [((1, 5), [120])] (by decide) [(1, 5)] (by decide)).mono ?_
  rintro e w2 ⟨rfl, hT2, hok2, hk2⟩
  have HT2 := Lib.hid hT2
  have HK2 := Lib.hid (hk1.inner (((Kept.refl (Two lb mb) w1).alloc _).trans hk2) (by rintro k (rfl | rfl) <;> omega))
  clear hT2 HT hk2 hk1
  go_wp2_with fail
  refine (put_at (HT2.out.kept ((Kept.refl NoBlk w2).alloc _)) hok2 hlm 1 5 _ [121] (rd_new w2 [121] (by decide) 5 (1, 2) 1 rfl _ rfl) 1 (by decide) [((1, 5), [120])] (by decide) [(1, 5)] (by decide)).mono ?_
  rintro e w3 ⟨rfl, hT3, hok3, hk3⟩
  have HT3 := Lib.hid hT3
  have HK3 := Lib.hid (HK2.out.inner (((Kept.refl (Two lb mb) w2).alloc _).trans hk3) (by rintro k (rfl | rfl) <;> omega))
  clear hT3 HT2 hk3 HK2
  go_wp2_with fail
  refine (look_at HT3.out hok3 1 5 1 (by decide) [120] (by decide)).mono ?_
  rintro e w4 ⟨v4, rfl, hv4, hk4⟩
  have HT4 := Lib.hid (HT3.out.kept hk4)
  have HK4 := Lib.hid (HK3.out.trans hk4)
  have HV4 := Lib.hid hv4
  clear HT3 hk4 HK3 hv4
  go_wp2_with fail
  refine (put_at HT4.out hok3 hlm 1 7 _ [] (RdB.nil_ w4) 0 (by decide) [((1, 7), [])] (by decide) [(1, 7)] (by decide)).mono ?_
  rintro e w5 ⟨rfl, hT5, hok5, hk5⟩
  have hn4 := HT4.out.noCells
  have HT5 := Lib.hid hT5
  have HV5 := Lib.hid (HV4.out.kept hk5 hn4)
  have HK5 := Lib.hid (HK4.out.inner hk5 (by rintro k (rfl | rfl) <;> omega))
  clear HT4 HV4 HK4 hT5 hk5 hn4
  go_wp2_with fail
  refine (look_at HT5.out hok5 1 5 2 (by decide) [] (by decide)).mono ?_
  rintro e w6 ⟨v6, rfl, _, hk6⟩
  have HT6 := Lib.hid (HT5.out.kept hk6)
  have HK6 := Lib.hid (HK5.out.trans hk6)
  have hstr := str_run (HV5.out.kept hk6 (NoCells.none w5))
  clear HT5 HV5 HK5 hk6
  go_wp2_with (go_at_call 16; refine (len_any HT6.out).mono ?_; rintro e w7 ⟨rfl, rfl⟩)
  go_ret
  exact ⟨rfl, HK6.out⟩
end Go.Proofs.Ytgopebigmcbbkaa
