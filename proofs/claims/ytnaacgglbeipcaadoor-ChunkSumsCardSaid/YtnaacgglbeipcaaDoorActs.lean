/- A slice of acts in memory; few. -/
import Derived.Test.YtnaacgglbeipcaaDoorRDone
namespace Go.Proofs.YtnaacgglbeipcaaDoor
open Go.RowKit

structure ActC where
  op : Int
  p : PcD

/-- The six cells of an act. -/
def ActAt (w : World) (base b off i : Nat) (v : Value) (a : ActC) : Prop :=
  w.cell? ⟨b, off + i * 6, none⟩ = some (.int .i64 a.op) ∧ w.cell? ⟨b, off + i * 6 + 1, none⟩ = some (.int .i64 a.p.id) ∧ w.cell? ⟨b, off + i * 6 + 2, none⟩ = some (.int .i64 a.p.pos) ∧ w.cell? ⟨b, off + i * 6 + 3, none⟩ = some (.int .i64 a.p.total) ∧
    w.cell? ⟨b, off + i * 6 + 4, none⟩ = some (.int .u32 a.p.sum) ∧ w.cell? ⟨b, off + i * 6 + 5, none⟩ = some v ∧ RdU w base v a.p.data ∧ okId a.p.id

/-- '.slice A n c' reads as the acts xs; their bytes lie below block 'base'. -/
def ActsC (w : World) (base : Nat) (A : Option Addr) (n : Nat) (xs : List ActC) : Prop :=
  xs.length = n ∧ n ≤ 9223372036854775807 ∧ (0 < n → ∃ b off, A = some ⟨b, off, none⟩ ∧ ∀ i a, xs[i]? = some a → ∃ v, ActAt w base b off i v a)

theorem ActAt.kept {w w' : World} {base b off i : Nat} {v : Value} {a : ActC} (h : ActAt w base b off i v a) (hk : Kept NoBlk w w') : ActAt w' base b off i v a := by
  obtain ⟨h0, h1, h2, h3, h4, h5, h6, h7⟩ := h
  exact ⟨hk.cell h0 (fun e => e.elim), hk.cell h1 (fun e => e.elim), hk.cell h2 (fun e => e.elim), hk.cell h3 (fun e => e.elim), hk.cell h4 (fun e => e.elim), hk.cell h5 (fun e => e.elim), h6.kept hk (fun _ e => e.elim), h7⟩
theorem ActsC.kept {w w' : World} {base : Nat} {A : Option Addr} {n : Nat} {xs : List ActC} (h : ActsC w base A n xs) (hk : Kept NoBlk w w') : ActsC w' base A n xs :=
  ⟨h.1, h.2.1, fun hn => by
    obtain ⟨b, off, e, hc⟩ := h.2.2 hn
    exact ⟨b, off, e, fun i a hi => by
      obtain ⟨v, hv⟩ := hc i a hi
      exact ⟨v, hv.kept hk⟩⟩⟩
theorem ActsC.at_ {w : World} {base : Nat} {A : Option Addr} {n : Nat} {xs : List ActC} (h : ActsC w base A n xs) {k : Nat} (hk : k < n) : ∃ b off a v, A = some ⟨b, off, none⟩ ∧ xs[k]? = some a ∧ ActAt w base b off k v a := by
  obtain ⟨b, off, e, hc⟩ := h.2.2 (by omega)
  have hl : k < xs.length := by rw [h.1]; exact hk
  obtain ⟨v, hv⟩ := hc k xs[k] (List.getElem?_eq_getElem hl)
  exact ⟨b, off, xs[k], v, e, List.getElem?_eq_getElem hl, hv⟩

/-- How many bytes some acts hold. -/
def actLen (xs : List ActC) : Nat := (xs.map (·.p.data.length)).sum
def fewB (xs : List ActC) : Bool := decide (xs.length ≤ 150) && decide ((actLen xs : Int) ≤ 8192)

theorem actLen_snoc {xs : List ActC} {k : Nat} {a : ActC} (h : xs[k]? = some a) : actLen (xs.take (k + 1)) = actLen (xs.take k) + a.p.data.length := by
  obtain ⟨hk, rfl⟩ := List.getElem?_eq_some_iff.1 h
  unfold actLen
  rw [List.take_succ_eq_append_getElem hk, List.map_append, List.sum_append]
  rfl
theorem ActsC.sum {w : World} {base : Nat} {A : Option Addr} {n : Nat} {xs : List ActC} (h : ActsC w base A n xs) : ∀ k, k ≤ n → actLen (xs.take k) ≤ k * 140737488351232
  | 0, _ => by simp [actLen]
  | k + 1, hk => by
    obtain ⟨b, off, a, v, _, ha, hv⟩ := h.at_ (k := k) (by omega)
    rw [actLen_snoc ha]
    have h1 := h.sum k (by omega)
    have h2 := hv.2.2.2.2.2.2.1.small
    omega

def FewEnd (r : Bool) (w : World) (e : Ending) (w' : World) : Prop := e = .returned (.bool r) ∧ w = w'

set_option maxHeartbeats 400000 in
theorem few_long (base : Nat) (A : Option Addr) (n c : Nat) (xs : List ActC) (w : World) (h : ActsC w base A n xs) (hl : ¬ n ≤ 150) :
    Calls Tryd.prog 15 #[.slice A n c] w (FewEnd false w) := by
  have hn := h.2.1
  have H := Lib.hid h
  clear h
  go_enter Tryd.func15, Tryd.ntmps15
  go_wp2
  go_loop [3, 4] (fun t i => ∃ (k : Nat) (x : Int), k ≤ n ∧ i = .int .i64 k ∧ t = .int .i64 x) (fun _ i => n - (intOf i).toNat)
  case atStart => exact ⟨0, 0, Nat.zero_le _, rfl, rfl⟩
  case round =>
    obtain ⟨k, x, hk, rfl, rfl⟩ := hrel
    by_cases hlt : k < n
    · obtain ⟨b, off, a, v, rfl, _, _, _, _, _, _, h5, h6, _⟩ := H.out.at_ hlt
      obtain ⟨A', n', c', rfl, _⟩ := h6
      go_wp2
      go_round
      case rel => exact ⟨k + 1, _, by omega, by go_num, rfl⟩
      case measure => simp [intOf]; omega
    · go_wp2
      go_ret
      exact ⟨rfl, rfl⟩

set_option maxHeartbeats 400000 in
theorem few_short (base : Nat) (A : Option Addr) (n c : Nat) (xs : List ActC) (w : World) (h : ActsC w base A n xs) (hl : n ≤ 150) :
    Calls Tryd.prog 15 #[.slice A n c] w (FewEnd (decide ((actLen xs : Int) ≤ 8192)) w) := by
  have H := Lib.hid h
  clear h
  go_enter Tryd.func15, Tryd.ntmps15
  go_wp2
  go_loop [3, 4] (fun t i => ∃ (k : Nat), k ≤ n ∧ i = .int .i64 k ∧ t = .int .i64 (actLen (xs.take k))) (fun _ i => n - (intOf i).toNat)
  case atStart => exact ⟨0, Nat.zero_le _, rfl, rfl⟩
  case round =>
    obtain ⟨k, hk, rfl, rfl⟩ := hrel
    have hs := H.out.sum k hk
    by_cases hlt : k < n
    · obtain ⟨b, off, a, v, rfl, ha, _, _, _, _, _, h5, h6, _⟩ := H.out.at_ hlt
      have hsn := Lib.hid (actLen_snoc ha)
      have hal := Lib.hid h6
      obtain ⟨A', n', c', rfl, _, _, hb, _⟩ := h6
      have hal := Lib.hid hal.out.len
      clear ha
      go_wp2
      go_round
      case rel => exact ⟨k + 1, by omega, by go_num, by rw [hsn.out, hal.out]; go_num⟩
      case measure => simp [intOf]; omega
    · have hkn : k = n := by omega
      have hkx := Lib.hid hkn
      have hx : (xs.take k) = xs := by rw [List.take_of_length_le]; have := H.out.1; omega
      rw [hx] at hs ⊢
      clear hkn hx
      go_wp2
      go_ret
      exact ⟨rfl, rfl⟩

theorem few_any (base : Nat) (A : Option Addr) (n c : Nat) (xs : List ActC) (w : World) (h : ActsC w base A n xs) :
    Calls Tryd.prog 15 #[.slice A n c] w (FewEnd (fewB xs) w) := by
  by_cases hl : n ≤ 150
  · have : fewB xs = decide ((actLen xs : Int) ≤ 8192) := by simp [fewB, h.1, hl]
    rw [this]
    exact few_short base A n c xs w h hl
  · have : fewB xs = false := by simp [fewB, h.1, hl]
    rw [this]
    exact few_long base A n c xs w h hl
end Go.Proofs.YtnaacgglbeipcaaDoor
