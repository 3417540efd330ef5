/- A slice of events in memory; Few; one that came in, read as a list. -/
import Derived.Test.YtndnbjpcjlbcjaaDoorRight
import Derived.Test.YtndnbjpcjlbcjaaDoorOpen
namespace Go.Proofs.YtndnbjpcjlbcjaaDoor
open Go.ChangeShapes Go.WideShapes Go.Deep Go.RowKit

def okI (x : Int) : Prop := -9223372036854775808 ≤ x ∧ x ≤ 9223372036854775807
structure EvOk (e : EvD) : Prop where
  kind : okI e.kind
  pos : okI e.pos
  ref : okI e.ref
  id : okI e.id
  list : okI e.list
  n : okI e.n

/-- The seven cells of an event. -/
def EvAt (w : World) (b off i : Nat) (v : Value) (e : EvD) : Prop :=
  w.cell? ⟨b, off + i * 7, none⟩ = some (.int .i64 e.kind) ∧ w.cell? ⟨b, off + i * 7 + 1, none⟩ = some (.int .i64 e.pos) ∧ w.cell? ⟨b, off + i * 7 + 2, none⟩ = some (.int .i64 e.ref) ∧ w.cell? ⟨b, off + i * 7 + 3, none⟩ = some (.int .i64 e.id) ∧
    w.cell? ⟨b, off + i * 7 + 4, none⟩ = some (.int .i64 e.list) ∧ w.cell? ⟨b, off + i * 7 + 5, none⟩ = some (.int .i64 e.n) ∧ w.cell? ⟨b, off + i * 7 + 6, none⟩ = some v ∧ RdB w v e.data ∧ EvOk e
def Evs (w : World) (A : Option Addr) (n : Nat) (xs : List EvD) : Prop :=
  xs.length = n ∧ n ≤ 9223372036854775807 ∧ (0 < n → ∃ b off, A = some ⟨b, off, none⟩ ∧ ∀ i e, xs[i]? = some e → ∃ v, EvAt w b off i v e)

theorem EvAt.kept {w w' : World} {S : Nat → Prop} {b off i : Nat} {v : Value} {e : EvD} (h : EvAt w b off i v e) (hk : Kept S w w') (hs : NoCells w S) : EvAt w' b off i v e := by
  obtain ⟨h0, h1, h2, h3, h4, h5, h6, h7, h8⟩ := h
  exact ⟨hk.cell h0 (hs.cell h0), hk.cell h1 (hs.cell h1), hk.cell h2 (hs.cell h2), hk.cell h3 (hs.cell h3), hk.cell h4 (hs.cell h4), hk.cell h5 (hs.cell h5), hk.cell h6 (hs.cell h6), h7.kept hk hs, h8⟩
theorem Evs.kept {w w' : World} {S : Nat → Prop} {A : Option Addr} {n : Nat} {xs : List EvD} (h : Evs w A n xs) (hk : Kept S w w') (hs : NoCells w S) : Evs w' A n xs :=
  ⟨h.1, h.2.1, fun hn => by
    obtain ⟨b, off, e, hc⟩ := h.2.2 hn
    exact ⟨b, off, e, fun i a hi => by
      obtain ⟨v, hv⟩ := hc i a hi
      exact ⟨v, hv.kept hk hs⟩⟩⟩
theorem Evs.at_ {w : World} {A : Option Addr} {n : Nat} {xs : List EvD} (h : Evs w A n xs) {k : Nat} (hk : k < n) : ∃ b off a v, A = some ⟨b, off, none⟩ ∧ xs[k]? = some a ∧ EvAt w b off k v a := by
  obtain ⟨b, off, e, hc⟩ := h.2.2 (by omega)
  have hl : k < xs.length := by rw [h.1]; exact hk
  obtain ⟨v, hv⟩ := hc k xs[k] (List.getElem?_eq_getElem hl)
  exact ⟨b, off, xs[k], v, e, List.getElem?_eq_getElem hl, hv⟩
/-- The first k of them. -/
theorem Evs.front {w : World} {A : Option Addr} {n k : Nat} {xs : List EvD} (h : Evs w A n xs) (hk : k ≤ n) : Evs w A k (xs.take k) := by
  refine ⟨by rw [List.length_take, h.1]; omega, by have := h.2.1; omega, fun hp => ?_⟩
  obtain ⟨b, off, e, hc⟩ := h.2.2 (by omega)
  refine ⟨b, off, e, fun i a hi => hc i a ?_⟩
  rw [List.getElem?_take] at hi
  split at hi
  · exact hi
  · cases hi

/-- How many bytes some events hold. -/
def evLen (xs : List EvD) : Nat := (xs.map (·.data.length)).sum
def fewB (xs : List EvD) : Bool := decide (xs.length ≤ 120) && decide ((evLen xs : Int) ≤ 16384)
theorem evLen_snoc {xs : List EvD} {k : Nat} {a : EvD} (h : xs[k]? = some a) : evLen (xs.take (k + 1)) = evLen (xs.take k) + a.data.length := by
  obtain ⟨hk, rfl⟩ := List.getElem?_eq_some_iff.1 h
  unfold evLen
  rw [List.take_succ_eq_append_getElem hk, List.map_append, List.sum_append]
  rfl
theorem RdB.small {w : World} {v : Value} {bs : List UInt8} (h : RdB w v bs) : bs.length ≤ 140737488351232 := by
  obtain ⟨A, n, c, rfl, _, _, h1, _, h2, _⟩ := h
  simp at h2
  omega
theorem Evs.sum {w : World} {A : Option Addr} {n : Nat} {xs : List EvD} (h : Evs w A n xs) : ∀ k, k ≤ n → evLen (xs.take k) ≤ k * 140737488351232
  | 0, _ => by simp [evLen]
  | k + 1, hk => by
    obtain ⟨b, off, a, v, _, ha, hv⟩ := h.at_ (k := k) (by omega)
    rw [evLen_snoc ha]
    have h1 := h.sum k (by omega)
    have h2 := hv.2.2.2.2.2.2.2.1.small
    omega

def FewEnd (r : Bool) (w : World) (e : Ending) (w' : World) : Prop := e = .returned (.bool r) ∧ w = w'

set_option maxHeartbeats 400000 in
theorem few_long (A : Option Addr) (n c : Nat) (xs : List EvD) (w : World) (h : Evs w A n xs) (hl : ¬ n ≤ 120) :
    Calls Tryd.prog 15 #[.slice A n c] w (FewEnd false w) := by
  have hn := h.2.1
  have H := Lib.hid h
  clear h
  go_enter Tryd.func15, Tryd.ntmps15
  go_wp2
  go_loop [3, 4] (fun t i => ∃ (k : Nat) (x : Int), k ≤ n ∧ i = .int .i64 k ∧ t = .int .i64 x) (fun _ i => n - (intOf i).toNat)
  case atStart => exact ⟨0, 0, Nat.zero_le _, rfl, rfl⟩
  case round =>
    obtain ⟨k, x, hk, rfl, rfl⟩ := hrel
    by_cases hlt : k < n
    · obtain ⟨b, off, a, v, rfl, _, _, _, _, _, _, _, h5, h6, _⟩ := H.out.at_ hlt
      obtain ⟨A', n', c', rfl, _⟩ := h6
      go_wp2
      go_round
      case rel => exact ⟨k + 1, _, by omega, by go_num, rfl⟩
      case measure => simp [intOf]; omega
    · go_wp2
      go_ret
      exact ⟨rfl, rfl⟩

set_option maxHeartbeats 400000 in
theorem few_short (A : Option Addr) (n c : Nat) (xs : List EvD) (w : World) (h : Evs w A n xs) (hl : n ≤ 120) :
    Calls Tryd.prog 15 #[.slice A n c] w (FewEnd (decide ((evLen xs : Int) ≤ 16384)) w) := by
  have H := Lib.hid h
  clear h
  go_enter Tryd.func15, Tryd.ntmps15
  go_wp2
  go_loop [3, 4] (fun t i => ∃ (k : Nat), k ≤ n ∧ i = .int .i64 k ∧ t = .int .i64 (evLen (xs.take k))) (fun _ i => n - (intOf i).toNat)
  case atStart => exact ⟨0, Nat.zero_le _, rfl, rfl⟩
  case round =>
    obtain ⟨k, hk, rfl, rfl⟩ := hrel
    have hs := H.out.sum k hk
    by_cases hlt : k < n
    · obtain ⟨b, off, a, v, rfl, ha, _, _, _, _, _, _, h5, h6, _⟩ := H.out.at_ hlt
      have hsn := Lib.hid (evLen_snoc ha)
      have hal := Lib.hid h6
      obtain ⟨A', n', c', rfl, _, _, hb, _⟩ := h6
      have hal := Lib.hid hal.out.length
      clear ha
      go_wp2
      go_round
      case rel => exact ⟨k + 1, by omega, by go_num, by rw [hsn.out, hal.out]; go_num⟩
      case measure => simp [intOf]; omega
    · have hkn : k = n := by omega
      have hkx := Lib.hid hkn
      have hx : (xs.take k) = xs := by rw [List.take_of_length_le]; have := H.out.1; omega
      rw [hx] at hs ⊢
      clear hkn hx
      go_wp2
      go_ret
      exact ⟨rfl, rfl⟩

theorem few_any (A : Option Addr) (n c : Nat) (xs : List EvD) (w : World) (h : Evs w A n xs) :
    Calls Tryd.prog 15 #[.slice A n c] w (FewEnd (fewB xs) w) := by
  by_cases hl : n ≤ 120
  · have : fewB xs = decide ((evLen xs : Int) ≤ 16384) := by simp [fewB, h.1, hl]
    rw [this]
    exact few_short A n c xs w h hl
  · have : fewB xs = false := by simp [fewB, h.1, hl]
    rw [this]
    exact few_long A n c xs w h hl

section
variable {H : Type} {enc : TypeId × Value → H} {w : World} {spare : Nat → Bool} {held : Bool}
theorem wf_okI {n : Int} (h : (Lit.int .i64 n).wf = true) : okI n := by
  simp [Lit.wf, IntKind.min, IntKind.max, IntKind.signed, IntKind.bits] at h
  exact h
theorem one_cell {fuel : Nat} {t : TypeId} {v : Value} {y : DataW H × List MemPlace} (ht : Tryd.prog.underlying t = some (.int .i64)) (h : DataW.trod enc Tryd.prog w 0 spare held fuel t [v] = some y) : ∃ x, v = .int .i64 x ∧ okI x := by
  obtain ⟨n, e, _, hw⟩ := DataW.trod_int ht h
  simp at e
  exact ⟨n, e, wf_okI hw⟩
theorem Tryd.cells24 : Tryd.prog.cellsOf 24 = 7 := by kernel_rfl
theorem Tryd.cells5 : Tryd.prog.cellsOf 5 = 1 := by kernel_rfl
theorem Tryd.bytes5 : Tryd.prog.bytesOf 5 = 1 := by kernel_rfl

theorem open_evs {fuel : Nat} {v : Value} {x : DataW H × List MemPlace} (h : DataW.trod enc Tryd.prog w 0 spare held fuel 30 [v] = some x) (hl : Light Tryd.prog 30 x.1) :
    ∃ A n c xs, v = .slice A n c ∧ Evs w A n xs := by
  rcases open_slice_fields Tryd.underlying30 Tryd.underlying24 (by kernel_rfl) (by rw [Tryd.cells24]; rfl) h with ⟨hcs, _⟩ | ⟨a, len, cap, m, D, Pl, hcs, _, hlc, hm, hmm, hx, hf⟩
  · simp only [List.cons.injEq, and_true] at hcs
    subst hcs
    exact ⟨none, 0, 0, [], rfl, rfl, by decide, fun e => absurd e (by omega)⟩
  · simp only [List.cons.injEq, and_true] at hcs
    subst hcs
    have hlm : len ≤ m := by rw [hmm]; split <;> omega
    have each : ∀ i, i < len → ∃ (e : EvD), ∃ v, w.cell? (a.add (i * 7)) = some (.int .i64 e.kind) ∧ w.cell? (a.add (i * 7 + 1)) = some (.int .i64 e.pos) ∧ w.cell? (a.add (i * 7 + 2)) = some (.int .i64 e.ref) ∧ w.cell? (a.add (i * 7 + 3)) = some (.int .i64 e.id) ∧
        w.cell? (a.add (i * 7 + 4)) = some (.int .i64 e.list) ∧ w.cell? (a.add (i * 7 + 5)) = some (.int .i64 e.n) ∧ w.cell? (a.add (i * 7 + 6)) = some v ∧ RdB w v e.data ∧ EvOk e := by
      intro i hi
      obtain ⟨ys, n, hD, _, hys, hj⟩ := hf i (by omega)
      obtain ⟨v0, y0, c0, e0, t0⟩ := hj 0 _ rfl
      obtain ⟨v1, y1, c1, e1, t1⟩ := hj 1 _ rfl
      obtain ⟨v2, y2, c2, e2, t2⟩ := hj 2 _ rfl
      obtain ⟨v3, y3, c3, e3, t3⟩ := hj 3 _ rfl
      obtain ⟨v4, y4, c4, e4, t4⟩ := hj 4 _ rfl
      obtain ⟨v5, y5, c5, e5, t5⟩ := hj 5 _ rfl
      obtain ⟨v6, y6, c6, e6, t6⟩ := hj 6 _ rfl
      obtain ⟨x0, rfl, k0⟩ := one_cell Tryd.underlying3 t0
      obtain ⟨x1, rfl, k1⟩ := one_cell Tryd.underlying3 t1
      obtain ⟨x2, rfl, k2⟩ := one_cell Tryd.underlying3 t2
      obtain ⟨x3, rfl, k3⟩ := one_cell Tryd.underlying3 t3
      obtain ⟨x4, rfl, k4⟩ := one_cell Tryd.underlying3 t4
      obtain ⟨x5, rfl, k5⟩ := one_cell Tryd.underlying3 t5
      have hlD : Light Tryd.prog 24 (D i) := by
        rw [hx] at hl
        refine light_elem Tryd.underlying30 hl (List.mem_append_left _ (List.mem_map.2 ⟨i, by simpa using hi, rfl⟩))
      rw [hD] at hlD
      have hl6 : Light Tryd.prog 22 y6.1 := light_field Tryd.underlying24 hlD (j := 6) rfl (by simp [List.getElem?_map, e6])
      obtain ⟨bs, hbs⟩ := open_bytes Tryd.underlying22 Tryd.underlying5 Tryd.cells5 Tryd.bytes5 t6 hl6
      exact ⟨⟨x0, x1, x2, x3, x4, x5, bs⟩, v6, c0, c1, c2, c3, c4, c5, c6, hbs, ⟨k0, k1, k2, k3, k4, k5⟩⟩
    rcases Nat.eq_zero_or_pos len with h0 | h0
    · subst h0
      exact ⟨some a, 0, cap, [], rfl, rfl, by decide, fun e => absurd e (by omega)⟩
    · obtain ⟨b, off, spot⟩ := a
      have hspot : spot = none := by
        obtain ⟨_, _, c0, _⟩ := each 0 h0
        simpa [Addr.add] using World.cell?_spot c0
      subst hspot
      obtain ⟨f, hf⟩ : ∃ f : Nat → EvD, ∀ i, i < len → ∃ v, EvAt w b off i v (f i) := by
        have hin : Inhabited EvD := ⟨⟨0, 0, 0, 0, 0, 0, []⟩⟩
        refine choose_lt (p := fun i e => ∃ v, EvAt w b off i v e) (fun i hi => ?_)
        obtain ⟨e, v, h0, h1, h2, h3, h4, h5, h6, h7, h8⟩ := each i hi
        have hp : ∀ k, (⟨b, off, none⟩ : Addr).add k = ⟨b, off + k, none⟩ := by
          intro k
          unfold Addr.add
          split
          · rename_i hk
            rw [hk]
            rfl
          · rfl
        rw [hp] at h0 h1 h2 h3 h4 h5 h6
        exact ⟨e, v, h0, by rw [Nat.add_assoc]; exact h1, by rw [Nat.add_assoc]; exact h2, by rw [Nat.add_assoc]; exact h3, by rw [Nat.add_assoc]; exact h4, by rw [Nat.add_assoc]; exact h5, by rw [Nat.add_assoc]; exact h6, h7, h8⟩
      refine ⟨some ⟨b, off, none⟩, len, cap, (List.range len).map f, rfl, by simp, by unfold maxLen at hm; omega, fun _ => ⟨b, off, rfl, fun i e hi => ?_⟩⟩
      have hil : i < len := by
        have := (List.getElem?_eq_some_iff.1 hi).1
        simpa using this
      simp [hil] at hi
      subst hi
      exact hf i hil
end
end Go.Proofs.YtndnbjpcjlbcjaaDoor
