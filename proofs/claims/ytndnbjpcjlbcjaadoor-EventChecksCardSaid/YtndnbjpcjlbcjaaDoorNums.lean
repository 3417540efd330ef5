/- rises, ints: rows of numbers, read. -/
import Derived.Test.YtndnbjpcjlbcjaaDoorOpenL
namespace Go.Proofs.YtndnbjpcjlbcjaaDoor
open Go.RowKit

/-- A slice that reads as these numbers. -/
def RdN (w : World) (A : Option Addr) (n : Nat) (ts : List Int) : Prop := ts.length = n ∧ n ≤ 1000 ∧ (0 < n → ∃ g off, A = some ⟨g, off, none⟩ ∧ ∀ j x, ts[j]? = some x → w.cell? ⟨g, off + j, none⟩ = some (.int .i64 x))
theorem RdN.kept {w w' : World} {S : Nat → Prop} {A : Option Addr} {n : Nat} {ts : List Int} (h : RdN w A n ts) (hk : Kept S w w') (hs : NoCells w S) : RdN w' A n ts :=
  ⟨h.1, h.2.1, fun hn => by
    obtain ⟨g, off, e, hc⟩ := h.2.2 hn
    exact ⟨g, off, e, fun j x hx => hk.cell (hc j x hx) (hs.cell (hc j x hx))⟩⟩
theorem OwnI.rd {w : World} {base n c : Nat} {A : Option Addr} {ts : List Int} (h : OwnI w base (.slice A n c) ts) (hn : ts.length ≤ 1000) : RdN w A n ts := by
  rcases h.2 with ⟨e, h0⟩ | ⟨g, cap, cur, e, _⟩
  · injection e with e1 e2 e3
    subst e1 e2 e3
    exact ⟨h0, by omega, fun hp => absurd hp (by omega)⟩
  · injection e with e1 e2 e3
    subst e1 e2 e3
    refine ⟨rfl, hn, fun _ => ⟨g, 0, rfl, fun j x hx => ?_⟩⟩
    have := World.ownsRow.cells (h : w.ownsRow base 3 1 _ _ _) (g := g) rfl j (.int .i64 x) (by rw [List.getElem?_map, hx]; rfl)
    have e : (⟨g, 0, none⟩ : Addr).add j = ⟨g, 0 + j, none⟩ := by
      unfold Addr.add
      split
      · simp
      · rfl
    rw [e] at this
    exact this
theorem RdN.at_ {w : World} {A : Option Addr} {n : Nat} {ts : List Int} (h : RdN w A n ts) {j : Nat} (hj : j < n) : ∃ g off x, A = some ⟨g, off, none⟩ ∧ ts[j]? = some x ∧ w.cell? ⟨g, off + j, none⟩ = some (.int .i64 x) := by
  obtain ⟨g, off, e, hc⟩ := h.2.2 (by omega)
  have hl : j < ts.length := by rw [h.1]; exact hj
  exact ⟨g, off, ts[j], e, List.getElem?_eq_getElem hl, hc j _ (List.getElem?_eq_getElem hl)⟩

set_option maxRecDepth 100000 in
set_option maxHeartbeats 1000000 in
theorem rises29_any {w : World} {A : Option Addr} {n c : Nat} {ts : List Int} (h : RdN w A n ts) (hr : ∀ i x y, ts[i]? = some x → ts[i + 1]? = some y → x < y) : Calls Tryd.prog 29 #[.slice A n c] w (ValEnd (.bool true) w) := by
  have hn := h.2.1
  have H := Lib.hid h
  have HR := Lib.hid hr
  clear h hr
  go_enter Tryd.func29, Tryd.ntmps29
  go_wp2_with fail
  go_loopg [3] (n + 1) (fun g v wr => ∃ k : Nat, 1 ≤ k ∧ k ≤ n + 1 ∧ g + k = n + 2 ∧ v = .int .i64 k ∧ Kept NoBlk w wr)
  case atStart => exact ⟨1, by omega, by omega, by omega, rfl, Kept.refl _ _⟩
  case round =>
    obtain ⟨k, hk1, hkn, hgk, rfl, hrel⟩ := hrel
    obtain ⟨wx, hwx⟩ : ∃ wx, wr = wx := ⟨_, rfl⟩
    rw [hwx] at hrel
    have Hgk := Lib.hid hgk
    have HK := Lib.hid hrel
    have HN := Lib.hid (H.out.kept HK.out (NoCells.none _))
    rw [hwx]
    clear hgk hrel hwx
    obtain ⟨m, rfl⟩ : ∃ m, k = m + 1 := ⟨k - 1, by omega⟩
    by_cases hlt : m + 1 < n
    · obtain ⟨g, off, y, hA, hy, cy⟩ := HN.out.at_ hlt
      obtain ⟨g', off', x, hA', hx, cx⟩ := HN.out.at_ (j := m) (by omega)
      subst hA
      cases hA'
      have hxy : x < y := HR.out m x y hx hy
      have hle : ¬ y ≤ x := by omega
      have z2 : IntKind.i64.wrap ((m : Int) + 1 - 1) = (m : Int) := by rw [IntKind.wrap_i64]; omega
      have z3 : (0 : Int) ≤ (m : Int) := by omega
      have z4 : (m : Int) + 1 < (n : Int) := by omega
      have z5 : (m : Int) < (n : Int) := by omega
      clear hx hy hxy
      go_wp2_with fail
      go_quiet (fail)
      go_wp2_with fail
      go_roundg (n + 2 - (m + 2))
      case measure => have := Hgk.out; omega
      case rel => exact ⟨m + 2, by omega, by omega, by omega, by go_num, by first | exact HK.out.drewN _ | exact HK.out⟩
    · have z4 : ¬ (m : Int) + 1 < (n : Int) := fun h => hlt (by omega)
      go_wp2_with fail
      go_ret
      exact ⟨rfl, HK.out⟩
end Go.Proofs.YtndnbjpcjlbcjaaDoor
