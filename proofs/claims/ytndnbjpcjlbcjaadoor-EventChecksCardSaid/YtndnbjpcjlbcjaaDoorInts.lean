/- ints: two rows of numbers, read for the same numbers. -/
import Derived.Test.YtndnbjpcjlbcjaaDoorNums
namespace Go.Proofs.YtndnbjpcjlbcjaaDoor
open Go.RowKit

set_option maxRecDepth 100000 in
set_option maxHeartbeats 1000000 in
theorem ints26_any {w : World} {A B : Option Addr} {n c c' : Nat} {ts : List Int} (h : RdN w A n ts) (h' : RdN w B n ts) : Calls Tryd.prog 26 #[.slice A n c, .slice B n c'] w (ValEnd (.bool true) w) := by
  have hn := h.2.1
  have H := Lib.hid h
  have H' := Lib.hid h'
  have hnn : ((n : Int) != (n : Int)) = false := by simp
  clear h h'
  go_enter Tryd.func26, Tryd.ntmps26
  go_wp2_with fail
  clear hnn
  go_loopg [5] n (fun g v wr => ∃ k : Nat, g + k = n ∧ v = .int .i64 k ∧ Kept NoBlk w wr)
  case atStart => exact ⟨0, by omega, rfl, Kept.refl _ _⟩
  case round =>
    obtain ⟨k, hgk, rfl, hrel⟩ := hrel
    obtain ⟨wx, hwx⟩ : ∃ wx, wr = wx := ⟨_, rfl⟩
    rw [hwx] at hrel
    have Hgk := Lib.hid hgk
    have HK := Lib.hid hrel
    have HN := Lib.hid (H.out.kept HK.out (NoCells.none _))
    have HN' := Lib.hid (H'.out.kept HK.out (NoCells.none _))
    rw [hwx]
    clear hgk hrel hwx
    by_cases hlt : k < n
    · obtain ⟨g, off, x, hA, hx, cx⟩ := HN.out.at_ hlt
      obtain ⟨g', off', x', hB, hx', cx'⟩ := HN'.out.at_ hlt
      subst hA hB
      rw [hx] at hx'
      cases hx'
      have z3 : (0 : Int) ≤ (k : Int) := by omega
      have z4 : (k : Int) < (n : Int) := by omega
      have hxx : (x != x) = false := by simp
      clear hx
      go_wp2_with fail
      go_quiet (fail)
      go_wp2_with fail
      go_roundg (n - (k + 1))
      case measure => have := Hgk.out; omega
      case rel => exact ⟨k + 1, by have := Hgk.out; omega, by go_num, by first | exact HK.out.drewN _ | exact HK.out⟩
    · have z4 : ¬ (k : Int) < (n : Int) := fun h => hlt (by omega)
      go_wp2_with fail
      go_ret
      exact ⟨rfl, HK.out⟩
end Go.Proofs.YtndnbjpcjlbcjaaDoor
