/- The status of events. -/
import Derived.Test.YtndnbjpcjlbcjaaDoorEvs
namespace Go.Proofs.YtndnbjpcjlbcjaaDoor
open Go.RowKit

/-- The status of events. -/
def statK (k : Int) : Int := if k = 19 then 6 else if k = 20 then 2 else if k = 21 then 3 else if k = 22 then 4 else if k = 23 then 5 else 1
def statR (xs : List EvD) : Int := match xs.getLast? with | none => 0 | some e => statK e.kind
theorem last_at {xs : List EvD} {n : Nat} (h : xs.length = n) {e : EvD} (he : xs[n - 1]? = some e) : statR xs = statK e.kind := by
  unfold statR
  rw [List.getLast?_eq_getElem?, h, he]
set_option maxRecDepth 100000 in
set_option maxHeartbeats 1000000 in
theorem status22_any (A : Option Addr) (n c : Nat) (xs : List EvD) (w : World) (h : Evs w A n xs) : Calls Tryd.prog 22 #[.slice A n c] w (ValEnd (.int .i64 (statR xs)) w) := by
  have hn := h.2.1
  rcases Nat.eq_zero_or_pos n with rfl | h0
  · have hx : xs = [] := List.length_eq_zero_iff.1 h.1
    subst hx
    clear h
    go_enter Tryd.func22, Tryd.ntmps22
    go_wp2_with fail
    go_ret
    exact ⟨rfl, Kept.refl _ _⟩
  · obtain ⟨b, off, a, v, rfl, ha, hc, _⟩ := h.at_ (k := n - 1) (by omega)
    rw [last_at h.1 ha]
    obtain ⟨ki, hki⟩ : ∃ k, a.kind = k := ⟨_, rfl⟩
    obtain ⟨m, hm⟩ : ∃ m, n = m + 1 := ⟨n - 1, by omega⟩
    subst hm
    rw [hki] at hc ⊢
    rw [show m + 1 - 1 = m from rfl] at hc
    clear h ha hki h0
    have z1 : ((m : Int) + 1 == 0) = false := by rw [beq_eq_false_iff_ne]; omega
    have z2 : IntKind.i64.wrap ((m : Int) + 1 - 1) = (m : Int) := by rw [IntKind.wrap_i64]; omega
    unfold statK
    by_cases c19 : ki = 19
    · subst c19
      go_enter Tryd.func22, Tryd.ntmps22
      go_wp2_with fail
      go_ret
      exact ⟨rfl, Kept.refl _ _⟩
    by_cases c20 : ki = 20
    · subst c20
      go_enter Tryd.func22, Tryd.ntmps22
      go_wp2_with fail
      go_ret
      exact ⟨rfl, Kept.refl _ _⟩
    by_cases c21 : ki = 21
    · subst c21
      go_enter Tryd.func22, Tryd.ntmps22
      go_wp2_with fail
      go_ret
      exact ⟨rfl, Kept.refl _ _⟩
    by_cases c22 : ki = 22
    · subst c22
      go_enter Tryd.func22, Tryd.ntmps22
      go_wp2_with fail
      go_ret
      exact ⟨rfl, Kept.refl _ _⟩
    by_cases c23 : ki = 23
    · subst c23
      go_enter Tryd.func22, Tryd.ntmps22
      go_wp2_with fail
      go_ret
      exact ⟨rfl, Kept.refl _ _⟩
    rw [if_neg c19, if_neg c20, if_neg c21, if_neg c22, if_neg c23]
    go_enter Tryd.func22, Tryd.ntmps22
    go_wp2_with fail
    go_ret
    exact ⟨rfl, Kept.refl _ _⟩
set_option maxRecDepth 100000 in
set_option maxHeartbeats 1000000 in
theorem status24_any (A : Option Addr) (n c : Nat) (xs : List EvD) (w : World) (h : Evs w A n xs) : Calls Tryd.prog 24 #[.slice A n c] w (ValEnd (.int .i64 (statR xs)) w) := by
  have hn := h.2.1
  rcases Nat.eq_zero_or_pos n with rfl | h0
  · have hx : xs = [] := List.length_eq_zero_iff.1 h.1
    subst hx
    clear h
    go_enter Tryd.func24, Tryd.ntmps24
    go_wp2_with fail
    go_ret
    exact ⟨rfl, Kept.refl _ _⟩
  · obtain ⟨b, off, a, v, rfl, ha, hc, _⟩ := h.at_ (k := n - 1) (by omega)
    rw [last_at h.1 ha]
    obtain ⟨ki, hki⟩ : ∃ k, a.kind = k := ⟨_, rfl⟩
    obtain ⟨m, hm⟩ : ∃ m, n = m + 1 := ⟨n - 1, by omega⟩
    subst hm
    rw [hki] at hc ⊢
    rw [show m + 1 - 1 = m from rfl] at hc
    clear h ha hki h0
    have z1 : ((m : Int) + 1 == 0) = false := by rw [beq_eq_false_iff_ne]; omega
    have z2 : IntKind.i64.wrap ((m : Int) + 1 - 1) = (m : Int) := by rw [IntKind.wrap_i64]; omega
    unfold statK
    by_cases c19 : ki = 19
    · subst c19
      go_enter Tryd.func24, Tryd.ntmps24
      go_wp2_with fail
      go_ret
      exact ⟨rfl, Kept.refl _ _⟩
    by_cases c20 : ki = 20
    · subst c20
      go_enter Tryd.func24, Tryd.ntmps24
      go_wp2_with fail
      go_ret
      exact ⟨rfl, Kept.refl _ _⟩
    by_cases c21 : ki = 21
    · subst c21
      go_enter Tryd.func24, Tryd.ntmps24
      go_wp2_with fail
      go_ret
      exact ⟨rfl, Kept.refl _ _⟩
    by_cases c22 : ki = 22
    · subst c22
      go_enter Tryd.func24, Tryd.ntmps24
      go_wp2_with fail
      go_ret
      exact ⟨rfl, Kept.refl _ _⟩
    by_cases c23 : ki = 23
    · subst c23
      go_enter Tryd.func24, Tryd.ntmps24
      go_wp2_with fail
      go_ret
      exact ⟨rfl, Kept.refl _ _⟩
    rw [if_neg c19, if_neg c20, if_neg c21, if_neg c22, if_neg c23]
    go_enter Tryd.func24, Tryd.ntmps24
    go_wp2_with fail
    go_ret
    exact ⟨rfl, Kept.refl _ _⟩
end Go.Proofs.YtndnbjpcjlbcjaaDoor
