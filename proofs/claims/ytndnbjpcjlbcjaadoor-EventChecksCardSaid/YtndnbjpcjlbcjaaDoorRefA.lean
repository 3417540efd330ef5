/- The document's words kind, works, last: what the code computes. -/
import Derived.Test.YtndnbjpcjlbcjaaDoorStat
import Derived.Test.YtndnbjpcjlbcjaaDoorPlays
namespace Go.Proofs.YtndnbjpcjlbcjaaDoor
open Go.RowKit

def SameEnd (v : Value) (w : World) (e : Ending) (w' : World) : Prop := e = .returned v ∧ w = w'
theorem wrap_ok {x : Int} (h : -9223372036854775808 ≤ x ∧ x ≤ 9223372036854775807) : IntKind.i64.wrap x = x := by rw [IntKind.wrap_i64]; omega

set_option maxRecDepth 100000 in
set_option maxHeartbeats 1000000 in
theorem kind50_any (A : Option Addr) (n c : Nat) (xs : List EvD) (w : World) (h : Evs w A n xs) (p : Int) : Calls Tryd.prog 50 #[.slice A n c, .int .i64 p] w (SameEnd (.int .i64 (kindR xs p)) w) := by
  have hn := h.2.1
  by_cases h1 : p < 1
  · have e : kindR xs p = 0 := atR_out (Or.inl h1)
    rw [e]
    clear h e
    go_enter Tryd.func50, Tryd.ntmps50
    go_wp2_with fail
    go_ret
    exact ⟨rfl, rfl⟩
  by_cases h2 : (n : Int) < p
  · have e : kindR xs p = 0 := atR_out (Or.inr (by rw [h.1]; exact h2))
    rw [e]
    clear h e
    go_enter Tryd.func50, Tryd.ntmps50
    go_wp2_with fail
    go_ret
    exact ⟨rfl, rfl⟩
  · obtain ⟨k, hk⟩ : ∃ k : Nat, p = (k : Int) + 1 := ⟨(p - 1).toNat, by omega⟩
    subst hk
    obtain ⟨b, off, a, v, rfl, ha, hc, _⟩ := h.at_ (k := k) (by omega)
    have e : kindR xs ((k : Int) + 1) = a.kind := atR_in ha
    rw [e]
    have z2 : IntKind.i64.wrap ((k : Int) + 1 - 1) = (k : Int) := by rw [IntKind.wrap_i64]; omega
    have z3 : (0 : Int) ≤ (k : Int) := by omega
    have z4 : (k : Int) < (n : Int) := by omega
    clear h e ha
    go_enter Tryd.func50, Tryd.ntmps50
    go_wp2_with fail
    go_ret
    exact ⟨rfl, rfl⟩

theorem works_app {l m : List EvD} {p : Int} (h : worksR l p ≠ 0) : worksR (l ++ m) p = worksR l p := by
  unfold worksR at h ⊢
  rw [List.findIdx?_append]
  cases hf : l.findIdx? (fun e => decide (e.kind = 8) && decide (e.ref = p)) with
  | none => rw [hf] at h; exact absurd rfl h
  | some i => rfl
theorem take_snoc {xs : List EvD} {k : Nat} {a : EvD} (ha : xs[k]? = some a) : xs.take (k + 1) = xs.take k ++ [a] := by
  obtain ⟨hk, rfl⟩ := List.getElem?_eq_some_iff.1 ha
  exact List.take_succ_eq_append_getElem hk
theorem works_hit {xs : List EvD} {k : Nat} {a : EvD} {p : Int} (ha : xs[k]? = some a) (h0 : worksR (xs.take k) p = 0) (h : a.kind = 8 ∧ a.ref = p) : worksR xs p = (k : Int) + 1 := by
  have hk := (List.getElem?_eq_some_iff.1 ha).1
  have h1 : worksR (xs.take (k + 1)) p = (k : Int) + 1 := by
    rw [take_snoc ha, worksR_snoc, h0, if_neg (by omega), if_pos h, List.length_take]
    omega
  have := works_app (m := xs.drop (k + 1)) (show worksR (xs.take (k + 1)) p ≠ 0 by omega)
  rw [List.take_append_drop] at this
  rw [this, h1]
theorem works_miss {xs : List EvD} {k : Nat} {a : EvD} {p : Int} (ha : xs[k]? = some a) (h0 : worksR (xs.take k) p = 0) (h : ¬ (a.kind = 8 ∧ a.ref = p)) : worksR (xs.take (k + 1)) p = 0 := by
  rw [take_snoc ha, worksR_snoc, h0, if_neg (by omega), if_neg h]

set_option maxRecDepth 100000 in
set_option maxHeartbeats 1000000 in
theorem works51_any (A : Option Addr) (n c : Nat) (xs : List EvD) (w : World) (h : Evs w A n xs) (p : Int) : Calls Tryd.prog 51 #[.slice A n c, .int .i64 p] w (SameEnd (.int .i64 (worksR xs p)) w) := by
  have hn := h.2.1
  have H := Lib.hid h
  clear h
  go_enter Tryd.func51, Tryd.ntmps51
  go_wp2_with fail
  go_loopg [5] n (fun g v wr => ∃ k : Nat, g + k = n ∧ v = .int .i64 k ∧ worksR (xs.take k) p = 0 ∧ wr = w)
  case atStart => exact ⟨0, by omega, rfl, rfl, rfl⟩
  case round =>
    obtain ⟨k, hgk, rfl, h0, rfl⟩ := hrel
    have Hgk := Lib.hid hgk
    have H0 := Lib.hid h0
    clear hgk h0
    by_cases hlt : k < n
    · obtain ⟨b, off, a, v, rfl, ha, c0, _, c2, _⟩ := H.out.at_ hlt
      have HA := Lib.hid ha
      clear ha
      obtain ⟨ki, hki⟩ : ∃ x, a.kind = x := ⟨_, rfl⟩
      obtain ⟨re, hre⟩ : ∃ x, a.ref = x := ⟨_, rfl⟩
      have HKi := Lib.hid hki
      have HRe := Lib.hid hre
      rw [hki] at c0
      rw [hre] at c2
      have z3 : (0 : Int) ≤ (k : Int) := by omega
      have z4 : (k : Int) < (n : Int) := by omega
      clear hki hre
      by_cases b8 : ki = 8
      · subst b8
        by_cases br : re = p
        · subst br
          go_wp2_with fail
          go_ret
          exact ⟨by rw [works_hit HA.out H0.out ⟨HKi.out, HRe.out⟩]; go_num, rfl⟩
        · have br2 : (re == p) = false := by simpa using br
          have HB := Lib.hid br
          clear br
          go_wp2_with fail
          go_roundg (gk - 1)
          case measure => have := Hgk.out; omega
          case rel => exact ⟨k + 1, by have := Hgk.out; omega, by go_num, works_miss HA.out H0.out (fun h => HB.out (HRe.out.symm.trans h.2)), rfl⟩
      · have b82 : (ki == 8) = false := by simpa using b8
        have HB := Lib.hid b8
        clear b8
        go_wp2_with fail
        go_roundg (gk - 1)
        case measure => have := Hgk.out; omega
        case rel => exact ⟨k + 1, by have := Hgk.out; omega, by go_num, works_miss HA.out H0.out (fun h => HB.out (HKi.out.symm.trans h.1)), rfl⟩
    · have hall : xs.take k = xs := by rw [List.take_of_length_le (by rw [H.out.1]; omega)]
      have hr : worksR xs p = 0 := by
        have := H0.out
        rw [hall] at this
        exact this
      have z4 : ¬ (k : Int) < (n : Int) := fun h => hlt (by omega)
      have HR := Lib.hid hr
      clear hall hr
      go_wp2_with fail
      go_ret
      exact ⟨by rw [HR.out]; rfl, rfl⟩

set_option maxRecDepth 100000 in
set_option maxHeartbeats 1000000 in
theorem last52_any (A : Option Addr) (n c : Nat) (xs : List EvD) (w : World) (h : Evs w A n xs) (q : Int) : Calls Tryd.prog 52 #[.slice A n c, .int .i64 q] w (SameEnd (.int .i64 (lastR xs q)) w) := by
  have hn := h.2.1
  have H := Lib.hid h
  have e : lastR xs q = lastN xs q n := by unfold lastR; rw [h.1]
  rw [e]
  clear h e
  go_enter Tryd.func52, Tryd.ntmps52
  go_wp2_with fail
  go_loopg [5] n (fun g v wr => g ≤ n ∧ v = .int .i64 g ∧ lastN xs q g = lastN xs q n ∧ wr = w)
  case atStart => exact ⟨Nat.le_refl _, rfl, rfl, rfl⟩
  case round =>
    obtain ⟨hgn, rfl, h0, rfl⟩ := hrel
    have H0 := Lib.hid h0
    clear h0
    rcases Nat.eq_zero_or_pos gk with hz | hpos
    · have z0 : gk = 0 := hz
      subst z0
      clear hz
      go_wp2_with fail
      go_ret
      exact ⟨by rw [← H0.out]; rfl, rfl⟩
    · obtain ⟨k, rfl⟩ : ∃ k, gk = k + 1 := ⟨gk - 1, by omega⟩
      obtain ⟨b, off, a, v, rfl, ha, c0, _⟩ := H.out.at_ (k := k) (by omega)
      have HA := Lib.hid ha
      clear ha
      obtain ⟨ki, hki⟩ : ∃ x, a.kind = x := ⟨_, rfl⟩
      have HKi := Lib.hid hki
      rw [hki] at c0
      have z2 : IntKind.i64.wrap ((k : Int) + 1 - 1) = (k : Int) := by rw [IntKind.wrap_i64]; omega
      have z3 : (0 : Int) ≤ (k : Int) := by omega
      have z4 : (k : Int) < (n : Int) := by omega
      have z5 : (0 : Int) < (k : Int) + 1 := by omega
      have hstep : lastN xs q (k + 1) = if ki = q then k + 1 else lastN xs q k := by
        show (if (xs[k]?.map EvD.kind).getD 0 = q then k + 1 else lastN xs q k) = _
        rw [HA.out, ← HKi.out]
        rfl
      have HS := Lib.hid hstep
      clear hki hpos hstep
      by_cases bq : ki = q
      · have bq2 : (ki == q) = true := by simpa using bq
        have HB := Lib.hid bq
        clear bq
        go_wp2_with fail
        go_ret
        exact ⟨by rw [← H0.out, HS.out, if_pos HB.out]; rfl, rfl⟩
      · have bq2 : (ki == q) = false := by simpa using bq
        have HB := Lib.hid bq
        clear bq
        go_wp2_with fail
        go_roundg k
        case measure => omega
        case rel => exact ⟨by omega, rfl, by rw [← H0.out, HS.out, if_neg HB.out], rfl⟩
end Go.Proofs.YtndnbjpcjlbcjaaDoor
