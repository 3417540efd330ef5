/- The kinds: Name, Closes, Right, of the program and of the document. -/
import Derived.Test.YtndnbjpcjlbcjaaDoorRows
import Derived.Test.YtndnbjpcjlbcjaaDoorWords
import Derived.WalkKit
import Derived.WalkSpells
import Derived.WalkLawsBesides
import Derived.Lib.Hide
import Derived.LoopTactic
import Derived.Deep.LoopGhost
import Derived.Deep.DeepCutAuto
import Derived.Deep.QuietTactic
import Derived.BigQuiet
import Derived.Outline
namespace Go.Proofs.YtndnbjpcjlbcjaaDoor
open Go.RowKit

/-- A kind's name. -/
def nmL : List ByteArray := [⟨#[]⟩, ⟨#[115, 116, 97, 114, 116, 101, 100]⟩, ⟨#[115, 99, 104, 101, 100, 117, 108, 101, 100]⟩, ⟨#[100, 101, 99, 105, 100, 101, 115]⟩, ⟨#[100, 101, 99, 105, 100, 101, 100]⟩, ⟨#[109, 105, 115, 115, 101, 100]⟩, ⟨#[102, 97, 117, 108, 116, 121]⟩, ⟨#[97, 99, 116, 105, 118, 105, 116, 121]⟩, ⟨#[119, 111, 114, 107, 115]⟩, ⟨#[119, 111, 114, 107, 101, 100]⟩, ⟨#[98, 114, 111, 107, 101]⟩, ⟨#[108, 97, 112, 115, 101, 100]⟩, ⟨#[116, 105, 109, 101, 114]⟩, ⟨#[102, 105, 114, 101, 100]⟩, ⟨#[117, 110, 115, 101, 116]⟩, ⟨#[115, 105, 103, 110, 97, 108]⟩, ⟨#[99, 97, 110, 99, 101, 108]⟩, ⟨#[99, 104, 105, 108, 100]⟩, ⟨#[99, 104, 105, 108, 100, 101, 110, 100, 115]⟩, ⟨#[99, 111, 110, 116, 105, 110, 117, 101, 100]⟩, ⟨#[99, 111, 109, 112, 108, 101, 116, 101, 100]⟩, ⟨#[102, 97, 105, 108, 101, 100]⟩, ⟨#[99, 97, 110, 99, 101, 108, 101, 100]⟩, ⟨#[116, 101, 114, 109, 105, 110, 97, 116, 101, 100]⟩]
def nameOf (k : Int) : ByteArray := if k < 1 ∨ 23 < k then ⟨#[]⟩ else nmL.getD k.toNat ⟨#[]⟩
theorem nameOf_out {k : Int} (h : k < 1 ∨ 23 < k) : nameOf k = ⟨#[]⟩ := by unfold nameOf; rw [if_pos h]
theorem nameOf_in {k : Nat} (h : 1 ≤ k ∧ k ≤ 23) : nameOf (k : Int) = nmL.getD k ⟨#[]⟩ := by
  unfold nameOf
  rw [if_neg (by omega)]
  rfl
theorem kinds23 {k : Nat} (h : 1 ≤ k ∧ k ≤ 23) : k = 1 ∨ k = 2 ∨ k = 3 ∨ k = 4 ∨ k = 5 ∨ k = 6 ∨ k = 7 ∨ k = 8 ∨ k = 9 ∨ k = 10 ∨ k = 11 ∨ k = 12 ∨ k = 13 ∨ k = 14 ∨ k = 15 ∨ k = 16 ∨ k = 17 ∨ k = 18 ∨ k = 19 ∨ k = 20 ∨ k = 21 ∨ k = 22 ∨ k = 23 := by omega

def ValEnd (v : Value) (w : World) (e : Ending) (w' : World) : Prop := e = .returned v ∧ Kept NoBlk w w'

set_option maxRecDepth 100000 in
set_option maxHeartbeats 4000000 in
theorem name9_any (k : Int) (w : World) : Calls Tryd.prog 9 #[.int .i64 k] w (ValEnd (.string (nameOf k)) w) := by
  by_cases h : k < 1 ∨ 23 < k
  · rw [nameOf_out h]
    have q : k < 1 ∨ (¬ k < 1 ∧ 23 < k) := by omega
    have q2 : k < 1 ∨ (¬ k < 1 ∧ 24 ≤ k) := by omega
    clear h
    rcases q with q | ⟨q, q'⟩
    all_goals
      go_enter Tryd.func9, Tryd.ntmps9
      go_wp2_with fail
      go_ret
      exact ⟨rfl, by first | exact Kept.refl _ _ | exact (Kept.refl _ _).alloc _⟩
  · obtain ⟨n, rfl⟩ : ∃ n : Nat, k = (n : Int) := ⟨k.toNat, by omega⟩
    rw [nameOf_in (by omega)]
    have hn : 1 ≤ n ∧ n ≤ 23 := by omega
    clear h
    have h1 : (1 : Int) ≤ (n : Int) := by omega
    have h2 : (n : Int) < 24 := by omega
    have h3 : (0 : Int) ≤ (n : Int) := by omega
    have h4 : (n : Int) ≤ 23 := by omega
    have hl : ([.string ⟨#[]⟩, .string ⟨#[115, 116, 97, 114, 116, 101, 100]⟩, .string ⟨#[115, 99, 104, 101, 100, 117, 108, 101, 100]⟩, .string ⟨#[100, 101, 99, 105, 100, 101, 115]⟩, .string ⟨#[100, 101, 99, 105, 100, 101, 100]⟩, .string ⟨#[109, 105, 115, 115, 101, 100]⟩, .string ⟨#[102, 97, 117, 108, 116, 121]⟩, .string ⟨#[97, 99, 116, 105, 118, 105, 116, 121]⟩, .string ⟨#[119, 111, 114, 107, 115]⟩, .string ⟨#[119, 111, 114, 107, 101, 100]⟩, .string ⟨#[98, 114, 111, 107, 101]⟩, .string ⟨#[108, 97, 112, 115, 101, 100]⟩, .string ⟨#[116, 105, 109, 101, 114]⟩, .string ⟨#[102, 105, 114, 101, 100]⟩, .string ⟨#[117, 110, 115, 101, 116]⟩, .string ⟨#[115, 105, 103, 110, 97, 108]⟩, .string ⟨#[99, 97, 110, 99, 101, 108]⟩, .string ⟨#[99, 104, 105, 108, 100]⟩, .string ⟨#[99, 104, 105, 108, 100, 101, 110, 100, 115]⟩, .string ⟨#[99, 111, 110, 116, 105, 110, 117, 101, 100]⟩, .string ⟨#[99, 111, 109, 112, 108, 101, 116, 101, 100]⟩, .string ⟨#[102, 97, 105, 108, 101, 100]⟩, .string ⟨#[99, 97, 110, 99, 101, 108, 101, 100]⟩, .string ⟨#[116, 101, 114, 109, 105, 110, 97, 116, 101, 100]⟩] : List Value)[n]? = some (.string (nmL.getD n ⟨#[]⟩)) := by
      rcases kinds23 hn with rfl | rfl | rfl | rfl | rfl | rfl | rfl | rfl | rfl | rfl | rfl | rfl | rfl | rfl | rfl | rfl | rfl | rfl | rfl | rfl | rfl | rfl | rfl <;> rfl
    obtain ⟨s, hs⟩ : ∃ s, nmL.getD n ⟨#[]⟩ = s := ⟨_, rfl⟩
    rw [hs] at hl ⊢
    clear hs hn
    go_enter Tryd.func9, Tryd.ntmps9
    go_wp2
    go_ret
    exact ⟨rfl, (Kept.refl _ _).alloc _⟩

set_option maxRecDepth 100000 in
set_option maxHeartbeats 4000000 in
theorem name10_any (k : Int) (w : World) : Calls Tryd.prog 10 #[.int .i64 k] w (ValEnd (.string (nameOf k)) w) := by
  by_cases h : k < 1 ∨ 23 < k
  · rw [nameOf_out h]
    have q : k < 1 ∨ (¬ k < 1 ∧ 23 < k) := by omega
    have q2 : k < 1 ∨ (¬ k < 1 ∧ 24 ≤ k) := by omega
    clear h
    rcases q with q | ⟨q, q'⟩
    all_goals
      go_enter Tryd.func10, Tryd.ntmps10
      go_wp2_with fail
      go_ret
      exact ⟨rfl, by first | exact Kept.refl _ _ | exact (Kept.refl _ _).alloc _⟩
  · obtain ⟨n, rfl⟩ : ∃ n : Nat, k = (n : Int) := ⟨k.toNat, by omega⟩
    rw [nameOf_in (by omega)]
    have hn : 1 ≤ n ∧ n ≤ 23 := by omega
    clear h
    have h1 : (1 : Int) ≤ (n : Int) := by omega
    have h2 : (n : Int) < 24 := by omega
    have h3 : (0 : Int) ≤ (n : Int) := by omega
    have h4 : (n : Int) ≤ 23 := by omega
    have hl : ([.string ⟨#[]⟩, .string ⟨#[115, 116, 97, 114, 116, 101, 100]⟩, .string ⟨#[115, 99, 104, 101, 100, 117, 108, 101, 100]⟩, .string ⟨#[100, 101, 99, 105, 100, 101, 115]⟩, .string ⟨#[100, 101, 99, 105, 100, 101, 100]⟩, .string ⟨#[109, 105, 115, 115, 101, 100]⟩, .string ⟨#[102, 97, 117, 108, 116, 121]⟩, .string ⟨#[97, 99, 116, 105, 118, 105, 116, 121]⟩, .string ⟨#[119, 111, 114, 107, 115]⟩, .string ⟨#[119, 111, 114, 107, 101, 100]⟩, .string ⟨#[98, 114, 111, 107, 101]⟩, .string ⟨#[108, 97, 112, 115, 101, 100]⟩, .string ⟨#[116, 105, 109, 101, 114]⟩, .string ⟨#[102, 105, 114, 101, 100]⟩, .string ⟨#[117, 110, 115, 101, 116]⟩, .string ⟨#[115, 105, 103, 110, 97, 108]⟩, .string ⟨#[99, 97, 110, 99, 101, 108]⟩, .string ⟨#[99, 104, 105, 108, 100]⟩, .string ⟨#[99, 104, 105, 108, 100, 101, 110, 100, 115]⟩, .string ⟨#[99, 111, 110, 116, 105, 110, 117, 101, 100]⟩, .string ⟨#[99, 111, 109, 112, 108, 101, 116, 101, 100]⟩, .string ⟨#[102, 97, 105, 108, 101, 100]⟩, .string ⟨#[99, 97, 110, 99, 101, 108, 101, 100]⟩, .string ⟨#[116, 101, 114, 109, 105, 110, 97, 116, 101, 100]⟩] : List Value)[n]? = some (.string (nmL.getD n ⟨#[]⟩)) := by
      rcases kinds23 hn with rfl | rfl | rfl | rfl | rfl | rfl | rfl | rfl | rfl | rfl | rfl | rfl | rfl | rfl | rfl | rfl | rfl | rfl | rfl | rfl | rfl | rfl | rfl <;> rfl
    obtain ⟨s, hs⟩ : ∃ s, nmL.getD n ⟨#[]⟩ = s := ⟨_, rfl⟩
    rw [hs] at hl ⊢
    clear hs hn
    go_enter Tryd.func10, Tryd.ntmps10
    go_wp2
    go_ret
    exact ⟨rfl, (Kept.refl _ _).alloc _⟩

/-- Does a kind close? -/
def closesB (k : Int) : Bool := decide (19 ≤ k) && decide (k ≤ 23)
def inB (v : Int) : Bool := decide (0 ≤ v) && decide (v ≤ 1099511627776)
set_option maxHeartbeats 400000 in
theorem closes11_any (k : Int) (w : World) : Calls Tryd.prog 11 #[.int .i64 k] w fun e w' => e = .returned (.bool (closesB k)) ∧ w = w' := by
  unfold closesB
  by_cases h1 : 19 ≤ k
  · by_cases h2 : k ≤ 23
    · go_enter Tryd.func11, Tryd.ntmps11
      go_wp2_with fail
      go_ret
      exact ⟨by simp [h1, h2], rfl⟩
    · go_enter Tryd.func11, Tryd.ntmps11
      go_wp2_with fail
      go_ret
      exact ⟨by simp [h2], rfl⟩
  · go_enter Tryd.func11, Tryd.ntmps11
    go_wp2_with fail
    go_ret
    exact ⟨by simp; try omega, rfl⟩

set_option maxHeartbeats 400000 in
theorem closes12_any (k : Int) (w : World) : Calls Tryd.prog 12 #[.int .i64 k] w fun e w' => e = .returned (.bool (closesB k)) ∧ w = w' := by
  unfold closesB
  by_cases h1 : 19 ≤ k
  · by_cases h2 : k ≤ 23
    · go_enter Tryd.func12, Tryd.ntmps12
      go_wp2_with fail
      go_ret
      exact ⟨by simp [h1, h2], rfl⟩
    · go_enter Tryd.func12, Tryd.ntmps12
      go_wp2_with fail
      go_ret
      exact ⟨by simp [h2], rfl⟩
  · go_enter Tryd.func12, Tryd.ntmps12
    go_wp2_with fail
    go_ret
    exact ⟨by simp; try omega, rfl⟩

set_option maxHeartbeats 400000 in
theorem in31_any (k : Int) (w : World) : Calls Tryd.prog 31 #[.int .i64 k] w fun e w' => e = .returned (.bool (inB k)) ∧ w = w' := by
  unfold inB
  by_cases h1 : 0 ≤ k
  · by_cases h2 : k ≤ 1099511627776
    · go_enter Tryd.func31, Tryd.ntmps31
      go_wp2_with fail
      go_ret
      exact ⟨by simp [h1, h2], rfl⟩
    · go_enter Tryd.func31, Tryd.ntmps31
      go_wp2_with fail
      go_ret
      exact ⟨by simp [h2], rfl⟩
  · go_enter Tryd.func31, Tryd.ntmps31
    go_wp2_with fail
    go_ret
    exact ⟨by simp; try omega, rfl⟩

set_option maxHeartbeats 400000 in
theorem in32_any (k : Int) (w : World) : Calls Tryd.prog 32 #[.int .i64 k] w fun e w' => e = .returned (.bool (inB k)) ∧ w = w' := by
  unfold inB
  by_cases h1 : 0 ≤ k
  · by_cases h2 : k ≤ 1099511627776
    · go_enter Tryd.func32, Tryd.ntmps32
      go_wp2_with fail
      go_ret
      exact ⟨by simp [h1, h2], rfl⟩
    · go_enter Tryd.func32, Tryd.ntmps32
      go_wp2_with fail
      go_ret
      exact ⟨by simp [h2], rfl⟩
  · go_enter Tryd.func32, Tryd.ntmps32
    go_wp2_with fail
    go_ret
    exact ⟨by simp; try omega, rfl⟩

end Go.Proofs.YtndnbjpcjlbcjaaDoor
