/- Events that came in as an argument. -/
import Derived.Test.YtndnbjpcjlbcjaaDoorEvs
namespace Go.Proofs.YtndnbjpcjlbcjaaDoor
open Go.ChangeShapes Go.WideShapes Go.Deep Go.RowKit
structure EvsIn (w : World) (A : Option Addr) (n c : Nat) (xs : List EvD) : Prop where
  evs : Evs w A n xs
  room : n ≤ c
  cap : c ≤ maxLen
  nil : A = none → n = 0 ∧ c = 0
theorem EvsIn.kept {w w' : World} {S : Nat → Prop} {A : Option Addr} {n c : Nat} {xs : List EvD} (h : EvsIn w A n c xs) (hk : Kept S w w') (hs : NoCells w S) : EvsIn w' A n c xs := ⟨h.evs.kept hk hs, h.room, h.cap, h.nil⟩
section
variable {H : Type} {enc : TypeId × Value → H} {w : World} {spare : Nat → Bool} {held : Bool}
theorem open_slice_events {fuel : Nat} {A : Option Addr} {n c : Nat} {x : DataW H × List MemPlace} (h : DataW.trod enc Tryd.prog w 0 spare held fuel 30 [.slice A n c] = some x) (hl : Light Tryd.prog 30 x.1) : ∃ xs, EvsIn w A n c xs := by
  obtain ⟨A', n', c', xs, e, hx⟩ := open_evs h hl
  injection e with e1 e2 e3
  subst e1 e2 e3
  refine ⟨xs, ?_⟩
  suffices h3 : n ≤ c ∧ c ≤ maxLen ∧ (A = none → n = 0 ∧ c = 0) from ⟨hx, h3.1, h3.2.1, h3.2.2⟩
  rcases open_slice_fields Tryd.underlying30 Tryd.underlying24 (by kernel_rfl) (by rw [Tryd.cells24]; rfl) h with ⟨hcs, _⟩ | ⟨a, len, cap, m, D, Pl, hcs, _, hlc, hm, _⟩
  · simp only [List.cons.injEq, and_true] at hcs
    injection hcs with e1 e2 e3
    subst e1 e2 e3
    exact ⟨Nat.le_refl _, by unfold maxLen; omega, fun _ => ⟨rfl, rfl⟩⟩
  · simp only [List.cons.injEq, and_true] at hcs
    injection hcs with e1 e2 e3
    subst e1 e2 e3
    exact ⟨hlc, hm, fun h => by cases h⟩
end
end Go.Proofs.YtndnbjpcjlbcjaaDoor
