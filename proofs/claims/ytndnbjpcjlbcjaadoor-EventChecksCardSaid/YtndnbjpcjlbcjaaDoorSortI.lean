/- slices.Sort at numbers, of a row of the call's own. -/
import Derived.Test.YtndnbjpcjlbcjaaDoorLay
import Derived.Test.YtndnbjpcjlbcjaaDoorStat
import Derived.Sort.OwnSortedInts
namespace Go.Proofs.YtndnbjpcjlbcjaaDoor
open Go.RowKit Go.Shelf Go.Sort

/-- The value owns the numbers ts. -/
def OwnI (w : World) (base : Nat) (v : Value) (ts : List Int) : Prop := w.ownsRow base 3 1 v ts.length (ts.map (Value.int .i64))
def OwnS (v : Value) : Nat → Prop := fun b => v.ownBlock = some b
def srt (ts : List Int) : List Int := ts.mergeSort fun x y => decide (x ≤ y)
def SortEnd (base : Nat) (v : Value) (ts : List Int) (w : World) (e : Ending) (w' : World) : Prop := e = .returned (.tuple #[]) ∧ OwnI w' base v (srt ts) ∧ Kept (OwnS v) w w'
theorem srt_len (ts : List Int) : (srt ts).length = ts.length := List.length_mergeSort _
theorem srt_perm (ts : List Int) : (srt ts).Perm ts := List.mergeSort_perm _ _
theorem srt_sorted (ts : List Int) : (srt ts).Pairwise (· ≤ ·) := by
  have := List.pairwise_mergeSort (le := fun x y : Int => decide (x ≤ y)) (fun a b c h1 h2 => by simp at h1 h2 ⊢; omega) (fun a b => by simp; omega) ts
  exact this.imp (fun h => by simpa using h)
theorem Kept.of_grown {S : Nat → Prop} {w w' : World} {row : Option Nat} (hg : w.grownBy w' row) (h : ∀ b, row = some b → S b) : Kept S w w' := (Kept.refl S w).grown hg (fun k e => Or.inl (h k e))

theorem sort45_any {w : World} {base : Nat} {v : Value} {ts : List Int} (h : OwnI w base v ts) (hn : ts.length ≤ 1000) : Calls Tryd.prog 45 #[v] w (SortEnd base v ts w) := by
  unfold OwnI at h
  rcases h.2 with ⟨rfl, h0⟩ | ⟨g, cap, cur, rfl, hbase, hb, h1, h2, h3, h4⟩
  · have hts : ts = [] := List.length_eq_zero_iff.1 h0
    subst hts
    refine (AnyM.slices_Sort_int_none Tryd.sort none 0 w).mono ?_
    rintro e w' ⟨rfl, rfl⟩
    refine ⟨rfl, ?_, Kept.refl _ _⟩
    have e : srt [] = [] := by unfold srt; simp
    rw [e]
    exact h
  · have hc := AnyM.slices_Sort_int Tryd.sort g 0 cap ts w (holds_of_blockI hb (by simpa using h4)) (heap_lt hb) (by omega)
    refine hc.mono ?_
    rintro e w' ⟨rfl, n, os, rfl⟩
    refine ⟨rfl, ?_, Kept.of_grown (grownBy_sortedI _) (fun b e => e)⟩
    have := ownsRow_sortedI (n := n) (os := os) (base := base) (ss := ts) (ts := srt ts) (srt_len ts) hbase hb h1 h2 h3
    unfold OwnI
    rw [srt_len]
    exact this
end Go.Proofs.YtndnbjpcjlbcjaaDoor
