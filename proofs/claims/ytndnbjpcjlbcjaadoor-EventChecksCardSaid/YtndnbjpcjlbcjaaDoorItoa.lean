/- strconv.Itoa at this program: the shelf's contract, laid. -/
import Derived.Test.YtndnbjpcjlbcjaaDoorLay
import Derived.Test.YtndnbjpcjlbcjaaDoorRows
import Derived.Test.YtndnbjpcjlbcjaaDoorWords
namespace Go.Proofs.YtndnbjpcjlbcjaaDoor
open Go.RowKit Go.Shelf

def ItoaEnd (n : Int) (w : World) (e : Ending) (w' : World) : Prop := e = .returned (.string ⟨(Lib.itoa n).toArray⟩) ∧ Kept NoBlk w w'

theorem itoa_any (n : Int) (h0 : -9223372036854775808 ≤ n) (h1 : n ≤ 9223372036854775807) (w : World) (htab : Lib.TabIs Tryd.prog w "internal/strconv.uint64pow10" .u64 Lib.pow10Tab) :
    Calls Tryd.prog 42 #[.int .i64 n] w (ItoaEnd n w) := by
  refine (Any.strconv_Itoa Tryd.laysItoa n h0 h1 w htab).mono fun e w' ⟨he, k, os, hw⟩ => ⟨he, ?_⟩
  subst hw
  refine ⟨rfl, rfl, rfl, ?_, fun b hb _ => ?_⟩
  · simp [Sort.grow, World.drewN]
  · show (w.heap ++ os)[b]? = w.heap[b]?
    rw [Array.getElem?_append_left hb]
end Go.Proofs.YtndnbjpcjlbcjaaDoor
