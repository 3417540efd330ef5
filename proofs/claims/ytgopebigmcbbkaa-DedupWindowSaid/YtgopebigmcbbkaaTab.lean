/- A table in memory, and what its methods do: NewTable, Look, Top, Len. -/
import Derived.Test.YtgopebigmcbbkaaClone
import Derived.BigQuiet
import Derived.Deep.QuietTactic
namespace Go.Proofs.Ytgopebigmcbbkaa
open Go.RowKit Go.Maps
open Go.ChangeMaps (setBlock)

theorem Try.laidOut : laidOutB Try.prog = true := by kernel_rfl
theorem Try.row51 : (51 : TypeId) < Try.prog.types.size := of_decide_eq_true (by kernel_rfl)
theorem Try.cells51 : Try.prog.cellsOf 51 = 2 := by kernel_rfl
theorem Try.cells3 : Try.prog.cellsOf 3 = 1 := by kernel_rfl
theorem Try.keyType51 : Try.prog.keyType 51 = true := by kernel_rfl
theorem Try.wide51 : (match Try.prog.underlying 51 with | some (.array _ _) | some (.struct _) => true | _ => false) = true := by kernel_rfl
theorem law51 : Keyed Try.prog 51 := Keyed.of_law (deep_law_laid Try.laidOut (m := 2) (by omega) Try.row51 (by kernel_rfl) Try.wide51)
theorem law3 : Keyed Try.prog 3 := int_keyed Try.underlying3
theorem zero3 (w : World) : (zeroValue 3).run Try.prog w = .ok (.int .i64 0) w := by kernel_rfl
theorem zero30 (w : World) : (zeroValue 30).run Try.prog w = .ok (.slice none 0 0) w := by kernel_rfl

def iv (x : Int) : Value := .int .i64 x
def kk (p : Int × Int) : Value := .agg #[.int .i64 p.1, .int .i64 p.2]
theorem iv_inj : ∀ a c : Int, iv a = iv c → a = c := by
  intro a c h
  injection h
theorem kk_inj : ∀ a c : Int × Int, kk a = kk c → a = c := by
  intro a c h
  simp [kk] at h
  exact Prod.ext h.1 h.2
def wf (x : Int) : Prop := (Lit.int .i64 x).wf = true
theorem wf_of {x : Int} (h1 : -9223372036854775808 ≤ x) (h2 : x ≤ 9223372036854775807) : wf x := WalkArith.wf_i64 ⟨h1, h2⟩
theorem key3 {x : Int} (h : wf x) : keyOf Try.prog 3 (iv x) = some (.int .i64 x) := keyOf_int_mk Try.underlying3 h
theorem Try.someTypes : 0 < Try.prog.types.size := Nat.lt_of_le_of_lt (Nat.zero_le _) Try.row51
theorem key51 {p : Int × Int} (h1 : wf p.1) (h2 : wf p.2) : ∃ l, keyOf Try.prog 51 (kk p) = some l :=
  keyOf_two Try.underlying51 Try.keyType51 Try.cells51 rfl rfl rfl rfl rfl rfl Try.underlying3 Try.cells3 Try.someTypes h1 h2

/-! ### The table in memory -/

/-- The cells of the struct: the window, the answers' map, the greatest requests' map. -/
structure Tab (w : World) (tb lb mb : Nat) (W : Int) (L : List ((Int × Int) × List UInt8)) (T : List (Int × Int)) : Prop where
  box : Blk w tb 48 #[.int .i64 W, .map (some lb), .map (some mb)]
  ans : MapOf Try.prog 51 kk (RdB w) w lb L
  top : MapOf Try.prog 3 iv (fun v (x : Int) => v = iv x) w mb T

/-- The two blocks that a Put turns. -/
def Two (lb mb : Nat) : Nat → Prop := fun k => k = lb ∨ k = mb

theorem Tab.noCells {w : World} {tb lb mb : Nat} {W : Int} {L : List ((Int × Int) × List UInt8)} {T : List (Int × Int)} (h : Tab w tb lb mb W L T) : NoCells w (Two lb mb) := by
  intro k hk cs t f
  rcases hk with rfl | rfl
  · exact h.ans.noCells cs t f
  · exact h.top.noCells cs t f

/-- A table stays over whatever turns no old block. -/
theorem Tab.kept {w w' : World} {tb lb mb : Nat} {W : Int} {L : List ((Int × Int) × List UInt8)} {T : List (Int × Int)} (h : Tab w tb lb mb W L T) (hk : Kept NoBlk w w') : Tab w' tb lb mb W L T :=
  ⟨h.box.kept hk (fun e => e.elim), (h.ans.kept hk (fun e => e.elim)).imp (fun _ _ hx => hx.kept hk (NoCells.none w)), h.top.kept hk (fun e => e.elim)⟩

end Go.Proofs.Ytgopebigmcbbkaa
