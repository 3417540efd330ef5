/- Add, whatever the event. -/
import Derived.Test.YtndnbjpcjlbcjaaDoorAdd
import Derived.Test.YtndnbjpcjlbcjaaDoorPlays
namespace Go.Proofs.YtndnbjpcjlbcjaaDoor
open Go.RowKit Go.Maps

theorem not_empty {R : ByteArray} (h : R ≠ wNone) : (!R.toList.isEmpty) = true := by
  obtain ⟨a⟩ := R
  obtain ⟨l⟩ := a
  cases l with
  | nil => exact absurd rfl h
  | cons x l =>
    rw [ByteArray.toList_eq]
    rfl

/-- A history behind one more event, whether it fits or not. -/
def stepS (s : HsD) (e : EvD) : HsD := if faultS s e = wNone then addS s e else s
theorem runS_snoc' (s : HsD) (l : List EvD) (e : EvD) : runS s (l ++ [e]) = stepS (runS s l) e := runS_snoc l e s

theorem add_any {w : World} {hb k1 k2 k3 k4 : Nat} {s : HsD} (h : HMem w hb k1 k2 k3 k4 s) (ok : HOk s) (e : EvD) {A : Option Addr} {L c : Nat} (hl : e.data.length = L) (hr : okI e.ref) :
    Calls Tryd.prog 34 #[.pointer (some ⟨hb, 0, none⟩), aggE e (.slice A L c)] w (AddEnd hb k1 k2 k3 k4 (stepS s e) (faultS s e) (decide (faultS s e = wNone)) w) := by
  unfold stepS
  by_cases hf : faultS s e = wNone
  · rw [if_pos hf, decide_eq_true hf, hf]
    have hk := right_pos (fits hf).right
    obtain ⟨ki, po, re, id, li, nn, bs⟩ := e
    unfold aggE
    simp only at hk hl hr ⊢
    by_cases c2 : ki = 2
    · subst c2; exact add_2 h ok hl hr hf
    by_cases c3 : ki = 3
    · subst c3; exact add_3 h ok hl hr hf
    by_cases c4 : ki = 4
    · subst c4; exact add_4 h ok hl hr hf
    by_cases c5 : ki = 5
    · subst c5; exact add_5 h ok hl hr hf
    by_cases c6 : ki = 6
    · subst c6; exact add_6 h ok hl hr hf
    by_cases c7 : ki = 7
    · subst c7; exact add_7 h ok hl hr hf
    by_cases c8 : ki = 8
    · subst c8; exact add_8 h ok hl hr hf
    by_cases c9 : ki = 9
    · subst c9; exact add_9 h ok hl hr hf
    by_cases c10 : ki = 10
    · subst c10; exact add_10 h ok hl hr hf
    by_cases c11 : ki = 11
    · subst c11; exact add_11 h ok hl hr hf
    by_cases c12 : ki = 12
    · subst c12; exact add_12 h ok hl hr hf
    by_cases c13 : ki = 13
    · subst c13; exact add_13 h ok hl hr hf
    by_cases c14 : ki = 14
    · subst c14; exact add_14 h ok hl hr hf
    by_cases c17 : ki = 17
    · subst c17; exact add_17 h ok hl hr hf
    by_cases c18 : ki = 18
    · subst c18; exact add_18 h ok hl hr hf
    exact add_rest h ok ⟨c2, c3, c4, c5, c6, c7, c8, c9, c10, c11, c12, c13, c14, c17, c18⟩ hl hr hf
  · rw [if_neg hf, decide_eq_false hf]
    exact add_bad h ok hl hr rfl (not_empty hf)
#print axioms add_any
end Go.Proofs.YtndnbjpcjlbcjaaDoor
