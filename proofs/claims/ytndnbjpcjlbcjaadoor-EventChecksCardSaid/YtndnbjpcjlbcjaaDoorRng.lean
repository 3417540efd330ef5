/- Going over a map of ours in whatever order: what has come, what is still to come; uses. -/
import Derived.Test.YtndnbjpcjlbcjaaDoorHist
import Derived.Maps.RangeWalk
namespace Go.Proofs.YtndnbjpcjlbcjaaDoor
open Go.RowKit Go.Maps
open Go.WideElems (Fit rd rg rd_mk rg_of)
open Go.WideShapes (sorted_perm)

/-- An element is an int. -/
def intR (v : Value) : Option (DataW Unit × List MemPlace) := match v with | .int .i64 c => some (.lit (.int .i64 c), []) | _ => none
theorem intR_inv {v : Value} {y : DataW Unit × List MemPlace} (h : intR v = some y) : ∃ c : Int, v = iv c := by
  unfold intR at h
  split at h
  · exact ⟨_, rfl⟩
  · cases h
theorem intR_val {c : Int} {y : DataW Unit × List MemPlace} (h : intR (iv c) = some y) : y.1 = .lit (.int .i64 c) := by
  unfold intR iv at h
  simp at h
  rw [← h]
theorem key3_inv {x : Int} {l : Lit} (h : keyOf Tryd.prog 3 (iv x) = some l) : l = .int .i64 x ∧ wf x := by
  simp [keyOf, Tryd.underlying3, mapKey, iv] at h
  exact ⟨h.2.symm, h.1⟩

/-- D reads as the list E. -/
structure RdE (D : DataW Unit) (E : List (Int × Int)) : Prop where
  all : ∀ p, p ∈ E → Maps.has D (.int .i64 p.1) = true
  one : ∀ x c : Int, (∀ zd, D.atKey (.int .i64 x) zd = .lit (.int .i64 c)) → (x, c) ∈ E
  nodup : (E.map (·.1)).Nodup

theorem IMap.owns {w : World} {b : Nat} {E : List (Int × Int)} (h : IMap w b E) (hE : E.length ≤ 1000000) : ∃ D0 : DataW Unit, w.ownsMap Tryd.prog 3 intR b E.length D0 ∧ RdE D0 E := by
  have hnd := h.nodup iv_inj
  obtain ⟨es, clock, hb, hs, hk, ha⟩ := h
  have hlen : es.size = E.length := by simpa using ha.length
  have hR : ∀ x ∈ es.toList, ∃ p ∈ E, x.key = iv p.1 ∧ x.val = iv p.2 ∧ rd Tryd.prog 3 intR x = some (.int .i64 p.1, .lit (.int .i64 p.2)) := by
    intro x hx
    obtain ⟨l, hl⟩ := hk x hx
    obtain ⟨p, hp, hx1, hx2⟩ := All2.mem_l ha hx
    refine ⟨p, hp, hx1, hx2, ?_⟩
    have hl' := hl
    rw [hx1] at hl'
    obtain ⟨rfl, _⟩ := key3_inv hl'
    unfold Go.WideElems.rd
    rw [hl, hx2]
    rfl
  have hrd : ∀ x ∈ es.toList, ∃ y, rd Tryd.prog 3 intR x = some y := fun x hx => by
    obtain ⟨p, _, _, _, e⟩ := hR x hx
    exact ⟨_, e⟩
  refine ⟨_, ⟨es, clock, hb, ⟨by unfold maxLen; omega, hs, hrd⟩, by omega, rfl⟩, ?_, ?_, hnd⟩
  · intro p hp
    obtain ⟨x, hx, hx1, hx2⟩ := All2.mem ha hp
    obtain ⟨q, _, e1, e2, e3⟩ := hR x hx
    have hq : q.1 = p.1 := iv_inj _ _ (e1.symm.trans hx1)
    exact List.any_eq_true.2 ⟨rg Tryd.prog 3 intR x, mem_sorted.2 (List.mem_map.2 ⟨x, hx, rfl⟩), by rw [rg_of e3, hq]; exact WideAt.sameKey_self trivial⟩
  · intro x c hat
    have hz := hat .nil
    simp only [DataW.atKey] at hz
    split at hz
    · rename_i p hp
      have hm := List.mem_of_find?_eq_some hp
      have hs := List.find?_some hp
      obtain ⟨e, he, rfl⟩ := List.mem_map.1 (mem_sorted.1 hm)
      obtain ⟨q, hq, _, _, e3⟩ := hR e he
      rw [rg_of e3] at hz hs
      have h1 := WideAt.sameKey_eq hs
      simp at h1 hz
      subst h1
      subst hz
      exact hq
    · cases hz

/-- What has come. -/
def came (left : Lit → Bool) (E : List (Int × Int)) : List (Int × Int) := E.filter (fun p => !left (.int .i64 p.1))
theorem came_none {D : DataW Unit} {E : List (Int × Int)} (h : RdE D E) : came (Maps.has D) E = [] := by
  unfold came
  rw [List.filter_eq_nil_iff]
  intro p hp
  simp [h.all p hp]
theorem came_all {left : Lit → Bool} {E : List (Int × Int)} (h : ∀ kl, left kl = false) : came left E = E := by
  unfold came
  rw [List.filter_eq_self]
  intro p _
  simp [h]
theorem came_step {left : Lit → Bool} {E : List (Int × Int)} (hn : (E.map (·.1)).Nodup) {x c : Int} (hm : (x, c) ∈ E) (hl : left (.int .i64 x) = true) :
    (came (fun z => left z && !z.sameKey (.int .i64 x)) E).Perm ((x, c) :: came left E) := by
  unfold came
  induction E with
  | nil => cases hm
  | cons p E ih =>
    rw [List.map_cons, List.nodup_cons] at hn
    rcases List.mem_cons.1 hm with e | hm'
    · subst e
      have hE : E.filter (fun p => !(left (.int .i64 p.1) && !(Lit.int .i64 p.1).sameKey (.int .i64 x))) = E.filter (fun p => !left (.int .i64 p.1)) := by
        refine List.filter_congr (fun q hq => ?_)
        have hne : q.1 ≠ x := fun e => hn.1 (e ▸ List.mem_map.2 ⟨q, hq, rfl⟩)
        have : (Lit.int .i64 q.1).sameKey (.int .i64 x) = false := Maps.sameKey_ne (fun e => hne (by injection e))
        rw [this]
        simp
      rw [List.filter_cons, List.filter_cons, hE, if_pos (by simp [hl, WideAt.sameKey_self (a := Lit.int .i64 x) trivial]), if_neg (by simp [hl])]
    · have hne : p.1 ≠ x := fun e => hn.1 (e ▸ List.mem_map.2 ⟨_, hm', rfl⟩)
      have hs : (Lit.int .i64 p.1).sameKey (.int .i64 x) = false := Maps.sameKey_ne (fun e => hne (by injection e))
      have ih' := ih hn.2 hm'
      rw [List.filter_cons, List.filter_cons]
      cases hp : left (.int .i64 p.1)
      · simp only [hp, Bool.false_and, Bool.not_false, if_true]
        exact (ih'.cons p).trans (List.Perm.swap _ _ _)
      · simp only [hp, hs, Bool.not_false, Bool.and_true, Bool.not_true, Bool.false_eq_true, if_false]
        exact ih'
end Go.Proofs.YtndnbjpcjlbcjaaDoor
