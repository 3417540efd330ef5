/- Clients: who has a greatest request, rising. -/
import Derived.Test.YtgopebigmcbbkaaLay
import Derived.Test.YtgopebigmcbbkaaPut
import Derived.Shelf.AbstractIn
import Derived.BigFrameIn
namespace Go.Proofs.Ytgopebigmcbbkaa
open Go.RowKit Go.Maps Go.Sort Go.Shelf
open Go.WideElems (Fit rd rg rd_mk rg_of)
open Go.WideShapes (sorted_perm)

/-- slices.Sort's two contracts at this program, at the fence that asks nothing. -/
theorem sortsIn (m : Nat) : AnyZI.SortsIn Try.prog Try.sorted_ren Fence.wide m :=
  ⟨fun blk off cap ss W hH hblk hsz => callsIn_wide.2 (AnyM.slices_Sort_int Try.sort blk off cap ss W hH hblk hsz),
   fun p cap W => callsIn_wide.2 (AnyM.slices_Sort_int_none Try.sort p cap W)⟩

section
variable {β : Type} {P : Program} {kt : TypeId} {kv : Int → Value} {R : Value → β → Prop} {w : World} {b : Nat} {E : List (Int × β)}
/-- What every element reads as, where nothing of it is asked. -/
def anyR : Value → Option (DataW Unit × List MemPlace) := fun _ => some (.lit (.bool true), [])

theorem key3_inv {x : Int} {l : Lit} (h : keyOf Try.prog 3 (iv x) = some l) : l = .int .i64 x ∧ wf x := by
  simp [keyOf, Try.underlying3, mapKey, iv] at h
  exact ⟨h.2.symm, h.1⟩

theorem keys_eq : ∀ {es : List MapEntry} {E : List (Int × β)}, (∀ e ∈ es, ∃ l, keyOf Try.prog 3 e.key = some l) → All2 (fun (e : MapEntry) (p : Int × β) => e.key = iv p.1 ∧ R e.val p.2) es E →
    (es.map (rg Try.prog 3 anyR)).map (fun p => _root_.Go.intOf p.1) = E.map (·.1)
  | [], [], _, _ => rfl
  | [], _ :: _, _, h => h.elim
  | _ :: _, [], _, h => h.elim
  | e :: es, p :: E, hk, h => by
    obtain ⟨l, hl⟩ := hk e (by simp)
    have hl' := hl
    rw [h.1.1] at hl'
    obtain ⟨rfl, _⟩ := key3_inv hl'
    simp only [List.map_cons]
    rw [keys_eq (fun x hx => hk x (by simp [hx])) h.2]
    congr 1
    have hr : Go.WideElems.rd Try.prog 3 anyR e = some (.int .i64 p.1, .lit (.bool true)) := by
      unfold Go.WideElems.rd
      rw [hl]
      rfl
    rw [rg_of hr]
    rfl

/-- A map of ours as the kit's own word: its keys are the list's. -/
theorem MapOf.owns (h : MapOf Try.prog 3 iv R w b E) (hE : E.length ≤ 1000000) : ∃ D0 : DataW Unit, w.ownsMap Try.prog 3 anyR b E.length D0 ∧ (intKeys D0).Perm (E.map (·.1)) ∧ Maps.size D0 = E.length := by
  obtain ⟨es, clock, hb, hs, hk, ha⟩ := h
  have hlen : es.size = E.length := by simpa using ha.length
  have hrd : ∀ x ∈ es.toList, ∃ y, Go.WideElems.rd Try.prog 3 anyR x = some y := by
    intro x hx
    obtain ⟨l, hl⟩ := hk x hx
    exact ⟨_, rd_mk hl rfl⟩
  refine ⟨_, ⟨es, clock, hb, ⟨by unfold maxLen; omega, hs, hrd⟩, by omega, rfl⟩, ?_, ?_⟩
  · have hp := sorted_perm (es.toList.map (rg Try.prog 3 (anyR)))
    rw [← keys_eq hk ha]
    exact hp.map _
  · simp [Maps.size, length_sorted, hlen]
end

def sortK {β : Type} (T : List (Int × β)) : List Int := (T.map (·.1)).mergeSort leI

def ClientsEnd (T : List (Int × Int)) (w : World) (e : Ending) (w' : World) : Prop :=
  ∃ v, e = .returned v ∧ w'.ownsRow w.heap.size 3 1 v T.length ((sortK T).map iv) ∧ Below w.heap.size w w'

set_option maxHeartbeats 1000000 in
theorem clients_any {w : World} {tb lb mb : Nat} {W : Int} {L : List ((Int × Int) × List UInt8)} {T : List (Int × Int)} (h : Tab w tb lb mb W L T) (hT : T.length ≤ 1000000) :
    Calls Try.prog 14 #[.pointer (some ⟨tb, 0, none⟩)] w (ClientsEnd T w) := by
  obtain ⟨D0, hown, hperm, hsize⟩ := h.top.owns hT
  have c2 : w.cell? ⟨tb, 0 + 2, none⟩ = some (.map (some mb)) := h.box.cell 2
  refine (callsIn_wide (n := 6)).1 ?_
  have hbl := hown.lt
  have hseq : SeqGives Fence.wide 2 Try.prog 27 #[.pointer (some ⟨w.heap.size, 0, none⟩)] encZ (fun ss => ss.Perm (intKeys D0)) (Maps.size D0) (w.alloc (.cells #[.map (some mb)] 37)) :=
    AnyZI.keys_gives (ρ := Try.keys_ren) { Try.keys with } Fence.wide _ trivial rfl (by omega) w.heap.size mb T.length D0 _ (by simp) (by simp) (by
      obtain ⟨es, clock, hb, Ft, hs, hD⟩ := hown
      exact ⟨es, clock, (Below.heap_alloc _ _ mb hbl).trans hb, Ft, hs, hD⟩)
  have cK : ∀ mb W, CallsIn Fence.wide 5 Try.prog 20 #[.map mb] W fun e w' => e = .returned (.func (.func 27) #[] #[.pointer (some ⟨W.heap.size, 0, none⟩)]) ∧ w' = W.alloc (.cells #[.map mb] 37) := fun mb W => AnyZI.keys_in Try.keys Fence.wide 5 trivial rfl mb W
  have cS := AnyZI.sorted_in Try.sorted Fence.wide 5 trivial trivial trivial trivial rfl (by omega) (sortsIn _) (enters_of Try.func26 (by kernel_rfl) rfl) 27 #[.pointer (some ⟨w.heap.size, 0, none⟩)] trivial (enters_of Try.func27 (by kernel_rfl) rfl) _ _ (by rw [hsize]; unfold maxLen; omega) (by rw [hsize]; omega) _ hseq
  change CallsIn _ _ Try.prog 19 _ _ _ at cS
  have HP := Lib.hid hperm
  have HS := Lib.hid hsize
  clear hperm hsize hT h hown hseq hbl
  have hfK : Fence.wide.fn 20 := trivial
  have hfS : Fence.wide.fn 19 := trivial
  refine callsIn_of_wp Try.func14 rfl trivial ?_ rfl
  simp only [Try.ntmps14, List.size_toArray, List.length_cons, List.length_nil, Nat.reduceAdd, Nat.reduceSub, Array.replicate_succ, Array.replicate_zero, List.push_toArray, List.append_toArray, List.nil_append, List.cons_append]
  gi_wp2_with (first
    | (gi_at_call 20; refine (cK _ _).mono ?_; rintro e w' ⟨rfl, rfl⟩)
    | (gi_at_call 19; refine cS.mono ?_; rintro e w' ⟨v, ss, rfl, hS, hrow, hnil, hb⟩))
  go_ret
  have hp2 := hS.trans HP.out
  refine ⟨v, rfl, ?_, ((Below.refl _ w).alloc (Nat.le_refl _) _).trans (hb.mono (by simp))⟩
  have hr := ownsRow_base_a (base' := w.heap.size) hrow (by simp)
  have hl : ss.length = T.length := by simpa using hp2.length_eq
  rw [hl, mergeSort_of_perm_i hp2] at hr
  exact hr

#print axioms clients_any
end Go.Proofs.Ytgopebigmcbbkaa
