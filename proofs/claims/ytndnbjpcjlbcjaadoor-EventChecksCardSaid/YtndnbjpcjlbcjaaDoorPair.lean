/- Two places of two maps are assigned at once: the steps, in whatever order. -/
import Derived.Test.YtndnbjpcjlbcjaaDoorFault
import Derived.WideKeyEntry
namespace Go.Proofs.YtndnbjpcjlbcjaaDoor
open Go.RowKit Go.Maps Go.ChangeMaps Go.WideShapes Go.MapKept
open Go.WideElems (findIdx_born findIdx_arr modify_last)

/-- Behind 'mapEntry': the block holds o; the stamp st leads a store to the place of x. -/
def Half (b : Nat) (E : List (Int × Int)) (x : Int) (v : Value) (w : World) : Prop :=
  ∃ o, w.heap[b]? = some o ∧ ∀ (w2 : World) (y : Int), w2.heap[b]? = some o → ∃ o', (Instr.entryStore 80 (.map (some b)) v (.int .i64 y)).run Tryd.prog w2 = .ok () (setBlock w2 b o') ∧ IMap (setBlock w2 b o') b (aput E x y)

theorem heap_put {w : World} {b : Nat} {o' : Obj} (o : Obj) (hb : w.heap[b]? = some o') : (setBlock w b o).heap[b]? = some o := by
  have hlt := (Array.getElem?_eq_some_iff.1 hb).1
  simp only [setBlock, Array.getElem?_setIfInBounds]
  rw [if_pos trivial, if_pos hlt]

theorem IMap.same_ {w w' : World} {b : Nat} {E : List (Int × Int)} (h : IMap w b E) (hb : w'.heap[b]? = w.heap[b]?) : IMap w' b E := MapOf.same h hb
theorem zero3' (w : World) : (zeroValue 3).run Tryd.prog w = .ok (iv 0) w := zero3 w

theorem IMap.entry {w : World} {b : Nat} {E : List (Int × Int)} (h : IMap w b E) {x : Int} (hx : wf x) :
    ∃ v0 st o, (Instr.mapEntry 80 (.map (some b)) (.int .i64 x)).run Tryd.prog w = .ok (.tuple #[v0, st]) (setBlock w b o) ∧ Half b E x st (setBlock w b o) := by
  have h0 := h
  obtain ⟨es, clock, hb, hs, hkeys, ha⟩ := h
  obtain ⟨s1, s2, s3⟩ := (stamped_iff es clock).1 hs
  have hkey : keyOf Tryd.prog 3 (iv x) = some (.int .i64 x) := key3 hx
  rcases law3.find w hkey es.toList hkeys with ⟨h1, h2⟩ | ⟨j, e0, h1, h2, h3⟩
  · refine ⟨iv 0, goInt clock, .map (es.push ⟨iv x, iv 0, clock⟩) (clock + 1), ?_, _, heap_put _ hb, fun w2 y hw2 => ⟨.map (es.push ⟨iv x, iv y, clock⟩) (clock + 1), ?_, ?_⟩⟩
    · have hz := zero3' w
      unfold iv at hz h1 h2 hkey
      simp [Instr.mapEntry, run_underlying Tryd.underlying80, MapKept.run_getObj_map hb, law3.check w false hkey, h1, hz, MapKept.run_setObj_map _ hb, Result.andThen, setBlock, iv]
    · have hidx : (es.push ⟨iv x, iv 0, clock⟩).findIdx? (fun e => ((e.born : Nat) : Int) == ((clock : Nat) : Int)) = some es.size := by
        rw [findIdx_arr]
        have := findIdx_born (l := (es.push ⟨iv x, iv 0, clock⟩).toList) (j := es.size) (e0 := ⟨iv x, iv 0, clock⟩) (by
          simp only [Array.toList_push, List.map_append, List.map_cons, List.map_nil]
          refine List.nodup_append.2 ⟨s2, by simp, fun a ha c hc e1 => ?_⟩
          simp only [List.mem_singleton] at hc
          obtain ⟨x, hx, rfl⟩ := List.mem_map.1 ha
          have := s1 x hx
          omega) (by simp)
        exact this
      have hmod : (es.push ⟨iv x, iv 0, clock⟩).modify es.size (fun e => { e with val := iv y }) = es.push ⟨iv x, iv y, clock⟩ := by
        apply Array.ext'
        rw [Array.toList_modify, Array.toList_push, Array.toList_push, ← Array.length_toList, modify_last]
      unfold iv at hidx hmod hw2
      simp [Instr.entryStore, MapKept.run_getObj_map hw2, asInt, asIntOf, goInt, hidx, hmod, MapKept.run_setObj_map _ hw2, Result.andThen, setBlock, iv]
    · refine ⟨es.push ⟨iv x, iv y, clock⟩, clock + 1, heap_put _ hw2, stamped_push hs h2, ?_, ?_⟩
      · intro z hz
        simp only [Array.toList_push, List.mem_append, List.mem_singleton] at hz
        rcases hz with hz | rfl
        · exact hkeys z hz
        · exact ⟨_, hkey⟩
      · rw [Array.toList_push]
        exact all2_push (R := fun v (x : Int) => v = iv x) rfl h2 ha
  · have hj : es[j]? = some e0 := by simpa using h2
    have hsame : es.modify j (fun e => { e with key := iv x }) = es := by
      apply Array.ext'
      rw [Array.toList_modify, modify_eq_set _ _ _ _ h2]
      have : ({ e0 with key := iv x } : MapEntry) = e0 := by rw [← h3]
      rw [this]
      exact Go.WideElems.set_self _ _ _ h2
    refine ⟨e0.val, goInt e0.born, .map es clock, ?_, _, heap_put _ hb, fun w2 y hw2 => ?_⟩
    · unfold iv at h1 h3 hsame hkey
      simp [Instr.mapEntry, run_underlying Tryd.underlying80, MapKept.run_getObj_map hb, law3.check w false hkey, h1, hj, h3, law3.stays w hkey, hsame, MapKept.run_setObj_map _ hb, Result.andThen, setBlock]
    · have hidx : es.findIdx? (fun e => ((e.born : Nat) : Int) == ((e0.born : Nat) : Int)) = some j := by
        rw [findIdx_arr]
        exact findIdx_born s2 h2
      have hm2 : IMap w2 b E := ⟨es, clock, hw2, hs, hkeys, ha⟩
      obtain ⟨o, hrun, hmap⟩ := hm2.update law3 Tryd.underlying80 iv_inj hkey (v := iv y) (x := y) rfl
      refine ⟨.map (es.modify j (fun e' => { e' with key := iv x, val := iv y })) clock, ?_, ?_⟩
      · have hmod : es.modify j (fun e => { e with val := iv y }) = es.modify j (fun e' => { e' with key := iv x, val := iv y }) := by
          apply Array.ext'
          rw [Array.toList_modify, Array.toList_modify, modify_eq_set _ _ _ _ h2, modify_eq_set _ _ _ _ h2, ← h3]
        unfold iv at hmod
        simp [Instr.entryStore, MapKept.run_getObj_map hw2, asInt, asIntOf, goInt, hidx, hmod, MapKept.run_setObj_map _ hw2, Result.andThen, setBlock, iv]
      · rcases law3.find w2 hkey es.toList hkeys with ⟨_, g2⟩ | ⟨j', e1, g1, g2, g3⟩
        · exact absurd h3 (g2 e0 (List.mem_of_getElem? h2))
        · have hjj : j' = j := by
            rcases Nat.lt_trichotomy j j' with hlt | e | hlt
            · obtain ⟨hj1, rfl⟩ := List.getElem?_eq_some_iff.1 h2
              obtain ⟨hj1', rfl⟩ := List.getElem?_eq_some_iff.1 g2
              exact absurd (h3.trans g3.symm) (List.pairwise_iff_getElem.1 s3 j j' hj1 hj1' hlt)
            · exact e.symm
            · obtain ⟨hj1, rfl⟩ := List.getElem?_eq_some_iff.1 h2
              obtain ⟨hj1', rfl⟩ := List.getElem?_eq_some_iff.1 g2
              exact absurd (g3.trans h3.symm) (List.pairwise_iff_getElem.1 s3 j' j hj1' hj1 hlt)
          subst hjj
          have hrun2 : (Instr.mapUpdate 80 (.map (some b)) (iv x) (iv y)).run Tryd.prog w2 = .ok () (setBlock w2 b (.map (es.modify j' (fun e' => { e' with key := iv x, val := iv y })) clock)) := by
            simp [Instr.mapUpdate, run_underlying Tryd.underlying80, MapKept.run_getObj_map hw2, law3.check w2 false hkey, g1, hj, h3, law3.stays w2 hkey, MapKept.run_setObj_map _ hw2, Result.andThen, setBlock]
          rw [hrun2] at hrun
          injection hrun with _ hw
          rw [hw]
          exact hmap

/-- One of the two maps: as it was (0), half way (1), done (2). -/
def MSt (b : Nat) (E : List (Int × Int)) (x y : Int) : Nat → Value → World → Prop
  | 0, _, w => IMap w b E
  | 1, v, w => Half b E x v w
  | _, _, w => IMap w b (aput E x y)
theorem MSt.other {a b : Nat} {E : List (Int × Int)} {x y : Int} {i : Nat} {v : Value} {w : World} (h : MSt b E x y i v w) (hne : b ≠ a) (o : Obj) : MSt b E x y i v (setBlock w a o) := by
  have hh := setBlock_other (w := w) (b := a) (k := b) o hne
  match i, h with
  | 0, h => exact IMap.same_ h hh
  | 1, ⟨o1, h1, h2⟩ => exact ⟨o1, hh.trans h1, h2⟩
  | _ + 2, h => exact IMap.same_ h hh

structure PSt (w0 : World) (a b : Nat) (Ea Eb : List (Int × Int)) (xa ya xb yb : Int) (i : Nat) (va : Value) (j : Nat) (vb : Value) (w : World) : Prop where
  kept : Kept (fun k => k = a ∨ k = b) w0 w
  fst : MSt a Ea xa ya i va w
  snd : MSt b Eb xb yb j vb w

section
variable {w0 w : World} {a b : Nat} {Ea Eb : List (Int × Int)} {xa ya xb yb : Int} {i j : Nat} {va vb : Value}
theorem PSt.enterA (h : PSt w0 a b Ea Eb xa ya xb yb 0 va j vb w) (hne : a ≠ b) (hx : wf xa) : ∃ v0 va' w', (Instr.mapEntry 80 (.map (some a)) (.int .i64 xa)).run Tryd.prog w = .ok (.tuple #[v0, va']) w' ∧ PSt w0 a b Ea Eb xa ya xb yb 1 va' j vb w' := by
  obtain ⟨hk, h1, h2⟩ := h
  obtain ⟨v0, st, o, hrun, hh⟩ := IMap.entry h1 hx
  exact ⟨v0, st, _, hrun, hk.setBlock (Or.inl (Or.inl rfl)) o, hh, h2.other hne.symm o⟩
theorem PSt.enterB (h : PSt w0 a b Ea Eb xa ya xb yb i va 0 vb w) (hne : a ≠ b) (hx : wf xb) : ∃ v0 vb' w', (Instr.mapEntry 80 (.map (some b)) (.int .i64 xb)).run Tryd.prog w = .ok (.tuple #[v0, vb']) w' ∧ PSt w0 a b Ea Eb xa ya xb yb i va 1 vb' w' := by
  obtain ⟨hk, h1, h2⟩ := h
  obtain ⟨v0, st, o, hrun, hh⟩ := IMap.entry h2 hx
  exact ⟨v0, st, _, hrun, hk.setBlock (Or.inl (Or.inr rfl)) o, h1.other hne o, hh⟩
theorem PSt.storeA (h : PSt w0 a b Ea Eb xa ya xb yb 1 va j vb w) (hne : a ≠ b) : ∃ w', (Instr.entryStore 80 (.map (some a)) va (.int .i64 ya)).run Tryd.prog w = .ok () w' ∧ PSt w0 a b Ea Eb xa ya xb yb 2 va j vb w' := by
  obtain ⟨hk, ⟨o1, h1, h1'⟩, h2⟩ := h
  obtain ⟨o, hrun, hm⟩ := h1' w ya h1
  exact ⟨_, hrun, hk.setBlock (Or.inl (Or.inl rfl)) o, hm, h2.other hne.symm o⟩
theorem PSt.storeB (h : PSt w0 a b Ea Eb xa ya xb yb i va 1 vb w) (hne : a ≠ b) : ∃ w', (Instr.entryStore 80 (.map (some b)) vb (.int .i64 yb)).run Tryd.prog w = .ok () w' ∧ PSt w0 a b Ea Eb xa ya xb yb i va 2 vb w' := by
  obtain ⟨hk, h1, ⟨o1, h2, h2'⟩⟩ := h
  obtain ⟨o, hrun, hm⟩ := h2' w yb h2
  exact ⟨_, hrun, hk.setBlock (Or.inl (Or.inr rfl)) o, h1.other hne o, hm⟩
end
end Go.Proofs.YtndnbjpcjlbcjaaDoor
