/- A history and the document's words about events, in plain Lean: a history that stands behind events as the document says still does so behind one more that fits. -/
import Derived.Test.YtndnbjpcjlbcjaaDoorFault
namespace Go.Proofs.YtndnbjpcjlbcjaaDoor
section

/-- What a history is behind an event that fits. -/
def addS (s : HsD) (e : EvD) : HsD :=
  let s := { s with n := s.n + 1, pos := e.pos }
  if e.kind = 2 then { s with task := s.n, begun := false }
  else if e.kind = 3 then { s with task := s.n, begun := true }
  else if e.kind = 4 ∨ e.kind = 5 ∨ e.kind = 6 then { s with task := 0, begun := false }
  else if e.kind = 7 ∨ e.kind = 12 ∨ e.kind = 17 then { s with kinds := aput s.kinds s.n e.kind, ids := aput s.ids s.n e.id }
  else if e.kind = 8 then { s with of_ := aput s.of_ s.n e.ref, frm := aput s.frm e.ref s.n }
  else if e.kind = 9 ∨ e.kind = 10 ∨ e.kind = 11 then
    { s with of_ := adel s.of_ e.ref, frm := adel s.frm ((aget s.of_ e.ref).getD 0), kinds := adel s.kinds ((aget s.of_ e.ref).getD 0), ids := adel s.ids ((aget s.of_ e.ref).getD 0) }
  else if e.kind = 13 ∨ e.kind = 14 ∨ e.kind = 18 then { s with kinds := adel s.kinds e.ref, ids := adel s.ids e.ref }
  else if closesB e.kind then { s with closed := e.kind }
  else s

/-! ### The document's words -/
/-- A number of the event at a place; 0: there is none. -/
def atR (f : EvD → Int) (l : List EvD) (p : Int) : Int := if p < 1 ∨ (l.length : Int) < p then 0 else (l[(p - 1).toNat]?.map f).getD 0
def kindR (l : List EvD) (p : Int) : Int := atR EvD.kind l p
def refR (l : List EvD) (p : Int) : Int := atR EvD.ref l p
def idR (l : List EvD) (p : Int) : Int := atR EvD.id l p
def namedR (l : List EvD) (p : Int) (ks : List Int) : Bool := l.any fun e => decide (e.ref = p) && ks.contains e.kind
def worksR (l : List EvD) (p : Int) : Int := match l.findIdx? (fun e => decide (e.kind = 8) && decide (e.ref = p)) with | some i => (i : Int) + 1 | none => 0
def openR (l : List EvD) (p : Int) : Bool :=
  if kindR l p = 7 then decide (worksR l p = 0) || !namedR l (worksR l p) [9, 10, 11]
  else if kindR l p = 12 then !namedR l p [13, 14]
  else if kindR l p = 17 then !namedR l p [18]
  else false
def lastN (l : List EvD) (k : Int) : Nat → Nat
  | 0 => 0
  | i + 1 => if (l[i]?.map EvD.kind).getD 0 = k then i + 1 else lastN l k i
def lastR (l : List EvD) (k : Int) : Int := lastN l k l.length
def taskR (l : List EvD) : Int × Int :=
  if lastR l 2 = 0 then (0, 0)
  else if lastR l 3 < lastR l 2 then (1, lastR l 2)
  else if namedR l (lastR l 3) [4, 5, 6] then (0, 0)
  else (2, lastR l 3)
def refsR (l : List EvD) (e : EvD) : Bool :=
  if e.kind = 3 then decide ((taskR l).1 = 1) && decide (e.ref = (taskR l).2)
  else if e.kind = 4 ∨ e.kind = 5 ∨ e.kind = 6 then decide ((taskR l).1 = 2) && decide (e.ref = (taskR l).2)
  else if e.kind = 8 then decide (kindR l e.ref = 7) && decide (worksR l e.ref = 0)
  else if e.kind = 9 ∨ e.kind = 10 ∨ e.kind = 11 then decide (kindR l e.ref = 8) && openR l (refR l e.ref)
  else if e.kind = 13 ∨ e.kind = 14 then decide (kindR l e.ref = 12) && openR l e.ref
  else if e.kind = 18 then decide (kindR l e.ref = 17) && openR l e.ref
  else decide (e.ref = 0)
def sameR (l : List EvD) (e : EvD) (i : Nat) : Bool := match l[i]? with | some x => decide (x.kind = e.kind) && decide (x.id = e.id) && openR l ((i : Int) + 1) | none => false
def whyR (l : List EvD) (e : EvD) : ByteArray :=
  if rightB e = false then wEvent
  else if 0 < l.length ∧ e.pos < atR EvD.pos l l.length then wTime
  else if (decide (l.length = 0) != decide (e.kind = 1)) = true then wFirst
  else if l.any (fun x => closesB x.kind) = true then wClosed
  else if refsR l e = false then wRef
  else if e.kind = 2 ∧ (taskR l).1 ≠ 0 then wTask
  else if (e.kind = 7 ∨ e.kind = 12 ∨ e.kind = 17) ∧ (List.range l.length).any (sameR l e) = true then wId
  else wNone

/-! ### One event more -/
theorem atR_snoc (f : EvD → Int) (l : List EvD) (e : EvD) (p : Int) : atR f (l ++ [e]) p = if p = l.length + 1 then f e else atR f l p := by
  unfold atR
  by_cases h : p = l.length + 1
  · subst h
    rw [if_neg (by simp; omega), if_pos rfl]
    have : ((l.length : Int) + 1 - 1).toNat = l.length := by omega
    rw [this]
    simp
  · rw [if_neg h]
    by_cases h2 : p < 1 ∨ (l.length : Int) < p
    · rw [if_pos h2, if_pos (by simp; omega)]
    · rw [if_neg h2, if_neg (by simp; omega)]
      rw [List.getElem?_append_left (by omega)]
theorem atR_out {f : EvD → Int} {l : List EvD} {p : Int} (h : p < 1 ∨ (l.length : Int) < p) : atR f l p = 0 := by
  unfold atR
  rw [if_pos h]
theorem atR_in {f : EvD → Int} {l : List EvD} {i : Nat} {e : EvD} (h : l[i]? = some e) : atR f l (i + 1) = f e := by
  have := (List.getElem?_eq_some_iff.1 h).1
  unfold atR
  rw [if_neg (by omega)]
  have : ((i : Int) + 1 - 1).toNat = i := by omega
  rw [this, h]
  rfl
theorem kindR_range {l : List EvD} {p : Int} (h : kindR l p ≠ 0) : 1 ≤ p ∧ p ≤ l.length := by
  by_cases h2 : p < 1 ∨ (l.length : Int) < p
  · exact absurd (atR_out h2) h
  · omega
theorem kindR_at {l : List EvD} {p : Int} (h : 1 ≤ p ∧ p ≤ l.length) : ∃ i e, p = (i : Nat) + 1 ∧ l[i]? = some e := by
  refine ⟨(p - 1).toNat, l[(p - 1).toNat]'(by omega), by omega, by simp⟩
theorem namedR_snoc (l : List EvD) (e : EvD) (p : Int) (ks : List Int) : namedR (l ++ [e]) p ks = (namedR l p ks || (decide (e.ref = p) && ks.contains e.kind)) := by
  unfold namedR
  rw [List.any_append]
  simp
theorem worksR_snoc (l : List EvD) (e : EvD) (p : Int) : worksR (l ++ [e]) p = if worksR l p ≠ 0 then worksR l p else if e.kind = 8 ∧ e.ref = p then (l.length : Int) + 1 else 0 := by
  unfold worksR
  rw [List.findIdx?_append]
  cases h : l.findIdx? (fun e => decide (e.kind = 8) && decide (e.ref = p)) with
  | some i => simp; omega
  | none =>
    by_cases h2 : e.kind = 8 ∧ e.ref = p
    · simp [List.findIdx?_cons, h2]
    · simp only [Option.none_or, List.findIdx?_cons, List.findIdx?_nil]
      have : (decide (e.kind = 8) && decide (e.ref = p)) = false := by simpa using h2
      simp [this, h2]
theorem worksR_some {l : List EvD} {p : Int} (h : worksR l p ≠ 0) : kindR l (worksR l p) = 8 ∧ refR l (worksR l p) = p := by
  unfold worksR at h ⊢
  cases hf : l.findIdx? (fun e => decide (e.kind = 8) && decide (e.ref = p)) with
  | none => rw [hf] at h; exact absurd rfl h
  | some i =>
    obtain ⟨hlt, hp, _⟩ := List.findIdx?_eq_some_iff_getElem.1 hf
    simp only [Bool.and_eq_true, decide_eq_true_eq] at hp
    have hi : l[i]? = some l[i] := List.getElem?_eq_getElem hlt
    exact ⟨(atR_in hi).trans hp.1, (atR_in hi).trans hp.2⟩
theorem worksR_nonneg (l : List EvD) (p : Int) : 0 ≤ worksR l p := by
  unfold worksR
  split <;> omega
theorem lastN_snoc (l : List EvD) (e : EvD) (k : Int) : ∀ i, i ≤ l.length → lastN (l ++ [e]) k i = lastN l k i
  | 0, _ => rfl
  | i + 1, h => by
    unfold lastN
    rw [List.getElem?_append_left (by omega), lastN_snoc l e k i (by omega)]
theorem lastR_snoc (l : List EvD) (e : EvD) (k : Int) : lastR (l ++ [e]) k = if e.kind = k then (l.length : Int) + 1 else lastR l k := by
  unfold lastR
  rw [List.length_append, List.length_singleton, lastN, List.getElem?_concat_length, lastN_snoc l e k _ (Nat.le_refl _)]
  simp only [Option.map_some, Option.getD_some]
  split <;> simp
theorem lastN_le (l : List EvD) (k : Int) : ∀ i, lastN l k i ≤ i
  | 0 => Nat.le_refl _
  | i + 1 => by
    unfold lastN
    split
    · omega
    · have := lastN_le l k i
      omega
theorem lastR_le (l : List EvD) (k : Int) : 0 ≤ lastR l k ∧ lastR l k ≤ l.length := by
  unfold lastR
  have := lastN_le l k l.length
  omega
theorem openR_kind {l : List EvD} {p : Int} (h : openR l p = true) : kindR l p = 7 ∨ kindR l p = 12 ∨ kindR l p = 17 := by
  unfold openR at h
  split at h
  · exact Or.inl ‹_›
  · split at h
    · exact Or.inr (Or.inl ‹_›)
    · split at h
      · exact Or.inr (Or.inr ‹_›)
      · cases h

/-- How a history stands behind events. -/
structure Inv (l : List EvD) (s : HsD) : Prop where
  n : s.n = l.length
  pos : s.pos = atR EvD.pos l l.length
  closed : (s.closed != 0) = l.any (fun x => closesB x.kind)
  back : ∀ p : Int, 1 ≤ p → p ≤ l.length → 0 ≤ refR l p ∧ refR l p < p
  task : taskR l = if s.task = 0 then (0, 0) else if s.begun then (2, s.task) else (1, s.task)
  began : s.task = 0 → s.begun = false
  tpos : 0 ≤ s.task ∧ s.task ≤ l.length
  one : ∀ p, kindR l p = 8 → worksR l (refR l p) = p ∧ kindR l (refR l p) = 7
  kinds : ∀ p : Int, aget s.kinds p = if openR l p then some (kindR l p) else none
  ids : ∀ p : Int, aget s.ids p = if openR l p then some (idR l p) else none
  of_ : ∀ p : Int, aget s.of_ p = if kindR l p = 8 ∧ openR l (refR l p) = true then some (refR l p) else none
  frm : ∀ a : Int, aget s.frm a = if openR l a = true ∧ kindR l a = 7 ∧ worksR l a ≠ 0 then some (worksR l a) else none
  nd1 : (s.kinds.map (·.1)).Nodup
  nd2 : (s.ids.map (·.1)).Nodup
  nd3 : (s.of_.map (·.1)).Nodup
  nd4 : (s.frm.map (·.1)).Nodup

theorem Inv.none_ : Inv [] HsD.none_ := by
  have hk : ∀ p, kindR [] p = 0 := fun p => by
    by_cases h : p < 1
    · exact atR_out (Or.inl h)
    · exact atR_out (Or.inr (by simp; omega))
  have ho : ∀ p, openR [] p = false := fun p => by
    unfold openR
    rw [hk]
    simp
  refine ⟨rfl, ?_, rfl, ?_, rfl, fun _ => rfl, by simp [HsD.none_], ?_, ?_, ?_, ?_, ?_, by simp [HsD.none_], by simp [HsD.none_], by simp [HsD.none_], by simp [HsD.none_]⟩
  · rw [atR_out (Or.inl (by simp))]; rfl
  · intro p h1 h2; simp at h2; omega
  · intro p h; rw [hk] at h; omega
  · intro p; rw [ho]; rfl
  · intro p; rw [ho]; rfl
  · intro p; rw [hk]; rfl
  · intro p; rw [ho]; rfl

theorem named_far {l : List EvD} {s : HsD} (h : Inv l s) {p : Int} (hp : (l.length : Int) < p) (ks : List Int) : namedR l p ks = false := by
  unfold namedR
  rw [List.any_eq_false]
  intro e he
  obtain ⟨i, hi⟩ := List.mem_iff_getElem?.1 he
  have hlt := (List.getElem?_eq_some_iff.1 hi).1
  have := h.back (i + 1) (by omega) (by omega)
  unfold refR at this
  rw [atR_in hi] at this
  simp; omega
theorem works_far {l : List EvD} {s : HsD} (h : Inv l s) {p : Int} (hp : (l.length : Int) < p) : worksR l p = 0 := by
  by_cases hw : worksR l p = 0
  · exact hw
  · have ⟨h1, h2⟩ := worksR_some hw
    have hr := kindR_range (l := l) (p := worksR l p) (by rw [h1]; decide)
    have := h.back _ hr.1 hr.2
    omega
end
section
variable {l : List EvD} {s : HsD} {e : EvD} {p : Int}
theorem kindR_snoc (l : List EvD) (e : EvD) (p : Int) : kindR (l ++ [e]) p = if p = l.length + 1 then e.kind else kindR l p := atR_snoc _ _ _ _
theorem refR_snoc (l : List EvD) (e : EvD) (p : Int) : refR (l ++ [e]) p = if p = l.length + 1 then e.ref else refR l p := atR_snoc _ _ _ _
theorem idR_snoc (l : List EvD) (e : EvD) (p : Int) : idR (l ++ [e]) p = if p = l.length + 1 then e.id else idR l p := atR_snoc _ _ _ _
theorem kindR_top (l : List EvD) : kindR l (l.length + 1) = 0 := atR_out (Or.inr (by omega))
theorem openR_top (l : List EvD) : openR l (l.length + 1) = false := by unfold openR; rw [kindR_top]; simp

theorem works_not (h : ¬ (e.kind = 8 ∧ e.ref = p)) : worksR (l ++ [e]) p = worksR l p := by
  rw [worksR_snoc, if_neg h]
  split <;> omega
theorem open_other (hk : e.kind ≠ 7 ∧ e.kind ≠ 12 ∧ e.kind ≠ 17 ∧ e.kind ≠ 8 ∧ e.kind ≠ 9 ∧ e.kind ≠ 10 ∧ e.kind ≠ 11 ∧ e.kind ≠ 13 ∧ e.kind ≠ 14 ∧ e.kind ≠ 18) (p : Int) : openR (l ++ [e]) p = openR l p := by
  by_cases hp : p = l.length + 1
  · subst hp
    rw [openR_top]
    unfold openR
    rw [kindR_snoc, if_pos rfl, if_neg hk.1, if_neg hk.2.1, if_neg hk.2.2.1]
  · unfold openR
    have hw : worksR (l ++ [e]) p = worksR l p := by
      rw [worksR_snoc, if_neg (fun h : e.kind = 8 ∧ e.ref = p => hk.2.2.2.1 h.1)]
      split <;> omega
    rw [kindR_snoc, if_neg hp, hw]
    simp only [namedR_snoc]
    simp [hk.2.2.2.2]
theorem open_new (h : Inv l s) (he : e.ref = 0) (hk : e.kind = 7 ∨ e.kind = 12 ∨ e.kind = 17) (p : Int) : openR (l ++ [e]) p = if p = l.length + 1 then true else openR l p := by
  by_cases hp : p = l.length + 1
  · subst hp
    rw [if_pos rfl]
    have hw : worksR (l ++ [e]) (l.length + 1) = 0 := by
      rw [worksR_snoc, works_far h (by omega), if_neg (by omega), if_neg (by omega)]
    have hn : ∀ ks, namedR (l ++ [e]) (l.length + 1) ks = false := by
      intro ks
      rw [namedR_snoc, named_far h (by omega)]
      simp; omega
    unfold openR
    rw [kindR_snoc, if_pos rfl, hw, hn, hn]
    rcases hk with hk | hk | hk <;> simp [hk]
  · rw [if_neg hp]
    unfold openR
    have hw : worksR (l ++ [e]) p = worksR l p := works_not (by omega)
    rw [kindR_snoc, if_neg hp, hw]
    simp only [namedR_snoc]
    rcases hk with hk | hk | hk <;> simp [hk]
theorem open_works (h : Inv l s) (hk : e.kind = 8) (h7 : kindR l e.ref = 7) (h0 : worksR l e.ref = 0) (p : Int) : openR (l ++ [e]) p = openR l p := by
  have hr := kindR_range (l := l) (p := e.ref) (by omega)
  by_cases hp : p = l.length + 1
  · subst hp
    rw [openR_top]
    unfold openR
    rw [kindR_snoc, if_pos rfl, hk]
    simp
  · unfold openR
    rw [kindR_snoc, if_neg hp]
    by_cases hpe : p = e.ref
    · subst hpe
      have hw : worksR (l ++ [e]) e.ref = l.length + 1 := by
        rw [worksR_snoc, h0, if_neg (by omega), if_pos ⟨hk, rfl⟩]
      rw [hw, h0, h7]
      simp only [namedR_snoc, named_far h (p := (l.length : Int) + 1) (by omega)]
      simp [hk]
    · have hw : worksR (l ++ [e]) p = worksR l p := works_not (by omega)
      rw [hw]
      simp only [namedR_snoc]
      simp [hk]
theorem open_end (h : Inv l s) (hk : e.kind = 9 ∨ e.kind = 10 ∨ e.kind = 11) (h8 : kindR l e.ref = 8) (p : Int) : openR (l ++ [e]) p = if p = refR l e.ref then false else openR l p := by
  obtain ⟨o1, o2⟩ := h.one _ h8
  have hr := kindR_range (l := l) (p := refR l e.ref) (by omega)
  have hr2 := kindR_range (l := l) (p := e.ref) (by omega)
  have hw : worksR (l ++ [e]) p = worksR l p := works_not (by omega)
  by_cases hp : p = l.length + 1
  · subst hp
    rw [openR_top]
    unfold openR
    rw [kindR_snoc, if_pos rfl]
    rcases hk with hk | hk | hk <;> simp [hk]
  · unfold openR
    rw [kindR_snoc, if_neg hp, hw]
    by_cases hpe : p = refR l e.ref
    · subst hpe
      rw [o1, o2]
      simp only [namedR_snoc]
      have : e.ref ≠ 0 := by omega
      rcases hk with hk | hk | hk <;> simp [hk, this]
    · rw [if_neg hpe]
      by_cases h7 : kindR l p = 7
      · rw [if_pos h7, if_pos h7, namedR_snoc]
        by_cases hw0 : worksR l p = 0
        · simp [hw0]
        · have hne : e.ref ≠ worksR l p := by
            intro e1
            apply hpe
            rw [e1]
            exact (worksR_some hw0).2.symm
          simp [hne]
      · rw [if_neg h7, if_neg h7]
        simp only [namedR_snoc]
        rcases hk with hk | hk | hk <;> simp [hk]
theorem open_fire (hk : (e.kind = 13 ∨ e.kind = 14) ∧ kindR l e.ref = 12 ∨ e.kind = 18 ∧ kindR l e.ref = 17) (p : Int) : openR (l ++ [e]) p = if p = e.ref then false else openR l p := by
  have hr := kindR_range (l := l) (p := e.ref) (by omega)
  have hw : worksR (l ++ [e]) p = worksR l p := works_not (by omega)
  by_cases hp : p = l.length + 1
  · subst hp
    rw [openR_top]
    unfold openR
    rw [kindR_snoc, if_pos rfl]
    rcases hk with ⟨hk | hk, _⟩ | ⟨hk, _⟩ <;> simp [hk]
  · unfold openR
    rw [kindR_snoc, if_neg hp, hw]
    simp only [namedR_snoc]
    by_cases hpe : p = e.ref
    · subst hpe
      rw [if_pos rfl]
      rcases hk with ⟨hk | hk, h1⟩ | ⟨hk, h1⟩ <;> simp [hk, h1]
    · rw [if_neg hpe]
      have : ¬ e.ref = p := fun e => hpe e.symm
      rcases hk with ⟨hk | hk, h1⟩ | ⟨hk, h1⟩ <;> simp [hk, this]
theorem works_same (hk : e.kind ≠ 8) (p : Int) : worksR (l ++ [e]) p = worksR l p := works_not (fun h => hk h.1)
end
section
variable {l : List EvD} {s : HsD} {e : EvD} {p : Int}
theorem beq_dec (a b : Int) : (a == b) = decide (a = b) := by by_cases h : a = b <;> simp [h]
theorem openR_act (h7 : kindR l p = 7) (h0 : worksR l p = 0) : openR l p = true := by
  unfold openR
  simp [h7, h0]
theorem refB_eq (h : Inv l s) (e : EvD) : refB s e.kind e.ref = refsR l e := by
  unfold refB refsR
  have ht := h.task
  have hb := h.began
  by_cases h3 : e.kind = 3
  · rw [if_pos h3, if_pos h3, ht]
    by_cases h0 : s.task = 0
    · simp [h0]
    · cases hbg : s.begun <;> simp [h0, beq_dec, bne]
  rw [if_neg h3, if_neg h3]
  by_cases h4 : e.kind = 4 ∨ e.kind = 5 ∨ e.kind = 6
  · rw [if_pos h4, if_pos h4, ht]
    by_cases h0 : s.task = 0
    · simp [h0]
    · cases hbg : s.begun <;> simp [h0, beq_dec, bne]
  rw [if_neg h4, if_neg h4]
  by_cases h8 : e.kind = 8
  · rw [if_pos h8, if_pos h8, h.kinds, h.frm]
    by_cases h7 : kindR l e.ref = 7
    · by_cases h0 : worksR l e.ref = 0
      · simp [openR_act h7 h0, h7, h0]
      · cases ho : openR l e.ref <;> simp [h7, h0]
    · cases ho : openR l e.ref <;> simp [h7]
  rw [if_neg h8, if_neg h8]
  by_cases h9 : e.kind = 9 ∨ e.kind = 10 ∨ e.kind = 11
  · rw [if_pos h9, if_pos h9, h.of_]
    by_cases h8 : kindR l e.ref = 8
    · cases ho : openR l (refR l e.ref)
      · simp [h8]
      · have := kindR_range (l := l) (p := refR l e.ref) (by rcases openR_kind ho with h | h | h <;> omega)
        have h0 : refR l e.ref ≠ 0 := by omega
        simp [h8, h0]
    · simp [h8]
  rw [if_neg h9, if_neg h9]
  by_cases h13 : e.kind = 13 ∨ e.kind = 14
  · rw [if_pos h13, if_pos h13, h.kinds]
    cases ho : openR l e.ref <;> simp [beq_dec]
  rw [if_neg h13, if_neg h13]
  by_cases h18 : e.kind = 18
  · rw [if_pos h18, if_pos h18, h.kinds]
    cases ho : openR l e.ref <;> simp [beq_dec]
  rw [if_neg h18, if_neg h18]
  simp [beq_dec]

theorem mem_kinds (h : Inv l s) {p k : Int} : (p, k) ∈ s.kinds ↔ openR l p = true ∧ kindR l p = k := by
  constructor
  · intro hm
    have := aget_of_mem h.nd1 hm
    rw [h.kinds] at this
    split at this
    · exact ⟨‹_›, by injection this⟩
    · cases this
  · rintro ⟨h1, h2⟩
    apply aget_mem
    rw [h.kinds, if_pos h1, h2]
theorem uses_eq (h : Inv l s) (e : EvD) : usesB s e.kind e.id = (List.range l.length).any (sameR l e) := by
  rw [Bool.eq_iff_iff]
  unfold usesB
  rw [List.any_eq_true, List.any_eq_true]
  constructor
  · rintro ⟨⟨p, k⟩, hm, hu⟩
    obtain ⟨h1, h2⟩ := (mem_kinds h).1 hm
    unfold usedBy at hu
    simp only [Bool.and_eq_true, decide_eq_true_eq, h.ids, h1, if_true, Option.getD_some] at hu
    obtain ⟨i, x, rfl, hx⟩ := kindR_at (kindR_range (l := l) (p := p) (by rcases openR_kind h1 with h | h | h <;> omega))
    refine ⟨i, List.mem_range.2 (List.getElem?_eq_some_iff.1 hx).1, ?_⟩
    unfold sameR
    unfold kindR at h2
    unfold idR at hu
    rw [atR_in hx] at h2 hu
    rw [hx]
    simp only [Bool.and_eq_true, decide_eq_true_eq]
    exact ⟨⟨h2.trans hu.1, hu.2⟩, h1⟩
  · rintro ⟨i, _, hs⟩
    unfold sameR at hs
    cases hx : l[i]? with
    | none => rw [hx] at hs; cases hs
    | some x =>
      rw [hx] at hs
      simp only [Bool.and_eq_true, decide_eq_true_eq] at hs
      refine ⟨((i : Int) + 1, x.kind), (mem_kinds h).2 ⟨hs.2, atR_in hx⟩, ?_⟩
      unfold usedBy
      simp only [Bool.and_eq_true, decide_eq_true_eq, h.ids, hs.2, if_true, Option.getD_some]
      exact ⟨hs.1.1, (atR_in hx).trans hs.1.2⟩
theorem right_pos {e : EvD} (h : rightB e = true) : 1 ≤ e.kind ∧ e.kind ≤ 23 ∧ 0 ≤ e.pos ∧ 0 ≤ e.ref := by
  unfold rightB inB at h
  simp only [Bool.and_eq_true, decide_eq_true_eq] at h
  omega
theorem fault_eq (h : Inv l s) (e : EvD) : faultS s e = whyR l e := by
  unfold faultS whyR
  cases hr : rightB e
  · simp
  have hp := right_pos hr
  simp only [Bool.true_eq_false, if_false]
  have c1 : (e.pos < s.pos) ↔ (0 < l.length ∧ e.pos < atR EvD.pos l l.length) := by
    rw [h.pos]
    constructor
    · intro h1
      refine ⟨?_, h1⟩
      rcases Nat.eq_zero_or_pos l.length with h0 | h0
      · rw [atR_out (Or.inl (by omega))] at h1
        omega
      · exact h0
    · exact fun h => h.2
  simp only [c1]
  have c2 : (!(s.n == 0) == (e.kind == 1)) = (decide (l.length = 0) != decide (e.kind = 1)) := by
    rw [h.n]
    by_cases h0 : l.length = 0
    · have : ((l.length : Int) == 0) = true := by simp [h0]
      rw [this]
      by_cases h1 : e.kind = 1 <;> simp [h0, h1]
    · have : ((l.length : Int) == 0) = false := by simp; intro e; rw [e] at h0; simp at h0
      rw [this]
      by_cases h1 : e.kind = 1 <;> simp [h0, h1]
  rw [c2, h.closed, refB_eq h, uses_eq h]
  have c3 : (s.task != 0) = true ↔ (taskR l).1 ≠ 0 := by
    rw [h.task]
    by_cases h0 : s.task = 0
    · simp [h0]
    · cases s.begun <;> simp [h0]
  simp only [c3]
end
section
variable {l : List EvD} {s : HsD} {e : EvD} {p : Int}
structure Fits (s : HsD) (e : EvD) : Prop where
  right : rightB e = true
  pos : s.pos ≤ e.pos
  first : (s.n = 0 ↔ e.kind = 1)
  closed : s.closed = 0
  ref : refB s e.kind e.ref = true
  task : e.kind = 2 → s.task = 0
  id : e.kind = 7 ∨ e.kind = 12 ∨ e.kind = 17 → usesB s e.kind e.id = false
theorem fits (hf : faultS s e = wNone) : Fits s e := by
  unfold faultS at hf
  have d1 : wEvent ≠ wNone := by decide
  have d2 : wTime ≠ wNone := by decide
  have d3 : wFirst ≠ wNone := by decide
  have d4 : wClosed ≠ wNone := by decide
  have d5 : wRef ≠ wNone := by decide
  have d6 : wTask ≠ wNone := by decide
  have d7 : wId ≠ wNone := by decide
  split at hf
  · exact absurd hf d1
  split at hf
  · exact absurd hf d2
  split at hf
  · exact absurd hf d3
  split at hf
  · exact absurd hf d4
  split at hf
  · exact absurd hf d5
  split at hf
  · exact absurd hf d6
  split at hf
  · exact absurd hf d7
  rename_i h1 h2 h3 h4 h5 h6 h7
  refine ⟨by simpa using h1, by omega, ?_, by simpa using h4, by simpa using h5, ?_, ?_⟩
  · rw [beq_dec, beq_dec] at h3
    by_cases a : s.n = 0 <;> by_cases b : e.kind = 1 <;> simp [a, b] at h3 ⊢
  · intro hk
    by_cases h0 : s.task = 0
    · exact h0
    · exact absurd ⟨hk, by simp [h0]⟩ h6
  · intro hk
    cases hu : usesB s e.kind e.id
    · rfl
    · exact absurd ⟨hk, hu⟩ h7
theorem task_same (hk : e.kind ≠ 2 ∧ e.kind ≠ 3 ∧ e.kind ≠ 4 ∧ e.kind ≠ 5 ∧ e.kind ≠ 6) : taskR (l ++ [e]) = taskR l := by
  unfold taskR
  rw [lastR_snoc, lastR_snoc, if_neg hk.1, if_neg hk.2.1, namedR_snoc]
  simp [hk.2.2]
theorem ref_range (h : Inv l s) (f : Fits s e) : 0 ≤ e.ref ∧ e.ref < l.length + 1 := by
  have h0 := (right_pos f.right).2.2.2
  refine ⟨h0, ?_⟩
  have hr := f.ref
  have ht := h.tpos
  unfold refB at hr
  split at hr
  · simp only [Bool.and_eq_true, beq_iff_eq] at hr
    omega
  split at hr
  · simp only [Bool.and_eq_true, beq_iff_eq] at hr
    omega
  have hk : ∀ c : Int, c ≠ 0 → ((aget s.kinds e.ref).getD 0 == c) = true → e.ref < l.length + 1 := by
    intro c hc hh
    rw [h.kinds] at hh
    split at hh
    · have := kindR_range (l := l) (p := e.ref) (by simp at hh; omega)
      omega
    · simp at hh
      omega
  split at hr
  · simp only [Bool.and_eq_true] at hr
    exact hk 7 (by decide) hr.1
  split at hr
  · rw [h.of_] at hr
    split at hr
    · rename_i h8
      have := kindR_range (l := l) (p := e.ref) (by omega)
      omega
    · simp at hr
  split at hr
  · exact hk 12 (by decide) hr
  split at hr
  · exact hk 17 (by decide) hr
  · simp at hr
    omega
/-- The parts of the invariant that are the same for all kinds. -/
theorem snoc_back (h : Inv l s) (f : Fits s e) : ∀ p : Int, 1 ≤ p → p ≤ (l ++ [e]).length → 0 ≤ refR (l ++ [e]) p ∧ refR (l ++ [e]) p < p := by
  intro p h1 h2
  rw [refR_snoc]
  have := ref_range h f
  simp at h2
  split
  · omega
  · exact h.back p h1 (by omega)
theorem snoc_pos (l : List EvD) (e : EvD) : e.pos = atR EvD.pos (l ++ [e]) ((l ++ [e]).length : Nat) := by
  rw [atR_snoc, if_pos (by simp)]
theorem one_other (h : Inv l s) (hk : e.kind ≠ 8) : ∀ p, kindR (l ++ [e]) p = 8 → worksR (l ++ [e]) (refR (l ++ [e]) p) = p ∧ kindR (l ++ [e]) (refR (l ++ [e]) p) = 7 := by
  intro p hp
  rw [kindR_snoc] at hp
  split at hp
  · exact absurd hp hk
  · rename_i hne
    have hr := kindR_range (l := l) (p := p) (by omega)
    have hb := h.back p hr.1 hr.2
    have ho := h.one p hp
    rw [refR_snoc, if_neg hne, works_same hk, kindR_snoc, if_neg (by omega)]
    exact ho
end
section
variable {l : List EvD} {s : HsD} {e : EvD} {p : Int}
theorem kind_le (h : kindR l p ≠ 0) : p ≠ l.length + 1 := by
  have := kindR_range h
  omega
theorem open_le (h : openR l p = true) : p ≠ l.length + 1 := kind_le (by rcases openR_kind h with h | h | h <;> omega)

/-- Where nothing opens nor ends the maps stay. -/
theorem stay_kinds (h : Inv l s) (ho : ∀ p, openR (l ++ [e]) p = openR l p) (p : Int) : aget s.kinds p = if openR (l ++ [e]) p then some (kindR (l ++ [e]) p) else none := by
  rw [h.kinds, ho]
  cases hp : openR l p
  · rfl
  · rw [kindR_snoc, if_neg (open_le hp)]
theorem stay_ids (h : Inv l s) (ho : ∀ p, openR (l ++ [e]) p = openR l p) (p : Int) : aget s.ids p = if openR (l ++ [e]) p then some (idR (l ++ [e]) p) else none := by
  rw [h.ids, ho]
  cases hp : openR l p
  · rfl
  · rw [idR_snoc, if_neg (open_le hp)]
theorem act_ref (h : Inv l s) (h8 : kindR l p = 8) : 1 ≤ refR l p ∧ refR l p ≤ l.length := by
  exact kindR_range (by rw [(h.one p h8).2]; decide)
theorem stay_of (h : Inv l s) (hk : e.kind ≠ 8) (ho : ∀ p, kindR l p = 8 → openR (l ++ [e]) (refR l p) = openR l (refR l p)) (p : Int) :
    aget s.of_ p = if kindR (l ++ [e]) p = 8 ∧ openR (l ++ [e]) (refR (l ++ [e]) p) = true then some (refR (l ++ [e]) p) else none := by
  rw [h.of_, kindR_snoc, refR_snoc]
  by_cases hp : p = l.length + 1
  · rw [if_pos hp, if_pos hp, if_neg (show ¬ (e.kind = 8 ∧ _) from fun h => hk h.1), if_neg]
    intro hh
    exact kind_le (l := l) (p := p) (by rw [hh.1]; decide) hp
  · rw [if_neg hp, if_neg hp]
    by_cases h8 : kindR l p = 8
    · rw [ho p h8]
    · rw [if_neg (fun h => h8 h.1), if_neg (fun h => h8 h.1)]
theorem stay_frm (h : Inv l s) (hk : e.kind ≠ 8) (ho : ∀ p, kindR l p = 7 → openR (l ++ [e]) p = openR l p) (a : Int) :
    aget s.frm a = if openR (l ++ [e]) a = true ∧ kindR (l ++ [e]) a = 7 ∧ worksR (l ++ [e]) a ≠ 0 then some (worksR (l ++ [e]) a) else none := by
  rw [h.frm, kindR_snoc, works_same hk]
  by_cases hp : a = l.length + 1
  · have h0 : worksR l a = 0 := works_far h (by omega)
    rw [if_neg (fun h => h.2.2 h0), if_neg (fun h => h.2.2 h0)]
  · rw [if_neg hp]
    by_cases h7 : kindR l a = 7
    · rw [ho a h7]
    · rw [if_neg (fun h => h7 h.2.1), if_neg (fun h => h7 h.2.1)]
theorem closed_any (h : Inv l s) (f : Fits s e) (c : Int) (hc : (c != 0) = closesB e.kind) : (c != 0) = (l ++ [e]).any (fun x => closesB x.kind) := by
  rw [List.any_append, ← h.closed, f.closed, hc]
  simp

theorem taskR_le (l : List EvD) : 0 ≤ (taskR l).2 ∧ (taskR l).2 ≤ l.length := by
  have h2 := lastR_le l 2
  have h3 := lastR_le l 3
  unfold taskR
  split
  · simp
  · split
    · exact h2
    · split
      · simp
      · exact h3

theorem Inv.snoc (h : Inv l s) (hf : faultS s e = wNone) : Inv (l ++ [e]) (addS s e) := by
  have f := fits hf
  have hn := h.n
  have hback := snoc_back h f
  have hpos := snoc_pos l e
  have hc := fun c hc => closed_any h f c hc
  have hcl := f.closed
  have hr := f.ref
  have hlen : ((l ++ [e]).length : Int) = l.length + 1 := by simp
  have htp := h.tpos
  have ht := h.task
  have hnr := named_far h (p := (l.length : Int) + 1) (by omega)
  have hw := ref_range h f
  by_cases k2 : e.kind = 2
  · have ho := fun p => open_other (l := l) (e := e) (by omega) p
    have h0 := f.task k2
    have e1 : addS s e = { s with n := s.n + 1, pos := e.pos, task := s.n + 1, begun := false } := by unfold addS; rw [if_pos k2]
    rw [e1]
    refine ⟨by simp [hn], hpos, hc _ (by rw [hcl, k2]; rfl), hback, ?_, fun _ => rfl, by simp; omega, one_other h (by omega), stay_kinds (s := s) h ho, stay_ids (s := s) h ho, stay_of (s := s) h (by omega) (fun p _ => ho _), stay_frm (s := s) h (by omega) (fun p _ => ho _), h.nd1, h.nd2, h.nd3, h.nd4⟩
    simp only [hn]
    have l3 := lastR_le l 3
    unfold taskR
    rw [lastR_snoc, if_pos k2, lastR_snoc, if_neg (show ¬ e.kind = 3 by omega), if_neg (by omega), if_pos (by omega), if_neg (by omega)]
    simp
  by_cases k3 : e.kind = 3
  · have ho := fun p => open_other (l := l) (e := e) (by omega) p
    unfold refB at hr
    rw [if_pos k3] at hr
    simp only [Bool.and_eq_true, bne_iff_ne, ne_eq, Bool.not_eq_eq_eq_not, Bool.not_true, beq_iff_eq] at hr
    have e1 : addS s e = { s with n := s.n + 1, pos := e.pos, task := s.n + 1, begun := true } := by unfold addS; rw [if_neg k2, if_pos k3]
    rw [e1]
    refine ⟨by simp [hn], hpos, hc _ (by rw [hcl, k3]; rfl), hback, ?_, fun h0 => ?_, by simp; omega, one_other h (by omega), stay_kinds (s := s) h ho, stay_ids (s := s) h ho, stay_of (s := s) h (by omega) (fun p _ => ho _), stay_frm (s := s) h (by omega) (fun p _ => ho _), h.nd1, h.nd2, h.nd3, h.nd4⟩
    · simp only [hn]
      rw [if_neg hr.1.1, hr.1.2] at ht
      have l2 := lastR_le l 2
      have hne : lastR l 2 ≠ 0 := by
        intro e0
        unfold taskR at ht
        rw [if_pos e0] at ht
        simp at ht
      unfold taskR
      rw [lastR_snoc, if_neg k2, if_neg hne, lastR_snoc, if_pos k3, if_neg (by omega), namedR_snoc, hnr, if_neg (by simp [k3]), if_neg (by omega)]
      simp
    · simp at h0
      omega
  by_cases k4 : e.kind = 4 ∨ e.kind = 5 ∨ e.kind = 6
  · have ho := fun p => open_other (l := l) (e := e) (by omega) p
    unfold refB at hr
    rw [if_neg k3, if_pos k4] at hr
    simp only [Bool.and_eq_true, bne_iff_ne, ne_eq, beq_iff_eq] at hr
    have e1 : addS s e = { s with n := s.n + 1, pos := e.pos, task := 0, begun := false } := by unfold addS; rw [if_neg k2, if_neg k3, if_pos k4]
    rw [e1]
    refine ⟨by simp [hn], hpos, hc _ (by rw [hcl]; rcases k4 with k | k | k <;> rw [k] <;> rfl), hback, ?_, fun _ => rfl, by simp; omega, one_other h (by omega), stay_kinds (s := s) h ho, stay_ids (s := s) h ho, stay_of (s := s) h (by omega) (fun p _ => ho _), stay_frm (s := s) h (by omega) (fun p _ => ho _), h.nd1, h.nd2, h.nd3, h.nd4⟩
    rw [if_pos rfl]
    rw [if_neg hr.1.1, hr.1.2, if_pos rfl] at ht
    unfold taskR at ht ⊢
    rw [lastR_snoc, lastR_snoc, if_neg k2, if_neg k3, namedR_snoc]
    split at ht
    · simp at ht
    split at ht
    · simp at ht
    split at ht
    · simp at ht
    rename_i a1 a2 a3
    rw [if_neg a1, if_neg a2, if_pos]
    have : e.ref = lastR l 3 := by
      rw [hr.2]
      injection ht with _ h2
      exact h2.symm
    rw [this]
    rcases k4 with k | k | k <;> simp [k]
  have hts := task_same (l := l) (e := e) (by omega)
  rw [← hts] at ht
  by_cases k7 : e.kind = 7 ∨ e.kind = 12 ∨ e.kind = 17
  · have he : e.ref = 0 := by
      unfold refB at hr
      rw [if_neg (by omega), if_neg (by omega), if_neg (by omega), if_neg (by omega), if_neg (by omega), if_neg (by omega)] at hr
      simpa using hr
    have ho := fun p => open_new h he k7 p
    have e1 : addS s e = { s with n := s.n + 1, pos := e.pos, kinds := aput s.kinds (s.n + 1) e.kind, ids := aput s.ids (s.n + 1) e.id } := by unfold addS; rw [if_neg k2, if_neg k3, if_neg k4, if_pos k7]
    rw [e1]
    refine ⟨by simp [hn], hpos, hc _ (by rw [hcl]; rcases k7 with k | k | k <;> rw [k] <;> rfl), hback, ht, h.began, by simp; omega, one_other h (by omega), ?_, ?_, stay_of (s := s) h (by omega) (fun p h8 => ?_), stay_frm (s := s) h (by omega) (fun p h7 => ?_), aput_nodup _ _ h.nd1, aput_nodup _ _ h.nd2, h.nd3, h.nd4⟩
    · intro p
      rw [aget_aput, ho, kindR_snoc, hn]
      by_cases hp : p = l.length + 1
      · rw [if_pos hp.symm, if_pos hp, if_pos hp]; rfl
      · rw [if_neg (fun e => hp e.symm), if_neg hp, if_neg hp, h.kinds]
    · intro p
      rw [aget_aput, ho, idR_snoc, hn]
      by_cases hp : p = l.length + 1
      · rw [if_pos hp.symm, if_pos hp, if_pos hp]; rfl
      · rw [if_neg (fun e => hp e.symm), if_neg hp, if_neg hp, h.ids]
    · rw [ho, if_neg]
      have := act_ref h h8
      omega
    · rw [ho, if_neg (kind_le (by omega))]
  by_cases k8 : e.kind = 8
  · unfold refB at hr
    rw [if_neg k3, if_neg k4, if_pos k8, h.kinds, h.frm] at hr
    have hop : openR l e.ref = true := by
      cases ho : openR l e.ref
      · rw [ho] at hr; simp at hr
      · rfl
    rw [hop] at hr
    simp only [if_true, Option.getD_some, Bool.and_eq_true, beq_iff_eq, true_and] at hr
    have h7 := hr.1
    have h0 : worksR l e.ref = 0 := by
      by_cases h0 : worksR l e.ref = 0
      · exact h0
      · rw [if_pos ⟨h7, h0⟩] at hr
        simp at hr
    have ho := fun p => open_works h k8 h7 h0 p
    have hrr := kindR_range (l := l) (p := e.ref) (by omega)
    have e1 : addS s e = { s with n := s.n + 1, pos := e.pos, of_ := aput s.of_ (s.n + 1) e.ref, frm := aput s.frm e.ref (s.n + 1) } := by unfold addS; rw [if_neg k2, if_neg k3, if_neg k4, if_neg k7, if_pos k8]
    rw [e1]
    refine ⟨by simp [hn], hpos, hc _ (by rw [hcl, k8]; rfl), hback, ht, h.began, by simp; omega, ?_, stay_kinds (s := s) h ho, stay_ids (s := s) h ho, ?_, ?_, h.nd1, h.nd2, aput_nodup _ _ h.nd3, aput_nodup _ _ h.nd4⟩
    · intro p hp
      rw [kindR_snoc] at hp
      rw [refR_snoc]
      by_cases hpn : p = l.length + 1
      · rw [if_pos hpn, worksR_snoc, h0, if_neg (by omega), if_pos ⟨k8, rfl⟩, kindR_snoc, if_neg (by omega)]
        exact ⟨hpn.symm, h7⟩
      · rw [if_neg hpn] at hp ⊢
        have o := h.one p hp
        have r := act_ref h hp
        have r2 := kindR_range (l := l) (p := p) (by omega)
        rw [worksR_snoc, if_pos (by omega), kindR_snoc, if_neg (by omega)]
        exact o
    · intro p
      simp only
      rw [aget_aput, hn, kindR_snoc, refR_snoc, ho]
      by_cases hpn : p = l.length + 1
      · rw [if_pos hpn.symm, if_pos hpn, if_pos hpn, if_pos ⟨k8, hop⟩]
      · rw [if_neg (fun e => hpn e.symm), if_neg hpn, if_neg hpn, h.of_]
    · intro a
      simp only
      rw [aget_aput, hn, kindR_snoc, ho]
      by_cases ha : e.ref = a
      · have hw1 : worksR (l ++ [e]) a = l.length + 1 := by rw [worksR_snoc, ← ha, h0, if_neg (by omega), if_pos ⟨k8, rfl⟩]
        subst ha
        rw [if_pos rfl, hw1, if_neg (show ¬ e.ref = l.length + 1 by omega), if_pos ⟨hop, h7, by omega⟩]
      · rw [if_neg ha, h.frm, works_not (fun h => ha h.2)]
        by_cases han : a = l.length + 1
        · have : openR l a = false := by rw [han, openR_top]
          simp [this]
        · rw [if_neg han]
  by_cases k9 : e.kind = 9 ∨ e.kind = 10 ∨ e.kind = 11
  · unfold refB at hr
    rw [if_neg k3, if_neg k4, if_neg k8, if_pos k9, h.of_] at hr
    have hh : kindR l e.ref = 8 ∧ openR l (refR l e.ref) = true := by
      by_cases hh : kindR l e.ref = 8 ∧ openR l (refR l e.ref) = true
      · exact hh
      · rw [if_neg hh] at hr
        simp at hr
    have hof : (aget s.of_ e.ref).getD 0 = refR l e.ref := by rw [h.of_, if_pos hh]; rfl
    have ho := fun p => open_end h k9 hh.1 p
    have o := h.one _ hh.1
    have rr := act_ref h hh.1
    have e1 : addS s e = { s with n := s.n + 1, pos := e.pos, of_ := adel s.of_ e.ref, frm := adel s.frm (refR l e.ref), kinds := adel s.kinds (refR l e.ref), ids := adel s.ids (refR l e.ref) } := by
      unfold addS; rw [if_neg k2, if_neg k3, if_neg k4, if_neg k7, if_neg k8, if_pos k9, ← hof]
    rw [e1]
    refine ⟨by simp [hn], hpos, hc _ (by rw [hcl]; rcases k9 with k | k | k <;> rw [k] <;> rfl), hback, ht, h.began, by simp; omega, one_other h k8, ?_, ?_, ?_, ?_, adel_nodup _ h.nd1, adel_nodup _ h.nd2, adel_nodup _ h.nd3, adel_nodup _ h.nd4⟩
    · intro p
      simp only
      rw [aget_adel h.nd1, ho, kindR_snoc]
      by_cases hp : p = refR l e.ref
      · rw [if_pos hp.symm, if_pos hp]; rfl
      · rw [if_neg (fun e => hp e.symm), if_neg hp, h.kinds]
        cases hop : openR l p
        · rfl
        · rw [if_neg (open_le hop)]
    · intro p
      simp only
      rw [aget_adel h.nd2, ho, idR_snoc]
      by_cases hp : p = refR l e.ref
      · rw [if_pos hp.symm, if_pos hp]; rfl
      · rw [if_neg (fun e => hp e.symm), if_neg hp, h.ids]
        cases hop : openR l p
        · rfl
        · rw [if_neg (open_le hop)]
    · intro p
      simp only
      rw [aget_adel h.nd3, ho, kindR_snoc, refR_snoc]
      by_cases hpn : p = l.length + 1
      · rw [if_pos hpn, if_pos hpn, if_neg (show ¬ (e.kind = 8 ∧ _) from fun h => k8 h.1), if_neg (by omega), h.of_, if_neg]
        intro hx
        exact kind_le (l := l) (p := p) (by omega) hpn
      · rw [if_neg hpn, if_neg hpn]
        by_cases hpe : e.ref = p
        · subst hpe
          simp
        · rw [if_neg hpe, h.of_]
          by_cases h8 : kindR l p = 8
          · have : refR l p ≠ refR l e.ref := by
              intro ee
              have o2 := (h.one p h8).1
              rw [ee, o.1] at o2
              exact hpe o2
            rw [if_neg this]
          · rw [if_neg (fun h => h8 h.1), if_neg (fun h => h8 h.1)]
    · intro a
      simp only
      rw [aget_adel h.nd4, ho, kindR_snoc, works_same k8]
      by_cases ha : a = refR l e.ref
      · rw [if_pos ha.symm, if_pos ha]
        simp
      · rw [if_neg (fun e => ha e.symm), if_neg ha, h.frm]
        by_cases han : a = l.length + 1
        · have : openR l a = false := by rw [han, openR_top]
          simp [this]
        · rw [if_neg han]
  by_cases k13 : e.kind = 13 ∨ e.kind = 14 ∨ e.kind = 18
  · have hh : ((e.kind = 13 ∨ e.kind = 14) ∧ kindR l e.ref = 12 ∨ e.kind = 18 ∧ kindR l e.ref = 17) ∧ openR l e.ref = true := by
      unfold refB at hr
      rw [if_neg k3, if_neg k4, if_neg k8, if_neg k9, h.kinds] at hr
      cases hop : openR l e.ref
      · rw [hop] at hr
        simp at hr
        omega
      · rw [hop] at hr
        by_cases q : e.kind = 13 ∨ e.kind = 14
        · rw [if_pos q] at hr
          exact ⟨Or.inl ⟨q, by simpa using hr⟩, rfl⟩
        · have q2 : e.kind = 18 := by omega
          rw [if_neg q, if_pos q2] at hr
          exact ⟨Or.inr ⟨q2, by simpa using hr⟩, rfl⟩
    have ho := fun p => open_fire hh.1 p
    have e1 : addS s e = { s with n := s.n + 1, pos := e.pos, kinds := adel s.kinds e.ref, ids := adel s.ids e.ref } := by
      unfold addS; rw [if_neg k2, if_neg k3, if_neg k4, if_neg k7, if_neg k8, if_neg k9, if_pos k13]
    rw [e1]
    refine ⟨by simp [hn], hpos, hc _ (by rw [hcl]; rcases k13 with k | k | k <;> rw [k] <;> rfl), hback, ht, h.began, by simp; omega, one_other h k8, ?_, ?_, stay_of (s := s) h k8 (fun p h8 => ?_), stay_frm (s := s) h k8 (fun p h7 => ?_), adel_nodup _ h.nd1, adel_nodup _ h.nd2, h.nd3, h.nd4⟩
    · intro p
      simp only
      rw [aget_adel h.nd1, ho, kindR_snoc]
      by_cases hp : p = e.ref
      · rw [if_pos hp.symm, if_pos hp]; rfl
      · rw [if_neg (fun e => hp e.symm), if_neg hp, h.kinds]
        cases hop : openR l p
        · rfl
        · rw [if_neg (open_le hop)]
    · intro p
      simp only
      rw [aget_adel h.nd2, ho, idR_snoc]
      by_cases hp : p = e.ref
      · rw [if_pos hp.symm, if_pos hp]; rfl
      · rw [if_neg (fun e => hp e.symm), if_neg hp, h.ids]
        cases hop : openR l p
        · rfl
        · rw [if_neg (open_le hop)]
    · rw [ho, if_neg]
      intro ee
      have := (h.one p h8).2
      rw [ee] at this
      omega
    · rw [ho, if_neg]
      intro ee
      subst ee
      omega
  have ho := fun p => open_other (l := l) (e := e) (by omega) p
  by_cases kc : closesB e.kind = true
  · have e1 : addS s e = { s with n := s.n + 1, pos := e.pos, closed := e.kind } := by
      unfold addS; rw [if_neg k2, if_neg k3, if_neg k4, if_neg k7, if_neg k8, if_neg k9, if_neg k13, if_pos kc]
    rw [e1]
    exact ⟨by simp [hn], hpos, hc _ (by rw [kc]; have := (right_pos f.right).1; simp; omega), hback, ht, h.began, by simp; omega, one_other h k8, stay_kinds (s := s) h ho, stay_ids (s := s) h ho, stay_of (s := s) h k8 (fun p _ => ho _), stay_frm (s := s) h k8 (fun p _ => ho _), h.nd1, h.nd2, h.nd3, h.nd4⟩
  · have e1 : addS s e = { s with n := s.n + 1, pos := e.pos } := by
      unfold addS; rw [if_neg k2, if_neg k3, if_neg k4, if_neg k7, if_neg k8, if_neg k9, if_neg k13, if_neg kc]
    rw [e1]
    exact ⟨by simp [hn], hpos, hc _ (by rw [hcl]; simp at kc; rw [kc]; rfl), hback, ht, h.began, by simp; omega, one_other h k8, stay_kinds (s := s) h ho, stay_ids (s := s) h ho, stay_of (s := s) h k8 (fun p _ => ho _), stay_frm (s := s) h k8 (fun p _ => ho _), h.nd1, h.nd2, h.nd3, h.nd4⟩
end
end Go.Proofs.YtndnbjpcjlbcjaaDoor
