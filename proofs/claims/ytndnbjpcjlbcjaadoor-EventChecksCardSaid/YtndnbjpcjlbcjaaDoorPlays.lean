/- Rows of events, in plain Lean: the first that does not fit, what is open, how many. -/
import Derived.Test.YtndnbjpcjlbcjaaDoorPlain
namespace Go.Proofs.YtndnbjpcjlbcjaaDoor
section
variable {l : List EvD} {s : HsD} {e : EvD} {p : Int}
/-- A history behind events, of which those that do not fit are left out. -/
def runS (s : HsD) : List EvD → HsD
  | [] => s
  | e :: l => runS (if faultS s e = wNone then addS s e else s) l
/-- The first that does not fit, and why. -/
def chk (s : HsD) (i : Nat) : List EvD → Option (Nat × ByteArray)
  | [] => none
  | e :: l => if faultS s e = wNone then chk (addS s e) (i + 1) l else some (i + 1, faultS s e)
theorem runS_snoc (l : List EvD) (e : EvD) : ∀ s, runS s (l ++ [e]) = if faultS (runS s l) e = wNone then addS (runS s l) e else runS s l := by
  induction l with
  | nil => intro s; rfl
  | cons a l ih => intro s; exact ih _
theorem chk_snoc {l : List EvD} (e : EvD) : ∀ {s : HsD} {i : Nat}, chk s i l = none → chk s i (l ++ [e]) = if faultS (runS s l) e = wNone then none else some (i + l.length + 1, faultS (runS s l) e) := by
  induction l with
  | nil => intro s i _; rfl
  | cons a l ih =>
    intro s i h
    unfold chk at h
    show (if faultS s a = wNone then chk (addS s a) (i + 1) (l ++ [e]) else some (i + 1, faultS s a)) = _
    split at h
    · rename_i h0
      rw [if_pos h0, ih h]
      have : runS s (a :: l) = runS (addS s a) l := by
        show runS (if faultS s a = wNone then addS s a else s) l = _
        rw [if_pos h0]
      rw [this, List.length_cons]
      have : i + 1 + l.length + 1 = i + (l.length + 1) + 1 := by omega
      rw [this]
    · cases h
theorem chk_some {a b : List EvD} {r : Nat × ByteArray} : ∀ {s : HsD} {i : Nat}, chk s i a = some r → chk s i (a ++ b) = some r := by
  induction a with
  | nil => intro s i h; cases h
  | cons x a ih =>
    intro s i h
    unfold chk at h
    show (if faultS s x = wNone then chk (addS s x) (i + 1) (a ++ b) else some (i + 1, faultS s x)) = _
    split at h
    · rename_i h0
      rw [if_pos h0]
      exact ih h
    · rename_i h0
      rw [if_neg h0]
      exact h
theorem chk_front {a b : List EvD} {s : HsD} {i : Nat} (h : chk s i (a ++ b) = none) : chk s i a = none := by
  cases hc : chk s i a with
  | none => rfl
  | some r => rw [chk_some hc] at h; cases h
theorem inv_of : ∀ (n : Nat) (l : List EvD), l.length = n → chk HsD.none_ 0 l = none → Inv l (runS HsD.none_ l)
  | 0, l, hl, _ => by
    have : l = [] := List.length_eq_zero_iff.1 hl
    subst this
    exact Inv.none_
  | n + 1, l, hl, h => by
    rcases List.eq_nil_or_concat l with rfl | ⟨l', e, rfl⟩
    · simp at hl
    · rw [List.concat_eq_append] at *
      have h1 := chk_front h
      have hi := inv_of n l' (by simpa using hl) h1
      rw [chk_snoc e h1] at h
      rw [runS_snoc]
      split at h
      · rename_i h0
        rw [if_pos h0]
        exact hi.snoc h0
      · cases h
theorem Inv.of (h : chk HsD.none_ 0 l = none) : Inv l (runS HsD.none_ l) := inv_of _ l rfl h

/-! ### What the document says of whole rows -/
def checkR (pre : List EvD) : List EvD → Nat × ByteArray
  | [] => (0, wNone)
  | e :: l => if whyR pre e = wNone then checkR (pre ++ [e]) l else (pre.length + 1, whyR pre e)
theorem check_eq (l : List EvD) : ∀ {pre : List EvD} {s : HsD}, Inv pre s → chk s pre.length l = if (checkR pre l).1 = 0 then none else some (checkR pre l) := by
  induction l with
  | nil => intro pre s _; rfl
  | cons e l ih =>
    intro pre s h
    unfold chk checkR
    rw [← fault_eq h]
    by_cases h0 : faultS s e = wNone
    · rw [if_pos h0, if_pos h0]
      have := ih (h.snoc h0)
      rw [List.length_append] at this
      exact this
    · rw [if_neg h0, if_neg h0]
      simp
theorem check_whole (l : List EvD) : chk HsD.none_ 0 l = if (checkR [] l).1 = 0 then none else some (checkR [] l) := check_eq l Inv.none_
/-- One more. -/
theorem one_more (h : chk HsD.none_ 0 l = none) (e : EvD) : chk HsD.none_ 0 (l ++ [e]) = if whyR l e = wNone then none else some (l.length + 1, whyR l e) := by
  rw [chk_snoc e h, fault_eq (Inv.of h)]
  simp
/-- Behind what closes nothing may stand. -/
theorem after_close (h : chk HsD.none_ 0 l = none) (hc : l.any (fun x => closesB x.kind) = true) (e : EvD) : chk HsD.none_ 0 (l ++ [e]) ≠ none := by
  rw [chk_snoc e h]
  split
  · rename_i h0
    have f := (fits h0).closed
    have i := (Inv.of h).closed
    rw [hc, f] at i
    simp at i
  · simp

/-! ### How many are open; their Ids -/
def dl (k : Int) : Int := if k = 7 ∨ k = 12 ∨ k = 17 then 1 else if k = 9 ∨ k = 10 ∨ k = 11 ∨ k = 13 ∨ k = 14 ∨ k = 18 then -1 else 0
def cntR (l : List EvD) : Int := (l.map fun e => dl e.kind).sum
theorem cntR_snoc (l : List EvD) (e : EvD) : cntR (l ++ [e]) = cntR l + dl e.kind := by
  unfold cntR
  rw [List.map_append, List.sum_append]
  simp
theorem cntR_le (l : List EvD) : cntR l ≤ l.length ∧ -(l.length : Int) ≤ cntR l := by
  induction l with
  | nil => simp [cntR]
  | cons a l ih =>
    have : cntR (a :: l) = dl a.kind + cntR l := by simp [cntR]
    rw [this, List.length_cons]
    have : dl a.kind ≤ 1 ∧ -1 ≤ dl a.kind := by
      unfold dl
      split
      · omega
      · split <;> omega
    omega
theorem len_aput {E : List (Int × Int)} {k x : Int} (h : aget E k = none) : (aput E k x).length = E.length + 1 := by
  have := congrArg List.length (aput_keys E k x)
  rw [if_neg (aget_none.1 h)] at this
  simpa using this
theorem len_adel {E : List (Int × Int)} {k : Int} (h : aget E k ≠ none) : (adel E k).length + 1 = E.length := by
  induction E with
  | nil => simp [aget] at h
  | cons q E ih =>
    obtain ⟨k', y⟩ := q
    unfold aget at h
    unfold adel
    by_cases hk : k' = k
    · rw [if_pos hk]; rfl
    · rw [if_neg hk] at h ⊢
      rw [List.length_cons, List.length_cons, ih h]
structure More (l : List EvD) (s : HsD) : Prop where
  cnt : (s.kinds.length : Int) = cntR l
  one : ∀ p q, openR l p = true → openR l q = true → kindR l p = kindR l q → idR l p = idR l q → p = q
theorem More.none_ : More [] HsD.none_ := by
  refine ⟨rfl, fun p q h => ?_⟩
  have := kindR_range (l := []) (p := p) (by rcases openR_kind h with h | h | h <;> omega)
  simp at this
  omega
theorem More.snoc (h : Inv l s) (m : More l s) (hf : faultS s e = wNone) : More (l ++ [e]) (addS s e) := by
  have f := fits hf
  have hr := f.ref
  have hi' := h.snoc hf
  -- the Ids
  have stay : (∀ p, openR (l ++ [e]) p = true → openR l p = true) → ∀ p q, openR (l ++ [e]) p = true → openR (l ++ [e]) q = true → kindR (l ++ [e]) p = kindR (l ++ [e]) q → idR (l ++ [e]) p = idR (l ++ [e]) q → p = q := by
    intro ho p q hp hq hk hid
    have h1 := ho p hp
    have h2 := ho q hq
    rw [kindR_snoc, kindR_snoc, if_neg (open_le h1), if_neg (open_le h2)] at hk
    rw [idR_snoc, idR_snoc, if_neg (open_le h1), if_neg (open_le h2)] at hid
    exact m.one p q h1 h2 hk hid
  have hkin := hi'.kinds
  by_cases k7 : e.kind = 7 ∨ e.kind = 12 ∨ e.kind = 17
  · have he : e.ref = 0 := by
      unfold refB at hr
      rw [if_neg (by omega), if_neg (by omega), if_neg (by omega), if_neg (by omega), if_neg (by omega), if_neg (by omega)] at hr
      simpa using hr
    have ho := fun p => open_new h he k7 p
    have e1 : (addS s e).kinds = aput s.kinds (s.n + 1) e.kind := by
      unfold addS; rw [if_neg (by omega), if_neg (by omega), if_neg (by omega), if_pos k7]
    constructor
    · rw [e1, cntR_snoc, len_aput]
      · have : dl e.kind = 1 := by unfold dl; rw [if_pos k7]
        rw [this]
        have := m.cnt
        omega
      · rw [h.kinds, h.n, openR_top]; rfl
    · have hu := f.id k7
      unfold usesB at hu
      rw [List.any_eq_false] at hu
      have key : ∀ p, openR l p = true → kindR l p = e.kind → idR l p = e.id → False := by
        intro p h1 h2 h3
        have := hu (p, e.kind) ((mem_kinds h).2 ⟨h1, h2⟩)
        apply this
        unfold usedBy
        simp only [Bool.and_eq_true, decide_eq_true_eq, h.ids, h1, if_true, Option.getD_some]
        exact ⟨trivial, h3⟩
      intro p q hp hq hk hid
      rw [ho] at hp hq
      rw [kindR_snoc, kindR_snoc] at hk
      rw [idR_snoc, idR_snoc] at hid
      by_cases hpn : p = l.length + 1
      · by_cases hqn : q = l.length + 1
        · omega
        · rw [if_neg hqn] at hq
          rw [if_pos hpn, if_neg hqn] at hk hid
          exact (key q hq hk.symm hid.symm).elim
      · rw [if_neg hpn] at hp
        rw [if_neg hpn] at hk hid
        by_cases hqn : q = l.length + 1
        · rw [if_pos hqn] at hk hid
          exact (key p hp hk hid).elim
        · rw [if_neg hqn] at hq
          rw [if_neg hqn] at hk hid
          exact m.one p q hp hq hk hid
  by_cases k8 : e.kind = 8
  · unfold refB at hr
    rw [if_neg (by omega), if_neg (by omega), if_pos k8, h.kinds, h.frm] at hr
    have hop : openR l e.ref = true := by
      cases ho : openR l e.ref
      · rw [ho] at hr; simp at hr
      · rfl
    rw [hop] at hr
    simp only [if_true, Option.getD_some, Bool.and_eq_true, beq_iff_eq, true_and] at hr
    have h0 : worksR l e.ref = 0 := by
      by_cases h0 : worksR l e.ref = 0
      · exact h0
      · rw [if_pos ⟨hr.1, h0⟩] at hr
        simp at hr
    refine ⟨?_, stay (fun p hp => by rw [open_works h k8 hr.1 h0] at hp; exact hp)⟩
    have : (addS s e).kinds = s.kinds := by unfold addS; rw [if_neg (by omega), if_neg (by omega), if_neg (by omega), if_neg (by omega), if_pos k8]
    rw [this, cntR_snoc, m.cnt, k8]
    simp [dl]
  by_cases k9 : e.kind = 9 ∨ e.kind = 10 ∨ e.kind = 11
  · unfold refB at hr
    rw [if_neg (by omega), if_neg (by omega), if_neg k8, if_pos k9, h.of_] at hr
    have hh : kindR l e.ref = 8 ∧ openR l (refR l e.ref) = true := by
      by_cases hh : kindR l e.ref = 8 ∧ openR l (refR l e.ref) = true
      · exact hh
      · rw [if_neg hh] at hr
        simp at hr
    have hof : (aget s.of_ e.ref).getD 0 = refR l e.ref := by rw [h.of_, if_pos hh]; rfl
    have e1 : (addS s e).kinds = adel s.kinds (refR l e.ref) := by
      unfold addS; rw [if_neg (by omega), if_neg (by omega), if_neg (by omega), if_neg k7, if_neg k8, if_pos k9, ← hof]
    refine ⟨?_, stay (fun p hp => ?_)⟩
    · have := len_adel (E := s.kinds) (k := refR l e.ref) (by rw [h.kinds, if_pos hh.2]; simp)
      have m1 := m.cnt
      have : dl e.kind = -1 := by unfold dl; rw [if_neg k7, if_pos (by omega)]
      rw [e1, cntR_snoc, this]
      omega
    · rw [open_end h k9 hh.1] at hp
      split at hp
      · cases hp
      · exact hp
  by_cases k13 : e.kind = 13 ∨ e.kind = 14 ∨ e.kind = 18
  · have hh : ((e.kind = 13 ∨ e.kind = 14) ∧ kindR l e.ref = 12 ∨ e.kind = 18 ∧ kindR l e.ref = 17) ∧ openR l e.ref = true := by
      rw [refB_eq h] at hr
      unfold refsR at hr
      rw [if_neg (by omega), if_neg (by omega), if_neg k8, if_neg k9] at hr
      by_cases q : e.kind = 13 ∨ e.kind = 14
      · rw [if_pos q] at hr
        simp only [Bool.and_eq_true, decide_eq_true_eq] at hr
        exact ⟨Or.inl ⟨q, hr.1⟩, hr.2⟩
      · rw [if_neg q, if_pos (by omega)] at hr
        simp only [Bool.and_eq_true, decide_eq_true_eq] at hr
        exact ⟨Or.inr ⟨by omega, hr.1⟩, hr.2⟩
    have e1 : (addS s e).kinds = adel s.kinds e.ref := by
      unfold addS; rw [if_neg (by omega), if_neg (by omega), if_neg (by omega), if_neg k7, if_neg k8, if_neg k9, if_pos k13]
    refine ⟨?_, stay (fun p hp => ?_)⟩
    · have := len_adel (E := s.kinds) (k := e.ref) (by rw [h.kinds, if_pos hh.2]; simp)
      have m1 := m.cnt
      have : dl e.kind = -1 := by unfold dl; rw [if_neg k7, if_pos (by omega)]
      rw [e1, cntR_snoc, this]
      omega
    · rw [open_fire hh.1] at hp
      split at hp
      · cases hp
      · exact hp
  · have ho := fun p => open_other (l := l) (e := e) (by omega) p
    have e1 : (addS s e).kinds = s.kinds := by
      unfold addS
      simp only
      split
      · rfl
      split
      · rfl
      split
      · rfl
      split <;> rfl
    refine ⟨?_, stay (fun p hp => by rw [ho] at hp; exact hp)⟩
    have : dl e.kind = 0 := by unfold dl; rw [if_neg k7, if_neg (by omega)]
    rw [e1, cntR_snoc, m.cnt, this]
    omega
theorem more_of : ∀ (n : Nat) (l : List EvD), l.length = n → chk HsD.none_ 0 l = none → More l (runS HsD.none_ l)
  | 0, l, hl, _ => by
    have : l = [] := List.length_eq_zero_iff.1 hl
    subst this
    exact More.none_
  | n + 1, l, hl, h => by
    rcases List.eq_nil_or_concat l with rfl | ⟨l', e, rfl⟩
    · simp at hl
    · rw [List.concat_eq_append] at *
      have h1 := chk_front h
      have hi := inv_of n l' (by simpa using hl) h1
      have hm := more_of n l' (by simpa using hl) h1
      rw [chk_snoc e h1] at h
      rw [runS_snoc]
      split at h
      · rename_i h0
        rw [if_pos h0]
        exact hm.snoc hi h0
      · cases h
theorem More.of (h : chk HsD.none_ 0 l = none) : More l (runS HsD.none_ l) := more_of _ l rfl h
end
section
variable {l : List EvD} {s : HsD} {e : EvD} {p k : Int}
/-- The Ids of those of a kind that are open, in the maps' order. -/
def idsOf (s : HsD) (k : Int) : List Int := (s.kinds.filter (fun p => decide (p.2 = k))).map (fun p => (aget s.ids p.1).getD 0)
/-- Put in where it belongs. -/
def insR (out : List Int) (x : Int) : List Int := out.take (out.takeWhile (fun y => decide (y < x))).length ++ x :: out.drop (out.takeWhile (fun y => decide (y < x))).length
def openN (l : List EvD) (k : Int) : Nat → List Int
  | 0 => []
  | i + 1 => match l[i]? with
    | some e => if e.kind = k ∧ openR l ((i : Int) + 1) = true then insR (openN l k i) e.id else openN l k i
    | none => openN l k i
theorem insR_perm (out : List Int) (x : Int) : (insR out x).Perm (x :: out) := by
  unfold insR
  have := List.perm_middle (a := x) (l₁ := out.take (out.takeWhile (fun y => decide (y < x))).length) (l₂ := out.drop (out.takeWhile (fun y => decide (y < x))).length)
  rw [List.take_append_drop] at this
  exact this
theorem takeWhile_take (p : Int → Bool) : ∀ out : List Int, out.take (out.takeWhile p).length = out.takeWhile p ∧ out.drop (out.takeWhile p).length = out.dropWhile p
  | [] => ⟨rfl, rfl⟩
  | a :: out => by
    have ih := takeWhile_take p out
    cases h : p a
    · simp [h]
    · simp [h, ih]
theorem insR_eq (out : List Int) (x : Int) : insR out x = out.takeWhile (fun y => decide (y < x)) ++ x :: out.dropWhile (fun y => decide (y < x)) := by
  unfold insR
  rw [(takeWhile_take _ out).1, (takeWhile_take _ out).2]
theorem insR_sorted (x : Int) : ∀ {out : List Int}, out.Pairwise (· ≤ ·) → (insR out x).Pairwise (· ≤ ·) := by
  intro out
  rw [insR_eq]
  induction out with
  | nil => intro _; simp
  | cons a out ih =>
    intro h
    obtain ⟨h1, h2⟩ := List.pairwise_cons.1 h
    by_cases ha : a < x
    · rw [List.takeWhile_cons, List.dropWhile_cons, if_pos (by simpa using ha), if_pos (by simpa using ha), List.cons_append]
      refine List.pairwise_cons.2 ⟨fun b hb => ?_, ih h2⟩
      have hp := insR_perm out x
      rw [insR_eq] at hp
      rcases List.mem_cons.1 (hp.mem_iff.1 hb) with rfl | hb
      · omega
      · exact h1 b hb
    · rw [List.takeWhile_cons, List.dropWhile_cons, if_neg (by simpa using ha), if_neg (by simpa using ha), List.nil_append]
      refine List.pairwise_cons.2 ⟨fun b hb => ?_, h⟩
      rcases List.mem_cons.1 hb with rfl | hb
      · omega
      · have := h1 b hb
        omega
theorem openN_sorted (l : List EvD) (k : Int) : ∀ i, (openN l k i).Pairwise (· ≤ ·)
  | 0 => List.Pairwise.nil
  | i + 1 => by
    unfold openN
    split
    · split
      · exact insR_sorted _ (openN_sorted l k i)
      · exact openN_sorted l k i
    · exact openN_sorted l k i
/-- The places of those of a kind that are open. -/
def placesR (l : List EvD) (k : Int) : Nat → List Int
  | 0 => []
  | i + 1 => if kindR l ((i : Int) + 1) = k ∧ openR l ((i : Int) + 1) = true then ((i : Int) + 1) :: placesR l k i else placesR l k i
theorem places_mem {i : Nat} : p ∈ placesR l k i ↔ 1 ≤ p ∧ p ≤ i ∧ kindR l p = k ∧ openR l p = true := by
  induction i with
  | zero => simp [placesR]; omega
  | succ i ih =>
    unfold placesR
    split
    · rename_i h
      rw [List.mem_cons, ih]
      constructor
      · rintro (rfl | h2)
        · exact ⟨by omega, by omega, h⟩
        · exact ⟨h2.1, by omega, h2.2.2⟩
      · rintro ⟨h1, h2, h3⟩
        by_cases hp : p = (i : Int) + 1
        · exact Or.inl hp
        · exact Or.inr ⟨h1, by omega, h3⟩
    · rename_i h
      rw [ih]
      constructor
      · rintro ⟨h1, h2, h3⟩
        exact ⟨h1, by omega, h3⟩
      · rintro ⟨h1, h2, h3⟩
        refine ⟨h1, ?_, h3⟩
        by_cases hp : p = (i : Int) + 1
        · subst hp
          exact absurd h3 h
        · omega
theorem places_nodup (l : List EvD) (k : Int) : ∀ i, (placesR l k i).Nodup
  | 0 => List.nodup_nil
  | i + 1 => by
    unfold placesR
    split
    · refine List.nodup_cons.2 ⟨fun h => ?_, places_nodup l k i⟩
      have := (places_mem.1 h).2.1
      omega
    · exact places_nodup l k i
theorem openN_perm (l : List EvD) (k : Int) : ∀ i, i ≤ l.length → (openN l k i).Perm ((placesR l k i).map (idR l))
  | 0, _ => List.Perm.nil
  | i + 1, hi => by
    have hx : l[i]? = some l[i] := List.getElem?_eq_getElem (by omega)
    have hk : kindR l ((i : Int) + 1) = l[i].kind := atR_in hx
    have hid : idR l ((i : Int) + 1) = l[i].id := atR_in hx
    unfold openN placesR
    rw [hx, hk]
    simp only
    split
    · rw [List.map_cons, hid]
      exact (insR_perm _ _).trans ((openN_perm l k i (by omega)).cons _)
    · exact openN_perm l k i (by omega)
theorem idsOf_perm (h : Inv l s) (k : Int) : (idsOf s k).Perm (openN l k l.length) := by
  refine List.Perm.trans ?_ (openN_perm l k _ (Nat.le_refl _)).symm
  have e1 : idsOf s k = ((s.kinds.filter (fun p => decide (p.2 = k))).map (·.1)).map (idR l) := by
    unfold idsOf
    rw [List.map_map]
    refine List.map_congr_left (fun q hq => ?_)
    obtain ⟨p, c⟩ := q
    have := (mem_kinds h).1 (List.mem_filter.1 hq).1
    simp [h.ids, this.1]
  rw [e1]
  refine List.Perm.map _ ((List.perm_ext_iff_of_nodup (h.nd1.sublist (List.filter_sublist.map _)) (places_nodup _ _ _)).2 (fun p => ?_))
  rw [places_mem, List.mem_map]
  constructor
  · rintro ⟨⟨p', c⟩, hq, rfl⟩
    obtain ⟨h1, h2⟩ := List.mem_filter.1 hq
    have h3 := (mem_kinds h).1 h1
    have h2 : c = k := by simpa using h2
    have := kindR_range (l := l) (p := p') (by rcases openR_kind h3.1 with h | h | h <;> omega)
    exact ⟨this.1, this.2, h3.2.trans h2, h3.1⟩
  · rintro ⟨_, _, h3, h4⟩
    exact ⟨(p, k), List.mem_filter.2 ⟨(mem_kinds h).2 ⟨h4, h3⟩, by simp⟩, rfl⟩
theorem sorted_eq {a b : List Int} (ha : a.Pairwise (· ≤ ·)) (hb : b.Pairwise (· ≤ ·)) (h : a.Perm b) : a = b :=
  h.eq_of_pairwise (fun _ _ _ _ h1 h2 => by omega) ha hb
/-- What is open of a kind, sorted, is what the document tells. -/
theorem open_eq (h : Inv l s) {k : Int} {a : List Int} (hs : a.Pairwise (· ≤ ·)) (hp : a.Perm (idsOf s k)) : a = openN l k l.length :=
  sorted_eq hs (openN_sorted _ _ _) (hp.trans (idsOf_perm h k))
theorem ids_nodup (h : Inv l s) (m : More l s) (k : Int) : (idsOf s k).Nodup := by
  rw [((idsOf_perm h k).trans (openN_perm l k _ (Nat.le_refl _))).nodup_iff]
  unfold List.Nodup
  rw [List.pairwise_map]
  refine (places_nodup l k l.length).imp_of_mem (fun {p q} hp hq hne e => hne ?_)
  obtain ⟨_, _, h1, h2⟩ := places_mem.1 hp
  obtain ⟨_, _, h3, h4⟩ := places_mem.1 hq
  exact m.one p q h2 h4 (h1.trans h3.symm) e
/-- Sorted, no two being the same: they rise. -/
theorem rises_of {a : List Int} (hs : a.Pairwise (· ≤ ·)) (hn : a.Nodup) {i : Nat} {x y : Int} (hx : a[i]? = some x) (hy : a[i + 1]? = some y) : x < y := by
  obtain ⟨h1, rfl⟩ := List.getElem?_eq_some_iff.1 hx
  obtain ⟨h2, rfl⟩ := List.getElem?_eq_some_iff.1 hy
  have a1 := List.pairwise_iff_getElem.1 hs i (i + 1) h1 h2 (by omega)
  have a2 := List.pairwise_iff_getElem.1 hn i (i + 1) h1 h2 (by omega)
  omega
theorem split_len : ∀ E : List (Int × Int), (∀ p ∈ E, p.2 = 7 ∨ p.2 = 12 ∨ p.2 = 17) → (E.filter (fun p => decide (p.2 = 7))).length + (E.filter (fun p => decide (p.2 = 12))).length + (E.filter (fun p => decide (p.2 = 17))).length = E.length
  | [], _ => rfl
  | p :: E, h => by
    have ih := split_len E (fun q hq => h q (List.mem_cons_of_mem _ hq))
    rcases h p (List.mem_cons_self) with h1 | h1 | h1 <;> simp [h1] at ih ⊢ <;> omega
theorem all_three (h : Inv l s) (m : More l s) : (((idsOf s 7).length + (idsOf s 12).length + (idsOf s 17).length : Nat) : Int) = cntR l := by
  rw [← m.cnt]
  have := split_len s.kinds (fun p hp => by
    have := (mem_kinds h (p := p.1) (k := p.2)).1 hp
    rw [← this.2]
    exact openR_kind this.1)
  unfold idsOf
  simp only [List.length_map]
  omega
end
end Go.Proofs.YtndnbjpcjlbcjaaDoor
