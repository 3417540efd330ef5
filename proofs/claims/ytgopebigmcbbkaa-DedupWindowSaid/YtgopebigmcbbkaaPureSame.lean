/- Of clients that are put in another order the same is remembered: plain facts on what Put leaves. -/
import Derived.Test.YtgopebigmcbbkaaPure
import Derived.Test.YtgopebigmcbbkaaActs
import Derived.Test.YtgopebigmcbbkaaEncode
namespace Go.Proofs.Ytgopebigmcbbkaa

abbrev St := List ((Int × Int) × List UInt8) × List (Int × Int)

def stepS (W : Int) (S : St) (a : ActD) : St := (putL W S.1 S.2 a.client a.seq a.ans, putT W S.1 S.2 a.client a.seq)
def runS (W : Int) (S : St) (xs : List ActD) : St := xs.foldl (stepS W) S

/-- No key stands twice; the tops may be. -/
structure Good (W : Int) (S : St) : Prop where
  l : (S.1.map (·.1)).Nodup
  t : (S.2.map (·.1)).Nodup
  ok : okTab W S.2

theorem Good.start {W : Int} (h1 : 1 ≤ W) (h2 : W ≤ 4096) : Good W ([], []) := ⟨by simp, by simp, ⟨⟨h1, h2⟩, by intro c t h; cases h⟩⟩
theorem Good.step {W : Int} {S : St} (h : Good W S) (a : ActD) : Good W (stepS W S a) := by
  refine ⟨?_, ?_, okTab_put h.ok _ _⟩
  · show ((putL W S.1 S.2 a.client a.seq a.ans).map (·.1)).Nodup
    unfold putL
    split
    · split
      · exact delN_nodup (aput_nodup _ _ h.l) _
      · exact aput_nodup _ _ h.l
    · exact h.l
  · show ((putT W S.1 S.2 a.client a.seq).map (·.1)).Nodup
    unfold putT
    split
    · split
      · exact aput_nodup _ _ h.t
      · exact h.t
    · exact h.t

/-- At client c two tables hold the same. -/
def At (c : Int) (S S' : St) : Prop := (∀ s, aget S.1 (c, s) = aget S'.1 (c, s)) ∧ aget S.2 c = aget S'.2 c
theorem At.refl (c : Int) (S : St) : At c S S := ⟨fun _ => rfl, rfl⟩
theorem At.symm {c : Int} {S S' : St} (h : At c S S') : At c S' S := ⟨fun s => (h.1 s).symm, h.2.symm⟩
theorem At.trans {c : Int} {S S' S'' : St} (h : At c S S') (k : At c S' S'') : At c S S'' := ⟨fun s => (h.1 s).trans (k.1 s), h.2.trans k.2⟩

theorem aget_delN {β : Type} {L : List ((Int × Int) × β)} (hn : (L.map (·.1)).Nodup) (c lo : Int) (j : Nat) (s : Int) : aget (delN L c lo j) (c, s) = if lo ≤ s ∧ s < lo + j then none else aget L (c, s) := by
  by_cases h : lo ≤ s ∧ s < lo + j
  · rw [if_pos h, aget_delN_in hn j h.1 h.2]
  · rw [if_neg h, aget_delN_out]
    right
    show s < lo ∨ lo + (j : Int) ≤ s
    omega

theorem At.other {W : Int} {S : St} (a : ActD) {c : Int} (hc : a.client ≠ c) : At c S (stepS W S a) := by
  refine ⟨fun s => ?_, ?_⟩
  · show _ = aget (putL W S.1 S.2 a.client a.seq a.ans) (c, s)
    unfold putL
    split
    · split
      · rw [aget_delN_out _ (Or.inl (fun e => hc e.symm)), aget_aput, if_neg (by intro e; exact hc (Prod.mk.inj e).1)]
      · rw [aget_aput, if_neg (by intro e; exact hc (Prod.mk.inj e).1)]
    · rfl
  · show _ = aget (putT W S.1 S.2 a.client a.seq) c
    unfold putT
    split
    · split
      · rw [aget_aput, if_neg hc]
      · rfl
    · rfl

theorem At.look {W : Int} {S S' : St} {c : Int} (h : At c S S') (s : Int) : lookOf W S.1 S.2 c s = lookOf W S'.1 S'.2 c s := by
  unfold lookOf
  rw [h.1 s, h.2]

theorem At.step {W : Int} {S S' : St} {c : Int} (h : At c S S') (g : Good W S) (g' : Good W S') (a : ActD) (ha : a.client = c) : At c (stepS W S a) (stepS W S' a) := by
  have hl := h.look (W := W) a.seq
  refine ⟨fun s => ?_, ?_⟩
  · show aget (putL W S.1 S.2 a.client a.seq a.ans) (c, s) = aget (putL W S'.1 S'.2 a.client a.seq a.ans) (c, s)
    rw [ha]
    unfold putL
    rw [hl, h.2]
    split
    · split
      · rw [aget_delN (aput_nodup _ _ g.l), aget_delN (aput_nodup _ _ g'.l), aget_aput, aget_aput, h.1 s]
      · rw [aget_aput, aget_aput, h.1 s]
    · exact h.1 s
  · show aget (putT W S.1 S.2 a.client a.seq) c = aget (putT W S'.1 S'.2 a.client a.seq) c
    rw [ha]
    unfold putT
    rw [hl, h.2]
    split
    · split
      · rw [aget_aput, aget_aput, if_pos rfl, if_pos rfl]
      · exact h.2
    · exact h.2

theorem runS_good {W : Int} {S : St} (h : Good W S) : ∀ (xs : List ActD), Good W (runS W S xs) := by
  intro xs
  induction xs generalizing S with
  | nil => exact h
  | cons a xs ih => exact ih (h.step a)

/-- At client c only that client's acts count. -/
theorem At.filter {W : Int} {c : Int} : ∀ (xs : List ActD) {S S' : St}, At c S S' → Good W S → Good W S' → At c (runS W S xs) (runS W S' (xs.filter (fun a => decide (a.client = c))))
  | [], _, _, h, _, _ => h
  | a :: xs, S, S', h, g, g' => by
    by_cases ha : a.client = c
    · rw [List.filter_cons_of_pos (by simpa using ha)]
      exact At.filter xs (h.step g g' a ha) (g.step a) (g'.step a)
    · rw [List.filter_cons_of_neg (by simpa using ha)]
      exact At.filter xs ((At.other a ha).symm.trans h) (g.step a) g'

/-- A client that may not be leaves nothing. -/
theorem At.bad {W : Int} {c : Int} (hc : c < 0) : ∀ (xs : List ActD) {S : St}, At c S (runS W S xs)
  | [], _ => At.refl _ _
  | a :: xs, S => by
    refine At.trans ?_ (At.bad hc xs (S := stepS W S a))
    by_cases ha : a.client = c
    · have h0 : lookOf W S.1 S.2 a.client a.seq ≠ 0 := by
        intro h0
        have := (lookOf_zero h0).1.1
        omega
      have e : stepS W S a = S := by
        unfold stepS putL putT
        rw [if_neg h0, if_neg h0]
      rw [e]
      exact At.refl _ _
    · exact At.other a ha

/-! ### What holds of all that is remembered -/

theorem aput_mem {K β : Type} [DecidableEq K] {E : List (K × β)} {k : K} {x : β} {p : K × β} (h : p ∈ aput E k x) : p = (k, x) ∨ p ∈ E := by
  induction E with
  | nil => simpa [aput] using h
  | cons q E ih =>
    obtain ⟨k', y⟩ := q
    unfold aput at h
    by_cases hk : k' = k
    · rw [if_pos hk] at h
      rcases List.mem_cons.1 h with h | h
      · exact Or.inl h
      · exact Or.inr (List.mem_cons_of_mem _ h)
    · rw [if_neg hk] at h
      rcases List.mem_cons.1 h with h | h
      · exact Or.inr (by simp [h])
      · rcases ih h with h | h
        · exact Or.inl h
        · exact Or.inr (List.mem_cons_of_mem _ h)
theorem aput_length {K β : Type} [DecidableEq K] (E : List (K × β)) (k : K) (x : β) : (aput E k x).length ≤ E.length + 1 := by
  induction E with
  | nil => simp [aput]
  | cons q E ih =>
    obtain ⟨k', y⟩ := q
    unfold aput
    split
    · simp
    · simp only [List.length_cons]
      omega
theorem delN_sub {β : Type} (L : List ((Int × Int) × β)) (c lo : Int) : ∀ j, (delN L c lo j).Sublist L
  | 0 => List.Sublist.refl _
  | j + 1 => (adel_sub _ _).trans (delN_sub L c lo j)

/-- Every answer is one of the acts'; every client may be. -/
structure Bound (n m : Nat) (S : St) : Prop where
  tops : S.2.length ≤ n
  keys : ∀ p, p ∈ S.2 → okReq p.1 1
  ans : ∀ p, p ∈ S.1 → p.2.length ≤ m
theorem Bound.start (m : Nat) : Bound 0 m ([], []) := ⟨by simp, by simp, by simp⟩
theorem Bound.step {W : Int} {n m : Nat} {S : St} (h : Bound n m S) (a : ActD) (ha : a.ans.length ≤ m) : Bound (n + 1) m (stepS W S a) := by
  refine ⟨?_, fun p hp => ?_, fun p hp => ?_⟩
  · show (putT W S.1 S.2 a.client a.seq).length ≤ n + 1
    unfold putT
    have := aput_length S.2 a.client a.seq
    have := h.tops
    split
    · split <;> omega
    · omega
  · change p ∈ putT W S.1 S.2 a.client a.seq at hp
    unfold putT at hp
    split at hp
    · rename_i h0
      split at hp
      · rcases aput_mem hp with rfl | hp
        · have := (lookOf_zero h0).1
          exact ⟨this.1, this.2.1, by omega, by omega⟩
        · exact h.keys p hp
      · exact h.keys p hp
    · exact h.keys p hp
  · change p ∈ putL W S.1 S.2 a.client a.seq a.ans at hp
    unfold putL at hp
    split at hp
    · split at hp
      · rcases aput_mem ((delN_sub _ _ _ _).subset hp) with rfl | hp
        · exact ha
        · exact h.ans p hp
      · rcases aput_mem hp with rfl | hp
        · exact ha
        · exact h.ans p hp
    · exact h.ans p hp
theorem Bound.mono {n n' m : Nat} {S : St} (h : Bound n m S) (hn : n ≤ n') : Bound n' m S := ⟨Nat.le_trans h.tops hn, h.keys, h.ans⟩
theorem Bound.small {n m : Nat} {S : St} (h : Bound n m S) (hn : n ≤ 200) (hm : m ≤ 10000) : Small S.1 S.2 :=
  ⟨Nat.le_trans h.tops hn, fun c hc => by
    obtain ⟨p, hp, rfl⟩ := List.mem_map.1 hc
    exact h.keys p hp, fun k bs hk => Nat.le_trans (h.ans _ (aget_mem hk)) hm⟩
theorem ans_le {xs : List ActD} {a : ActD} (h : a ∈ xs) : a.ans.length ≤ ansLen xs := by
  induction xs with
  | nil => simp at h
  | cons b xs ih =>
    unfold ansLen at *
    simp only [List.map_cons, List.sum_cons]
    rcases List.mem_cons.1 h with rfl | h
    · omega
    · have := ih h
      omega

/-! ### The bytes hang on what is held alone -/

theorem keys_perm {T T' : List (Int × Int)} (h : (T.map (·.1)).Nodup) (h' : (T'.map (·.1)).Nodup) (e : ∀ c, aget T c = aget T' c) : (T.map (·.1)).Perm (T'.map (·.1)) := by
  rw [List.perm_ext_iff_of_nodup h h']
  intro c
  have h1 : aget T c = none ↔ c ∉ T.map (·.1) := aget_none
  have h2 : aget T' c = none ↔ c ∉ T'.map (·.1) := aget_none
  rw [e c] at h1
  constructor
  · intro hc
    exact Classical.byContradiction fun hn => h1.1 (h2.2 hn) hc
  · intro hc
    exact Classical.byContradiction fun hn => h2.1 (h1.2 hn) hc

theorem seqsN_congr {β : Type} {L L' : List ((Int × Int) × β)} {c : Int} (h : ∀ s, aget L (c, s) = aget L' (c, s)) (lo : Int) : ∀ j, seqsN L c lo j = seqsN L' c lo j
  | 0 => rfl
  | j + 1 => by
    unfold seqsN
    rw [seqsN_congr h lo j, h]

theorem enc_same {W : Int} {S S' : St} (g : Good W S) (g' : Good W S') (h : ∀ c, At c S S') : encOf W S.1 S.2 = encOf W S'.1 S'.2 := by
  have hp := keys_perm g.t g'.t (fun c => (h c).2)
  have hl : S.2.length = S'.2.length := by simpa using hp.length_eq
  have hk : sortK S.2 = sortK S'.2 := mergeSort_of_perm_i hp
  have hc : encClient W S.1 S.2 = encClient W S'.1 S'.2 := by
    funext c
    have hs : seqsOf W S.1 S.2 c = seqsOf W S'.1 S'.2 c := by
      unfold seqsOf seqLo
      rw [(h c).2]
      exact seqsN_congr (h c).1 _ _
    have ho : encOne S.1 c = encOne S'.1 c := by
      funext s
      unfold encOne
      rw [(h c).1 s]
    unfold encClient
    rw [hs, (h c).2, ho]
  unfold encOf
  rw [hl, hk, hc]

/-! ### Client by client -/

/-- Is an act of the class that is put in turn k? -/
def cls (u k : Int) (a : ActD) : Bool := decide (0 ≤ a.client) && decide (a.client % 3 = (k + u) % 3)

def turns3 (u : Int) (xs : List ActD) : List ActD := xs.filter (cls u 0) ++ xs.filter (cls u 1) ++ xs.filter (cls u 2)

theorem turns3_length (u : Int) (xs : List ActD) : (turns3 u xs).length ≤ xs.length := by
  unfold turns3
  induction xs with
  | nil => simp
  | cons a xs ih =>
    simp only [List.length_append] at ih ⊢
    simp only [List.filter_cons, List.length_cons]
    have h0 : cls u 0 a = true → ¬ cls u 1 a = true ∧ ¬ cls u 2 a = true := by
      simp only [cls, Bool.and_eq_true, decide_eq_true_eq]
      omega
    have h1 : cls u 1 a = true → ¬ cls u 2 a = true := by
      simp only [cls, Bool.and_eq_true, decide_eq_true_eq]
      omega
    by_cases e0 : cls u 0 a = true
    · obtain ⟨e1, e2⟩ := h0 e0
      rw [if_pos e0, if_neg e1, if_neg e2]
      simp only [List.length_cons]
      omega
    · by_cases e1 : cls u 1 a = true
      · have e2 := h1 e1
        rw [if_neg e0, if_pos e1, if_neg e2]
        simp only [List.length_cons]
        omega
      · rw [if_neg e0, if_neg e1]
        split
        · simp only [List.length_cons]
          omega
        · omega

theorem turns3_client (u c : Int) (hc : 0 ≤ c) (xs : List ActD) : (turns3 u xs).filter (fun a => decide (a.client = c)) = xs.filter (fun a => decide (a.client = c)) := by
  unfold turns3
  simp only [List.filter_append, List.filter_filter]
  have key : ∀ k : Int, (c % 3 = (k + u) % 3 → (xs.filter fun a => decide (a.client = c) && cls u k a) = xs.filter (fun a => decide (a.client = c))) ∧ (c % 3 ≠ (k + u) % 3 → (xs.filter fun a => decide (a.client = c) && cls u k a) = []) := by
    intro k
    constructor
    · intro h
      congr 1
      funext a
      by_cases ha : a.client = c
      · simp [ha, cls, hc, h]
      · simp [ha]
    · intro h
      rw [List.filter_eq_nil_iff]
      intro a _
      by_cases ha : a.client = c
      · simp [ha, cls, h]
      · simp [ha]
  have h3 : c % 3 = (0 + u) % 3 ∨ c % 3 = (1 + u) % 3 ∨ c % 3 = (2 + u) % 3 := by omega
  rcases h3 with h | h | h
  · rw [(key 0).1 h, (key 1).2 (by omega), (key 2).2 (by omega)]
    simp
  · rw [(key 0).2 (by omega), (key 1).1 h, (key 2).2 (by omega)]
    simp
  · rw [(key 0).2 (by omega), (key 1).2 (by omega), (key 2).1 h]
    simp

theorem same_enc {W : Int} (h1 : 1 ≤ W) (h2 : W ≤ 4096) (u : Int) (xs : List ActD) :
    encOf W (runS W ([], []) xs).1 (runS W ([], []) xs).2 = encOf W (runS W ([], []) (turns3 u xs)).1 (runS W ([], []) (turns3 u xs)).2 := by
  have g0 := Good.start h1 h2
  refine enc_same (runS_good g0 _) (runS_good g0 _) (fun c => ?_)
  by_cases hc : 0 ≤ c
  · have a1 := At.filter (c := c) xs (At.refl c ([], [])) g0 g0
    have a2 := At.filter (c := c) (turns3 u xs) (At.refl c ([], [])) g0 g0
    rw [turns3_client u c hc xs] at a2
    exact a1.trans a2.symm
  · exact (At.bad (by omega) xs).symm.trans (At.bad (by omega) _)

#print axioms same_enc
end Go.Proofs.Ytgopebigmcbbkaa
