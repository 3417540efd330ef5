/- Plain facts on what Put leaves. -/
import Derived.Test.YtgopebigmcbbkaaPut
namespace Go.Proofs.Ytgopebigmcbbkaa

section
variable {K β : Type} [DecidableEq K]
theorem aget_adel_ne {E : List (K × β)} {k k' : K} (h : k ≠ k') : aget (adel E k) k' = aget E k' := by
  induction E with
  | nil => rfl
  | cons p E ih =>
    obtain ⟨q, y⟩ := p
    unfold adel
    by_cases hq : q = k
    · rw [if_pos hq]
      simp only [aget]
      rw [if_neg (fun e => h (hq.symm.trans e))]
    · rw [if_neg hq]
      simp only [aget, ih]
end

section
variable {β : Type}
theorem aget_delN_out {L : List ((Int × Int) × β)} {c lo : Int} {key : Int × Int} : ∀ (j : Nat), (key.1 ≠ c ∨ key.2 < lo ∨ lo + j ≤ key.2) → aget (delN L c lo j) key = aget L key
  | 0, _ => rfl
  | j + 1, h => by
    unfold delN
    rw [aget_adel_ne (by
      intro e
      subst e
      simp at h
      omega), aget_delN_out j (by omega)]
theorem delN_nodup {L : List ((Int × Int) × β)} {c lo : Int} (h : (L.map (·.1)).Nodup) : ∀ (j : Nat), ((delN L c lo j).map (·.1)).Nodup
  | 0 => h
  | j + 1 => adel_nodup _ (delN_nodup h j)
theorem aget_delN_in {L : List ((Int × Int) × β)} {c lo : Int} (hn : (L.map (·.1)).Nodup) {s : Int} : ∀ (j : Nat), lo ≤ s → s < lo + j → aget (delN L c lo j) (c, s) = none
  | 0, h1, h2 => by omega
  | j + 1, h1, h2 => by
    unfold delN
    rw [aget_adel (delN_nodup hn j)]
    by_cases e : (c, lo + (j : Int)) = (c, s)
    · rw [if_pos e]
    · rw [if_neg e]
      refine aget_delN_in hn j h1 ?_
      have : lo + (j : Int) ≠ s := fun e' => e (by rw [e'])
      omega
end

/-- The greatest request of a client. -/
def topOf (T : List (Int × Int)) (c : Int) : Int := (aget T c).getD 0

section
variable {W : Int} {L : List ((Int × Int) × List UInt8)} {T : List (Int × Int)}

theorem topOf_put (c s c' : Int) : topOf (putT W L T c s) c' = if c = c' ∧ lookOf W L T c s = 0 ∧ topOf T c < s then s else topOf T c' := by
  unfold putT topOf
  by_cases h0 : lookOf W L T c s = 0
  · rw [if_pos h0]
    by_cases h1 : (aget T c).getD 0 < s
    · rw [if_pos h1, aget_aput]
      by_cases hc : c = c'
      · subst hc
        rw [if_pos rfl, if_pos ⟨rfl, h0, h1⟩]
        rfl
      · rw [if_neg hc, if_neg (fun e => hc e.1)]
    · rw [if_neg h1]
      simp [h1]
  · rw [if_neg h0]
    simp [h0]

theorem topOf_mono (c s c' : Int) : topOf T c' ≤ topOf (putT W L T c s) c' := by
  rw [topOf_put]
  split
  · rename_i h
    rw [← h.1]
    omega
  · omega

theorem out_of_range {lo a t s' : Int} (h : a < s') : s' < lo ∨ lo + ((min a t + 1 - lo).toNat : Int) ≤ s' := by
  have := Int.min_le_left a t
  generalize min a t = hi at *
  omega

/-- What stands within the window stays, and stays as it is. -/
theorem aget_put_stays {c s : Int} {bs : List UInt8} {c' s' : Int} {x : List UInt8} (h : aget L (c', s') = some x) (hin : topOf (putT W L T c s) c' - W < s') : aget (putL W L T c s bs) (c', s') = some x := by
  unfold putL
  by_cases h0 : lookOf W L T c s = 0
  · rw [if_pos h0]
    obtain ⟨hr, hs, hnone⟩ := lookOf_zero h0
    have hne : (c, s) ≠ (c', s') := by
      intro e
      rw [e] at hnone
      rw [hnone] at h
      cases h
    by_cases h1 : (aget T c).getD 0 < s
    · rw [if_pos h1]
      rw [aget_delN_out, aget_aput, if_neg hne]
      · exact h
      · by_cases hc : c' = c
        · subst hc
          rw [topOf_put, if_pos ⟨rfl, h0, h1⟩] at hin
          exact Or.inr (out_of_range (by omega))
        · exact Or.inl hc
    · rw [if_neg h1, aget_aput, if_neg hne]
      exact h
  · rw [if_neg h0]
    exact h

/-! ### DedupOnce -/

def first : List UInt8 := [102, 105, 114, 115, 116]

/-- The request is below the client's greatest; within the window its answer is there. -/
def OnceInv (W : Int) (L : List ((Int × Int) × List UInt8)) (T : List (Int × Int)) (c s : Int) : Prop := s ≤ topOf T c ∧ (topOf T c - W < s → aget L (c, s) = some first)

theorem OnceInv.put {c s : Int} (h : OnceInv W L T c s) (c' s' : Int) (bs : List UInt8) : OnceInv W (putL W L T c' s' bs) (putT W L T c' s') c s := by
  have hm := topOf_mono (W := W) (L := L) (T := T) c' s' c
  refine ⟨Int.le_trans h.1 hm, fun hin => aget_put_stays (h.2 (by omega)) hin⟩

theorem OnceInv.look {c s : Int} (h : OnceInv W L T c s) (hr : okReq c s) : lookOf W L T c s = if topOf T c - W < s then 1 else 2 := by
  unfold lookOf
  rw [if_neg (by simpa using hr)]
  by_cases hin : topOf T c - W < s
  · rw [if_pos hin, if_neg (by unfold topOf at hin; omega), h.2 hin]
    rfl
  · rw [if_neg hin, if_pos (by unfold topOf at hin; omega)]

theorem once_start {c s : Int} (hr : okReq c s) (hW : 1 ≤ W) : lookOf W [] [] c s = 0 ∧ OnceInv W (putL W [] [] c s first) (putT W [] [] c s) c s := by
  have h0 : lookOf W [] [] c s = 0 := by
    obtain ⟨h1, h2, h3, h4⟩ := hr
    unfold lookOf
    rw [if_neg (by simp [okReq, *]), if_neg (by simp [aget]; omega)]
    rfl
  have h1 : topOf [] c < s := by
    obtain ⟨_, _, h3, _⟩ := hr
    simp [topOf, aget]
    omega
  have ht : topOf (putT W [] [] c s) c = s := by
    rw [topOf_put, if_pos ⟨rfl, h0, h1⟩]
  refine ⟨h0, by rw [ht]; exact Int.le_refl _, fun _ => ?_⟩
  unfold putL
  have h1' : (aget ([] : List (Int × Int)) c).getD 0 < s := h1
  rw [if_pos h0, if_pos h1', aget_delN_out, aget_aput, if_pos rfl]
  exact Or.inr (out_of_range (by omega))
end
end Go.Proofs.Ytgopebigmcbbkaa
