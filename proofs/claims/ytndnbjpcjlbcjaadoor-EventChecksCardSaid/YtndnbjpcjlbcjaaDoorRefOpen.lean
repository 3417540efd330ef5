/- The document's Open: what the code computes. -/
import Derived.Test.YtndnbjpcjlbcjaaDoorRefC
import Derived.Test.YtndnbjpcjlbcjaaDoorNums
import Derived.Deep.RegionHeld3
namespace Go.Proofs.YtndnbjpcjlbcjaaDoor
open Go.RowKit Go.Maps

theorem own_emptyI {w : World} {g base : Nat} (h : Blk w g 3 #[]) (hb : base ≤ g) : OwnI w base (.slice (some ⟨g, 0, none⟩) 0 0) [] := ⟨rfl, Or.inr ⟨g, 0, #[], rfl, hb, h, Nat.le_refl _, Nat.zero_le _, rfl, rfl⟩⟩

/-- Numbers that lie at an address. -/
def SrcN (w : World) (A : Option Addr) (m c : Nat) (src : List Int) : Prop := src.length = m ∧ (A = none → m = 0 ∧ c = 0) ∧ ∀ ad, A = some ad → ∀ j x, src[j]? = some x → w.cell? (ad.add j) = some (.int .i64 x)
theorem SrcN.kept {w w' : World} {A : Option Addr} {m c : Nat} {src : List Int} (h : SrcN w A m c src) (hk : Kept NoBlk w w') : SrcN w' A m c src := ⟨h.1, h.2.1, fun ad ha j x hx => hk.cell (h.2.2 ad ha j x hx) (fun e => e.elim)⟩
theorem wp_append_rdn {w : World} {o : Oper} {a : Act} {K : Act → World → Prop} {Q : Exit → Act → World → Prop} (s x : Operand)
    (ho : o.op = .call { callee := .builtin .append, args := #[s, x], argTypes := #[47, 47] }) (base : Nat) (v : Value) (ts : List Int) (hs : a.eval s = v) (hown : OwnI w base v ts) (A : Option Addr) (m c : Nat) (hx : a.eval x = .slice A m c) (src : List Int) (hsrc : SrcN w A m c src) (hn : ts.length + m ≤ 2000) (hb : base ≤ w.heap.size)
    (h : ∀ A' m' c' w', OwnI w' base (.slice A' m' c') (ts ++ src) → Kept (fun b => v.ownBlock = some b) w w' → K (a.put o.dst (.slice A' m' c')) w') : Oper.wp Tryd.prog o a w K Q := by
  obtain ⟨i0, hi, hz0, hz1, hz2⟩ := info_parts i64_info
  obtain ⟨h1, h2, h3⟩ := hsrc
  cases A with
  | none =>
    obtain ⟨rfl, rfl⟩ := h2 rfl
    have hb : src = [] := List.length_eq_zero_iff.1 h1
    subst hb
    have hrun := run_append_owned_none (P := Tryd.prog) (w := w) base 47 o.type 3 i0 1 Tryd.underlying47 hi v ts.length _ hown
    obtain ⟨A, m, c, hv⟩ := hown.form
    have hk := h A m c w (by rw [← hv]; simpa using hown) (Kept.refl _ w)
    rw [← hv] at hk
    unfold Oper.wp
    simp [execOp, ho, resolve, invoke, builtin, hs, hx, hrun, Result.andThen]
    exact hk
  | some ad =>
    refine wp_append_own w s x 47 ho base 3 i0 _ 1 8 Tryd.underlying47 hi hz0 hz1 hz2 rfl (by decide) v ts.length (ts.map (Value.int .i64)) hs hown ad m c (src.map (Value.int .i64)) hx (by simp [h1]) (fun j u hu => ?_) (fun u hu => ?_) (by unfold maxLen; omega) (by omega) hb ?_
    · rw [List.getElem?_map] at hu
      cases hj : src[j]? with
      | none => rw [hj] at hu; cases hu
      | some y =>
        rw [hj] at hu
        cases hu
        exact h3 ad rfl j y hj
    · obtain ⟨y, _, rfl⟩ := List.mem_map.1 hu
      rfl
    · intro v' w' q1 q2 _
      have q3 : OwnI w' base v' (ts ++ src) := by
        unfold OwnI
        rw [List.length_append, h1, List.map_append]
        exact q1
      obtain ⟨A, m', c', rfl⟩ := q3.form
      exact h A m' c' w' q3 (Kept.of_grown q2 (fun b e => e))
theorem step_append_rdn {w : World} {ops : Array Oper} {o : Oper} {a : Act} {K : Act → World → Prop} {Q : Exit → Act → World → Prop} {E : Prop} (hgd : o.guard = none) (s x : Operand)
    (ho : o.op = .call { callee := .builtin .append, args := #[s, x], argTypes := #[47, 47] }) (base : Nat) (v : Value) (ts : List Int) (hs : a.eval s = v) (hown : OwnI w base v ts) (A : Option Addr) (m c : Nat) (hx : a.eval x = .slice A m c) (src : List Int) (hsrc : SrcN w A m c src) (hn : ts.length + m ≤ 2000) (hb : base ≤ w.heap.size)
    (h : ∀ A' m' c' w', OwnI w' base (.slice A' m' c') (ts ++ src) → Kept (fun b => v.ownBlock = some b) w w' → K (a.put o.dst (.slice A' m' c')) w') : if Region.wanted o (yielded ops a.tmps) = true then Oper.wp Tryd.prog o a w K Q else E := by
  have hw : Region.wanted o (yielded ops a.tmps) = true := by simp [Region.wanted, hgd]
  rw [if_pos hw]
  exact wp_append_rdn s x ho base v ts hs hown A m c hx src hsrc hn hb h
theorem wpList_append_rdn {w : World} {ops : Array Oper} {rest : List Oper} {o : Oper} {a : Act} {Q : Exit → Act → World → Prop} (hgd : o.guard = none) (s x : Operand)
    (ho : o.op = .call { callee := .builtin .append, args := #[s, x], argTypes := #[47, 47] }) (base : Nat) (v : Value) (ts : List Int) (hs : a.eval s = v) (hown : OwnI w base v ts) (A : Option Addr) (m c : Nat) (hx : a.eval x = .slice A m c) (src : List Int) (hsrc : SrcN w A m c src) (hn : ts.length + m ≤ 2000) (hb : base ≤ w.heap.size)
    (h : ∀ A' m' c' w', OwnI w' base (.slice A' m' c') (ts ++ src) → Kept (fun b => v.ownBlock = some b) w w' → wpList Tryd.prog ops Q rest (a.put o.dst (.slice A' m' c')) w') : wpList Tryd.prog ops Q (o :: rest) a w :=
  wpList_plain hgd fun _ hK => wp_append_rdn s x ho base v ts hs hown A m c hx src hsrc hn hb fun A' m' c' w' h1 h2 => hK _ _ (h A' m' c' w' h1 h2)

theorem openN_len (l : List EvD) (k : Int) : ∀ i, (openN l k i).length ≤ i
  | 0 => Nat.le_refl _
  | i + 1 => by
    have ih := openN_len l k i
    unfold openN
    split
    · split
      · rw [(insR_perm _ _).length_eq]
        simp
        omega
      · omega
    · omega
theorem openN_next {xs : List EvD} {q : Int} {k : Nat} {a : EvD} (ha : xs[k]? = some a) : openN xs q (k + 1) = if a.kind = q ∧ openR xs ((k : Int) + 1) = true then insR (openN xs q k) a.id else openN xs q k := by
  show (match xs[k]? with | some e => _ | none => _) = _
  rw [ha]
theorem addr_add (g off j : Nat) : (⟨g, off, none⟩ : Addr).add j = ⟨g, off + j, none⟩ := by
  unfold Addr.add
  split
  · rename_i h
    rw [h]
    rfl
  · rfl
theorem OwnI.src {w : World} {base g m c j : Nat} {out : List Int} (h : OwnI w base (.slice (some ⟨g, 0, none⟩) m c) out) (hj : j ≤ m) : SrcN w (some ⟨g, 0, none⟩) j c (out.take j) := by
  have hl : out.length = m := by
    rcases h.2 with ⟨e, _⟩ | ⟨_, _, _, e, _⟩
    · cases e
    · injection e with _ e _
      exact e.symm
  refine ⟨by rw [List.length_take]; omega, fun e => (by cases e), fun ad ha i x hx => ?_⟩
  cases ha
  have hx2 : out[i]? = some x := by
    rw [List.getElem?_take] at hx
    split at hx
    · exact hx
    · cases hx
  exact World.ownsRow.cells (h : w.ownsRow base 3 1 _ _ _) (g := g) rfl i (.int .i64 x) (by rw [List.getElem?_map, hx2]; rfl)
theorem OwnI.src2 {w : World} {base g m c j c' : Nat} {out : List Int} (h : OwnI w base (.slice (some ⟨g, 0, none⟩) m c) out) (_hj : j ≤ m) : SrcN w (some ⟨g, j, none⟩) (m - j) c' (out.drop j) := by
  have hl : out.length = m := by
    rcases h.2 with ⟨e, _⟩ | ⟨_, _, _, e, _⟩
    · cases e
    · injection e with _ e _
      exact e.symm
  refine ⟨by rw [List.length_drop, hl], fun e => (by cases e), fun ad ha i x hx => ?_⟩
  cases ha
  rw [List.getElem?_drop] at hx
  have := World.ownsRow.cells (h : w.ownsRow base 3 1 _ _ _) (g := g) rfl (j + i) (.int .i64 x) (by rw [List.getElem?_map, hx]; rfl)
  rw [addr_add] at this ⊢
  rw [Nat.zero_add] at this
  exact this
theorem OwnI.base_le {w : World} {b b' : Nat} {v : Value} {ts : List Int} (h : OwnI w b' v ts) (hb : b ≤ b') : OwnI w b v ts := by
  obtain ⟨hl, h⟩ := h
  refine ⟨hl, ?_⟩
  rcases h with h | ⟨g, cap, cur, rfl, hg, h1⟩
  · exact Or.inl h
  · exact Or.inr ⟨g, cap, cur, rfl, by omega, h1⟩
theorem SrcN.nil_ (w : World) (A : Option Addr) (c : Nat) (h : A = none → c = 0) : SrcN w A 0 c [] := ⟨rfl, fun e => ⟨rfl, h e⟩, fun _ _ j x hx => by cases hx⟩
end Go.Proofs.YtndnbjpcjlbcjaaDoor
