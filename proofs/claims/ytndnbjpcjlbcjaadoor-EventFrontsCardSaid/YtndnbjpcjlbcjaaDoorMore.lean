/- Rows of events that the call itself makes: append. -/
import Derived.Test.YtndnbjpcjlbcjaaDoorStat
import Derived.OwnWalk
namespace Go.Proofs.YtndnbjpcjlbcjaaDoor
open Go.RowKit

theorem ev_info : (Tryd.prog.info? 24).map (fun i => (i.zero, i.size, i.bytes)) = some (some (.agg #[.int .i64 0, .int .i64 0, .int .i64 0, .int .i64 0, .int .i64 0, .int .i64 0, .slice none 0 0]), 7, 72) := by kernel_rfl

def evCells (e : EvD) (dv : Value) : List Value := [.int .i64 e.kind, .int .i64 e.pos, .int .i64 e.ref, .int .i64 e.id, .int .i64 e.list, .int .i64 e.n, dv]
/-- The cells cs are those of the events; what they hold was there in the world w0. -/
def Cells (w0 : World) : List EvD → List Value → Prop
  | [], cs => cs = []
  | e :: l, cs => ∃ dv cs', cs = evCells e dv ++ cs' ∧ RdB w0 dv e.data ∧ EvOk e ∧ Cells w0 l cs'
theorem Cells.app {w0 : World} {m : List EvD} {b : List Value} (hb : Cells w0 m b) : ∀ {l : List EvD} {a : List Value}, Cells w0 l a → Cells w0 (l ++ m) (a ++ b)
  | [], a, h => by
    cases h
    exact hb
  | e :: l, a, h => by
    obtain ⟨dv, cs', rfl, h1, h2, h3⟩ := h
    exact ⟨dv, cs' ++ b, by rw [List.append_assoc], h1, h2, Cells.app hb h3⟩
theorem Cells.one {w0 : World} {e : EvD} {dv : Value} (h : RdB w0 dv e.data) (ok : EvOk e) : Cells w0 [e] (evCells e dv) := ⟨dv, [], by simp, h, ok, rfl⟩
theorem Cells.len {w0 : World} : ∀ {l : List EvD} {a : List Value}, Cells w0 l a → a.length = l.length * 7
  | [], a, h => by
    cases h
    rfl
  | e :: l, a, h => by
    obtain ⟨dv, cs', rfl, _, _, h3⟩ := h
    have := h3.len
    simp [evCells, this]
    omega
theorem Cells.single {w0 : World} : ∀ {l : List EvD} {a : List Value}, Cells w0 l a → ∀ u ∈ a, u.oneCell' = true
  | [], a, h => by
    cases h
    intro u hu
    cases hu
  | e :: l, a, h => by
    obtain ⟨dv, cs', rfl, h1, _, h3⟩ := h
    obtain ⟨A, n, c, rfl, _⟩ := h1
    intro u hu
    rcases List.mem_append.1 hu with hu | hu
    · simp [evCells] at hu
      rcases hu with rfl | rfl | rfl | rfl | rfl | rfl | rfl <;> rfl
    · exact h3.single u hu
theorem Cells.at_ {w0 : World} : ∀ {l : List EvD} {a : List Value} {i : Nat} {e : EvD}, Cells w0 l a → l[i]? = some e → ∃ dv, RdB w0 dv e.data ∧ EvOk e ∧ ∀ r, r < 7 → a[i * 7 + r]? = (evCells e dv)[r]?
  | [], a, i, e, _, h => by cases h
  | x :: l, a, 0, e, h, he => by
    obtain ⟨dv, cs', rfl, h1, h2, _⟩ := h
    cases he
    refine ⟨dv, h1, h2, fun r hr => ?_⟩
    rw [Nat.zero_mul, Nat.zero_add, List.getElem?_append_left (by simpa [evCells] using hr)]
  | x :: l, a, i + 1, e, h, he => by
    obtain ⟨dv, cs', rfl, _, _, h3⟩ := h
    obtain ⟨dv', h1, h2, h4⟩ := h3.at_ (i := i) (by simpa using he)
    refine ⟨dv', h1, h2, fun r hr => ?_⟩
    rw [← h4 r hr, List.getElem?_append_right (by simp [evCells]; omega)]
    congr 1
    simp [evCells]
    omega
theorem add_none (b off j : Nat) : (⟨b, off, none⟩ : Addr).add j = ⟨b, off + j, none⟩ := by
  unfold Addr.add
  split
  · rename_i hk
    rw [hk]
    rfl
  · rfl
/-- Events that came in, as cells. -/
theorem Evs.cells {w0 : World} {A : Option Addr} {n : Nat} {xs : List EvD} (h : Evs w0 A n xs) : ∃ cs, Cells w0 xs cs ∧ ∀ ad, A = some ad → ∀ j u, cs[j]? = some u → w0.cell? (ad.add j) = some u := by
  have key : ∀ k, k ≤ n → ∃ cs, Cells w0 (xs.take k) cs ∧ cs.length = k * 7 ∧ ∀ ad, A = some ad → ∀ j u, cs[j]? = some u → w0.cell? (ad.add j) = some u := by
    intro k
    induction k with
    | zero => exact fun _ => ⟨[], rfl, rfl, fun _ _ j u hu => by cases hu⟩
    | succ k ih =>
      intro hk
      obtain ⟨cs, h1, h2, h3⟩ := ih (by omega)
      obtain ⟨b, off, a, v, hA, ha, c0, c1, c2, c3, c4, c5, c6, h7, h8⟩ := h.at_ (k := k) (by omega)
      refine ⟨cs ++ evCells a v, ?_, by simp [h2, evCells]; omega, fun ad had j u hu => ?_⟩
      · obtain ⟨hk', e⟩ := List.getElem?_eq_some_iff.1 ha
        rw [List.take_succ_eq_append_getElem hk', e]
        exact (Cells.one h7 h8).app h1
      · rw [List.getElem?_append] at hu
        split at hu
        · exact h3 ad had j u hu
        · rename_i hj
          rw [hA] at had
          cases had
          rw [add_none]
          obtain ⟨r, hr⟩ : ∃ r, j = k * 7 + r := ⟨j - k * 7, by omega⟩
          subst hr
          rw [h2, show k * 7 + r - k * 7 = r by omega] at hu
          have e : off + (k * 7 + r) = off + k * 7 + r := by omega
          rw [e]
          match r with
          | 0 => cases hu; exact c0
          | 1 => cases hu; exact c1
          | 2 => cases hu; exact c2
          | 3 => cases hu; exact c3
          | 4 => cases hu; exact c4
          | 5 => cases hu; exact c5
          | 6 => cases hu; exact c6
          | r + 7 => cases hu
  obtain ⟨cs, h1, _, h3⟩ := key n (Nat.le_refl _)
  rw [List.take_of_length_le (by rw [h.1]; exact Nat.le_refl _)] at h1
  exact ⟨cs, h1, h3⟩
/-- A row of the call's own, as events. -/
theorem Evs.own {w0 w : World} {base g n cap : Nat} {xs : List EvD} {cs : List Value} (hc : Cells w0 xs cs) (ho : w.ownsRow base 24 7 (.slice (some ⟨g, 0, none⟩) n cap) n cs) (hk : Kept NoBlk w0 w) (hn : n ≤ 1000) (hl : xs.length = n) : Evs w (some ⟨g, 0, none⟩) n xs := by
  refine ⟨hl, by omega, fun _ => ⟨g, 0, rfl, fun i e hi => ?_⟩⟩
  obtain ⟨dv, h1, h2, h3⟩ := hc.at_ hi
  have cell : ∀ r u, (evCells e dv)[r]? = some u → w.cell? ⟨g, 0 + i * 7 + r, none⟩ = some u := by
    intro r u hr
    have hr7 : r < 7 := by
      have := (List.getElem?_eq_some_iff.1 hr).1
      simpa [evCells] using this
    have := ho.cells (g := g) rfl (i * 7 + r) u (by rw [h3 r hr7]; exact hr)
    rw [add_none] at this
    rw [Nat.add_assoc]
    exact this
  exact ⟨dv, cell 0 _ rfl, cell 1 _ rfl, cell 2 _ rfl, cell 3 _ rfl, cell 4 _ rfl, cell 5 _ rfl, cell 6 _ rfl, h1.kept hk (NoCells.none _), h2⟩

/-- append at rows of events, at a step of a region that draws. -/
theorem step_append_evs {w : World} {ops : Array Oper} {o : Oper} {a : Act} {K : Act → World → Prop} {Q : Exit → Act → World → Prop} {E : Prop} (hgd : o.guard = none) (s x : Operand)
    (ho : o.op = .call { callee := .builtin .append, args := #[s, x], argTypes := #[30, 30] }) (base : Nat) (v : Value) (n : Nat) (xs : List Value) (hs : a.eval s = v) (hown : w.ownsRow base 24 7 v n xs)
    (A : Option Addr) (m c : Nat) (hx : a.eval x = .slice A m c) (news : List Value) (hl : news.length = m * 7) (hA : A = none → m = 0 ∧ c = 0) (hnews : ∀ ad, A = some ad → ∀ j u, news[j]? = some u → w.cell? (ad.add j) = some u)
    (h1 : ∀ u ∈ news, u.oneCell' = true) (hn : n + m ≤ 1000) (hbase : base ≤ w.heap.size)
    (h : ∀ A' m' c' w', w'.ownsRow base 24 7 (.slice A' m' c') (n + m) (xs ++ news) → w.grownBy w' v.ownBlock → K (a.put o.dst (.slice A' m' c')) w') : if Region.wanted o (yielded ops a.tmps) = true then Oper.wp Tryd.prog o a w K Q else E := by
  have hw : Region.wanted o (yielded ops a.tmps) = true := by simp [Region.wanted, hgd]
  rw [if_pos hw]
  obtain ⟨i0, hi, hz0, hz1, hz2⟩ := info_parts ev_info
  have form : ∀ {v' : Value} {w' : World} {k : Nat} {ys : List Value}, w'.ownsRow base 24 7 v' k ys → ∃ A m c, v' = .slice A m c := by
    intro v' w' k ys h
    rcases h.2 with ⟨e, _⟩ | ⟨g, cap, cur, e, _⟩
    · exact ⟨_, _, _, e⟩
    · exact ⟨_, _, _, e⟩
  cases A with
  | none =>
    obtain ⟨rfl, rfl⟩ := hA rfl
    have hb : news = [] := List.eq_nil_of_length_eq_zero (by simpa using hl)
    subst hb
    have hrun := run_append_owned_none (P := Tryd.prog) (w := w) base 30 o.type 24 i0 7 Tryd.underlying30 hi v n xs hown
    obtain ⟨A, m, c, hv⟩ := form hown
    have hk := h A m c w (by rw [← hv]; simpa using hown) ⟨rfl, rfl, rfl, Nat.le_refl _, fun _ _ _ => rfl⟩
    rw [← hv] at hk
    unfold Oper.wp
    simp [execOp, ho, resolve, invoke, builtin, hs, hx, hrun, Result.andThen]
    exact hk
  | some ad =>
    refine wp_append_own w s x 30 ho base 24 i0 _ 7 72 Tryd.underlying30 hi hz0 hz1 hz2 rfl (by decide) v n xs hs hown ad m c news hx hl (hnews ad rfl) h1 (by unfold maxLen; omega) (by omega) hbase ?_
    intro v' w' h1 h2 _
    obtain ⟨A, m', c', hv⟩ := form h1
    subst hv
    exact h A m' c' w' h1 h2

theorem own_empty {w : World} {g base : Nat} (h : Blk w g 24 #[]) (hb : base ≤ g) : w.ownsRow base 24 7 (.slice (some ⟨g, 0, none⟩) 0 0) 0 [] := ⟨rfl, Or.inr ⟨g, 0, #[], rfl, hb, h, Nat.le_refl _, Nat.zero_le _, rfl, rfl⟩⟩
theorem own_kept {w w' : World} {base n : Nat} {v : Value} {xs : List Value} (h : w.ownsRow base 24 7 v n xs) (hk : Kept NoBlk w w') : w'.ownsRow base 24 7 v n xs := by
  obtain ⟨hl, h⟩ := h
  refine ⟨hl, ?_⟩
  rcases h with h | ⟨g, cap, cur, rfl, hg, hb, h1⟩
  · exact Or.inl h
  · exact Or.inr ⟨g, cap, cur, rfl, hg, (hk.block g (heap_lt hb) (fun e => e.elim)).trans hb, h1⟩
theorem news_blk {w : World} {g : Nat} {e : EvD} {dv : Value} (h : Blk w g 24 #[.int .i64 e.kind, .int .i64 e.pos, .int .i64 e.ref, .int .i64 e.id, .int .i64 e.list, .int .i64 e.n, dv]) : ∀ ad, some (⟨g, 0, none⟩ : Addr) = some ad → ∀ j u, (evCells e dv)[j]? = some u → w.cell? (ad.add j) = some u := by
  intro ad had j u hu
  cases had
  exact World.news_of_block h j u hu
theorem s7 {w : World} {q : Nat} {a b c d e f g : Value} (h : Blk w q 24 #[a, b, c, d, e, f, g]) : w.cell? ⟨q, 0, none⟩ = some a ∧ w.cell? ⟨q, 0 + 1, none⟩ = some b ∧ w.cell? ⟨q, 0 + 2, none⟩ = some c ∧ w.cell? ⟨q, 0 + 3, none⟩ = some d ∧ w.cell? ⟨q, 0 + 4, none⟩ = some e ∧ w.cell? ⟨q, 0 + 5, none⟩ = some f ∧ w.cell? ⟨q, 0 + 6, none⟩ = some g :=
  ⟨h.cell 0, h.cell 1, h.cell 2, h.cell 3, h.cell 4, h.cell 5, h.cell 6⟩
end Go.Proofs.YtndnbjpcjlbcjaaDoor
