/- Rows of pieces. -/
import Derived.Test.YtnaacgglbeipcaaDoorClone
namespace Go.Proofs.YtnaacgglbeipcaaDoor
open Go.RowKit

structure PcD where
  id : Int
  pos : Int
  total : Int
  sum : Int
  data : List UInt8

def cellsOf (p : PcD) (dv : Value) : List Value := [.int .i64 p.id, .int .i64 p.pos, .int .i64 p.total, .int .u32 p.sum, dv]
def flatP (ds : Nat → Value) : Nat → List PcD → List Value
  | _, [] => []
  | k, p :: ps => cellsOf p (ds k) ++ flatP ds (k + 1) ps

theorem flatP_length (ds : Nat → Value) : ∀ (k : Nat) (ps : List PcD), (flatP ds k ps).length = ps.length * 5
  | _, [] => rfl
  | k, p :: ps => by
    unfold flatP
    rw [List.length_append, flatP_length ds (k + 1) ps]
    simp [cellsOf]
    omega
theorem flatP_snoc (ds : Nat → Value) (p : PcD) : ∀ (k : Nat) (ps : List PcD), flatP ds k (ps ++ [p]) = flatP ds k ps ++ cellsOf p (ds (k + ps.length))
  | k, [] => by simp [flatP]
  | k, q :: ps => by
    show cellsOf q (ds k) ++ flatP ds (k + 1) (ps ++ [p]) = _
    rw [flatP_snoc ds p (k + 1) ps]
    have e : k + 1 + ps.length = k + (q :: ps).length := by simp; omega
    rw [e]
    unfold flatP
    rw [List.append_assoc]
    cases ps <;> rfl
theorem flatP_congr {ds ds' : Nat → Value} : ∀ {k : Nat} {ps : List PcD}, (∀ i, k ≤ i → i < k + ps.length → ds i = ds' i) → flatP ds k ps = flatP ds' k ps
  | _, [], _ => rfl
  | k, p :: ps, h => by
    unfold flatP
    rw [h k (Nat.le_refl _) (by simp), flatP_congr (k := k + 1) (ps := ps) (fun i h1 h2 => h i (by omega) (by simp at h2 ⊢; omega))]
theorem flatP_at (ds : Nat → Value) : ∀ {k : Nat} {ps : List PcD} {i : Nat} {p : PcD}, ps[i]? = some p → ∀ j, j < 5 → (flatP ds k ps)[i * 5 + j]? = (cellsOf p (ds (k + i)))[j]?
  | _, [], i, p, h, _, _ => by simp at h
  | k, q :: ps, 0, p, h, j, hj => by
    simp at h
    subst h
    unfold flatP
    rw [List.getElem?_append_left (by simp [cellsOf]; omega)]
    simp
  | k, q :: ps, i + 1, p, h, j, hj => by
    have h' : ps[i]? = some p := by simpa using h
    unfold flatP
    rw [List.getElem?_append_right (by simp [cellsOf]; omega)]
    have e : (i + 1) * 5 + j - (cellsOf q (ds k)).length = i * 5 + j := by simp [cellsOf]; omega
    rw [e, flatP_at ds h' j hj]
    have e2 : k + 1 + i = k + (i + 1) := by omega
    rw [e2]

/-- v is a slice that this program has made (from block 'base' on), of structs of type e; its elements are the pieces ps; each piece's data is a row of its own. -/
structure Pcs (w : World) (base : Nat) (e : TypeId) (v : Value) (ps : List PcD) (ds : Nat → Value) : Prop where
  row : w.ownsRow base e 5 v ps.length (flatP ds 0 ps)
  own : ∀ (i : Nat) (p : PcD), ps[i]? = some p → w.ownsRow base 5 1 (ds i) p.data.length (p.data.map bv)
  apart : ∀ (i j gi : Nat), i < j → j < ps.length → (ds i).ownBlock = some gi → (ds j).ownBlock ≠ some gi
  small : ∀ (i : Nat) (p : PcD), ps[i]? = some p → p.data.length ≤ 140737488351232

theorem Pcs.nil_ (w : World) (base : Nat) (e : TypeId) (ds : Nat → Value) : Pcs w base e (.slice none 0 0) [] ds :=
  ⟨⟨rfl, Or.inl ⟨rfl, rfl⟩⟩, by intro i p h; simp at h, by intro i j gi _ h; simp at h, by intro i p h; simp at h⟩

theorem ownsRow_kept {w w' : World} {S : Nat → Prop} {base : Nat} {e : TypeId} {size n : Nat} {v : Value} {xs : List Value} (h : w.ownsRow base e size v n xs) (hk : Kept S w w') (hs : ∀ g, v.ownBlock = some g → ¬ S g) : w'.ownsRow base e size v n xs := by
  refine ⟨h.1, ?_⟩
  rcases h.2 with h0 | ⟨g, cap, cur, rfl, hb, hc, r⟩
  · exact Or.inl h0
  · have hlt : g < w.heap.size := by
      rcases Nat.lt_or_ge g w.heap.size with h | h
      · exact h
      · rw [Array.getElem?_eq_none h] at hc
        cases hc
    exact Or.inr ⟨g, cap, cur, rfl, hb, (hk.block g hlt (hs g rfl)).trans hc, r⟩
theorem ownsRow_tag {w : World} {base : Nat} {e : TypeId} {size n : Nat} {v : Value} {xs : List Value} (h : w.ownsRow base e size v n xs) {g : Nat} (hg : v.ownBlock = some g) : ∃ cur, w.heap[g]? = some (.cells cur e (0, 0)) := by
  rcases h.2 with ⟨rfl, _⟩ | ⟨g', cap, cur, rfl, hb, hc, r⟩
  · cases hg
  · cases hg
    exact ⟨cur, hc⟩
theorem ownsRow_lt {w : World} {base : Nat} {e : TypeId} {size n : Nat} {v : Value} {xs : List Value} (h : w.ownsRow base e size v n xs) {g : Nat} (hg : v.ownBlock = some g) : g < w.heap.size ∧ base ≤ g := by
  rcases h.2 with ⟨rfl, _⟩ | ⟨g', cap, cur, rfl, hb, hc, r⟩
  · cases hg
  · cases hg
    refine ⟨?_, hb⟩
    rcases Nat.lt_or_ge g' w.heap.size with h | h
    · exact h
    · rw [Array.getElem?_eq_none h] at hc
      cases hc
theorem ownsRow_base {w : World} {base base' : Nat} {e : TypeId} {size n : Nat} {v : Value} {xs : List Value} (h : w.ownsRow base e size v n xs) (hb : base' ≤ base) : w.ownsRow base' e size v n xs :=
  ⟨h.1, h.2.elim Or.inl (fun ⟨g, cap, cur, hv, hg, r⟩ => Or.inr ⟨g, cap, cur, hv, Nat.le_trans hb hg, r⟩)⟩

theorem Pcs.kept {w w' : World} {base : Nat} {e : TypeId} {v : Value} {ps : List PcD} {ds : Nat → Value} (h : Pcs w base e v ps ds) {S : Nat → Prop} (hk : Kept S w w') (hs : ∀ g, base ≤ g → g < w.heap.size → ¬ S g) : Pcs w' base e v ps ds :=
  ⟨ownsRow_kept h.row hk (fun g hg => hs g (ownsRow_lt h.row hg).2 (ownsRow_lt h.row hg).1), fun i p hi => ownsRow_kept (h.own i p hi) hk (fun g hg => hs g (ownsRow_lt (h.own i p hi) hg).2 (ownsRow_lt (h.own i p hi) hg).1), h.apart, h.small⟩

/-- One piece more, of a row of data that was made since. -/
theorem Pcs.snoc {w w1 w' : World} {base : Nat} {e : TypeId} {v v' dv : Value} {ps : List PcD} {ds : Nat → Value} (h : Pcs w base e v ps ds) (he : e ≠ 5) {p : PcD} (hk1 : Kept NoBlk w w1) (hd : w1.ownsRow w.heap.size 5 1 dv p.data.length (p.data.map bv)) (hb : base ≤ w.heap.size) (hz : p.data.length ≤ 140737488351232)
    (hrow : w'.ownsRow base e 5 v' (ps.length + 1) (flatP ds 0 ps ++ cellsOf p dv)) {S : Nat → Prop} (hk : Kept S w1 w') (hS : ∀ g, S g → v.ownBlock = some g) : Pcs w' base e v' (ps ++ [p]) (fun i => if i = ps.length then dv else ds i) := by
  have hnew : ∀ i q, ps[i]? = some q → i ≠ ps.length := by
    intro i q hi e
    subst e
    simp at hi
  have hnot : ∀ {x : Value} {n : Nat} {xs : List Value}, w1.ownsRow base 5 1 x n xs → ∀ g, x.ownBlock = some g → ¬ S g := by
    intro x n xs hx g hg hs
    obtain ⟨c1, h1⟩ := ownsRow_tag hx hg
    obtain ⟨c2, h2⟩ := ownsRow_tag (ownsRow_kept h.row hk1 (fun _ _ e => e.elim)) (hS g hs)
    rw [h1] at h2
    injection h2 with h2
    injection h2 with _ h2 _
    exact he h2.symm
  have hfl : flatP (fun i => if i = ps.length then dv else ds i) 0 ps = flatP ds 0 ps := flatP_congr (fun i _ hi => if_neg (by omega))
  refine ⟨?_, ?_, ?_, ?_⟩
  · rw [flatP_snoc, hfl, List.length_append]
    simpa using hrow
  · intro i q hi
    rcases Nat.lt_or_ge i ps.length with hl | hl
    · rw [List.getElem?_append_left hl] at hi
      rw [if_neg (by omega)]
      have h1 := ownsRow_kept (h.own i q hi) hk1 (fun _ _ e => e.elim)
      exact ownsRow_kept h1 hk (hnot h1)
    · rw [List.getElem?_append_right hl] at hi
      have e0 : i - ps.length = 0 := by
        rcases Nat.eq_zero_or_pos (i - ps.length) with h | h
        · exact h
        · rw [List.getElem?_eq_none (by simp; omega)] at hi
          cases hi
      rw [e0] at hi
      simp at hi
      subst hi
      rw [if_pos (by omega)]
      have h1 := ownsRow_base hd hb
      exact ownsRow_kept h1 hk (hnot h1)
  · intro i j gi hij hj hgi
    rw [List.length_append] at hj
    simp at hj
    rw [if_neg (by omega)] at hgi
    have hli : i < ps.length := by omega
    by_cases hjn : j = ps.length
    · rw [if_pos hjn]
      intro hc
      have h1 := (ownsRow_lt (h.own i ps[i] (List.getElem?_eq_getElem hli)) hgi).1
      have h2 := (ownsRow_lt hd hc).2
      omega
    · rw [if_neg hjn]
      exact h.apart i j gi hij (by omega) hgi
  · intro i q hi
    rcases Nat.lt_or_ge i ps.length with hl | hl
    · rw [List.getElem?_append_left hl] at hi
      exact h.small i q hi
    · rw [List.getElem?_append_right hl] at hi
      have := List.mem_of_getElem? hi
      simp at this
      subst this
      exact hz

/-- What the walk reads of a piece. -/
theorem Pcs.at_ {w : World} {base : Nat} {e : TypeId} {A : Option Addr} {n c : Nat} {ps : List PcD} {ds : Nat → Value} (h : Pcs w base e (.slice A n c) ps ds) {k : Nat} (hk : k < n) :
    ∃ g p, A = some ⟨g, 0, none⟩ ∧ base ≤ g ∧ ps[k]? = some p ∧ w.cell? ⟨g, k * 5, none⟩ = some (.int .i64 p.id) ∧ w.cell? ⟨g, k * 5 + 1, none⟩ = some (.int .i64 p.pos) ∧ w.cell? ⟨g, k * 5 + 2, none⟩ = some (.int .i64 p.total) ∧
      w.cell? ⟨g, k * 5 + 3, none⟩ = some (.int .u32 p.sum) ∧ w.cell? ⟨g, k * 5 + 4, none⟩ = some (ds k) ∧ RdB w (ds k) p.data := by
  have hrow := h.row
  rcases hrow.2 with ⟨h0, _⟩ | ⟨g, cap, cur, hv, hb, hh, hnc, hcm, hcur, htake⟩
  · injection h0 with _ h0 _
    omega
  · injection hv with hA hn hcap
    have hlk : k < ps.length := by omega
    have hp : ps[k]? = some ps[k] := List.getElem?_eq_getElem hlk
    have hcell : ∀ j, j < 5 → w.cell? ⟨g, k * 5 + j, none⟩ = (cellsOf ps[k] (ds k))[j]? := by
      intro j hj
      have h1 := flatP_at ds (k := 0) hp j hj
      rw [← htake, List.getElem?_take_of_lt (by omega)] at h1
      have e0 : 0 + k = k := by omega
      rw [e0] at h1
      unfold World.cell?
      simp only [hh]
      rw [← h1]
      simp
    refine ⟨g, ps[k], hA, hb, hp, hcell 0 (by omega), hcell 1 (by omega), hcell 2 (by omega), hcell 3 (by omega), hcell 4 (by omega), RdB.of_own (h.own k _ hp) ?_⟩
    simpa using h.small k _ hp
theorem Pcs.len {w : World} {base : Nat} {e : TypeId} {v : Value} {ps : List PcD} {ds : Nat → Value} (h : Pcs w base e v ps ds) : ∃ A c, v = .slice A ps.length c := by
  rcases h.row.2 with ⟨rfl, h0⟩ | ⟨g, cap, cur, rfl, _⟩
  · exact ⟨none, 0, by rw [h0]⟩
  · exact ⟨_, _, rfl⟩
end Go.Proofs.YtnaacgglbeipcaaDoor
