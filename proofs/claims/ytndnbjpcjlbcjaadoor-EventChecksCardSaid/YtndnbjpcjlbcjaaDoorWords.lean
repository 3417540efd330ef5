/- Words for memory, over any program: what a slice reads as; which blocks a call may turn; a map as a list of pairs. -/
import Derived.Maps.Keyed
import Derived.Below
import Derived.Laws.OwnMore
import Derived.Deep.AppendLies
import Derived.Deep.Draws
import Derived.DeepKeys4
namespace Go.Proofs.YtndnbjpcjlbcjaaDoor
open Go.RowKit Go.Maps Go.MapKept
open Go.ChangeMaps (setBlock heap_setBlock_same heap_setBlock_other)

/-! ### 1. Which blocks a call may turn -/

/-- From w to w' only blocks of S have turned; new ones may have come. -/
structure Kept (S : Nat → Prop) (w w' : World) : Prop where
  os : w'.os = w.os
  tape : w'.tape = w.tape
  output : w'.output = w.output
  size : w.heap.size ≤ w'.heap.size
  block : ∀ k, k < w.heap.size → ¬ S k → w'.heap[k]? = w.heap[k]?

def NoBlk : Nat → Prop := fun _ => False

theorem Kept.refl (S : Nat → Prop) (w : World) : Kept S w w := ⟨rfl, rfl, rfl, Nat.le_refl _, fun _ _ _ => rfl⟩
theorem Kept.mono {S S' : Nat → Prop} {w w' : World} (h : Kept S w w') (hs : ∀ k, S k → S' k) : Kept S' w w' :=
  ⟨h.os, h.tape, h.output, h.size, fun k hk hn => h.block k hk (fun e => hn (hs k e))⟩
theorem Kept.none {S : Nat → Prop} {w w' : World} (h : Kept NoBlk w w') : Kept S w w' := h.mono (fun _ e => e.elim)
theorem Kept.trans {S : Nat → Prop} {a b c : World} (h : Kept S a b) (k : Kept S b c) : Kept S a c :=
  ⟨k.os.trans h.os, k.tape.trans h.tape, k.output.trans h.output, Nat.le_trans h.size k.size,
    fun i hi hn => (k.block i (Nat.lt_of_lt_of_le hi h.size) hn).trans (h.block i hi hn)⟩
theorem Kept.drew {S : Nat → Prop} {a w : World} (h : Kept S a w) : Kept S a w.drew := ⟨h.os, h.tape, h.output, h.size, h.block⟩
theorem Kept.drewN {S : Nat → Prop} {a w : World} (h : Kept S a w) (n : Nat) : Kept S a (w.drewN n) := ⟨h.os, h.tape, h.output, h.size, h.block⟩
theorem Kept.alloc {S : Nat → Prop} {a w : World} (h : Kept S a w) (o : Obj) : Kept S a (w.alloc o) :=
  h.trans ⟨rfl, rfl, rfl, by simp, fun k hk _ => Below.heap_alloc _ _ _ hk⟩
theorem Kept.setCell {S : Nat → Prop} {a w : World} (h : Kept S a w) {p : Addr} (hp : S p.block ∨ a.heap.size ≤ p.block) (u : Value) : Kept S a (w.setCell p u) :=
  ⟨h.os, h.tape, h.output, by simpa [World.setCell] using h.size, fun i hi hne => (Below.heap_setCell w p u i (by
    rintro rfl
    rcases hp with hp | hp
    · exact hne hp
    · omega)).trans (h.block i hi hne)⟩
theorem Kept.setBlock {S : Nat → Prop} {a w : World} (h : Kept S a w) {b : Nat} (hb : S b ∨ a.heap.size ≤ b) (o : Obj) : Kept S a (setBlock w b o) :=
  ⟨h.os, h.tape, h.output, by simpa [Go.ChangeMaps.setBlock] using h.size, fun i hi hne => by
    have hib : i ≠ b := by
      rintro rfl
      rcases hb with hb | hb
      · exact hne hb
      · omega
    have h1 : (Go.ChangeMaps.setBlock w b o).heap[i]? = w.heap[i]? := by
      simp only [Go.ChangeMaps.setBlock, Array.getElem?_setIfInBounds]
      rw [if_neg (fun e => hib e.symm)]
    exact h1.trans (h.block i hi hne)⟩
theorem Kept.grown {S : Nat → Prop} {a w w' : World} {row : Option Nat} (h : Kept S a w) (hg : w.grownBy w' row) (hr : ∀ k, row = some k → S k ∨ a.heap.size ≤ k) : Kept S a w' :=
  ⟨hg.os.trans h.os, hg.tape.trans h.tape, hg.output.trans h.output, Nat.le_trans h.size hg.size, fun i hi hne =>
    (hg.block i (Nat.lt_of_lt_of_le hi h.size) (fun e => by
      rcases hr i e.symm with hs | hs
      · exact hne hs
      · omega)).trans (h.block i hi hne)⟩
theorem Kept.of_below {S : Nat → Prop} {a w : World} (h : Below a.heap.size a w) : Kept S a w := ⟨h.os, h.tape, h.output, h.size, fun i hi _ => h.block i hi⟩
theorem Kept.below {S : Nat → Prop} {a w : World} (h : Kept S a w) {B : Nat} (hB : B ≤ a.heap.size) (hs : ∀ k, S k → B ≤ k) : Below B a w :=
  ⟨h.os, h.tape, h.output, h.size, fun i hi => h.block i (Nat.lt_of_lt_of_le hi hB) (fun e => by have := hs i e; omega)⟩
theorem Kept.all {a w : World} (h : Kept NoBlk a w) : Below a.heap.size a w := h.below (Nat.le_refl _) (fun _ e => e.elim)
/-- What a call inside may turn that was not there when the outer one began is of no matter. -/
theorem Kept.inner {S S' : Nat → Prop} {a w w' : World} (h : Kept S a w) (h' : Kept S' w w') (hs : ∀ k, S' k → S k ∨ a.heap.size ≤ k) : Kept S a w' :=
  ⟨h'.os.trans h.os, h'.tape.trans h.tape, h'.output.trans h.output, Nat.le_trans h.size h'.size, fun i hi hne =>
    (h'.block i (Nat.lt_of_lt_of_le hi h.size) (fun e => by
      rcases hs i e with h1 | h1
      · exact hne h1
      · omega)).trans (h.block i hi hne)⟩

/-! ### 2. Blocks of cells -/

def Blk (w : World) (g : Nat) (t : TypeId) (cs : Array Value) : Prop := w.heap[g]? = some (.cells cs t (0, 0))

section
variable {w w' : World} {g : Nat} {t : TypeId} {cs : Array Value}
theorem heap_lt {o : Obj} (h : w.heap[g]? = some o) : g < w.heap.size := by
  rcases Nat.lt_or_ge g w.heap.size with hlt | hge
  · exact hlt
  · rw [Array.getElem?_eq_none hge] at h; cases h
theorem Blk.lt (h : Blk w g t cs) : g < w.heap.size := heap_lt h
theorem Blk.cell (h : Blk w g t cs) (i : Nat) : w.cell? ⟨g, i, Option.none⟩ = cs[i]? := cell_of_row w g i cs t (0, 0) h
theorem Blk.frozen (h : Blk w g t cs) (i : Nat) : w.frozen? ⟨g, i, Option.none⟩ = false := by
  unfold Blk at h
  simp [World.frozen?, h]
theorem Blk.new (w : World) (t : TypeId) (cs : Array Value) : Blk (w.alloc (.cells cs t)) w.heap.size t cs := heap_alloc_new w _
theorem Blk.drew (h : Blk w g t cs) : Blk w.drew g t cs := h
theorem Blk.drewN (h : Blk w g t cs) (n : Nat) : Blk (w.drewN n) g t cs := h
theorem Blk.alloc (h : Blk w g t cs) (o : Obj) : Blk (w.alloc o) g t cs := (Below.heap_alloc w o g h.lt).trans h
theorem Blk.set_ (h : Blk w g t cs) (i : Nat) (u : Value) : Blk (w.setCell ⟨g, i, Option.none⟩ u) g t (cs.setIfInBounds i u) := by
  unfold Blk at h ⊢
  simp [World.setCell, Array.getElem?_modify, h]
theorem Blk.far (h : Blk w g t cs) {p : Addr} (hp : g ≠ p.block) (u : Value) : Blk (w.setCell p u) g t cs := (Below.heap_setCell w p u g hp).trans h
theorem Blk.kept {S : Nat → Prop} (h : Blk w g t cs) (hb : Kept S w w') (hg : ¬ S g) : Blk w' g t cs := (hb.block g h.lt hg).trans h
theorem Blk.below {B : Nat} (h : Blk w g t cs) (hb : Below B w w') (hg : g < B) : Blk w' g t cs := (hb.block g hg).trans h
theorem Blk.grown {row : Option Nat} (h : Blk w g t cs) (hb : w.grownBy w' row) (hg : some g ≠ row) : Blk w' g t cs := (hb.block g h.lt hg).trans h
end

/-! ### 3. A slice that reads as a list -/

theorem block_of_add (a : Addr) (n : Nat) : (a.add n).block = a.block := by unfold Addr.add; split <;> rfl
theorem add_of_add (a : Addr) (i j : Nat) : (a.add i).add j = a.add (i + j) := by
  unfold Addr.add
  by_cases hi : i = 0 <;> by_cases hj : j = 0 <;> simp [hi, hj, Nat.add_assoc]

/-- The slice value '.slice A n c' holds the cells xs ('size' cells an element); its block lies below B. -/
def Reads (w : World) (B size : Nat) (A : Option Addr) (n : Nat) (xs : List Value) : Prop :=
  xs.length = n * size ∧ (0 < n → ∃ ad, A = some ad ∧ ad.block < B ∧ ∀ j u, xs[j]? = some u → w.cell? (ad.add j) = some u)

section
variable {w w' : World} {B B' size n : Nat} {A : Option Addr} {xs : List Value}
theorem Reads.none_ : Reads w B size A 0 [] := ⟨by simp, fun h => absurd h (by omega)⟩
theorem Reads.at_ {k : Nat} (h : Reads w B 1 A n xs) (hk : k < n) : ∃ ad u, A = some ad ∧ ad.block < B ∧ xs[k]? = some u ∧ w.cell? (ad.add k) = some u := by
  obtain ⟨ad, e, hb, hc⟩ := h.2 (by omega)
  have hl : k < xs.length := by have := h.1; omega
  exact ⟨ad, xs[k], e, hb, List.getElem?_eq_getElem hl, hc k _ (List.getElem?_eq_getElem hl)⟩
theorem Reads.keep (h : Reads w B size A n xs) (hk : ∀ p : Addr, p.block < B → ∀ u, w.cell? p = some u → w'.cell? p = some u) : Reads w' B size A n xs :=
  ⟨h.1, fun hn => by
    obtain ⟨ad, e, hb, hc⟩ := h.2 hn
    exact ⟨ad, e, hb, fun j u hu => hk _ (by rw [block_of_add]; exact hb) u (hc j u hu)⟩⟩
theorem Reads.more (h : Reads w B size A n xs) (hB : B ≤ B') : Reads w B' size A n xs :=
  ⟨h.1, fun hn => by
    obtain ⟨ad, e, hb, hc⟩ := h.2 hn
    exact ⟨ad, e, by omega, hc⟩⟩
theorem Reads.below (h : Reads w B size A n xs) (hb : Below B w w') : Reads w' B size A n xs := h.keep fun _ hp _ hu => (hb.cell hp).trans hu
theorem Reads.drew (h : Reads w B size A n xs) : Reads w.drew B size A n xs := h
theorem Reads.drewN (h : Reads w B size A n xs) (k : Nat) : Reads (w.drewN k) B size A n xs := h
theorem Reads.alloc (h : Reads w B size A n xs) (hB : B ≤ w.heap.size) (o : Obj) : Reads (w.alloc o) B size A n xs := h.keep fun p hp u hu => (World.cell?_alloc_lt w o p (by omega)).trans hu
theorem Reads.of_own {base : Nat} {e : TypeId} {c : Nat} (h : w.ownsRow base e size (.slice A n c) n xs) : Reads w w.heap.size size A n xs := by
  refine ⟨h.1, fun hn => ?_⟩
  obtain ⟨g, cap, hv, _, hlt⟩ := h.form hn
  have hA : A = some ⟨g, 0, Option.none⟩ := by injection hv
  subst hA
  exact ⟨_, rfl, hlt, h.cells (g := g) rfl⟩
end

/-- A block that holds a cell is kept where the blocks of S hold none. -/
theorem Kept.cell {S : Nat → Prop} {w w' : World} (h : Kept S w w') {p : Addr} {u : Value} (hu : w.cell? p = some u) (hs : ¬ S p.block) : w'.cell? p = some u :=
  (World.cell?_of_block (h.block p.block (World.block_lt_of_cell? w p hu) hs)).trans hu

/-- The blocks of S hold no cells (they are maps). -/
def NoCells (w : World) (S : Nat → Prop) : Prop := ∀ k, S k → ∀ cs t f, w.heap[k]? ≠ some (.cells cs t f)
theorem NoCells.cell {w : World} {S : Nat → Prop} (h : NoCells w S) {p : Addr} {u : Value} (hu : w.cell? p = some u) : ¬ S p.block := by
  intro hs
  unfold World.cell? at hu
  split at hu
  · rename_i hb
    exact h _ hs _ _ _ hb
  · cases hu
theorem NoCells.none (w : World) : NoCells w NoBlk := fun _ h => h.elim

theorem Reads.kept {w w' : World} {S : Nat → Prop} {B size n : Nat} {A : Option Addr} {xs : List Value} (h : Reads w B size A n xs) (hk : Kept S w w') (hs : NoCells w S) : Reads w' B size A n xs :=
  h.keep fun _ _ _ hu => hk.cell hu (hs.cell hu)

/-! ### 4. Bytes -/

def bv (b : UInt8) : Value := .int .u8 b.toNat

/-- The value is a slice that reads as these bytes. -/
def RdB (w : World) (v : Value) (bs : List UInt8) : Prop := ∃ A n c, v = .slice A n c ∧ n ≤ c ∧ c ≤ maxLen ∧ n ≤ 140737488351232 ∧ (A = Option.none → n = 0 ∧ c = 0) ∧ Reads w w.heap.size 1 A n (bs.map bv)

theorem RdB.length {w : World} {A : Option Addr} {n c : Nat} {bs : List UInt8} (h : RdB w (.slice A n c) bs) : bs.length = n := by
  obtain ⟨A', n', c', e, _, _, _, _, h1, _⟩ := h
  injection e with _ e2 _
  subst e2
  simpa using h1
theorem RdB.kept {w w' : World} {S : Nat → Prop} {v : Value} {bs : List UInt8} (h : RdB w v bs) (hk : Kept S w w') (hs : NoCells w S) : RdB w' v bs := by
  obtain ⟨A, n, c, e, h1, h2, h4, h5, h3⟩ := h
  exact ⟨A, n, c, e, h1, h2, h4, h5, (h3.kept hk hs).more hk.size⟩
theorem RdB.nil_ (w : World) : RdB w (.slice Option.none 0 0) [] := ⟨Option.none, 0, 0, rfl, Nat.le_refl _, by decide, by decide, fun _ => ⟨rfl, rfl⟩, Reads.none_⟩

theorem RdB.of_own {w : World} {base : Nat} {e : TypeId} {v : Value} {n : Nat} {bs : List UInt8} (h : w.ownsRow base e 1 v n (bs.map bv)) (hn : n ≤ 140737488351232) : RdB w v bs := by
  have h0 := h
  obtain ⟨hl, h⟩ := h
  rcases h with ⟨rfl, rfl⟩ | ⟨g, cap, cur, rfl, hg, hb, h1, h2, h3, h4⟩
  · have : bs = [] := by simpa using hl
    subst this
    exact RdB.nil_ w
  · exact ⟨_, n, cap, rfl, h1, h2, hn, (fun e => by cases e), Reads.of_own h0⟩

/-! ### 5. Maps as lists of pairs -/

section
variable {α β : Type}
def All2 (r : α → β → Prop) : List α → List β → Prop
  | [], [] => True
  | a :: l, b :: m => r a b ∧ All2 r l m
  | _, _ => False
theorem All2.length {r : α → β → Prop} : ∀ {l : List α} {m : List β}, All2 r l m → l.length = m.length
  | [], [], _ => rfl
  | _ :: _, _ :: _, h => by simp [All2.length h.2]
theorem All2.imp {r r' : α → β → Prop} (hr : ∀ a b, r a b → r' a b) : ∀ {l : List α} {m : List β}, All2 r l m → All2 r' l m
  | [], [], _ => trivial
  | _ :: _, _ :: _, h => ⟨hr _ _ h.1, All2.imp hr h.2⟩
theorem All2.snoc {r : α → β → Prop} {a : α} {b : β} (hab : r a b) : ∀ {l : List α} {m : List β}, All2 r l m → All2 r (l ++ [a]) (m ++ [b])
  | [], [], _ => ⟨hab, trivial⟩
  | _ :: _, _ :: _, h => ⟨h.1, All2.snoc hab h.2⟩
theorem All2.at_ {r : α → β → Prop} : ∀ {l : List α} {m : List β} {i : Nat} {a : α}, All2 r l m → l[i]? = some a → ∃ b, m[i]? = some b ∧ r a b
  | [], [], _, _, _, h => by simp at h
  | a :: l, b :: m, 0, x, h, hx => by
    simp at hx
    subst hx
    exact ⟨b, by simp, h.1⟩
  | a :: l, b :: m, i + 1, x, h, hx => by
    simpa using All2.at_ h.2 (by simpa using hx)
theorem All2.mem {r : α → β → Prop} : ∀ {l : List α} {m : List β} {b : β}, All2 r l m → b ∈ m → ∃ a, a ∈ l ∧ r a b
  | [], [], _, _, h => by simp at h
  | a :: l, c :: m, b, h, hb => by
    rcases List.mem_cons.1 hb with rfl | hb
    · exact ⟨a, by simp, h.1⟩
    · obtain ⟨x, hx, hr⟩ := All2.mem h.2 hb
      exact ⟨x, by simp [hx], hr⟩
theorem All2.mem_l {r : α → β → Prop} : ∀ {l : List α} {m : List β} {a : α}, All2 r l m → a ∈ l → ∃ b, b ∈ m ∧ r a b
  | [], [], _, _, h => by simp at h
  | a :: l, c :: m, x, h, hb => by
    rcases List.mem_cons.1 hb with rfl | hb
    · exact ⟨c, by simp, h.1⟩
    · obtain ⟨y, hy, hr⟩ := All2.mem_l h.2 hb
      exact ⟨y, by simp [hy], hr⟩
end

section
variable {K β : Type} [DecidableEq K]
/-- What a list of pairs has at a key; with one more; without one. -/
def aget : List (K × β) → K → Option β
  | [], _ => none
  | (k', y) :: E, k => if k' = k then some y else aget E k
def aput : List (K × β) → K → β → List (K × β)
  | [], k, x => [(k, x)]
  | (k', y) :: E, k, x => if k' = k then (k, x) :: E else (k', y) :: aput E k x
def adel : List (K × β) → K → List (K × β)
  | [], _ => []
  | (k', y) :: E, k => if k' = k then E else (k', y) :: adel E k

theorem aget_none {E : List (K × β)} {k : K} : aget E k = none ↔ k ∉ E.map (·.1) := by
  induction E with
  | nil => simp [aget]
  | cons p E ih =>
    obtain ⟨k', y⟩ := p
    unfold aget
    by_cases h : k' = k
    · simp [h]
    · rw [if_neg h, ih]
      simp [Ne.symm h]
theorem aget_mem {E : List (K × β)} {k : K} {x : β} (h : aget E k = some x) : (k, x) ∈ E := by
  induction E with
  | nil => simp [aget] at h
  | cons p E ih =>
    obtain ⟨k', y⟩ := p
    unfold aget at h
    by_cases h' : k' = k
    · rw [if_pos h'] at h
      cases h
      subst h'
      simp
    · rw [if_neg h'] at h
      exact List.mem_cons_of_mem _ (ih h)
theorem aget_of_mem {E : List (K × β)} {k : K} {x : β} (hn : (E.map (·.1)).Nodup) (h : (k, x) ∈ E) : aget E k = some x := by
  induction E with
  | nil => simp at h
  | cons p E ih =>
    obtain ⟨k', y⟩ := p
    simp only [List.map_cons, List.nodup_cons] at hn
    unfold aget
    rcases List.mem_cons.1 h with h | h
    · cases h
      simp
    · rw [if_neg (fun e => hn.1 (by subst e; exact List.mem_map.2 ⟨_, h, rfl⟩))]
      exact ih hn.2 h
theorem aget_aput (E : List (K × β)) (k k' : K) (x : β) : aget (aput E k x) k' = if k = k' then some x else aget E k' := by
  induction E with
  | nil => simp [aput, aget]
  | cons p E ih =>
    obtain ⟨q, y⟩ := p
    unfold aput
    by_cases h : q = k
    · subst h
      simp only [if_true, aget]
      split <;> rfl
    · rw [if_neg h]
      simp only [aget]
      by_cases h' : q = k'
      · rw [if_pos h', if_pos h', if_neg (fun e => h (h'.trans e.symm))]
      · rw [if_neg h', if_neg h', ih]
theorem aput_keys (E : List (K × β)) (k : K) (x : β) : (aput E k x).map (·.1) = if k ∈ E.map (·.1) then E.map (·.1) else E.map (·.1) ++ [k] := by
  induction E with
  | nil => simp [aput]
  | cons p E ih =>
    obtain ⟨q, y⟩ := p
    unfold aput
    by_cases h : q = k
    · subst h
      simp
    · rw [if_neg h]
      simp only [List.map_cons, ih, List.mem_cons, Ne.symm h, false_or]
      split <;> simp
theorem aput_nodup {E : List (K × β)} (k : K) (x : β) (hn : (E.map (·.1)).Nodup) : ((aput E k x).map (·.1)).Nodup := by
  rw [aput_keys]
  split
  · exact hn
  · rename_i h
    rw [List.nodup_append]
    exact ⟨hn, by simp, fun a ha b hb => by simp at hb; subst hb; exact fun e => h (e ▸ ha)⟩
theorem adel_sub (E : List (K × β)) (k : K) : (adel E k).Sublist E := by
  induction E with
  | nil => simp [adel]
  | cons p E ih =>
    obtain ⟨q, y⟩ := p
    unfold adel
    split
    · exact List.sublist_cons_self _ _
    · exact ih.cons_cons _
theorem adel_nodup {E : List (K × β)} (k : K) (hn : (E.map (·.1)).Nodup) : ((adel E k).map (·.1)).Nodup :=
  hn.sublist ((adel_sub E k).map _)
theorem aget_adel {E : List (K × β)} (hn : (E.map (·.1)).Nodup) (k k' : K) : aget (adel E k) k' = if k = k' then none else aget E k' := by
  induction E with
  | nil => simp [adel, aget]
  | cons p E ih =>
    obtain ⟨q, y⟩ := p
    simp only [List.map_cons, List.nodup_cons] at hn
    unfold adel
    by_cases h : q = k
    · subst h
      simp only [if_true]
      by_cases h' : q = k'
      · subst h'
        rw [if_pos rfl]
        exact aget_none.2 hn.1
      · rw [if_neg h']
        simp [aget, h']
    · rw [if_neg h]
      simp only [aget]
      by_cases h' : q = k'
      · rw [if_pos h', if_pos h', if_neg (fun e => h (h'.trans e.symm))]
      · rw [if_neg h', if_neg h', ih hn.2]
end

section
variable {K β : Type}

/-- Block b is a map whose entries are, in the order in which they came, the pairs E: 'kv' writes a key as a value, R says what an element reads as. -/
def MapOf (P : Program) (kt : TypeId) (kv : K → Value) (R : Value → β → Prop) (w : World) (b : Nat) (E : List (K × β)) : Prop :=
  ∃ es clock, w.heap[b]? = some (.map es clock) ∧ Stamped es clock ∧ (∀ e ∈ es.toList, ∃ l, keyOf P kt e.key = some l) ∧
    All2 (fun (e : MapEntry) (p : K × β) => e.key = kv p.1 ∧ R e.val p.2) es.toList E

variable {P : Program} {kt t e : TypeId} {kv : K → Value} {R R' : Value → β → Prop} {w w' : World} {b : Nat} {E : List (K × β)}

theorem MapOf.lt (h : MapOf P kt kv R w b E) : b < w.heap.size := by
  obtain ⟨es, clock, hb, _⟩ := h
  exact heap_lt hb
theorem MapOf.imp (h : MapOf P kt kv R w b E) (hr : ∀ v x, R v x → R' v x) : MapOf P kt kv R' w b E := by
  obtain ⟨es, clock, hb, hs, hk, ha⟩ := h
  exact ⟨es, clock, hb, hs, hk, ha.imp (fun _ _ hx => ⟨hx.1, hr _ _ hx.2⟩)⟩
theorem MapOf.same (h : MapOf P kt kv R w b E) (hb : w'.heap[b]? = w.heap[b]?) : MapOf P kt kv R w' b E := by
  obtain ⟨es, clock, hb', hr⟩ := h
  exact ⟨es, clock, hb.trans hb', hr⟩
theorem MapOf.kept {S : Nat → Prop} (h : MapOf P kt kv R w b E) (hk : Kept S w w') (hs : ¬ S b) : MapOf P kt kv R w' b E := h.same (hk.block b h.lt hs)
theorem MapOf.made (P : Program) (kt : TypeId) (kv : K → Value) (R : Value → β → Prop) (w : World) : MapOf P kt kv R (w.alloc (.map #[] 0)) w.heap.size [] :=
  ⟨#[], 0, (MapKept.heap_alloc w _).1, stamped_empty 0, by simp, trivial⟩
theorem MapOf.noCells (h : MapOf P kt kv R w b E) : ∀ cs t f, w.heap[b]? ≠ some (.cells cs t f) := by
  obtain ⟨es, clock, hb, _⟩ := h
  intro cs t f e
  rw [hb] at e
  cases e

theorem all2_nodup {es : List MapEntry} (_hkv : ∀ a c, kv a = kv c → a = c) (hn : es.Pairwise (fun x y => x.key ≠ y.key))
    (ha : All2 (fun (e : MapEntry) (p : K × β) => e.key = kv p.1 ∧ R e.val p.2) es E) : (E.map (·.1)).Nodup := by
  induction es generalizing E with
  | nil => cases E with
    | nil => simp
    | cons p E => exact ha.elim
  | cons x es ih => cases E with
    | nil => exact ha.elim
    | cons p E =>
      obtain ⟨h1, h2⟩ := List.pairwise_cons.1 hn
      simp only [List.map_cons, List.nodup_cons]
      refine ⟨fun hm => ?_, ih h2 ha.2⟩
      obtain ⟨q, hq, hqe⟩ := List.mem_map.1 hm
      obtain ⟨y, hy, hyr⟩ := All2.mem ha.2 hq
      exact h1 y hy (by rw [ha.1.1, hyr.1, hqe])
theorem MapOf.nodup (h : MapOf P kt kv R w b E) (hkv : ∀ a c, kv a = kv c → a = c) : (E.map (·.1)).Nodup := by
  obtain ⟨es, clock, _, hs, _, ha⟩ := h
  exact all2_nodup hkv ((stamped_iff es clock).1 hs).2.2 ha

/-- 'len(m)': as many as there are pairs. -/
theorem MapOf.length (h : MapOf P kt kv R w b E) : ∃ es clock, w.heap[b]? = some (.map es clock) ∧ es.size = E.length := by
  obtain ⟨es, clock, hb, _, _, ha⟩ := h
  exact ⟨es, clock, hb, by simpa using ha.length⟩

theorem MapOf.len_run (h : MapOf P kt kv R w b E) (ht : P.underlying t = some (.map kt e)) (ty : TypeId) : (Builtin.len_ #[t] ty #[.map (some b)]).run P w = .ok (.int .i64 (E.length : Int)) w := by
  obtain ⟨es, clock, hb, hs⟩ := h.length
  rw [← hs]
  simp [Builtin.len_, run_underlying ht, MapKept.run_getObj_map hb, goInt, Result.andThen]

variable [DecidableEq K]

theorem all2_none {es : List MapEntry} {k : K} (ha : All2 (fun (e : MapEntry) (p : K × β) => e.key = kv p.1 ∧ R e.val p.2) es E) (h : ∀ e ∈ es, e.key ≠ kv k) : aget E k = none := by
  rw [aget_none]
  intro hm
  obtain ⟨q, hq, rfl⟩ := List.mem_map.1 hm
  obtain ⟨y, hy, hyr⟩ := All2.mem ha hq
  exact h y hy hyr.1
theorem all2_some (hkv : ∀ a c, kv a = kv c → a = c) {es : List MapEntry} {k : K} {j : Nat} {e0 : MapEntry} (hn : es.Pairwise (fun x y => x.key ≠ y.key)) (ha : All2 (fun (e : MapEntry) (p : K × β) => e.key = kv p.1 ∧ R e.val p.2) es E)
    (hj : es[j]? = some e0) (hk : e0.key = kv k) : ∃ x, aget E k = some x ∧ R e0.val x := by
  obtain ⟨p, hp, h1, h2⟩ := All2.at_ ha hj
  have hpk : p.1 = k := hkv _ _ (h1.symm.trans hk)
  exact ⟨p.2, aget_of_mem (all2_nodup hkv hn ha) (by subst hpk; exact List.mem_of_getElem? hp), h2⟩
theorem all2_put (hkv : ∀ a c, kv a = kv c → a = c) {k : K} {x : β} {v : Value} (hv : R v x) : ∀ {es : List MapEntry} {E : List (K × β)} {j : Nat} {e0 : MapEntry}, es.Pairwise (fun x y => x.key ≠ y.key) →
    All2 (fun (e : MapEntry) (p : K × β) => e.key = kv p.1 ∧ R e.val p.2) es E → es[j]? = some e0 → e0.key = kv k →
    All2 (fun (e : MapEntry) (p : K × β) => e.key = kv p.1 ∧ R e.val p.2) (es.set j { e0 with key := kv k, val := v }) (aput E k x)
  | [], _, _, _, _, _, hj, _ => by simp at hj
  | y :: es, [], _, _, _, ha, _, _ => ha.elim
  | y :: es, (q, z) :: E, 0, e0, hn, ha, hj, hk => by
    simp at hj
    subst hj
    have hq : q = k := hkv _ _ (ha.1.1.symm.trans hk)
    simp only [aput, hq, if_true, List.set_cons_zero]
    exact ⟨⟨rfl, hv⟩, ha.2⟩
  | y :: es, (q, z) :: E, j + 1, e0, hn, ha, hj, hk => by
    obtain ⟨h1, h2⟩ := List.pairwise_cons.1 hn
    have hj' : es[j]? = some e0 := by simpa using hj
    have hq : q ≠ k := fun e => h1 e0 (List.mem_of_getElem? hj') (by rw [ha.1.1, hk, e])
    simp only [aput, if_neg hq, List.set_cons_succ]
    exact ⟨ha.1, all2_put hkv hv h2 ha.2 hj' hk⟩
theorem all2_push {k : K} {x : β} {v : Value} (hv : R v x) {born : Nat} : ∀ {es : List MapEntry} {E : List (K × β)}, (∀ e ∈ es, e.key ≠ kv k) →
    All2 (fun (e : MapEntry) (p : K × β) => e.key = kv p.1 ∧ R e.val p.2) es E →
    All2 (fun (e : MapEntry) (p : K × β) => e.key = kv p.1 ∧ R e.val p.2) (es ++ [⟨kv k, v, born⟩]) (aput E k x)
  | [], [], _, _ => ⟨⟨rfl, hv⟩, trivial⟩
  | [], _ :: _, _, ha => ha.elim
  | _ :: _, [], _, ha => ha.elim
  | y :: es, (q, z) :: E, h, ha => by
    have hq : q ≠ k := fun e => h y (by simp) (by rw [ha.1.1, e])
    simp only [aput, if_neg hq, List.cons_append]
    exact ⟨ha.1, all2_push hv (fun e he => h e (by simp [he])) ha.2⟩
theorem all2_del (hkv : ∀ a c, kv a = kv c → a = c) {k : K} : ∀ {es : List MapEntry} {E : List (K × β)} {j : Nat} {e0 : MapEntry}, es.Pairwise (fun x y => x.key ≠ y.key) →
    All2 (fun (e : MapEntry) (p : K × β) => e.key = kv p.1 ∧ R e.val p.2) es E → es[j]? = some e0 → e0.key = kv k →
    All2 (fun (e : MapEntry) (p : K × β) => e.key = kv p.1 ∧ R e.val p.2) (es.eraseIdx j) (adel E k)
  | [], _, _, _, _, _, hj, _ => by simp at hj
  | y :: es, [], _, _, _, ha, _, _ => ha.elim
  | y :: es, (q, z) :: E, 0, e0, hn, ha, hj, hk => by
    simp at hj
    subst hj
    have hq : q = k := hkv _ _ (ha.1.1.symm.trans hk)
    simp only [adel, hq, if_true, List.eraseIdx_cons_zero]
    exact ha.2
  | y :: es, (q, z) :: E, j + 1, e0, hn, ha, hj, hk => by
    obtain ⟨h1, h2⟩ := List.pairwise_cons.1 hn
    have hj' : es[j]? = some e0 := by simpa using hj
    have hq : q ≠ k := fun e => h1 e0 (List.mem_of_getElem? hj') (by rw [ha.1.1, hk, e])
    simp only [adel, if_neg hq, List.eraseIdx_cons_succ]
    exact ⟨ha.1, all2_del hkv h2 ha.2 hj' hk⟩
theorem adel_none {E : List (K × β)} {k : K} (h : aget E k = none) : adel E k = E := by
  induction E with
  | nil => rfl
  | cons p E ih =>
    obtain ⟨q, y⟩ := p
    unfold aget at h
    by_cases hq : q = k
    · rw [if_pos hq] at h
      cases h
    · rw [if_neg hq] at h
      unfold adel
      rw [if_neg hq, ih h]

/-- 'm[k]', 'v, ok := m[k]' at a key that is not there. -/
theorem MapOf.look_none (h : MapOf P kt kv R w b E) (Kd : Keyed P kt) (ht : P.underlying t = some (.map kt e)) (hkv : ∀ a c, kv a = kv c → a = c) {z : Value} (hz : (zeroValue e).run P w = .ok z w) {k : K} {kl : Lit} (hkey : keyOf P kt (kv k) = some kl)
    (c : Bool) (hk : aget E k = none) : (Instr.lookup t (.map (some b)) (kv k) c).run P w = .ok (if c then .tuple #[z, .bool false] else z) w := by
  obtain ⟨es, clock, hb, hs, hkeys, ha⟩ := h
  rcases Kd.find w hkey es.toList hkeys with ⟨h1, h2⟩ | ⟨j, e0, h1, h2, h3⟩
  · simp [Instr.lookup, run_underlying ht, MapKept.run_getObj_map hb, Kd.check w _ hkey, h1, hz, Result.andThen]
  · obtain ⟨x, hx, _⟩ := all2_some hkv ((stamped_iff es clock).1 hs).2.2 ha h2 h3
    rw [hk] at hx
    cases hx
/-- .. at one that is: the element is the same in each world in which the map's block is as it was. -/
theorem MapOf.look_some (h : MapOf P kt kv R w b E) (Kd : Keyed P kt) (ht : P.underlying t = some (.map kt e)) (hkv : ∀ a c, kv a = kv c → a = c) {k : K} {kl : Lit} (hkey : keyOf P kt (kv k) = some kl)
    (c : Bool) {x : β} (hk : aget E k = some x) : ∃ v, R v x ∧ ∀ w' : World, w'.heap[b]? = w.heap[b]? → (Instr.lookup t (.map (some b)) (kv k) c).run P w' = .ok (if c then .tuple #[v, .bool true] else v) w' := by
  obtain ⟨es, clock, hb, hs, hkeys, ha⟩ := h
  rcases Kd.find w hkey es.toList hkeys with ⟨h1, h2⟩ | ⟨j, e0, h1, h2, h3⟩
  · rw [all2_none ha h2] at hk
    cases hk
  · obtain ⟨y, hy, hr⟩ := all2_some hkv ((stamped_iff es clock).1 hs).2.2 ha h2 h3
    rw [hk] at hy
    cases hy
    refine ⟨e0.val, hr, fun w' hw => ?_⟩
    rcases Kd.find w' hkey es.toList hkeys with ⟨_, g2⟩ | ⟨j', e1, g1, g2, g3⟩
    · exact absurd h3 (g2 e0 (List.mem_of_getElem? h2))
    · have he : e1 = e0 := by
        have hn := ((stamped_iff es clock).1 hs).2.2
        rcases Nat.lt_trichotomy j j' with hlt | rfl | hlt
        · obtain ⟨hj, rfl⟩ := List.getElem?_eq_some_iff.1 h2
          obtain ⟨hj', rfl⟩ := List.getElem?_eq_some_iff.1 g2
          exact absurd (h3.trans g3.symm) (List.pairwise_iff_getElem.1 hn j j' hj hj' hlt)
        · rw [h2] at g2
          cases g2
          rfl
        · obtain ⟨hj, rfl⟩ := List.getElem?_eq_some_iff.1 h2
          obtain ⟨hj', rfl⟩ := List.getElem?_eq_some_iff.1 g2
          exact absurd (g3.trans h3.symm) (List.pairwise_iff_getElem.1 hn j' j hj' hj hlt)
      subst he
      simp [Instr.lookup, run_underlying ht, MapKept.run_getObj_map (hw.trans hb), Kd.check w' _ hkey, g1, Result.andThen]
/-- 'm[k] = v'. -/
theorem MapOf.update (h : MapOf P kt kv R w b E) (Kd : Keyed P kt) (ht : P.underlying t = some (.map kt e)) (hkv : ∀ a c, kv a = kv c → a = c) {k : K} {kl : Lit} (hkey : keyOf P kt (kv k) = some kl) {v : Value} {x : β} (hv : R v x) :
    ∃ o, (Instr.mapUpdate t (.map (some b)) (kv k) v).run P w = .ok () (setBlock w b o) ∧ MapOf P kt kv R (setBlock w b o) b (aput E k x) := by
  obtain ⟨es, clock, hb, hs, hkeys, ha⟩ := h
  rcases Kd.find w hkey es.toList hkeys with ⟨h1, h2⟩ | ⟨j, e0, h1, h2, h3⟩
  · refine ⟨.map (es.push ⟨kv k, v, clock⟩) (clock + 1), ?_, es.push ⟨kv k, v, clock⟩, clock + 1, heap_setBlock_same hb _, stamped_push hs h2, ?_, ?_⟩
    · simp [Instr.mapUpdate, run_underlying ht, MapKept.run_getObj_map hb, Kd.check w false hkey, h1, MapKept.run_setObj_map _ hb, Result.andThen, Go.ChangeMaps.setBlock]
    · intro y hy
      simp only [Array.toList_push, List.mem_append, List.mem_singleton] at hy
      rcases hy with hy | rfl
      · exact hkeys y hy
      · exact ⟨_, hkey⟩
    · rw [Array.toList_push]
      exact all2_push hv h2 ha
  · have hj : es[j]? = some e0 := by simpa using h2
    have hkeyf : ∀ e', es[j]? = some e' → ({ e' with key := kv k, val := v } : MapEntry).key = e'.key := fun e' he' => by rw [hj] at he'; cases he'; exact h3.symm
    have hlist : (es.modify j (fun e' => { e' with key := kv k, val := v })).toList = es.toList.set j { e0 with key := kv k, val := v } := by rw [Array.toList_modify, Go.ChangeMaps.modify_eq_set _ _ _ _ h2]
    refine ⟨.map (es.modify j (fun e' => { e' with key := kv k, val := v })) clock, ?_, es.modify j (fun e' => { e' with key := kv k, val := v }), clock, heap_setBlock_same hb _,
      stamped_modify hs _ _ (fun _ _ => rfl) (fun e' _ he' => hkeyf e' he'), ?_, ?_⟩
    · simp [Instr.mapUpdate, run_underlying ht, MapKept.run_getObj_map hb, Kd.check w false hkey, h1, hj, h3, Kd.stays w hkey, MapKept.run_setObj_map _ hb, Result.andThen, Go.ChangeMaps.setBlock]
    · intro y hy
      rw [hlist] at hy
      obtain ⟨i, hi, ey⟩ := List.getElem_of_mem hy
      rw [List.getElem_set] at ey
      split at ey
      · subst ey
        exact ⟨_, hkey⟩
      · subst ey
        exact hkeys _ (List.getElem_mem _)
    · rw [hlist]
      exact all2_put hkv hv ((stamped_iff es clock).1 hs).2.2 ha h2 h3
/-- 'delete(m, k)'. -/
theorem MapOf.delete {ty : TypeId} (h : MapOf P kt kv R w b E) (Kd : Keyed P kt) (ht : P.underlying t = some (.map kt e)) (hkv : ∀ a c, kv a = kv c → a = c) {k : K} {kl : Lit} (hkey : keyOf P kt (kv k) = some kl) :
    ∃ o, (Builtin.delete_ #[t, kt] ty #[.map (some b), kv k]).run P w = .ok (.tuple #[]) (setBlock w b o) ∧ MapOf P kt kv R (setBlock w b o) b (adel E k) := by
  obtain ⟨es, clock, hb, hs, hkeys, ha⟩ := h
  rcases Kd.find w hkey es.toList hkeys with ⟨h1, h2⟩ | ⟨j, e0, h1, h2, h3⟩
  · refine ⟨.map es clock, ?_, es, clock, heap_setBlock_same hb _, hs, hkeys, ?_⟩
    · simp [Builtin.delete_, run_underlying ht, MapKept.run_getObj_map hb, Kd.check w _ hkey, h1, MapKept.run_setObj_map _ hb, Result.andThen, Go.ChangeMaps.setBlock]
    · rw [adel_none (all2_none ha h2)]
      exact ha
  · have hjs : j < es.size := by
      have := (List.getElem?_eq_some_iff.1 h2).1
      simpa using this
    have hsub : (es.eraseIdxIfInBounds j).toList = es.toList.eraseIdx j := by
      unfold Array.eraseIdxIfInBounds
      rw [dif_pos hjs]
      simp
    refine ⟨.map (es.eraseIdxIfInBounds j) clock, ?_, es.eraseIdxIfInBounds j, clock, heap_setBlock_same hb _, stamped_erase hs j, ?_, ?_⟩
    · simp [Builtin.delete_, run_underlying ht, MapKept.run_getObj_map hb, Kd.check w _ hkey, h1, MapKept.run_setObj_map _ hb, Result.andThen, Go.ChangeMaps.setBlock]
    · intro y hy
      rw [hsub] at hy
      exact hkeys y ((List.eraseIdx_sublist _ _).subset hy)
    · rw [hsub]
      exact all2_del hkv ((stamped_iff es clock).1 hs).2.2 ha h2 h3
end

/-! ### 6. A struct of two ints as a key -/

theorem keyOf_two {P : Program} {k e : TypeId} {f0 f1 : Field} {a b : Int} (hu : P.underlying k = some (.struct #[f0, f1])) (hk : P.keyType k = true) (hc : P.cellsOf k = 2)
    (t0 : f0.type = e) (o0 : f0.offset = 0) (n0 : (f0.name != "_") = true) (t1 : f1.type = e) (o1 : f1.offset = 1) (n1 : (f1.name != "_") = true)
    (he : P.underlying e = some (.int .i64)) (hce : P.cellsOf e = 1) (hsz : 0 < P.types.size) (ha : (Lit.int .i64 a).wf = true) (hb : (Lit.int .i64 b).wf = true) :
    ∃ l, keyOf P k (.agg #[.int .i64 a, .int .i64 b]) = some l := by
  obtain ⟨m, hm⟩ : ∃ m, P.types.size = m + 1 := ⟨P.types.size - 1, by omega⟩
  simp only [keyOf, hu, hk, hm]
  simp [Value.formed, Value.cells, hu, hc, Program.keyLits, t0, t1, o0, o1, he, hce, ha, hb, bne_iff_ne.1 n0, bne_iff_ne.1 n1]

#print axioms MapOf.update
#print axioms MapOf.delete
end Go.Proofs.YtndnbjpcjlbcjaaDoor
