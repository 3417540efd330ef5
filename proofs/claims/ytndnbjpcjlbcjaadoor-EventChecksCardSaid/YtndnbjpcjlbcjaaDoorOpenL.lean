/- Open goes over the map: what has been collected. -/
import Derived.Test.YtndnbjpcjlbcjaaDoorChk
import Derived.Test.YtndnbjpcjlbcjaaDoorLists
namespace Go.Proofs.YtndnbjpcjlbcjaaDoor
open Go.RowKit Go.Maps

theorem OwnI.form {w : World} {base : Nat} {v : Value} {ts : List Int} (h : OwnI w base v ts) : ∃ A n c, v = .slice A n c := by
  rcases h.2 with ⟨e, _⟩ | ⟨g, cap, cur, e, _⟩
  · exact ⟨_, _, _, e⟩
  · exact ⟨_, _, _, e⟩
def pick (s : HsD) (k : Int) (E : List (Int × Int)) : List Int := (E.filter (fun p => decide (p.2 = k))).map (fun p => (aget s.ids p.1).getD 0)

/-- How Open goes over the map. -/
structure Going (s : HsD) (D0 : DataW Unit) (w3 : World) (base a2 a3 a4 hb k1 k2 k3 k4 r : Nat) (left : Lit → Bool) (cnt : Nat) (v1 v2 v3 : Value) (L1 L2 L3 : List Int) (wr : World) : Prop where
  rg : wr.ranges Tryd.prog 3 intR k1 r s.kinds.length D0 left cnt
  mem : HMem wr hb k1 k2 k3 k4 s
  kept : Kept (fun b => b = a2 ∨ b = a3 ∨ b = a4) w3 wr
  li : Lists wr base a2 a3 a4 v1 v2 v3 L1 L2 L3
  p1 : L1.Perm (pick s 7 (came left s.kinds))
  p2 : L2.Perm (pick s 12 (came left s.kinds))
  p3 : L3.Perm (pick s 17 (came left s.kinds))
  hs : ∀ b, HS hb k1 k2 k3 k4 b → w3.heap.size ≤ b ∧ b < base
  rb : w3.heap.size ≤ r ∧ r < base
  ab : a2 < w3.heap.size ∧ a3 < w3.heap.size ∧ a4 < w3.heap.size
  bs : base ≤ wr.heap.size
theorem pick_len (s : HsD) (k : Int) (left : Lit → Bool) : (pick s k (came left s.kinds)).length ≤ s.kinds.length := by
  unfold pick came
  rw [List.length_map]
  exact Nat.le_trans (List.length_filter_le _ _) (List.length_filter_le _ _)
theorem pick_step (s : HsD) {left : Lit → Bool} {x c : Int} (k : Int) (h : (came (fun z => left z && !z.sameKey (.int .i64 x)) s.kinds).Perm ((x, c) :: came left s.kinds)) :
    (pick s k (came (fun z => left z && !z.sameKey (.int .i64 x)) s.kinds)).Perm (if c = k then (aget s.ids x).getD 0 :: pick s k (came left s.kinds) else pick s k (came left s.kinds)) := by
  have h1 := (h.filter (fun p => decide (p.2 = k))).map (fun p => (aget s.ids p.1).getD 0)
  unfold pick
  refine h1.trans ?_
  rw [List.filter_cons]
  by_cases hc : c = k
  · rw [if_pos (by simpa using hc), if_pos hc]
    exact List.Perm.refl _
  · rw [if_neg (by simpa using hc), if_neg hc]
theorem perm_snoc {L M : List Int} {x : Int} (h : L.Perm M) : (L ++ [x]).Perm (x :: M) := (List.perm_append_comm (l₁ := L) (l₂ := [x])).trans (h.cons x)


/-- An entry has come, and is not yet laid down. -/
structure Mid (s : HsD) (D0 : DataW Unit) (w3 : World) (base a2 a3 a4 hb k1 k2 k3 k4 r : Nat) (left left' : Lit → Bool) (x c : Int) (cnt : Nat) (v1 v2 v3 : Value) (L1 L2 L3 : List Int) (wr : World) : Prop where
  rg : wr.ranges Tryd.prog 3 intR k1 r s.kinds.length D0 left' cnt
  mem : HMem wr hb k1 k2 k3 k4 s
  kept : Kept (fun b => b = a2 ∨ b = a3 ∨ b = a4) w3 wr
  li : Lists wr base a2 a3 a4 v1 v2 v3 L1 L2 L3
  p1 : L1.Perm (pick s 7 (came left s.kinds))
  p2 : L2.Perm (pick s 12 (came left s.kinds))
  p3 : L3.Perm (pick s 17 (came left s.kinds))
  hs : ∀ b, HS hb k1 k2 k3 k4 b → w3.heap.size ≤ b ∧ b < base
  rb : w3.heap.size ≤ r ∧ r < base
  ab : a2 < w3.heap.size ∧ a3 < w3.heap.size ∧ a4 < w3.heap.size
  bs : base ≤ wr.heap.size
  step : ∀ k, (pick s k (came left' s.kinds)).Perm (if c = k then (aget s.ids x).getD 0 :: pick s k (came left s.kinds) else pick s k (came left s.kinds))
section
variable {s : HsD} {D0 : DataW Unit} {w3 wn w5 w' : World} {base a2 a3 a4 hb k1 k2 k3 k4 r : Nat} {left left' : Lit → Bool} {x c : Int} {cnt cnt1 : Nat} {v1 v2 v3 v' : Value} {L1 L2 L3 : List Int}
theorem Going.iter (G : Going s D0 w3 base a2 a3 a4 hb k1 k2 k3 k4 r left cnt v1 v2 v3 L1 L2 L3 wn) (hnr : ¬ HS hb k1 k2 k3 k4 r) (hrg : w5.ranges Tryd.prog 3 intR k1 r s.kinds.length D0 (fun z => left z && !z.sameKey (.int .i64 x)) cnt1) (hg : wn.grownBy w5 (some r))
    (hstep : (came (fun z => left z && !z.sameKey (.int .i64 x)) s.kinds).Perm ((x, c) :: came left s.kinds)) :
    Mid s D0 w3 base a2 a3 a4 hb k1 k2 k3 k4 r left (fun z => left z && !z.sameKey (.int .i64 x)) x c cnt1 v1 v2 v3 L1 L2 L3 w5 := by
  have hk : Kept (fun b => b = r) wn w5 := (Kept.refl _ wn).grown hg (fun k e => by cases e; exact Or.inl rfl)
  have rb := G.rb
  have ab := G.ab
  exact ⟨hrg, G.mem.iter hg hnr, G.kept.inner hk (fun b e => Or.inr (by rw [e]; exact rb.1)), G.li.far hk (fun b e => by subst e; omega), G.p1, G.p2, G.p3, G.hs, G.rb, G.ab, Nat.le_trans G.bs hk.size, fun k => pick_step s k hstep⟩
theorem Mid.keep {a : Nat} {v : Value} {ts : List Int} (M : Mid s D0 w3 base a2 a3 a4 hb k1 k2 k3 k4 r left left' x c cnt v1 v2 v3 L1 L2 L3 w5) (ha : a < w3.heap.size) (ho : OwnI w5 base v ts) (hk : Kept (fun b => b = a ∨ v.ownBlock = some b) w5 w') :
    w'.ranges Tryd.prog 3 intR k1 r s.kinds.length D0 left' cnt ∧ HMem w' hb k1 k2 k3 k4 s := by
  have rb := M.rb
  have no : ∀ b, w3.heap.size ≤ b → b < base → ¬ (b = a ∨ v.ownBlock = some b) := by
    rintro b h1 h2 (e | e)
    · omega
    · have := (ho.lt e).1; omega
  have nh : ∀ b, HS hb k1 k2 k3 k4 b → ¬ (b = a ∨ v.ownBlock = some b) := fun b h => no b (M.hs b h).1 (M.hs b h).2
  have m := M.mem
  exact ⟨ranges_keep M.rg hk (nh k1 (by unfold HS; simp)) (no r rb.1 rb.2), ⟨m.box.kept hk (nh hb (by unfold HS; simp)), m.kinds.kept hk (nh k1 (by unfold HS; simp)), m.ids.kept hk (nh k2 (by unfold HS; simp)), m.of_.kept hk (nh k3 (by unfold HS; simp)), m.frm.kept hk (nh k4 (by unfold HS; simp)), m.apart⟩⟩
theorem Mid.done1 (M : Mid s D0 w3 base a2 a3 a4 hb k1 k2 k3 k4 r left left' x 7 cnt v1 v2 v3 L1 L2 L3 w5) (hk : Kept (fun b => b = a2 ∨ v1.ownBlock = some b) w5 w') (hb' : Blk w' a2 47 #[v']) (ho : OwnI w' base v' (L1 ++ [(aget s.ids x).getD 0])) (hn : ∀ b, v'.ownBlock = some b → v1.ownBlock = some b ∨ w5.heap.size ≤ b) :
    Going s D0 w3 base a2 a3 a4 hb k1 k2 k3 k4 r left' cnt v' v2 v3 (L1 ++ [(aget s.ids x).getD 0]) L2 L3 w' := by
  obtain ⟨h1, h2⟩ := M.keep M.ab.1 M.li.o1 hk
  refine ⟨h1, h2, M.kept.inner hk ?_, M.li.grow1 hk hb' ho hn, ?_, ?_, ?_, M.hs, M.rb, M.ab, Nat.le_trans M.bs hk.size⟩
  · rintro b (e | e)
    · exact Or.inl (Or.inl e)
    · exact Or.inr (by have := (M.li.o1.lt e).1; have := M.rb; omega)
  · exact (perm_snoc M.p1).trans (by have := M.step 7; rw [if_pos rfl] at this; exact this.symm)
  · exact M.p2.trans (by have := M.step 12; rw [if_neg (by decide)] at this; exact this.symm)
  · exact M.p3.trans (by have := M.step 17; rw [if_neg (by decide)] at this; exact this.symm)
theorem Mid.done2 (M : Mid s D0 w3 base a2 a3 a4 hb k1 k2 k3 k4 r left left' x 12 cnt v1 v2 v3 L1 L2 L3 w5) (hk : Kept (fun b => b = a3 ∨ v2.ownBlock = some b) w5 w') (hb' : Blk w' a3 47 #[v']) (ho : OwnI w' base v' (L2 ++ [(aget s.ids x).getD 0])) (hn : ∀ b, v'.ownBlock = some b → v2.ownBlock = some b ∨ w5.heap.size ≤ b) :
    Going s D0 w3 base a2 a3 a4 hb k1 k2 k3 k4 r left' cnt v1 v' v3 L1 (L2 ++ [(aget s.ids x).getD 0]) L3 w' := by
  obtain ⟨h1, h2⟩ := M.keep M.ab.2.1 M.li.o2 hk
  refine ⟨h1, h2, M.kept.inner hk ?_, (M.li.swap12.grow1 hk hb' ho hn).swap12, ?_, ?_, ?_, M.hs, M.rb, M.ab, Nat.le_trans M.bs hk.size⟩
  · rintro b (e | e)
    · exact Or.inl (Or.inr (Or.inl e))
    · exact Or.inr (by have := (M.li.o2.lt e).1; have := M.rb; omega)
  · exact M.p1.trans (by have := M.step 7; rw [if_neg (by decide)] at this; exact this.symm)
  · exact (perm_snoc M.p2).trans (by have := M.step 12; rw [if_pos rfl] at this; exact this.symm)
  · exact M.p3.trans (by have := M.step 17; rw [if_neg (by decide)] at this; exact this.symm)
theorem Mid.done3 (M : Mid s D0 w3 base a2 a3 a4 hb k1 k2 k3 k4 r left left' x 17 cnt v1 v2 v3 L1 L2 L3 w5) (hk : Kept (fun b => b = a4 ∨ v3.ownBlock = some b) w5 w') (hb' : Blk w' a4 47 #[v']) (ho : OwnI w' base v' (L3 ++ [(aget s.ids x).getD 0])) (hn : ∀ b, v'.ownBlock = some b → v3.ownBlock = some b ∨ w5.heap.size ≤ b) :
    Going s D0 w3 base a2 a3 a4 hb k1 k2 k3 k4 r left' cnt v1 v2 v' L1 L2 (L3 ++ [(aget s.ids x).getD 0]) w' := by
  obtain ⟨h1, h2⟩ := M.keep M.ab.2.2 M.li.o3 hk
  refine ⟨h1, h2, M.kept.inner hk ?_, (M.li.swap13.grow1 hk hb' ho hn).swap13, ?_, ?_, ?_, M.hs, M.rb, M.ab, Nat.le_trans M.bs hk.size⟩
  · rintro b (e | e)
    · exact Or.inl (Or.inr (Or.inr e))
    · exact Or.inr (by have := (M.li.o3.lt e).1; have := M.rb; omega)
  · exact M.p1.trans (by have := M.step 7; rw [if_neg (by decide)] at this; exact this.symm)
  · exact M.p2.trans (by have := M.step 12; rw [if_neg (by decide)] at this; exact this.symm)
  · exact (perm_snoc M.p3).trans (by have := M.step 17; rw [if_pos rfl] at this; exact this.symm)
end

theorem srt_eq {a b : List Int} (h : a.Perm b) : srt a = srt b := sorted_eq (srt_sorted a) (srt_sorted b) (((srt_perm a).trans h).trans (srt_perm b).symm)
theorem Lists.sort1 {w w' : World} {base a2 a3 a4 : Nat} {v1 v2 v3 : Value} {L1 L1' L2 L3 : List Int} (h : Lists w base a2 a3 a4 v1 v2 v3 L1 L2 L3) (ho : OwnI w' base v1 L1') (hk : Kept (OwnS v1) w w') : Lists w' base a2 a3 a4 v1 v2 v3 L1' L2 L3 := by
  have lt := h.lt
  have no : ∀ b, b < base → ¬ OwnS v1 b := fun b hb e => by have := (h.o1.lt e).1; omega
  exact ⟨h.b1.kept hk (no _ lt.1), h.b2.kept hk (no _ lt.2.1), h.b3.kept hk (no _ lt.2.2), ho, h.o2.kept hk (fun b hb e => h.d12 b e hb), h.o3.kept hk (fun b hb e => h.d13 b e hb), h.d12, h.d13, h.d23, h.lt, h.ne⟩
theorem Lists.again {w : World} {base a2 a3 a4 : Nat} {v1 v2 v3 : Value} {L1 L2 L3 : List Int} (h : Lists w base a2 a3 a4 v1 v2 v3 L1 L2 L3) : Lists (w.setCell ⟨a2, 0, none⟩ v1) base a2 a3 a4 v1 v2 v3 L1 L2 L3 := by
  have lt := h.lt
  have ne := h.ne
  have hk : Kept (fun b => b = a2) w (w.setCell ⟨a2, 0, none⟩ v1) := Kept.setCell (S := fun b => b = a2) (p := ⟨a2, 0, none⟩) (Kept.refl _ w) (Or.inl rfl) _
  exact ⟨h.b1.set_ 0 v1, h.b2.kept hk (fun e => ne.1 e.symm), h.b3.kept hk (fun e => ne.2.1 e.symm), h.o1.kept hk (fun b hb e => by have := (h.o1.lt hb).1; omega), h.o2.kept hk (fun b hb e => by have := (h.o2.lt hb).1; omega), h.o3.kept hk (fun b hb e => by have := (h.o3.lt hb).1; omega), h.d12, h.d13, h.d23, h.lt, h.ne⟩
theorem results_cell3 {fn : Func} {p q r : Tmp} {t1 t2 t3 : TypeId} (h : fn.results = #[.cell p t1, .cell q t2, .cell r t3]) (tmps : Array Value) (P : Program) (w : World) {a b c : Addr} {x y z : Value} (ha : tmps.getD p undef = .pointer (some a)) (hb : tmps.getD q undef = .pointer (some b)) (hc : tmps.getD r undef = .pointer (some c))
    (h1 : (loadVar t1 a).run P w = .ok x w) (h2 : (loadVar t2 b).run P w = .ok y w) (h3 : (loadVar t3 c).run P w = .ok z w) : (results fn tmps).run P w = .ok (.tuple #[x, y, z]) w := by
  have ra : (asAddr (tmps.getD p undef)).run P w = .ok a w := by rw [ha]; rfl
  have rb : (asAddr (tmps.getD q undef)).run P w = .ok b w := by rw [hb]; rfl
  have rc : (asAddr (tmps.getD r undef)).run P w = .ok c w := by rw [hc]; rfl
  simp only [results, h]
  simp [Sem.run_bind, Result.andThen, -Array.getD_eq_getD_getElem?, ra, rb, rc, h1, h2, h3]
theorem loadVar47 {w : World} {a : Nat} {v : Value} (h : Blk w a 47 #[v]) : (loadVar 47 ⟨a, 0, none⟩).run Tryd.prog w = .ok v w := by
  have hc : w.cell? ⟨a, 0, none⟩ = some v := h.cell 0
  simp [loadVar, isAgg, underlying, Tryd.underlying47, hc, Result.andThen]
end Go.Proofs.YtndnbjpcjlbcjaaDoor
