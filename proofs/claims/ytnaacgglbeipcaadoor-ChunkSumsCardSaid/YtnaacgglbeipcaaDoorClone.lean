/- slices.Clone at bytes: a new slice that reads as the old one. -/
import Derived.Test.YtnaacgglbeipcaaDoorRows
import Derived.Test.YtnaacgglbeipcaaDoorWords
import Derived.WalkKit
import Derived.WalkSpells
import Derived.WalkLawsBesides
import Derived.Lib.Hide
import Derived.Lib.SlBytesConst
import Derived.Laws.BytesArg
namespace Go.Proofs.YtnaacgglbeipcaaDoor
open Go.RowKit

theorem u8_info : (Tryd.prog.info? 5).map (fun i => (i.zero, i.size, i.bytes)) = some (some (.int .u8 0), 1, 1) := by kernel_rfl

theorem bv_one (bs : List UInt8) : ∀ u ∈ bs.map bv, u.oneCell' = true := by
  intro u hu
  obtain ⟨b, _, rfl⟩ := List.mem_map.1 hu
  rfl

def CloneEnd (bs : List UInt8) (w : World) (e : Ending) (w' : World) : Prop := ∃ v, e = .returned v ∧ RdB w' v bs ∧ Kept NoBlk w w' ∧ w'.ownsRow w.heap.size 5 1 v bs.length (bs.map bv)

set_option maxHeartbeats 400000 in
theorem clone_nil (w : World) : Calls Tryd.prog 22 #[.slice none 0 0] w (CloneEnd [] w) := by
  have hn := Lib.run_eql_slice_nil (P := Tryd.prog) w 22 5 none 0 0 0 0 Tryd.underlying22
  go_enter Tryd.func22, Tryd.ntmps22
  go_wp2
  go_ret
  exact ⟨_, rfl, RdB.nil_ w, Kept.refl _ _, rfl, Or.inl ⟨rfl, rfl⟩⟩

set_option maxHeartbeats 400000 in
theorem clone_some (ad : Addr) (n c : Nat) (bs : List UInt8) (w : World) (hc : c ≤ maxLen) (hnc : n ≤ c) (hb : n ≤ 140737488351232) (h : Reads w w.heap.size 1 (some ad) n (bs.map bv)) :
    Calls Tryd.prog 22 #[.slice (some ad) n c] w (CloneEnd bs w) := by
  have hn := Lib.run_eql_slice_nil (P := Tryd.prog) w 22 5 (some ad) n c 0 0 Tryd.underlying22
  go_enter Tryd.func22, Tryd.ntmps22
  obtain ⟨i0, hi, hz0, hz1, hz2⟩ := info_parts u8_info
  have hown := World.ownsRow_made (e := 5) (size := 1) w #[] 0 (Nat.le_refl _) (Nat.zero_le _) rfl
  have hcells : ∀ j u, (bs.map bv)[j]? = some u → (w.alloc (.cells #[] 5)).cell? (ad.add j) = some u := by
    intro j u hu
    rcases Nat.eq_zero_or_pos n with h0 | h0
    · subst h0
      have hl := h.1
      simp at hl
      subst hl
      simp at hu
    · obtain ⟨ad', e, hlt, hc'⟩ := h.2 h0
      cases e
      exact (World.cell?_alloc_lt w _ _ (by rw [block_of_add]; exact hlt)).trans (hc' j u hu)
  have hl : (bs.map bv).length = n * 1 := h.1
  have H := Lib.hid hl
  clear hl
  go_wp2_with (at_builtin; refine wpList_append_own _ rfl (.tmp 5) (.tmp 6) 22 rfl w.heap.size 5 i0 (.int .u8 0) 1 1 Tryd.underlying22 hi hz0 hz1 hz2 rfl (by decide) _ _ _ rfl hown ad n c (bs.map bv) rfl H.out hcells (bv_one bs) (by omega) (by omega) (by simp) ?_; intro v' w1 hown1 hg1 hnil)
  go_ret
  refine ⟨_, rfl, RdB.of_own (by simpa using hown1) (by omega), ?_, ?_⟩
  · exact ((Kept.refl NoBlk w).alloc _).grown hg1 (fun k hk => Or.inr (by have e : w.heap.size = k := Option.some.inj hk; omega))
  · have e : bs.length = n := by simpa using H.out
    rw [e]
    simpa using hown1

/-- 'slices.Clone(b)': a slice in new memory that reads as b does. -/
theorem clone_any (v : Value) (bs : List UInt8) (w : World) (h : RdB w v bs) : Calls Tryd.prog 22 #[v] w (CloneEnd bs w) := by
  obtain ⟨A, n, c, rfl, h1, h2, h3, h4, h5⟩ := h
  cases A with
  | none =>
    obtain ⟨rfl, rfl⟩ := h4 rfl
    have hl := h5.1
    have : bs = [] := by simpa using hl
    subst this
    exact clone_nil w
  | some ad => exact clone_some ad n c bs w h2 h1 h3 h5

/-- 'string(b)'. -/
theorem str_run {w : World} {v : Value} {bs : List UInt8} (h : RdB w v bs) : (convert 22 9 v).run Tryd.prog w = .ok (.string ⟨bs.toArray⟩) w := by
  obtain ⟨A, n, c, rfl, _, _, _, h4, h5⟩ := h
  have hl : bs.length = n := by simpa using h5.1
  cases A with
  | none =>
    obtain ⟨rfl, rfl⟩ := h4 rfl
    have : bs = [] := List.eq_nil_of_length_eq_zero hl
    subst this
    exact run_convert_bytes_nil w 22 5 Tryd.underlying22 Tryd.underlying5 0 0 9 Tryd.underlying9
  | some ad =>
    subst hl
    refine run_convert_bytes_back w 22 9 5 ad c bs Tryd.underlying22 Tryd.underlying5 Tryd.underlying9 (fun j hj => ?_)
    obtain ⟨ad', e, _, hc⟩ := h5.2 (by omega)
    cases e
    exact hc j _ (by simp [List.getElem?_eq_getElem hj, bv])

/-- A new block of bytes, whatever its mark. -/
theorem rd_new (w : World) (bs : List UInt8) (hb : bs.length ≤ 140737488351232) (e : TypeId) (fr : Nat × Nat) (n : Nat) (hn : bs.length = n) (C : Array Value) (hC : C = (bs.map bv).toArray) :
    RdB (w.alloc (.cells C e fr)) (.slice (some ⟨w.heap.size, 0, none⟩) n n) bs := by
  subst hn
  subst hC
  refine ⟨_, _, _, rfl, Nat.le_refl _, by unfold maxLen; omega, hb, (fun e => by cases e), by simp, fun _ => ⟨_, rfl, by simp, fun j u hu => ?_⟩⟩
  have hh : (w.alloc (.cells (bs.map bv).toArray e fr)).heap[w.heap.size]? = some (.cells (bs.map bv).toArray e fr) := by
    show (w.heap.push _)[w.heap.size]? = _
    simp
  unfold Addr.add
  split
  · rename_i h0
    subst h0
    simp only [World.cell?, hh]
    simpa using hu
  · simp only [World.cell?, hh]
    simpa using hu

#print axioms clone_any
end Go.Proofs.YtnaacgglbeipcaaDoor
