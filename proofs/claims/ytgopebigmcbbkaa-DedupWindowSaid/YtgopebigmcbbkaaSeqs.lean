/- seqs: a client's requests that are remembered, rising. -/
import Derived.Test.YtgopebigmcbbkaaWriter
namespace Go.Proofs.Ytgopebigmcbbkaa
open Go.RowKit

theorem i64_info : (Try.prog.info? 3).map (fun i => (i.zero, i.size, i.bytes)) = some (some (.int .i64 0), 1, 8) := by kernel_rfl

section
variable {β : Type}
def seqsN (L : List ((Int × Int) × β)) (c lo : Int) : Nat → List Int
  | 0 => []
  | j + 1 => seqsN L c lo j ++ if (aget L (c, lo + j)).isSome then [lo + (j : Int)] else []
theorem seqsN_length (L : List ((Int × Int) × β)) (c lo : Int) : ∀ j, (seqsN L c lo j).length ≤ j
  | 0 => by simp [seqsN]
  | j + 1 => by
    have := seqsN_length L c lo j
    unfold seqsN
    split <;> simp <;> omega
end
theorem seqsN_mem {β : Type} {L : List ((Int × Int) × β)} {c lo s : Int} : ∀ {j : Nat}, s ∈ seqsN L c lo j → lo ≤ s ∧ s < lo + j ∧ (aget L (c, s)).isSome = true
  | 0, h => by simp [seqsN] at h
  | j + 1, h => by
    unfold seqsN at h
    rcases List.mem_append.1 h with h | h
    · have := seqsN_mem h
      exact ⟨this.1, by omega, this.2.2⟩
    · split at h
      · rename_i hs
        simp at h
        subst h
        exact ⟨by omega, by omega, hs⟩
      · simp at h
def seqLo (W : Int) (T : List (Int × Int)) (c : Int) : Int := max ((aget T c).getD 0 - W + 1) 1
def seqsOf {β : Type} (W : Int) (L : List ((Int × Int) × β)) (T : List (Int × Int)) (c : Int) : List Int := seqsN L c (seqLo W T c) ((aget T c).getD 0 + 1 - seqLo W T c).toNat

theorem seqsOf_mem {β : Type} {W : Int} {L : List ((Int × Int) × β)} {T : List (Int × Int)} (hok : okTab W T) {c s : Int} (h : s ∈ seqsOf W L T c) : 1 ≤ s ∧ s ≤ (aget T c).getD 0 ∧ (aget T c).getD 0 - W < s ∧ s ≤ 1099511627776 ∧ (aget L (c, s)).isSome = true := by
  unfold seqsOf at h
  obtain ⟨h1, h2, h3⟩ := seqsN_mem h
  have h4 := top_bound hok c
  unfold seqLo at h1 h2
  refine ⟨by omega, by omega, by omega, by omega, h3⟩

def SeqsEnd (xs : List Int) (w : World) (e : Ending) (w' : World) : Prop := ∃ v, e = .returned v ∧ w'.ownsRow w.heap.size 3 1 v xs.length (xs.map iv) ∧ Below w.heap.size w w'

theorem iv_one (xs : List Int) : ∀ u ∈ xs.map iv, u.oneCell' = true := by
  intro u hu
  obtain ⟨b, _, rfl⟩ := List.mem_map.1 hu
  rfl

structure SeqsRel (w : World) (tb lb mb : Nat) (W : Int) (L : List ((Int × Int) × List UInt8)) (T : List (Int × Int)) (c lo : Int) (j : Nat) (v : Value) (wr : World) : Prop where
  tab : Tab wr tb lb mb W L T
  row : wr.ownsRow w.heap.size 3 1 v (seqsN L c lo j).length ((seqsN L c lo j).map iv)
  below : Below w.heap.size w wr

set_option maxHeartbeats 1000000 in
theorem seqs_any {w : World} {tb lb mb : Nat} {W : Int} {L : List ((Int × Int) × List UInt8)} {T : List (Int × Int)} (h : Tab w tb lb mb W L T) (hok : okTab W T) (c : Int) (hc : okReq c 1) :
    Calls Try.prog 18 #[.pointer (some ⟨tb, 0, none⟩), .int .i64 c] w (SeqsEnd (seqsOf W L T c) w) := by
  have htb := top_bound hok c
  have hwc : wf c := (wf_ok hc).1
  have hl := look_top h hwc
  unfold seqsOf
  obtain ⟨t, ht⟩ : ∃ t, (aget T c).getD 0 = t := ⟨_, rfl⟩
  obtain ⟨lo, hlo⟩ : ∃ lo, seqLo W T c = lo := ⟨_, rfl⟩
  rw [hlo]
  unfold seqLo at hlo
  rw [ht] at htb hl hlo ⊢
  obtain ⟨b1, b2⟩ := htb
  obtain ⟨b3, b4⟩ := hok.1
  obtain ⟨g1, g2, _, _⟩ := hc
  obtain ⟨N, hN⟩ : ∃ N, (t + 1 - lo).toNat = N := ⟨_, rfl⟩
  rw [hN]
  have k1 : 1 ≤ lo := by omega
  have k2 : lo ≤ t + 1 := by omega
  have k3 : t - lo ≤ 4096 := by omega
  have n1 : (N : Int) = t + 1 - lo := by omega
  have hN1 := Lib.hid n1
  have Hlo := Lib.hid hlo
  have c0 : w.cell? ⟨tb, 0, none⟩ = some (.int .i64 W) := h.box.cell 0
  have c2 : w.cell? ⟨tb, 0 + 2, none⟩ = some (.map (some mb)) := h.box.cell 2
  have HT0 := Lib.hid h
  have HR := Lib.hid (show SeqsRel w tb lb mb W L T c lo 0 (.slice none 0 0) w from ⟨h, World.ownsRow_nil _ _ _ _, Below.refl _ _⟩)
  obtain ⟨i0, hi, hz0, hz1, hz2⟩ := info_parts i64_info
  have Hi := Lib.hid hi
  have Hz0 := Lib.hid hz0
  have Hz1 := Lib.hid hz1
  have Hz2 := Lib.hid hz2
  clear hN n1 hlo ht h hi hz0 hz1 hz2
  go_enter Try.func18, Try.ntmps18
  go_upto_region 3 with fail
  go_cut [7] (fun u wx => u = .int .i64 lo ∧ wx = w)
  case first =>
    go_wp2
    all_goals (go_meet; exact ⟨by congr 1; have := Hlo.out; omega, rfl⟩)
  case rest =>
    obtain ⟨hu, hw⟩ := hcut
    rw [hu, hw]
    clear c0 c2 hl hu hw
    go_wp2_with fail
    go_loopg [5, 7, 8, 9] N (fun r v u _ _ wr => ∃ j : Nat, r + j = N ∧ u = .int .i64 (lo + j) ∧ SeqsRel w tb lb mb W L T c lo j v wr)
    case atStart => exact ⟨0, by omega, by simp, HR.out⟩
    case round =>
      obtain ⟨j, hj, rfl, hr⟩ := hrel
      have Hj := Lib.hid hj
      have HRr := Lib.hid hr
      have jN : j ≤ N := by omega
      have j2 : lo + j ≤ t + 1 := by have := hN1.out; omega
      clear hj hr HR
      rename_i v _ _ _ _
      by_cases hlt : lo + j ≤ t
      · have wk : wf (lo + j) := wf_of (by omega) (by omega)
        obtain ⟨kl, hkl⟩ := key51 (p := (c, lo + j)) hwc wk
        have d1 : wr.cell? ⟨tb, 0 + 1, none⟩ = some (.map (some lb)) := HRr.out.tab.box.cell 1
        have gk0 : ∃ k, gk = k + 1 := ⟨gk - 1, by have := Hj.out; have := hN1.out; omega⟩
        cases ha : aget L (c, lo + j) with
        | none =>
          have hlook := HRr.out.tab.ans.look_none law51 Try.underlying46 kk_inj (zero30 _) hkl true ha
          have Ha := Lib.hid ha
          clear ha hkl
          unfold kk at hlook
          go_wp2_with fail
          go_roundg (gk - 1)
          case measure => obtain ⟨k, hk⟩ := gk0; omega
          case rel =>
            refine ⟨j + 1, by obtain ⟨k, hk⟩ := gk0; have := Hj.out; omega, by congr 1; omega, ⟨HRr.out.tab, ?_, HRr.out.below⟩⟩
            have e : seqsN L c lo (j + 1) = seqsN L c lo j := by simp [seqsN, Ha.out]
            rw [e]
            exact HRr.out.row
        | some bs =>
          obtain ⟨v1, hv1, hlook⟩ := HRr.out.tab.ans.look_some law51 Try.underlying46 kk_inj hkl true ha
          have hlook := hlook wr rfl
          have hrow := HRr.out.row.alloc (.cells #[.int .i64 (lo + j)] 3)
          have hsl := seqsN_length L c lo j
          obtain ⟨m, hm⟩ : ∃ m, (seqsN L c lo j).length = m := ⟨_, rfl⟩
          rw [hm] at hrow hsl
          have hbs := HRr.out.below.size
          have Hm := Lib.hid hm
          have Ha := Lib.hid ha
          have N1 : N ≤ 10000 := by have := hN1.out; omega
          clear ha hkl hm hv1
          unfold kk at hlook
          go_wp2_with (at_builtin; refine wpList_append_own _ rfl (.tmp 41) (.tmp 43) 40 rfl w.heap.size 3 i0 (.int .i64 0) 1 8 Try.underlying40 Hi.out Hz0.out Hz1.out Hz2.out rfl (by decide) _ _ _ rfl hrow ⟨wr.heap.size, 0, none⟩ 1 1 [.int .i64 (lo + j)] rfl rfl (World.news_of_block (cs := #[.int .i64 (lo + j)]) (t := 3) (fr := (0, 0)) (heap_alloc_new wr _)) (by simp [Value.oneCell']) (by unfold maxLen; omega) (by omega) (by simp; omega) ?_; intro v' w1 hown1 hg1 _; have R1 := Lib.hid hown1; have G1 := Lib.hid hg1; clear hown1 hg1)
          go_roundg (gk - 1)
          case measure => obtain ⟨k, hk⟩ := gk0; omega
          case rel =>
            have hk1 : Kept NoBlk wr (wr.alloc (.cells #[.int .i64 (lo + j)] 3)) := (Kept.refl _ _).alloc _
            have hb1 : Below w.heap.size (wr.alloc (.cells #[.int .i64 (lo + j)] 3)) w1 := (Below.refl _ _).grown G1.out (by simp; omega) (fun k hk => by
              exact (HRr.out.row.lt k hk).1)
            have hb2 := HRr.out.below.trans ((hk1.below (B := w.heap.size) hbs (fun _ e => e.elim)).trans hb1)
            refine ⟨j + 1, by obtain ⟨k, hk⟩ := gk0; have := Hj.out; omega, by congr 1; omega, ⟨HT0.out.kept (Kept.of_below hb2), ?_, hb2⟩⟩
            have e : seqsN L c lo (j + 1) = seqsN L c lo j ++ [lo + (j : Int)] := by simp [seqsN, Ha.out]
            have r := R1.out
            rw [← Hm.out] at r
            rw [e]
            simpa [iv] using r
      · go_wp2_with fail
        go_ret
        have ej : j = N := by have := hN1.out; omega
        subst ej
        exact ⟨_, rfl, HRr.out.row, HRr.out.below⟩

#print axioms seqs_any
end Go.Proofs.Ytgopebigmcbbkaa
