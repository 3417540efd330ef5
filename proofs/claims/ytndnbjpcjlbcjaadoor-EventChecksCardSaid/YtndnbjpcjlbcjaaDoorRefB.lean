/- The document's words named, open, task: what the code computes. -/
import Derived.Test.YtndnbjpcjlbcjaaDoorRefA
namespace Go.Proofs.YtndnbjpcjlbcjaaDoor
open Go.RowKit

/-- Block g holds some numbers. -/
def Nums (w : World) (g : Nat) (ks : List Int) : Prop := ks.length ≤ 100 ∧ ∀ j c, ks[j]? = some c → w.cell? ⟨g, j, none⟩ = some (.int .i64 c)
theorem Nums.new1 (w : World) (a : Int) : Nums (w.alloc (.cells #[.int .i64 a] 3)) w.heap.size [a] := by
  refine ⟨by simp, fun j c hj => ?_⟩
  have hb := Blk.new w 3 #[.int .i64 a]
  match j with
  | 0 => cases hj; exact hb.cell 0
  | j + 1 => cases hj
theorem Nums.new2 (w : World) (a b : Int) : Nums (w.alloc (.cells #[.int .i64 a, .int .i64 b] 3)) w.heap.size [a, b] := by
  refine ⟨by simp, fun j c hj => ?_⟩
  have hb := Blk.new w 3 #[.int .i64 a, .int .i64 b]
  match j with
  | 0 => cases hj; exact hb.cell 0
  | 1 => cases hj; exact hb.cell 1
  | j + 2 => cases hj
theorem Nums.new3 (w : World) (a b d : Int) : Nums (w.alloc (.cells #[.int .i64 a, .int .i64 b, .int .i64 d] 3)) w.heap.size [a, b, d] := by
  refine ⟨by simp, fun j c hj => ?_⟩
  have hb := Blk.new w 3 #[.int .i64 a, .int .i64 b, .int .i64 d]
  match j with
  | 0 => cases hj; exact hb.cell 0
  | 1 => cases hj; exact hb.cell 1
  | 2 => cases hj; exact hb.cell 2
  | j + 3 => cases hj

theorem named_hit {xs : List EvD} {k : Nat} {a : EvD} {p : Int} {ks : List Int} (ha : xs[k]? = some a) (h : a.ref = p) (hk : a.kind ∈ ks) : namedR xs p ks = true := by
  unfold namedR
  rw [List.any_eq_true]
  exact ⟨a, List.mem_of_getElem? ha, by simp [h, hk]⟩
theorem named_miss {xs : List EvD} {k : Nat} {a : EvD} {p : Int} {ks : List Int} (ha : xs[k]? = some a) (h0 : namedR (xs.take k) p ks = false) (h : ¬ (a.ref = p ∧ a.kind ∈ ks)) : namedR (xs.take (k + 1)) p ks = false := by
  rw [take_snoc ha, namedR_snoc, h0]
  simp only [Bool.false_or, Bool.and_eq_false_imp, decide_eq_true_eq]
  intro h1
  rw [← Bool.not_eq_true, List.contains_iff_mem]
  exact fun h2 => h ⟨h1, h2⟩

set_option maxRecDepth 100000 in
set_option maxHeartbeats 1000000 in
theorem named53_any (A : Option Addr) (n c : Nat) (xs : List EvD) (w : World) (h : Evs w A n xs) (p : Int) {g : Nat} {ks : List Int} (hks : Nums w g ks) (m : Nat) (hm : ks.length = m) :
    Calls Tryd.prog 53 #[.slice A n c, .int .i64 p, .slice (some ⟨g, 0, none⟩) m m] w (ValEnd (.bool (namedR xs p ks)) w) := by
  have hn := h.2.1
  have hm2 : m ≤ 100 := hm ▸ hks.1
  have H := Lib.hid h
  have HN := Lib.hid hks
  have HM := Lib.hid hm
  clear h hks hm
  go_enter Tryd.func53, Tryd.ntmps53
  go_wp2_with fail
  go_loopg [7] n (fun r v wr => ∃ k : Nat, r + k = n ∧ v = .int .i64 k ∧ namedR (xs.take k) p ks = false ∧ Kept NoBlk w wr)
  case atStart => exact ⟨0, by omega, rfl, rfl, Kept.refl _ _⟩
  case round =>
    obtain ⟨k, hgk, rfl, h0, hkp⟩ := hrel
    have Hgk := Lib.hid hgk
    have H0 := Lib.hid h0
    have HK := Lib.hid hkp
    obtain ⟨wx, hwx⟩ : ∃ wx, wr = wx := ⟨_, rfl⟩
    rw [hwx] at HK ⊢
    clear hgk h0 hkp hwx
    by_cases hlt : k < n
    · obtain ⟨b, off, a, v, rfl, ha, hev⟩ := H.out.at_ hlt
      have HA := Lib.hid ha
      have HEV := Lib.hid hev
      obtain ⟨ki, hki⟩ : ∃ x, a.kind = x := ⟨_, rfl⟩
      obtain ⟨re, hre⟩ : ∃ x, a.ref = x := ⟨_, rfl⟩
      have HKi := Lib.hid hki
      have HRe := Lib.hid hre
      have z3 : (0 : Int) ≤ (k : Int) := by omega
      have z4 : (k : Int) < (n : Int) := by omega
      clear hki hre ha hev
      go_wp2_with fail
      go_loopg [8] m (fun r v wr => ∃ j : Nat, r + j = m ∧ v = .int .i64 j ∧ ¬ (a.ref = p ∧ a.kind ∈ ks.take j) ∧ Kept NoBlk w wr)
      case atStart => exact ⟨0, by omega, rfl, by simp, HK.out⟩
      case round =>
        obtain ⟨j, hgj, rfl, h1, hkp⟩ := hrel
        have Hgj := Lib.hid hgj
        have H1 := Lib.hid h1
        have HK2 := Lib.hid hkp
        rename_i wr2
        obtain ⟨wy, hwy⟩ : ∃ wy, wr = wy := ⟨_, rfl⟩
        rw [hwy] at HK2 ⊢
        clear hgj h1 hkp hwy
        by_cases hlj : j < m
        · have hj : j < ks.length := by rw [HM.out]; exact hlj
          obtain ⟨q, hq⟩ : ∃ q, ks[j]? = some q := ⟨_, List.getElem?_eq_getElem hj⟩
          have c0 : wy.cell? ⟨b, off + k * 7, none⟩ = some (.int .i64 ki) := by
            have := HK2.out.cell HEV.out.1 (fun e => e.elim)
            rw [HKi.out] at this
            exact this
          have c2 : wy.cell? ⟨b, off + k * 7 + 2, none⟩ = some (.int .i64 re) := by
            have := HK2.out.cell HEV.out.2.2.1 (fun e => e.elim)
            rw [HRe.out] at this
            exact this
          have cq : wy.cell? ⟨g, j, none⟩ = some (.int .i64 q) := HK2.out.cell (HN.out.2 j q hq) (fun e => e.elim)
          have z5 : (0 : Int) ≤ (j : Int) := by omega
          have z6 : (j : Int) < (m : Int) := by omega
          have hts : ks.take (j + 1) = ks.take j ++ [q] := by
            obtain ⟨hk, rfl⟩ := List.getElem?_eq_some_iff.1 hq
            exact List.take_succ_eq_append_getElem hk
          have HQ := Lib.hid hq
          have HTs := Lib.hid hts
          clear hq hts hj
          cases br : (re == p)
          · have HB := Lib.hid br
            go_wp2_with fail
            go_quiet (fail)
            go_wp2_with fail
            go_roundg (gk - 1)
            case measure => have := Hgj.out; omega
            case rel =>
              refine ⟨j + 1, by have := Hgj.out; omega, by go_num, ?_, by first | exact HK2.out.drewN _ | exact HK2.out⟩
              intro h2
              have := HB.out
              rw [beq_eq_false_iff_ne] at this
              exact this (HRe.out.symm.trans h2.1)
          · have HB := Lib.hid br
            cases bk : (ki == q)
            · have HB2 := Lib.hid bk
              go_wp2_with fail
              go_quiet (fail)
              go_wp2_with fail
              go_roundg (gk - 1)
              case measure => have := Hgj.out; omega
              case rel =>
                refine ⟨j + 1, by have := Hgj.out; omega, by go_num, ?_, by first | exact HK2.out.drewN _ | exact HK2.out⟩
                rw [HTs.out]
                rintro ⟨h2, h3⟩
                rcases List.mem_append.1 h3 with h3 | h3
                · exact H1.out ⟨h2, h3⟩
                · have := HB2.out
                  rw [beq_eq_false_iff_ne] at this
                  exact this (HKi.out.symm.trans (List.mem_singleton.1 h3))
            · have HB2 := Lib.hid bk
              go_wp2_with fail
              go_quiet (fail)
              go_wp2_with fail
              go_ret
              refine ⟨?_, by first | exact HK2.out.drewN _ | exact HK2.out⟩
              rw [named_hit HA.out (HRe.out.trans (by simpa using HB.out)) (by rw [HKi.out, show ki = q by simpa using HB2.out]; exact List.mem_of_getElem? HQ.out)]
              rfl
        · have hall : ks.take j = ks := by rw [List.take_of_length_le (by rw [HM.out]; omega)]
          have z6 : ¬ (j : Int) < (m : Int) := fun h => hlj (by omega)
          have h1 : ¬ (a.ref = p ∧ a.kind ∈ ks) := by
            have := H1.out
            rw [hall] at this
            exact this
          have H2 := Lib.hid h1
          clear hall h1
          go_wp2_with fail
          go_roundg (n - (k + 1))
          case measure => have := Hgk.out; omega
          case rel => exact ⟨k + 1, by omega, by go_num, named_miss HA.out H0.out H2.out, HK2.out⟩
    · have hall : xs.take k = xs := by rw [List.take_of_length_le (by rw [H.out.1]; omega)]
      have z4 : ¬ (k : Int) < (n : Int) := fun h => hlt (by omega)
      have hr : namedR xs p ks = false := by
        have := H0.out
        rw [hall] at this
        exact this
      have HR := Lib.hid hr
      clear hall hr
      go_wp2_with fail
      go_ret
      exact ⟨by rw [HR.out]; rfl, HK.out⟩
end Go.Proofs.YtndnbjpcjlbcjaaDoor
