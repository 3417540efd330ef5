/- The document's Check: what the code computes. -/
import Derived.Test.YtndnbjpcjlbcjaaDoorWhyW
namespace Go.Proofs.YtndnbjpcjlbcjaaDoor
open Go.RowKit

theorem checkR_app (l : List EvD) (e : EvD) : ∀ pre, (checkR pre l).1 = 0 → checkR pre (l ++ [e]) = if whyR (pre ++ l) e = wNone then (0, wNone) else (pre.length + l.length + 1, whyR (pre ++ l) e) := by
  induction l with
  | nil =>
    intro pre _
    show (if whyR pre e = wNone then checkR (pre ++ [e]) [] else (pre.length + 1, whyR pre e)) = _
    rw [List.append_nil]
    rfl
  | cons a l ih =>
    intro pre h
    unfold checkR at h
    show (if whyR pre a = wNone then checkR (pre ++ [a]) (l ++ [e]) else (pre.length + 1, whyR pre a)) = _
    split at h
    · rename_i h0
      rw [if_pos h0, ih _ h, List.append_assoc, List.length_append]
      have e1 : pre.length + [a].length + l.length + 1 = pre.length + (a :: l).length + 1 := by simp; omega
      rw [e1]
      rfl
    · simp at h
theorem checkR_zero {l : List EvD} : ∀ {pre : List EvD}, (checkR pre l).1 = 0 → checkR pre l = (0, wNone) := by
  induction l with
  | nil => intro pre _; rfl
  | cons a l ih =>
    intro pre h
    unfold checkR at h ⊢
    split at h
    · rename_i h0
      rw [if_pos h0]
      exact ih h
    · simp at h
theorem checkR_more (l m : List EvD) : ∀ pre, (checkR pre l).1 ≠ 0 → checkR pre (l ++ m) = checkR pre l := by
  induction l with
  | nil => intro pre h; exact absurd rfl h
  | cons a l ih =>
    intro pre h
    unfold checkR at h
    show (if whyR pre a = wNone then checkR (pre ++ [a]) (l ++ m) else (pre.length + 1, whyR pre a)) = if whyR pre a = wNone then checkR (pre ++ [a]) l else (pre.length + 1, whyR pre a)
    split at h
    · rename_i h0
      rw [if_pos h0, if_pos h0]
      exact ih _ h
    · rename_i h0
      rw [if_neg h0, if_neg h0]
theorem refchk_next {xs : List EvD} {k : Nat} {e : EvD} (he : xs[k]? = some e) (h : (checkR [] (xs.take k)).1 = 0) :
    (whyR (xs.take k) e = wNone → (checkR [] (xs.take (k + 1))).1 = 0) ∧ (whyR (xs.take k) e ≠ wNone → checkR [] xs = (k + 1, whyR (xs.take k) e)) := by
  have hk := (List.getElem?_eq_some_iff.1 he).1
  have h1 := checkR_app (xs.take k) e [] h
  rw [← take_snoc he, List.nil_append] at h1
  refine ⟨fun h0 => by rw [h1, if_pos h0], fun h0 => ?_⟩
  rw [if_neg h0] at h1
  have h2 := checkR_more (xs.take (k + 1)) (xs.drop (k + 1)) [] (by rw [h1]; simp)
  rw [List.take_append_drop] at h2
  rw [h2, h1, List.length_take]
  simp
  omega

set_option maxRecDepth 100000 in
set_option maxHeartbeats 4000000 in
theorem refchk_any (A : Option Addr) (n c : Nat) (xs : List EvD) (w : World) (h : Evs w A n xs) (hc : n ≤ c) : Calls Tryd.prog 23 #[.slice A n c] w (ValEnd (.tuple #[.int .i64 (checkR [] xs).1, .string (checkR [] xs).2]) w) := by
  have hn := h.2.1
  have HE := Lib.hid h
  obtain ⟨R, hR⟩ : ∃ R, checkR [] xs = R := ⟨_, rfl⟩
  have HR := Lib.hid hR
  rw [hR]
  clear h hR
  go_enter Tryd.func23, Tryd.ntmps23
  go_wp2_with fail
  go_loopg [4] n (fun g v wr => ∃ (k : Nat), g + k = n ∧ v = .int .i64 k ∧ (checkR [] (xs.take k)).1 = 0 ∧ Kept NoBlk w wr)
  case atStart => exact ⟨0, by omega, rfl, rfl, Kept.refl _ _⟩
  case round =>
    obtain ⟨k, hgk, rfl, hchk, hrel⟩ := hrel
    obtain ⟨wx, hwx⟩ : ∃ wx, wr = wx := ⟨_, rfl⟩
    rw [hwx] at hrel
    have Hgk := Lib.hid hgk
    have HC := Lib.hid hchk
    have HK := Lib.hid hrel
    rw [hwx]
    clear hgk hchk hrel hwx
    by_cases hlt : k < n
    · obtain ⟨b, off, a, v, hA, ha, hev⟩ := HE.out.at_ hlt
      subst hA
      have hev := hev.kept HK.out (NoCells.none _)
      have H := Lib.hid ((HE.out.kept HK.out (NoCells.none _)).front (k := k) (by omega))
      obtain ⟨h0, h1, h2, h3, h4, h5, h6, h7, h8⟩ := hev
      obtain ⟨A', n', c', rfl, hrd⟩ := h7
      have hl := RdB.length (show RdB wx (.slice A' n' c') a.data from ⟨A', n', c', rfl, hrd⟩)
      have hnx := Lib.hid (refchk_next ha HC.out)
      have hWhy := fun (W : World) (H : Evs W (some ⟨b, off, none⟩) k (xs.take k)) => why17_any (some ⟨b, off, none⟩) k c (xs.take k) W H a A' n' c' hl
      obtain ⟨ki, po, re, id, li, nn, bs⟩ := a
      obtain ⟨S, hS⟩ : ∃ S, whyR (xs.take k) ⟨ki, po, re, id, li, nn, bs⟩ = S := ⟨_, rfl⟩
      rw [hS] at hnx
      simp only [hS] at hWhy
      unfold aggE at hWhy
      simp only at h0 h1 h2 h3 h4 h5 h6 hWhy
      have HWhy := Lib.hid hWhy
      have ki0 : (0 : Int) ≤ (k : Int) := by omega
      have ki1 : (k : Int) < (n : Int) := by omega
      have ki2 : (k : Int) ≤ (c : Int) := by omega
      clear ha h8 hrd hl hWhy hS
      go_wp2_with fail
      go_still_tail 7, (by kernel_rfl)
      change wpList _ _ _ _ _ wx.drew
      obtain ⟨w5, hw5⟩ : ∃ w5, wx.drew = w5 := ⟨_, rfl⟩
      have HE5 := Lib.hid (show Evs w5 (some ⟨b, off, none⟩) k (xs.take k) from hw5 ▸ H.out.kept (Kept.refl NoBlk wx).drew (NoCells.none _))
      have HK5 := Lib.hid (show Kept NoBlk w w5 from hw5 ▸ HK.out.drew)
      rw [hw5]
      clear hw5 h0 h1 h2 h3 h4 h5 h6
      go_wp2_with fail
      refine (HWhy.out _ HE5.out).mono ?_
      rintro e6 w6 ⟨rfl, hk6⟩
      have K6 := Lib.hid (HK5.out.trans hk6)
      clear hk6
      by_cases hs : S = wNone
      · have HF := Lib.hid (hnx.out.1 hs)
        clear hnx
        subst hs
        unfold wNone
        go_wp2_with fail
        go_roundg (n - (k + 1))
        case measure => have := Hgk.out; omega
        case rel => exact ⟨k + 1, by omega, by go_num, HF.out, K6.out⟩
      · have hne : (!S.toList.isEmpty) = true := by
          obtain ⟨x⟩ := S
          obtain ⟨l⟩ := x
          cases l with
          | nil => exact absurd rfl hs
          | cons x l =>
            rw [ByteArray.toList_eq]
            rfl
        have HF := Lib.hid (hnx.out.2 hs)
        clear hs
        go_wp2_with fail
        go_ret2
        exact ⟨by rw [← HR.out, HF.out]; go_num, K6.out⟩
    · have hall : xs.take k = xs := by rw [List.take_of_length_le (by rw [HE.out.1]; omega)]
      have hres := HC.out
      rw [hall] at hres
      have HRes := Lib.hid (checkR_zero hres)
      have ki1 : ¬ (k : Int) < (n : Int) := fun h => hlt (by omega)
      clear hall hres hlt
      go_wp2_with fail
      go_ret2
      exact ⟨by rw [← HR.out, HRes.out]; rfl, HK.out⟩
#print axioms refchk_any
end Go.Proofs.YtndnbjpcjlbcjaaDoor
