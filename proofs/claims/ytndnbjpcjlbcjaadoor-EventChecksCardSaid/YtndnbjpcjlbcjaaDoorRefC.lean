/- The document's words open and task: what the code computes. -/
import Derived.Test.YtndnbjpcjlbcjaaDoorRefB
namespace Go.Proofs.YtndnbjpcjlbcjaaDoor
open Go.RowKit

set_option maxRecDepth 100000 in
set_option maxHeartbeats 1000000 in
theorem open37_any (A : Option Addr) (n c : Nat) (xs : List EvD) (w : World) (h : Evs w A n xs) (p : Int) : Calls Tryd.prog 37 #[.slice A n c, .int .i64 p] w (ValEnd (.bool (openR xs p)) w) := by
  have hK := fun (W : World) (H : Evs W A n xs) => kind50_any A n c xs W H p
  have hW := fun (W : World) (H : Evs W A n xs) => works51_any A n c xs W H p
  obtain ⟨ki, hki⟩ : ∃ x, kindR xs p = x := ⟨_, rfl⟩
  obtain ⟨wk, hwk⟩ : ∃ x, worksR xs p = x := ⟨_, rfl⟩
  have hO : openR xs p = if ki = 7 then decide (wk = 0) || !namedR xs wk [9, 10, 11] else if ki = 12 then !namedR xs p [13, 14] else if ki = 17 then !namedR xs p [18] else false := by
    unfold openR
    rw [hki, hwk]
  simp only [hki] at hK
  simp only [hwk] at hW
  have HK := Lib.hid hK
  have HW := Lib.hid hW
  have H := Lib.hid h
  have HO := Lib.hid hO
  obtain ⟨R, hR⟩ : ∃ b, openR xs p = b := ⟨_, rfl⟩
  rw [hR] at HO ⊢
  clear h hki hwk hK hW hO hR
  by_cases k7 : ki = 7
  · subst k7
    by_cases w0 : wk = 0
    · subst w0
      have hr : R = true := by rw [HO.out]; simp
      have HR := Lib.hid hr
      clear hr
      go_enter Tryd.func37, Tryd.ntmps37
      go_wp2_with fail
      refine (HK.out _ H.out).mono ?_
      rintro e w1 ⟨rfl, rfl⟩
      go_wp2_with fail
      refine (HW.out _ H.out).mono ?_
      rintro e w1 ⟨rfl, rfl⟩
      go_wp2_with fail
      go_ret
      exact ⟨by rw [HR.out]; rfl, Kept.refl _ _⟩
    · have w02 : (wk == 0) = false := by simpa using w0
      have hr : R = !namedR xs wk [9, 10, 11] := by rw [HO.out]; simp [w0]
      have hN := fun (W : World) (H : Evs W A n xs) (g : Nat) (hg : Nums W g [9, 10, 11]) => named53_any A n c xs W H wk hg 3 rfl
      obtain ⟨nb, hnb⟩ : ∃ b, namedR xs wk [9, 10, 11] = b := ⟨_, rfl⟩
      simp only [hnb] at hN
      rw [hnb] at hr
      have HR := Lib.hid hr
      have HN := Lib.hid hN
      clear hr hN hnb w0
      go_enter Tryd.func37, Tryd.ntmps37
      go_wp2_with fail
      refine (HK.out _ H.out).mono ?_
      rintro e w1 ⟨rfl, rfl⟩
      go_wp2_with fail
      refine (HW.out _ H.out).mono ?_
      rintro e w1 ⟨rfl, rfl⟩
      go_wp2_with fail
      refine (HN.out _ (H.out.kept ((Kept.refl NoBlk _).alloc _) (NoCells.none _)) _ (Nums.new3 _ _ _ _)).mono ?_
      rintro e w2 ⟨rfl, hk2⟩
      go_wp2_with fail
      go_ret
      exact ⟨by rw [HR.out]; rfl, ((Kept.refl NoBlk _).alloc _).trans hk2⟩
  by_cases k12 : ki = 12
  · subst k12
    have hr : R = !namedR xs p [13, 14] := by rw [HO.out]; simp
    have hN := fun (W : World) (H : Evs W A n xs) (g : Nat) (hg : Nums W g [13, 14]) => named53_any A n c xs W H p hg 2 rfl
    obtain ⟨nb, hnb⟩ : ∃ b, namedR xs p [13, 14] = b := ⟨_, rfl⟩
    simp only [hnb] at hN
    rw [hnb] at hr
    have HR := Lib.hid hr
    have HN := Lib.hid hN
    clear hr hN hnb
    go_enter Tryd.func37, Tryd.ntmps37
    go_wp2_with fail
    refine (HK.out _ H.out).mono ?_
    rintro e w1 ⟨rfl, rfl⟩
    go_wp2_with fail
    refine (HN.out _ (H.out.kept ((Kept.refl NoBlk _).alloc _) (NoCells.none _)) _ (Nums.new2 _ _ _)).mono ?_
    rintro e w2 ⟨rfl, hk2⟩
    go_wp2_with fail
    go_ret
    exact ⟨by rw [HR.out]; rfl, ((Kept.refl NoBlk _).alloc _).trans hk2⟩
  by_cases k17 : ki = 17
  · subst k17
    have hr : R = !namedR xs p [18] := by rw [HO.out]; simp
    have hN := fun (W : World) (H : Evs W A n xs) (g : Nat) (hg : Nums W g [18]) => named53_any A n c xs W H p hg 1 rfl
    obtain ⟨nb, hnb⟩ : ∃ b, namedR xs p [18] = b := ⟨_, rfl⟩
    simp only [hnb] at hN
    rw [hnb] at hr
    have HR := Lib.hid hr
    have HN := Lib.hid hN
    clear hr hN hnb
    go_enter Tryd.func37, Tryd.ntmps37
    go_wp2_with fail
    refine (HK.out _ H.out).mono ?_
    rintro e w1 ⟨rfl, rfl⟩
    go_wp2_with fail
    refine (HN.out _ (H.out.kept ((Kept.refl NoBlk _).alloc _) (NoCells.none _)) _ (Nums.new1 _ _)).mono ?_
    rintro e w2 ⟨rfl, hk2⟩
    go_wp2_with fail
    go_ret
    exact ⟨by rw [HR.out]; rfl, ((Kept.refl NoBlk _).alloc _).trans hk2⟩
  · have hr : R = false := by rw [HO.out, if_neg k7, if_neg k12, if_neg k17]
    have HR := Lib.hid hr
    clear hr
    go_enter Tryd.func37, Tryd.ntmps37
    go_wp2_with fail
    refine (HK.out _ H.out).mono ?_
    rintro e w1 ⟨rfl, rfl⟩
    go_wp2_with fail
    go_ret
    exact ⟨by rw [HR.out]; rfl, Kept.refl _ _⟩

set_option maxRecDepth 100000 in
set_option maxHeartbeats 1000000 in
theorem task36_any (A : Option Addr) (n c : Nat) (xs : List EvD) (w : World) (h : Evs w A n xs) : Calls Tryd.prog 36 #[.slice A n c] w (ValEnd (.tuple #[.int .i64 (taskR xs).1, .int .i64 (taskR xs).2]) w) := by
  have hS := fun (W : World) (H : Evs W A n xs) => last52_any A n c xs W H 2
  have hD := fun (W : World) (H : Evs W A n xs) => last52_any A n c xs W H 3
  obtain ⟨s, hs⟩ : ∃ x, lastR xs 2 = x := ⟨_, rfl⟩
  obtain ⟨d, hd⟩ : ∃ x, lastR xs 3 = x := ⟨_, rfl⟩
  have hT : taskR xs = if s = 0 then (0, 0) else if d < s then (1, s) else if namedR xs d [4, 5, 6] then (0, 0) else (2, d) := by
    unfold taskR
    rw [hs, hd]
  simp only [hs] at hS
  simp only [hd] at hD
  have HS := Lib.hid hS
  have HD := Lib.hid hD
  have H := Lib.hid h
  have HT := Lib.hid hT
  obtain ⟨R, hR⟩ : ∃ b, taskR xs = b := ⟨_, rfl⟩
  rw [hR] at HT ⊢
  clear h hs hd hS hD hT hR
  by_cases s0 : s = 0
  · subst s0
    have hr : R = (0, 0) := by rw [HT.out, if_pos rfl]
    have HR := Lib.hid hr
    clear hr
    go_enter Tryd.func36, Tryd.ntmps36
    go_wp2_with fail
    refine (HS.out _ H.out).mono ?_
    rintro e w1 ⟨rfl, rfl⟩
    go_wp2_with fail
    go_ret2
    exact ⟨by rw [HR.out]; rfl, Kept.refl _ _⟩
  have s02 : (s == 0) = false := by simpa using s0
  by_cases ds : d < s
  · have hr : R = (1, s) := by rw [HT.out, if_neg s0, if_pos ds]
    have HR := Lib.hid hr
    clear hr s0
    go_enter Tryd.func36, Tryd.ntmps36
    go_wp2_with fail
    refine (HS.out _ H.out).mono ?_
    rintro e w1 ⟨rfl, rfl⟩
    go_wp2_with fail
    refine (HD.out _ H.out).mono ?_
    rintro e w1 ⟨rfl, rfl⟩
    go_wp2_with fail
    go_ret2
    exact ⟨by rw [HR.out]; rfl, Kept.refl _ _⟩
  · have hr : R = if namedR xs d [4, 5, 6] then (0, 0) else (2, d) := by rw [HT.out, if_neg s0, if_neg ds]
    have hN := fun (W : World) (H : Evs W A n xs) (g : Nat) (hg : Nums W g [4, 5, 6]) => named53_any A n c xs W H d hg 3 rfl
    obtain ⟨nb, hnb⟩ : ∃ b, namedR xs d [4, 5, 6] = b := ⟨_, rfl⟩
    simp only [hnb] at hN
    rw [hnb] at hr
    have HR := Lib.hid hr
    have HN := Lib.hid hN
    clear hr hN hnb s0
    cases nb
    all_goals
      go_enter Tryd.func36, Tryd.ntmps36
      go_wp2_with fail
      refine (HS.out _ H.out).mono ?_
      rintro e w1 ⟨rfl, rfl⟩
      go_wp2_with fail
      refine (HD.out _ H.out).mono ?_
      rintro e w1 ⟨rfl, rfl⟩
      go_wp2_with fail
      refine (HN.out _ (H.out.kept ((Kept.refl NoBlk _).alloc _) (NoCells.none _)) _ (Nums.new3 _ _ _ _)).mono ?_
      rintro e w2 ⟨rfl, hk2⟩
      go_wp2_with fail
      go_ret2
      exact ⟨by rw [HR.out]; rfl, ((Kept.refl NoBlk _).alloc _).trans hk2⟩
end Go.Proofs.YtndnbjpcjlbcjaaDoor
