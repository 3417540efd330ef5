/- EventOpens: what is open of a history is as much as was opened, less what was ended; no two of a kind have one Id. -/
import Derived.Test.YtndnbjpcjlbcjaaDoorKnown
import Derived.Test.YtndnbjpcjlbcjaaDoorOpenW
import Derived.Test.YtndnbjpcjlbcjaaDoorNums
import Derived.Test.YtndnbjpcjlbcjaaDoorEvsArg
namespace Go.Proofs.YtndnbjpcjlbcjaaDoor
open Go.RowKit Go.Maps

theorem few_len3 {xs : List EvD} (h : fewB xs = true) : xs.length ≤ 120 := by
  unfold fewB at h
  simp only [Bool.and_eq_true, decide_eq_true_eq] at h
  exact h.1
theorem cnt_next {xs : List EvD} {k : Nat} {a : EvD} (ha : xs[k]? = some a) : cntR (xs.take (k + 1)) = cntR (xs.take k) + dl a.kind := by
  obtain ⟨hk, rfl⟩ := List.getElem?_eq_some_iff.1 ha
  rw [List.take_succ_eq_append_getElem hk, cntR_snoc]
theorem srt_rises {s : HsD} {l : List EvD} (h : Inv l s) (m : More l s) (k : Int) : ∀ i x y, (srt (idsOf s k))[i]? = some x → (srt (idsOf s k))[i + 1]? = some y → x < y :=
  fun _ _ _ hx hy => rises_of (srt_sorted _) ((srt_perm _).nodup_iff.2 (ids_nodup h m k)) hx hy
theorem ids_len (s : HsD) (k : Int) : (idsOf s k).length ≤ s.kinds.length := by
  unfold idsOf
  rw [List.length_map]
  exact List.length_filter_le _ _

set_option maxRecDepth 100000 in
set_option maxHeartbeats 4000000 in
theorem opens_any (A : Option Addr) (n c : Nat) (xs : List EvD) {w : World} (hx : EvsIn w A n c xs) (he : Env w) : Calls Tryd.prog 7 #[.slice A n c] w (TrueEnd w) := by
  have HFew := Lib.hid (fun (W : World) (H : Evs W A n xs) => few_any A n c xs W H)
  have HE := Lib.hid he
  have HX := Lib.hid hx
  have hn := hx.evs.2.1
  clear hx he
  go_enter Tryd.func7, Tryd.ntmps7
  go_wp2_with fail
  refine (known_any HE.out).mono ?_
  rintro e1 w1 ⟨rfl, hk1⟩
  have HK1 := Lib.hid hk1
  clear hk1
  go_wp2_with fail
  refine (HFew.out _ (HX.out.evs.kept HK1.out (NoCells.none _))).mono ?_
  rintro e2 w2 ⟨rfl, rfl⟩
  cases hf : fewB xs
  · go_wp2_with fail
    go_ret
    exact ⟨rfl, HK1.out⟩
  have h120 : n ≤ 120 := by have := few_len3 hf; rw [HX.out.evs.1] at this; exact this
  clear hf
  go_wp2_with fail
  refine (check_any A n c xs _ (HX.out.evs.kept HK1.out (NoCells.none _)) (by omega)).mono ?_
  rintro e3 w2 ⟨hk3, hr3⟩
  have HK2 := Lib.hid (HK1.out.trans hk3)
  clear hk3 HK1
  cases hchk : chk HsD.none_ 0 xs with
  | some r =>
    rw [hchk] at hr3
    obtain ⟨eb, rfl, _, _⟩ := hr3
    go_wp2_with fail
    go_ret
    exact ⟨rfl, HK2.out⟩
  | none =>
    rw [hchk] at hr3
    subst hr3
    have HC := Lib.hid hchk
    clear hchk
    go_wp2_with fail
    refine (open25_any A n c xs _ (HX.out.evs.kept HK2.out (NoCells.none _)) (by omega) HC.out).mono ?_
    rintro e4 w3 ⟨base, a2, a3, a4, v1, v2, v3, rfl, _, hli, hk4⟩
    have HK3 := Lib.hid (HK2.out.trans hk4)
    obtain ⟨s, hs⟩ : ∃ s, runS HsD.none_ xs = s := ⟨_, rfl⟩
    rw [hs] at hli
    have HInv := Lib.hid (show Inv xs s from hs ▸ Inv.of HC.out)
    have HMore := Lib.hid (show More xs s from hs ▸ More.of HC.out)
    have hcnt := all_three HInv.out HMore.out
    have hkl : s.kinds.length ≤ 120 := by
      have h1 := HMore.out.cnt
      have h2 := (cntR_le xs).1
      have h3 := HX.out.evs.1
      omega
    obtain ⟨A1, n1, c1, rfl⟩ := hli.o1.form
    obtain ⟨A2, n2, c2, rfl⟩ := hli.o2.form
    obtain ⟨A3, n3, c3, rfl⟩ := hli.o3.form
    have m1 := ids_len s 7
    have m2 := ids_len s 12
    have m3 := ids_len s 17
    have R1 := Lib.hid (hli.o1.rd (by rw [srt_len]; omega))
    have R2 := Lib.hid (hli.o2.rd (by rw [srt_len]; omega))
    have R3 := Lib.hid (hli.o3.rd (by rw [srt_len]; omega))
    have b1 : n1 ≤ 120 := by rw [← R1.out.1, srt_len]; omega
    have b2 : n2 ≤ 120 := by rw [← R2.out.1, srt_len]; omega
    have b3 : n3 ≤ 120 := by rw [← R3.out.1, srt_len]; omega
    have hsum : ((n1 : Int) + n2 + n3) = cntR xs := by
      rw [← hcnt, ← R1.out.1, ← R2.out.1, ← R3.out.1, srt_len, srt_len, srt_len]
      omega
    have HSum := Lib.hid hsum
    clear hli hk4 hs hcnt hkl m1 m2 m3 hsum
    go_wp2_with fail
    go_loopg [6, 7] n (fun g u v wr => ∃ k : Nat, g + k = n ∧ u = .int .i64 (cntR (xs.take k)) ∧ v = .int .i64 k ∧ wr = w3)
    case atStart => exact ⟨0, by omega, by simp [cntR], rfl, rfl⟩
    case round =>
      obtain ⟨k, hgk, rfl, rfl, hwr⟩ := hrel
      rw [hwr]
      clear hwr
      have Hgk := Lib.hid hgk
      clear hgk
      have hcb := cntR_le (xs.take k)
      rw [List.length_take] at hcb
      obtain ⟨ct, hct⟩ : ∃ ct, cntR (xs.take k) = ct := ⟨_, rfl⟩
      rw [hct] at hcb ⊢
      have hc1 : ct ≤ 120 := by have := HX.out.evs.1; omega
      have hc2 : -120 ≤ ct := by have := HX.out.evs.1; omega
      have HCt := Lib.hid hct
      clear hcb hct
      by_cases hlt : k < n
      · obtain ⟨b, off, a, v, hA, ha, hev⟩ := HX.out.evs.at_ hlt
        have h0 := (hev.kept HK3.out (NoCells.none _)).1
        subst hA
        have hnx := cnt_next ha
        obtain ⟨ki, hki⟩ : ∃ x, a.kind = x := ⟨_, rfl⟩
        rw [hki] at h0 hnx
        have HNx := Lib.hid hnx
        have z3 : (0 : Int) ≤ (k : Int) := by omega
        have z4 : (k : Int) < (n : Int) := by omega
        clear hev ha hki hnx
        by_cases g7 : ki = 7
        · subst g7
          go_wp2_with fail
          go_roundg (n - (k + 1))
          case measure => have := Hgk.out; omega
          case rel => exact ⟨k + 1, by have := Hgk.out; omega, by rw [HNx.out, HCt.out, show dl 7 = 1 from by decide]; (try go_num), by go_num, rfl⟩
        by_cases g12 : ki = 12
        · subst g12
          go_wp2_with fail
          go_roundg (n - (k + 1))
          case measure => have := Hgk.out; omega
          case rel => exact ⟨k + 1, by have := Hgk.out; omega, by rw [HNx.out, HCt.out, show dl 12 = 1 from by decide]; (try go_num), by go_num, rfl⟩
        by_cases g17 : ki = 17
        · subst g17
          go_wp2_with fail
          go_roundg (n - (k + 1))
          case measure => have := Hgk.out; omega
          case rel => exact ⟨k + 1, by have := Hgk.out; omega, by rw [HNx.out, HCt.out, show dl 17 = 1 from by decide]; (try go_num), by go_num, rfl⟩
        by_cases g9 : ki = 9
        · subst g9
          go_wp2_with fail
          go_roundg (n - (k + 1))
          case measure => have := Hgk.out; omega
          case rel => exact ⟨k + 1, by have := Hgk.out; omega, by rw [HNx.out, HCt.out, show dl 9 = -1 from by decide]; (try go_num), by go_num, rfl⟩
        by_cases g10 : ki = 10
        · subst g10
          go_wp2_with fail
          go_roundg (n - (k + 1))
          case measure => have := Hgk.out; omega
          case rel => exact ⟨k + 1, by have := Hgk.out; omega, by rw [HNx.out, HCt.out, show dl 10 = -1 from by decide]; (try go_num), by go_num, rfl⟩
        by_cases g11 : ki = 11
        · subst g11
          go_wp2_with fail
          go_roundg (n - (k + 1))
          case measure => have := Hgk.out; omega
          case rel => exact ⟨k + 1, by have := Hgk.out; omega, by rw [HNx.out, HCt.out, show dl 11 = -1 from by decide]; (try go_num), by go_num, rfl⟩
        by_cases g13 : ki = 13
        · subst g13
          go_wp2_with fail
          go_roundg (n - (k + 1))
          case measure => have := Hgk.out; omega
          case rel => exact ⟨k + 1, by have := Hgk.out; omega, by rw [HNx.out, HCt.out, show dl 13 = -1 from by decide]; (try go_num), by go_num, rfl⟩
        by_cases g14 : ki = 14
        · subst g14
          go_wp2_with fail
          go_roundg (n - (k + 1))
          case measure => have := Hgk.out; omega
          case rel => exact ⟨k + 1, by have := Hgk.out; omega, by rw [HNx.out, HCt.out, show dl 14 = -1 from by decide]; (try go_num), by go_num, rfl⟩
        by_cases g18 : ki = 18
        · subst g18
          go_wp2_with fail
          go_roundg (n - (k + 1))
          case measure => have := Hgk.out; omega
          case rel => exact ⟨k + 1, by have := Hgk.out; omega, by rw [HNx.out, HCt.out, show dl 18 = -1 from by decide]; (try go_num), by go_num, rfl⟩
        have hd : dl ki = 0 := by unfold dl; rw [if_neg (by omega), if_neg (by omega)]
        have HD := Lib.hid hd
        clear hd
        go_wp2_with fail
        go_roundg (n - (k + 1))
        case measure => have := Hgk.out; omega
        case rel => exact ⟨k + 1, by have := Hgk.out; omega, by rw [HNx.out, HCt.out, HD.out]; go_num, by go_num, rfl⟩
      · have hall : xs.take k = xs := by rw [List.take_of_length_le (by rw [HX.out.evs.1]; omega)]
        have z4 : ¬ (k : Int) < (n : Int) := fun h => hlt (by omega)
        have hfin : ct = (n1 : Int) + n2 + n3 := by rw [HSum.out, ← HCt.out, hall]
        subst hfin
        clear hall hlt
        go_wp2_with fail
        refine (rises29_any R1.out (srt_rises HInv.out HMore.out 7)).mono ?_
        rintro e5 w4 ⟨rfl, hk4⟩
        have HK4 := Lib.hid (HK3.out.trans hk4)
        have R2b := Lib.hid (R2.out.kept hk4 (NoCells.none _))
        have R3b := Lib.hid (R3.out.kept hk4 (NoCells.none _))
        clear hk4
        go_wp2_with fail
        refine (rises29_any R2b.out (srt_rises HInv.out HMore.out 12)).mono ?_
        rintro e6 w5 ⟨rfl, hk5⟩
        have HK5 := Lib.hid (HK4.out.trans hk5)
        have R3c := Lib.hid (R3b.out.kept hk5 (NoCells.none _))
        clear hk5
        go_wp2_with fail
        refine (rises29_any R3c.out (srt_rises HInv.out HMore.out 17)).mono ?_
        rintro e7 w6 ⟨rfl, hk6⟩
        go_wp2_with fail
        go_ret
        exact ⟨by simp, HK5.out.trans hk6⟩
#print axioms opens_any
end Go.Proofs.YtndnbjpcjlbcjaaDoor
