/- EventFronts: each front of a history is one; behind what closes it nothing may stand. Printed by wip/tpl/frontsgen.py. -/
import Derived.Test.YtndnbjpcjlbcjaaDoorKnown
import Derived.Test.YtndnbjpcjlbcjaaDoorSameEv
import Derived.Test.YtndnbjpcjlbcjaaDoorEvsArg
import Derived.Deep.RegionHeld3
namespace Go.Proofs.YtndnbjpcjlbcjaaDoor
open Go.RowKit

theorem stat_closes {xs : List EvD} (h0 : statR xs ≠ 0) (h1 : statR xs ≠ 1) : xs.any (fun x => closesB x.kind) = true := by
  unfold statR at h0 h1
  cases hl : xs.getLast? with
  | none => rw [hl] at h0; exact absurd rfl h0
  | some e =>
    rw [hl] at h1
    refine List.any_eq_true.2 ⟨e, List.mem_of_getLast? hl, ?_⟩
    have h1 : statK e.kind ≠ 1 := h1
    unfold statK at h1
    unfold closesB
    simp only [Bool.and_eq_true, decide_eq_true_eq]
    by_cases k1 : e.kind = 19
    · omega
    rw [if_neg k1] at h1
    by_cases k2 : e.kind = 20
    · omega
    rw [if_neg k2] at h1
    by_cases k3 : e.kind = 21
    · omega
    rw [if_neg k3] at h1
    by_cases k4 : e.kind = 22
    · omega
    rw [if_neg k4] at h1
    by_cases k5 : e.kind = 23
    · omega
    rw [if_neg k5] at h1
    exact absurd rfl h1
theorem few_len2 {xs : List EvD} (h : fewB xs = true) : xs.length ≤ 120 := by
  unfold fewB at h
  simp only [Bool.and_eq_true, decide_eq_true_eq] at h
  exact h.1

set_option maxRecDepth 100000 in
set_option maxHeartbeats 4000000 in
theorem fronts_any (A : Option Addr) (n c : Nat) (xs : List EvD) {w : World} (hx : EvsIn w A n c xs) (p : Int) (e : EvD) (A' : Option Addr) (L c' : Nat) (hl : e.data.length = L) (hb : RdB w (.slice A' L c') e.data) (ok : EvOk e) (he : Env w) :
    Calls Tryd.prog 5 #[.slice A n c, .int .i64 p, aggE e (.slice A' L c')] w (TrueEnd w) := by
  have HFew := Lib.hid (fun (W : World) (H : Evs W A n xs) => few_any A n c xs W H)
  have HE := Lib.hid he
  have HX := Lib.hid hx
  have hn := hx.evs.2.1
  obtain ⟨ki, po, re, id, li, nn, bs⟩ := e
  have HB := Lib.hid (show RdB w (.slice A' L c') bs from hb)
  have HOk := Lib.hid ok
  have HL := Lib.hid (show bs.length = L from hl)
  unfold aggE
  simp only
  clear hx hb ok he hl
  obtain ⟨q, hq⟩ : ∃ q, w.heap.size = q := ⟨_, rfl⟩
  obtain ⟨wz, hwz⟩ : ∃ wz, w.alloc (.cells #[.int .i64 ki, .int .i64 po, .int .i64 re, .int .i64 id, .int .i64 li, .int .i64 nn, .slice A' L c'] 24) = wz := ⟨_, rfl⟩
  have HP := Lib.hid (show Blk wz q 24 #[.int .i64 ki, .int .i64 po, .int .i64 re, .int .i64 id, .int .i64 li, .int .i64 nn, .slice A' L c'] from hwz ▸ hq ▸ Blk.new w 24 _)
  have HK := Lib.hid (show Kept NoBlk w wz from hwz ▸ (Kept.refl NoBlk w).alloc _)
  go_enter Tryd.func5, Tryd.ntmps5
  go_upto_region 1 with fail
  clear hwz hq
  go_wp2_with fail
  refine (known_any (HE.out.kept HK.out)).mono ?_
  rintro e1 w1 ⟨rfl, hk1⟩
  have HP1 := Lib.hid (HP.out.kept hk1 (fun e => e.elim))
  have HK1 := Lib.hid (HK.out.trans hk1)
  have p6 : w1.cell? ⟨q, 0 + 6, none⟩ = some (.slice A' L c') := HP1.out.cell 6
  clear hk1 HP HK
  go_wp2_with fail
  refine (HFew.out _ (HX.out.evs.kept HK1.out (NoCells.none _))).mono ?_
  rintro e2 w2 ⟨rfl, rfl⟩
  cases hf : fewB xs
  · go_wp2_with fail
    go_ret
    exact ⟨rfl, HK1.out⟩
  have h120 : n ≤ 120 := by have := few_len2 hf; rw [HX.out.evs.1] at this; exact this
  clear hf
  by_cases hL : 5000 < L
  · have hL2 : (5000 : Int) < (L : Int) := by omega
    go_wp2_with fail
    go_ret
    exact ⟨rfl, HK1.out⟩
  have hL2 : ¬ (5000 : Int) < (L : Int) := by omega
  clear hL
  by_cases hp0 : p < 0
  · go_wp2_with fail
    go_ret
    exact ⟨rfl, HK1.out⟩
  by_cases hpn : (n : Int) < p
  · go_wp2_with fail
    go_ret
    exact ⟨rfl, HK1.out⟩
  obtain ⟨k, rfl⟩ : ∃ k : Nat, p = (k : Int) := ⟨p.toNat, by omega⟩
  have hkn : k ≤ n := by omega
  have HKn := Lib.hid hkn
  go_wp2_with fail
  refine (check_any A n c xs _ (HX.out.evs.kept HK1.out (NoCells.none _)) (by omega)).mono ?_
  rintro e3 w2 ⟨hk3, hr3⟩
  have HP2 := Lib.hid (HP1.out.kept hk3 (fun e => e.elim))
  have HK2 := Lib.hid (HK1.out.trans hk3)
  clear hk3 HP1 HK1 p6
  cases hchk : chk HsD.none_ 0 xs with
  | some r =>
    rw [hchk] at hr3
    obtain ⟨eb, rfl, _, _⟩ := hr3
    go_wp2_with fail
    go_ret
    exact ⟨rfl, HK2.out⟩
  | none =>
    rw [hchk] at hr3
    subst hr3
    have hfr : chk HsD.none_ 0 (xs.take k) = none := chk_front (b := xs.drop k) (by rw [List.take_append_drop]; exact hchk)
    have HFr := Lib.hid hfr
    have HC := Lib.hid hchk
    have hs1 : (0 : Int) ≤ (k : Int) := by omega
    have hs2 : (k : Int) ≤ (c : Int) := by have := HX.out.room; omega
    have hs3 : k ≤ c := by have := HX.out.room; omega
    have HCk := Lib.hid (fun (W : World) (H : Evs W A n xs) => check_any A k c (xs.take k) W (H.front HKn.out) (by omega))
    have HPr := Lib.hid (fun (W : World) (H : Evs W A n xs) => prefix21_self A n c k xs H HKn.out HX.out.room)
    clear hchk hfr
    go_wp2_with fail
    refine (HCk.out _ (HX.out.evs.kept HK2.out (NoCells.none _))).mono ?_
    rintro e4 w2b ⟨hk4, hr4⟩
    rw [HFr.out] at hr4
    subst hr4
    have HK2b := Lib.hid (HK2.out.trans hk4)
    have HP2b := Lib.hid (HP2.out.kept hk4 (fun e => e.elim))
    clear hk4
    go_wp2_with fail
    refine (HPr.out _ (HX.out.evs.kept HK2b.out (NoCells.none _))).mono ?_
    rintro e5 w2c ⟨rfl, hk5⟩
    have HK2c := Lib.hid (HK2b.out.trans hk5)
    have HP2c := Lib.hid (HP2b.out.kept hk5 (fun e => e.elim))
    clear hk5
    go_wp2_with fail
    refine (status22_any A n c xs _ (HX.out.evs.kept HK2c.out (NoCells.none _))).mono ?_
    rintro e6 w3 ⟨rfl, hk6⟩
    have HK3 := Lib.hid (HK2c.out.trans hk6)
    have HP3 := Lib.hid (HP2c.out.kept hk6 (fun e => e.elim))
    obtain ⟨st, hst⟩ : ∃ st, statR xs = st := ⟨_, rfl⟩
    rw [hst]
    have HSt := Lib.hid hst
    clear hk6 hst
    by_cases s0 : st = 0
    · have s02 : (st == 0) = true := by simpa using s0
      clear s0
      go_wp2_with fail
      go_ret
      exact ⟨rfl, HK3.out⟩
    have s02 : (st == 0) = false := by simpa using s0
    by_cases s1 : st = 1
    · have s12 : (st == 1) = true := by simpa using s1
      clear s0 s1
      go_wp2_with fail
      go_ret
      exact ⟨rfl, HK3.out⟩
    have s12 : (st == 1) = false := by simpa using s1
    have hcl := stat_closes (xs := xs) (by rw [HSt.out]; exact s0) (by rw [HSt.out]; exact s1)
    have hmore := after_close HC.out hcl ⟨ki, po, re, id, li, nn, bs⟩
    have HMore := Lib.hid hmore
    clear s0 s1 hcl hmore
    obtain ⟨cs, hcs, hmem⟩ := (HX.out.evs.kept HK3.out (NoCells.none _)).cells
    have HCs := Lib.hid hcs
    have HMem := Lib.hid hmem
    have hlen : cs.length = n * 7 := by rw [hcs.len, HX.out.evs.1]
    have HLen := Lib.hid hlen
    clear hcs hmem hlen
    go_upto_region 12 with fail
    clear hL2 s02 s12 hs1 hs2 hs3 hp0 hpn
    go_region_held3 (fun w' => w'.cell? ⟨q, 0, none⟩ = some (.int .i64 ki) ∧ w'.cell? ⟨q, 0 + 1, none⟩ = some (.int .i64 po) ∧ w'.cell? ⟨q, 0 + 2, none⟩ = some (.int .i64 re) ∧ w'.cell? ⟨q, 0 + 3, none⟩ = some (.int .i64 id) ∧ w'.cell? ⟨q, 0 + 4, none⟩ = some (.int .i64 li) ∧ w'.cell? ⟨q, 0 + 5, none⟩ = some (.int .i64 nn) ∧ w'.cell? ⟨q, 0 + 6, none⟩ = some (.slice A' L c'))
      (first
        | exact s7 HP3.out.drew
        | exact s7 (HP3.out.alloc _).drew
        | exact s7 ((HP3.out.alloc _).alloc _).drew
        | exact s7 P4.out
        | exact s7 (P4.out.alloc _)
        | exact s7 (HP3.out.kept K5.out (fun e => e.elim)))
      (first
        | (refine step_append_evs rfl (.tmp 54) (.tmp 55) rfl w3.heap.size (.slice (some ⟨w3.heap.size, 0, none⟩) 0 0) 0 [] (by rfl) (own_empty (g := w3.heap.size) (base := w3.heap.size) ((Blk.new w3 24 #[]).drew) (by omega)) A n c (by rfl) cs HLen.out HX.out.nil (fun ad had j u hu => (((Kept.refl NoBlk w3).alloc _).drew).cell (HMem.out ad had j u hu) (fun e => e.elim)) HCs.out.single (by omega) (by first | (simp; done) | (simp; omega)) ?_; intro A4 m4 c4 w4 hown4 hg4; have O4 := Lib.hid (show w4.ownsRow w3.heap.size 24 7 (.slice A4 m4 c4) n cs by simpa using hown4); have K4 := Lib.hid (show Kept NoBlk w3 w4 from (((Kept.refl NoBlk w3).alloc _).drew).grown hg4 (fun k hk => Or.inr (by cases hk; first | exact Nat.le_refl _ | exact Nat.le_succ _))); have P4 := Lib.hid (HP3.out.kept K4.out (fun e => e.elim)); clear hown4 hg4)
        | (refine step_append_evs rfl (.tmp 54) (.tmp 55) rfl w3.heap.size (.slice (some ⟨w3.heap.size, 0, none⟩) 0 0) 0 [] (by rfl) (own_empty (g := w3.heap.size) (base := w3.heap.size) (((Blk.new w3 24 #[]).alloc _).drew) (by omega)) A n c (by rfl) cs HLen.out HX.out.nil (fun ad had j u hu => ((((Kept.refl NoBlk w3).alloc _).alloc _).drew).cell (HMem.out ad had j u hu) (fun e => e.elim)) HCs.out.single (by omega) (by first | (simp; done) | (simp; omega)) ?_; intro A4 m4 c4 w4 hown4 hg4; have O4 := Lib.hid (show w4.ownsRow w3.heap.size 24 7 (.slice A4 m4 c4) n cs by simpa using hown4); have K4 := Lib.hid (show Kept NoBlk w3 w4 from ((((Kept.refl NoBlk w3).alloc _).alloc _).drew).grown hg4 (fun k hk => Or.inr (by cases hk; first | exact Nat.le_refl _ | exact Nat.le_succ _))); have P4 := Lib.hid (HP3.out.kept K4.out (fun e => e.elim)); have B4 := Lib.hid (show Blk w4 (w3.heap.size + 1) 24 #[.int .i64 ki, .int .i64 po, .int .i64 re, .int .i64 id, .int .i64 li, .int .i64 nn, .slice A' L c'] from (show Blk _ (w3.heap.size + 1) 24 #[.int .i64 ki, .int .i64 po, .int .i64 re, .int .i64 id, .int .i64 li, .int .i64 nn, .slice A' L c'] from by have := (Blk.new (w3.alloc (.cells #[] 24)) 24 #[.int .i64 ki, .int .i64 po, .int .i64 re, .int .i64 id, .int .i64 li, .int .i64 nn, .slice A' L c']).drew; simpa using this).grown hg4 (by intro h; have h := Option.some.inj h; have h2 : (w3.heap.size + 1 : Nat) = w3.heap.size := h; omega)); clear hown4 hg4)
        | (refine step_append_evs rfl (.tmp 54) (.tmp 55) rfl w3.heap.size (.slice (some ⟨(w3.heap.size + 1), 0, none⟩) 0 0) 0 [] (by rfl) (own_empty (g := (w3.heap.size + 1)) (base := w3.heap.size) (by have := (Blk.new (w3.alloc (.cells #[.int .i64 ki, .int .i64 po, .int .i64 re, .int .i64 id, .int .i64 li, .int .i64 nn, .slice A' L c'] 24)) 24 #[]).drew; simpa using this) (by omega)) A n c (by rfl) cs HLen.out HX.out.nil (fun ad had j u hu => ((((Kept.refl NoBlk w3).alloc _).alloc _).drew).cell (HMem.out ad had j u hu) (fun e => e.elim)) HCs.out.single (by omega) (by first | (simp; done) | (simp; omega)) ?_; intro A4 m4 c4 w4 hown4 hg4; have O4 := Lib.hid (show w4.ownsRow w3.heap.size 24 7 (.slice A4 m4 c4) n cs by simpa using hown4); have K4 := Lib.hid (show Kept NoBlk w3 w4 from ((((Kept.refl NoBlk w3).alloc _).alloc _).drew).grown hg4 (fun k hk => Or.inr (by cases hk; first | exact Nat.le_refl _ | exact Nat.le_succ _))); have P4 := Lib.hid (HP3.out.kept K4.out (fun e => e.elim)); have B4 := Lib.hid (show Blk w4 w3.heap.size 24 #[.int .i64 ki, .int .i64 po, .int .i64 re, .int .i64 id, .int .i64 li, .int .i64 nn, .slice A' L c'] from (show Blk _ w3.heap.size 24 #[.int .i64 ki, .int .i64 po, .int .i64 re, .int .i64 id, .int .i64 li, .int .i64 nn, .slice A' L c'] from ((Blk.new w3 24 #[.int .i64 ki, .int .i64 po, .int .i64 re, .int .i64 id, .int .i64 li, .int .i64 nn, .slice A' L c']).alloc _).drew).grown hg4 (by intro h; have h := Option.some.inj h; have h2 : (w3.heap.size : Nat) = w3.heap.size + 1 := h; omega)); clear hown4 hg4)
        | (refine step_append_evs rfl (.tmp 56) (.tmp 58) rfl w3.heap.size _ n cs (by rfl) (own_kept O4.out ((Kept.refl NoBlk w4).alloc _)) (some ⟨_, 0, none⟩) 1 1 (by rfl) (evCells (⟨ki, po, re, id, li, nn, bs⟩ : EvD) (.slice A' L c')) rfl (fun h => by cases h) (news_blk (e := (⟨ki, po, re, id, li, nn, bs⟩ : EvD)) (Blk.new w4 24 _)) (Cells.one (w0 := w) HB.out HOk.out).single (by omega) (by first | exact K4.out.size | (simp; exact Nat.le_succ_of_le K4.out.size)) ?_; intro A5 m5 c5 w5 hown5 hg5; have O5 := Lib.hid hown5; have K5 := Lib.hid (show Kept NoBlk w3 w5 from (K4.out.trans ((Kept.refl NoBlk w4).alloc _)).grown hg5 (fun k hk => Or.inr (O4.out.lt k hk).1)); clear hown5 hg5)
        | (refine step_append_evs rfl (.tmp 56) (.tmp 58) rfl w3.heap.size _ n cs (by rfl) (own_kept O4.out (Kept.refl NoBlk w4)) (some ⟨_, 0, none⟩) 1 1 (by rfl) (evCells (⟨ki, po, re, id, li, nn, bs⟩ : EvD) (.slice A' L c')) rfl (fun h => by cases h) (news_blk (e := (⟨ki, po, re, id, li, nn, bs⟩ : EvD)) (B4.out)) (Cells.one (w0 := w) HB.out HOk.out).single (by omega) (by first | exact K4.out.size | (simp; exact Nat.le_succ_of_le K4.out.size)) ?_; intro A5 m5 c5 w5 hown5 hg5; have O5 := Lib.hid hown5; have K5 := Lib.hid (show Kept NoBlk w3 w5 from (K4.out.trans (Kept.refl NoBlk w4)).grown hg5 (fun k hk => Or.inr (O4.out.lt k hk).1)); clear hown5 hg5))
    all_goals
      obtain ⟨g5, cap5, hv5, _, _⟩ := O5.out.form (by omega)
      injection hv5 with e1 e2 e3
      subst e1 e2 e3
      have HM := Lib.hid (Evs.own (xs := xs ++ [(⟨ki, po, re, id, li, nn, bs⟩ : EvD)]) (Cells.app (Cells.one (HB.out.kept HK3.out (NoCells.none _)) HOk.out) HCs.out) O5.out K5.out (by omega) (by rw [List.length_append, HX.out.evs.1]; rfl))
      have HK5 := Lib.hid (HK3.out.trans K5.out)
      go_wp2_with fail
      refine (check_any _ (n + 1) _ _ _ HM.out (by omega)).mono ?_
      rintro e7 w7 ⟨hk7, hr7⟩
      have HK7 := Lib.hid (HK5.out.trans hk7)
      clear hk7
      cases hres : chk HsD.none_ 0 (xs ++ [(⟨ki, po, re, id, li, nn, bs⟩ : EvD)]) with
      | none => exact absurd hres HMore.out
      | some r =>
        rw [hres] at hr7
        obtain ⟨eb, rfl, _, _⟩ := hr7
        clear hres
        go_wp2_with fail
        go_ret
        exact ⟨rfl, HK7.out⟩
#print axioms fronts_any
end Go.Proofs.YtndnbjpcjlbcjaaDoor
