/- What Put does. -/
import Derived.Test.YtgopebigmcbbkaaLook
import Derived.Deep.RegionWith
import Derived.LoopTactic
import Derived.Deep.DeepCutAuto
import Derived.Deep.LoopGhost
namespace Go.Proofs.Ytgopebigmcbbkaa
open Go.RowKit Go.Maps
open Go.ChangeMaps (setBlock)

section
variable {β : Type}
/-- Without (c, lo), .., (c, lo + j - 1). -/
def delN (L : List ((Int × Int) × β)) (c lo : Int) : Nat → List ((Int × Int) × β)
  | 0 => L
  | j + 1 => adel (delN L c lo j) (c, lo + j)
end

set_option maxHeartbeats 400000 in
theorem put_not {w : World} {tb lb mb : Nat} {W : Int} {L : List ((Int × Int) × List UInt8)} {T : List (Int × Int)} (h : Tab w tb lb mb W L T) (hok : okTab W T) (c s : Int) (v : Value) (hne : ¬ lookOf W L T c s = 0) :
    Calls Try.prog 9 #[.pointer (some ⟨tb, 0, none⟩), .int .i64 c, .int .i64 s, v] w fun e w' => e = .returned (.int .i64 (lookOf W L T c s)) ∧ Kept NoBlk w w' := by
  have hl := look_any h hok c s
  unfold LookAny at hl
  generalize lookOf W L T c s = k at hl hne ⊢
  have H := Lib.hid hl
  clear hl h hok
  have hk : (k != 0) = true := by simpa using hne
  go_enter Try.func9, Try.ntmps9
  go_wp2_with (go_at_call 10; refine H.out.mono ?_; rintro e w1 ⟨v1, rfl, _, hk1⟩)
  go_ret
  exact ⟨rfl, hk1⟩

theorem kept_setBlock {S : Nat → Prop} (w : World) (b : Nat) (o : Obj) (hb : S b) : Kept S w (setBlock w b o) := (Kept.refl S w).setBlock (Or.inl hb) o

theorem setBlock_other {w : World} {b k : Nat} (o : Obj) (hne : k ≠ b) : (setBlock w b o).heap[k]? = w.heap[k]? := by
  simp only [setBlock, Array.getElem?_setIfInBounds]
  rw [if_neg (fun e => hne e.symm)]

theorem Tab.ne {w : World} {tb lb mb : Nat} {W : Int} {L : List ((Int × Int) × List UInt8)} {T : List (Int × Int)} (h : Tab w tb lb mb W L T) : tb ≠ lb ∧ tb ≠ mb := by
  have hb := h.box
  unfold Blk at hb
  exact ⟨fun e => h.ans.noCells _ _ _ (e ▸ hb), fun e => h.top.noCells _ _ _ (e ▸ hb)⟩

/-- 't.l[k] = v', as an equation of the operation's run. -/
theorem Tab.put_run {w : World} {tb lb mb : Nat} {W : Int} {L : List ((Int × Int) × List UInt8)} {T : List (Int × Int)} (h : Tab w tb lb mb W L T) (hlm : lb ≠ mb) {v : Value} {bs : List UInt8} (hv : RdB w v bs) {c s : Int} (hr : okReq c s) :
    ∃ w', (Instr.mapUpdate 46 (.map (some lb)) (.agg #[.int .i64 c, .int .i64 s]) v).run Try.prog w = .ok () w' ∧ Tab w' tb lb mb W (aput L (c, s) bs) T ∧ Kept (Two lb mb) w w' := by
  obtain ⟨wc, ws⟩ := wf_ok hr
  obtain ⟨kl, hkl⟩ := key51 (p := (c, s)) wc ws
  obtain ⟨o, hrun, hmap⟩ := h.ans.update law51 Try.underlying46 kk_inj hkl hv
  have hk : Kept (Two lb mb) w (setBlock w lb o) := kept_setBlock w lb o (Or.inl rfl)
  refine ⟨_, hrun, ⟨?_, hmap.imp (fun v x hx => hx.kept hk h.noCells), ?_⟩, hk⟩
  · exact (setBlock_other o h.ne.1).trans h.box
  · exact h.top.same (setBlock_other o hlm.symm)

/-- 't.top[c] = s'. -/
theorem Tab.top_run {w : World} {tb lb mb : Nat} {W : Int} {L : List ((Int × Int) × List UInt8)} {T : List (Int × Int)} (h : Tab w tb lb mb W L T) (hlm : lb ≠ mb) {c s : Int} (hr : okReq c s) :
    ∃ w', (Instr.mapUpdate 37 (.map (some mb)) (.int .i64 c) (.int .i64 s)).run Try.prog w = .ok () w' ∧ Tab w' tb lb mb W L (aput T c s) ∧ Kept (Two lb mb) w w' := by
  obtain ⟨wc, ws⟩ := wf_ok hr
  obtain ⟨o, hrun, hmap⟩ := h.top.update law3 Try.underlying37 iv_inj (key3 wc) (x := s) rfl
  have hk : Kept (Two lb mb) w (setBlock w mb o) := kept_setBlock w mb o (Or.inr rfl)
  refine ⟨_, hrun, ⟨?_, (h.ans.same (setBlock_other o hlm)).imp (fun v x hx => hx.kept hk h.noCells), hmap⟩, hk⟩
  exact (setBlock_other o h.ne.2).trans h.box

/-- 'delete(t.l, k)'. -/
theorem Tab.del_run {w : World} {tb lb mb : Nat} {W : Int} {L : List ((Int × Int) × List UInt8)} {T : List (Int × Int)} (h : Tab w tb lb mb W L T) (hlm : lb ≠ mb) {c s : Int} (hc : wf c) (hs : wf s) (ty : TypeId) :
    ∃ w', (Builtin.delete_ #[46, 51] ty #[.map (some lb), .agg #[.int .i64 c, .int .i64 s]]).run Try.prog w = .ok (.tuple #[]) w' ∧ Tab w' tb lb mb W (adel L (c, s)) T ∧ Kept (Two lb mb) w w' := by
  obtain ⟨kl, hkl⟩ := key51 (p := (c, s)) hc hs
  obtain ⟨o, hrun, hmap⟩ := h.ans.delete (ty := ty) law51 Try.underlying46 kk_inj hkl
  have hk : Kept (Two lb mb) w (setBlock w lb o) := kept_setBlock w lb o (Or.inl rfl)
  refine ⟨_, hrun, ⟨?_, hmap.imp (fun v x hx => hx.kept hk h.noCells), ?_⟩, hk⟩
  · exact (setBlock_other o h.ne.1).trans h.box
  · exact h.top.same (setBlock_other o hlm.symm)

set_option maxHeartbeats 400000 in
theorem put_small {w : World} {tb lb mb : Nat} {W : Int} {L : List ((Int × Int) × List UInt8)} {T : List (Int × Int)} (h : Tab w tb lb mb W L T) (hok : okTab W T) (c s : Int) (v : Value) (bs : List UInt8) (hv : RdB w v bs)
    (he : lookOf W L T c s = 0) (hs : ¬ (aget T c).getD 0 < s) (hr : okReq c s) (hlm : lb ≠ mb) :
    Calls Try.prog 9 #[.pointer (some ⟨tb, 0, none⟩), .int .i64 c, .int .i64 s, v] w fun e w' => e = .returned (.int .i64 0) ∧ Tab w' tb lb mb W (aput L (c, s) bs) T ∧ Kept (Two lb mb) w w' := by
  have hl := look_any h hok c s
  unfold LookAny at hl
  rw [he] at hl
  obtain ⟨t, ht⟩ : ∃ t, (aget T c).getD 0 = t := ⟨_, rfl⟩
  rw [ht] at hs
  have Ht := Lib.hid ht
  have HL := Lib.hid hl
  have HT := Lib.hid h
  have HV := Lib.hid hv
  clear hl h hok he hv ht
  go_enter Try.func9, Try.ntmps9
  go_wp2_with (go_at_call 10; refine HL.out.mono ?_; rintro e w1 ⟨v1, rfl, _, hk1⟩)
  have HT1 := Lib.hid (HT.out.kept hk1)
  have HV1 := Lib.hid (HV.out.kept hk1 (NoCells.none w))
  have c1 : w1.cell? ⟨tb, 0 + 1, none⟩ = some (.map (some lb)) := HT1.out.box.cell 1
  go_region_with (go_at_call 17; refine (clone_any v bs _ (HV1.out.kept ((Kept.refl NoBlk w1).drewN _) (NoCells.none w1))).mono ?_; rintro e w2 ⟨v2, rfl, hv2, hk2⟩; have c1' : w2.cell? ⟨tb, 0 + 1, none⟩ = some (.map (some lb)) := ((HT1.out.kept ((Kept.refl NoBlk w1).drewN _)).kept hk2).box.cell 1; obtain ⟨w3, hrun, hT3, hk3⟩ := ((HT1.out.kept ((Kept.refl NoBlk w1).drewN _)).kept hk2).put_run hlm hv2 hr; have HT3 := Lib.hid hT3; clear hT3)
  all_goals
    have c2 : w3.cell? ⟨tb, 0 + 2, none⟩ = some (.map (some mb)) := HT3.out.box.cell 2
    have hlt : (Instr.lookup 37 (.map (some mb)) (.int .i64 c) false).run Try.prog w3 = .ok (.int .i64 t) w3 := by rw [← Ht.out]; exact look_top HT3.out (wf_ok hr).1
    clear c1
    go_wp2
    go_ret
    exact ⟨rfl, HT3.out, (hk1.drewN _).none.trans (hk2.none.trans hk3)⟩
set_option maxHeartbeats 800000 in
theorem put_big {w : World} {tb lb mb : Nat} {W : Int} {L : List ((Int × Int) × List UInt8)} {T : List (Int × Int)} (h : Tab w tb lb mb W L T) (hok : okTab W T) (c s : Int) (v : Value) (bs : List UInt8) (hv : RdB w v bs)
    (he : lookOf W L T c s = 0) (hs : (aget T c).getD 0 < s) (hr : okReq c s) (hlm : lb ≠ mb) :
    Calls Try.prog 9 #[.pointer (some ⟨tb, 0, none⟩), .int .i64 c, .int .i64 s, v] w fun e w' => e = .returned (.int .i64 0) ∧
      Tab w' tb lb mb W (delN (aput L (c, s) bs) c (max ((aget T c).getD 0 - W + 1) 1) (min (s - W) ((aget T c).getD 0) + 1 - max ((aget T c).getD 0 - W + 1) 1).toNat) (aput T c s) ∧ Kept (Two lb mb) w w' := by
  have hl := look_any h hok c s
  unfold LookAny at hl
  rw [he] at hl
  have htb := top_bound hok c
  obtain ⟨t, ht⟩ : ∃ t, (aget T c).getD 0 = t := ⟨_, rfl⟩
  rw [ht] at hs htb ⊢
  obtain ⟨b1, b2⟩ := htb
  obtain ⟨b3, b4⟩ := hok.1
  obtain ⟨b5, b6, b7, b8⟩ := hr
  have Ht := Lib.hid ht
  have HL := Lib.hid hl
  have HT := Lib.hid h
  have HV := Lib.hid hv
  clear hl h hok he hv ht
  obtain ⟨lo, hlo⟩ : ∃ lo, max (t - W + 1) 1 = lo := ⟨_, rfl⟩
  obtain ⟨hi, hhi⟩ : ∃ hi, min (s - W) t = hi := ⟨_, rfl⟩
  rw [hlo, hhi]
  have k1 : 1 ≤ lo := by omega
  have k2 : lo ≤ t + 1 := by omega
  have k3 : hi ≤ t := by omega
  have k4 : -4096 ≤ hi := by omega
  obtain ⟨N, hN⟩ : ∃ N, (hi + 1 - lo).toNat = N := ⟨_, rfl⟩
  rw [hN]
  have n1 : hi < lo + N := by omega
  have n2 : N = 0 ∨ lo + N ≤ hi + 1 := by omega
  have HN := Lib.hid n2
  have Hlo := Lib.hid hlo
  have Hhi := Lib.hid hhi
  clear hlo hhi hN n2
  go_enter Try.func9, Try.ntmps9
  go_upto_region 4 with (go_at_call 10; refine HL.out.mono ?_; rintro e w1 ⟨v1, rfl, _, hk1⟩)
  go_cut [] (fun wx => Tab wx tb lb mb W (aput L (c, s) bs) T ∧ Kept (Two lb mb) w wx)
  case first =>
    have HT1 := Lib.hid (HT.out.kept hk1)
    have HV1 := Lib.hid (HV.out.kept hk1 (NoCells.none w))
    have c1 : w1.cell? ⟨tb, 0 + 1, none⟩ = some (.map (some lb)) := HT1.out.box.cell 1
    go_region_with (go_at_call 17; refine (clone_any v bs _ (HV1.out.kept ((Kept.refl NoBlk w1).drewN _) (NoCells.none w1))).mono ?_; rintro e w2 ⟨v2, rfl, hv2, hk2⟩; have c1' : w2.cell? ⟨tb, 0 + 1, none⟩ = some (.map (some lb)) := ((HT1.out.kept ((Kept.refl NoBlk w1).drewN _)).kept hk2).box.cell 1; obtain ⟨w3, hrun, hT3, hk3⟩ := ((HT1.out.kept ((Kept.refl NoBlk w1).drewN _)).kept hk2).put_run hlm hv2 ⟨b5, b6, b7, b8⟩; have HT3 := Lib.hid hT3; clear hT3)
    all_goals (go_wp2_with fail; go_meet; exact ⟨HT3.out, (hk1.drewN _).none.trans (hk2.none.trans hk3)⟩)
  case rest =>
    obtain ⟨hT3, hk3⟩ := hcut
    have HT3 := Lib.hid hT3
    clear hT3
    have c2 : wc.cell? ⟨tb, 0 + 2, none⟩ = some (.map (some mb)) := HT3.out.box.cell 2
    have hlt : (Instr.lookup 37 (.map (some mb)) (.int .i64 c) false).run Try.prog wc = .ok (.int .i64 t) wc := by rw [← Ht.out]; exact look_top HT3.out (wf_ok ⟨b5, b6, b7, b8⟩).1
    obtain ⟨w4, hrun4, hT4, hk4⟩ := HT3.out.top_run hlm ⟨b5, b6, b7, b8⟩
    have HT4 := Lib.hid hT4
    clear hT4
    have d0 : w4.cell? ⟨tb, 0, none⟩ = some (.int .i64 W) := HT4.out.box.cell 0
    go_upto_region 8 with fail
    go_cut [12] (fun u wx => u = .int .i64 lo ∧ wx = w4)
    case first =>
      go_wp2
      all_goals (go_meet; exact ⟨by congr 1; have := Hlo.out; omega, rfl⟩)
    case rest =>
      obtain ⟨hu, hw⟩ := hcut
      subst hu
      subst hw
      have HK := Lib.hid (hk3.trans hk4)
      clear hrun4 hlt c2 d0 hk3 hk4
      go_wp2_with fail
      go_loopg [12] N (fun g k wr => ∃ j : Nat, g + j = N ∧ k = .int .i64 (lo + j) ∧ Tab wr tb lb mb W (delN (aput L (c, s) bs) c lo j) (aput T c s) ∧ Kept (Two lb mb) w wr)
      case atStart => exact ⟨0, by omega, by simp, HT4.out, HK.out⟩
      case round =>
        obtain ⟨j, hj, rfl, hTr, hKr⟩ := hrel
        have HTr := Lib.hid hTr
        have HKr := Lib.hid hKr
        have Hj := Lib.hid hj
        have d0 : wr.cell? ⟨tb, 0, none⟩ = some (.int .i64 W) := hTr.box.cell 0
        have d1 : wr.cell? ⟨tb, 0 + 1, none⟩ = some (.map (some lb)) := hTr.box.cell 1
        clear hTr hKr hj HT4 HK HT HV HL Ht HT3
        by_cases hlt : lo + j ≤ hi
        · have r1 : lo + j ≤ s - W := by have := Hhi.out; omega
          have r2 : lo + j ≤ t := by omega
          have wk : wf (lo + j) := wf_of (by omega) (by omega)
          obtain ⟨w5, hrun5, hT5, hk5⟩ := HTr.out.del_run hlm (c := c) (s := lo + j) (wf_ok ⟨b5, b6, b7, b8⟩).1 wk 0
          have HT5 := Lib.hid hT5
          have HK5 := Lib.hid (HKr.out.trans hk5)
          clear hT5 hk5
          by_cases hm : s - W ≤ t
          all_goals
            go_wp2
            go_roundg (gk - 1)
            case measure => have := Hj.out; omega
            case rel => exact ⟨j + 1, by have := Hj.out; omega, by congr 1; omega, HT5.out, HK5.out⟩
        · have hjN : j = N := by
            have e1 := Hj.out
            have e2 := HN.out
            omega
          subst hjN
          by_cases hm : s - W ≤ t
          · have r3 : ¬ lo + j ≤ s - W := by have := Hhi.out; omega
            go_wp2
            go_ret
            exact ⟨rfl, HTr.out, HKr.out⟩
          · have r3 : ¬ lo + j ≤ t := by have := Hhi.out; omega
            go_wp2
            go_ret
            exact ⟨rfl, HTr.out, HKr.out⟩

/-- What Put leaves of the answers, and of the tops. -/
def putL (W : Int) (L : List ((Int × Int) × List UInt8)) (T : List (Int × Int)) (c s : Int) (bs : List UInt8) : List ((Int × Int) × List UInt8) :=
  if lookOf W L T c s = 0 then
    if (aget T c).getD 0 < s then delN (aput L (c, s) bs) c (max ((aget T c).getD 0 - W + 1) 1) (min (s - W) ((aget T c).getD 0) + 1 - max ((aget T c).getD 0 - W + 1) 1).toNat
    else aput L (c, s) bs
  else L
def putT (W : Int) (L : List ((Int × Int) × List UInt8)) (T : List (Int × Int)) (c s : Int) : List (Int × Int) :=
  if lookOf W L T c s = 0 then if (aget T c).getD 0 < s then aput T c s else T else T

def PutEnd (W : Int) (L : List ((Int × Int) × List UInt8)) (T : List (Int × Int)) (tb lb mb : Nat) (c s : Int) (bs : List UInt8) (w : World) (e : Ending) (w' : World) : Prop :=
  e = .returned (.int .i64 (lookOf W L T c s)) ∧ Tab w' tb lb mb W (putL W L T c s bs) (putT W L T c s) ∧ Kept (Two lb mb) w w'

theorem lookOf_zero {W : Int} {L : List ((Int × Int) × List UInt8)} {T : List (Int × Int)} {c s : Int} (h : lookOf W L T c s = 0) : okReq c s ∧ ¬ s ≤ (aget T c).getD 0 - W ∧ aget L (c, s) = none := by
  unfold lookOf at h
  by_cases h1 : okReq c s
  · rw [if_neg (by simpa using h1)] at h
    by_cases h2 : s ≤ (aget T c).getD 0 - W
    · rw [if_pos h2] at h
      omega
    · rw [if_neg h2] at h
      cases ha : aget L (c, s) with
      | none => exact ⟨h1, h2, rfl⟩
      | some x => rw [ha] at h; simp at h
  · rw [if_pos h1] at h
    omega

/-- 'Put', at whatever request. -/
theorem put_any {w : World} {tb lb mb : Nat} {W : Int} {L : List ((Int × Int) × List UInt8)} {T : List (Int × Int)} (h : Tab w tb lb mb W L T) (hok : okTab W T) (hlm : lb ≠ mb) (c s : Int) (v : Value) (bs : List UInt8) (hv : RdB w v bs) :
    Calls Try.prog 9 #[.pointer (some ⟨tb, 0, none⟩), .int .i64 c, .int .i64 s, v] w (PutEnd W L T tb lb mb c s bs w) := by
  by_cases he : lookOf W L T c s = 0
  · obtain ⟨hr, _, _⟩ := lookOf_zero he
    by_cases hs : (aget T c).getD 0 < s
    · refine (put_big h hok c s v bs hv he hs hr hlm).mono ?_
      rintro e w' ⟨rfl, hT, hk⟩
      exact ⟨by rw [he], by rw [putL, putT, if_pos he, if_pos he, if_pos hs, if_pos hs]; exact hT, hk⟩
    · refine (put_small h hok c s v bs hv he hs hr hlm).mono ?_
      rintro e w' ⟨rfl, hT, hk⟩
      exact ⟨by rw [he], by rw [putL, putT, if_pos he, if_pos he, if_neg hs, if_neg hs]; exact hT, hk⟩
  · refine (put_not h hok c s v he).mono ?_
    rintro e w' ⟨rfl, hk⟩
    exact ⟨rfl, by rw [putL, putT, if_neg he, if_neg he]; exact h.kept hk, hk.none⟩

/-- The tops stay requests that may be. -/
theorem okTab_put {W : Int} {L : List ((Int × Int) × List UInt8)} {T : List (Int × Int)} (hok : okTab W T) (c s : Int) : okTab W (putT W L T c s) := by
  unfold putT
  split
  · rename_i he
    obtain ⟨hr, _, _⟩ := lookOf_zero he
    split
    · refine ⟨hok.1, fun c' t' h => ?_⟩
      rw [aget_aput] at h
      by_cases hc : c = c'
      · rw [if_pos hc] at h
        cases h
        exact ⟨hr.2.2.1, hr.2.2.2⟩
      · rw [if_neg hc] at h
        exact hok.2 c' t' h
    · exact hok
  · exact hok

#print axioms put_any
end Go.Proofs.Ytgopebigmcbbkaa
