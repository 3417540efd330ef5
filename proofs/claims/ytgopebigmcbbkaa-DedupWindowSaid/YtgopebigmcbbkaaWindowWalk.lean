/- What DedupWindow does: it returns true, and turns nothing that was there. -/
import Derived.Test.YtgopebigmcbbkaaWin
import Derived.Test.YtgopebigmcbbkaaSameWalk
import Derived.Maps.RangeWalk
namespace Go.Proofs.Ytgopebigmcbbkaa
open Go.RowKit Go.Maps

/-! ### Plain facts -/

theorem seqsN_in {β : Type} {L : List ((Int × Int) × β)} {c lo s : Int} (hs : (aget L (c, s)).isSome = true) : ∀ {j : Nat}, lo ≤ s → s < lo + j → s ∈ seqsN L c lo j
  | 0, h1, h2 => by omega
  | j + 1, h1, h2 => by
    unfold seqsN
    rw [List.mem_append]
    by_cases e : s = lo + (j : Int)
    · right
      rw [← e, if_pos hs]
      simp
    · left
      exact seqsN_in hs h1 (by omega)
theorem seqsOf_in {β : Type} {W : Int} {L : List ((Int × Int) × β)} {T : List (Int × Int)} {c s : Int} (hs : (aget L (c, s)).isSome = true) (h1 : 1 ≤ s) (h2 : s ≤ (aget T c).getD 0) (h3 : (aget T c).getD 0 - W < s) : s ∈ seqsOf W L T c := by
  unfold seqsOf
  refine seqsN_in hs ?_ ?_
  · unfold seqLo
    omega
  · unfold seqLo
    omega
theorem seqsOf_window {β : Type} {W : Int} (L : List ((Int × Int) × β)) {T : List (Int × Int)} (hok : okTab W T) (c : Int) : ((seqsOf W L T c).length : Int) ≤ W := by
  unfold seqsOf
  have h1 := seqsN_length L c (seqLo W T c) ((aget T c).getD 0 + 1 - seqLo W T c).toNat
  have h2 := top_bound hok c
  have h3 := hok.1
  unfold seqLo at *
  omega

/-- Each client's greatest request is remembered. -/
def Held (S : St) : Prop := ∀ c t, aget S.2 c = some t → (aget S.1 (c, t)).isSome = true
theorem Held.start : Held ([], []) := by intro c t h; cases h
theorem Held.step {W : Int} {S : St} (h : Held S) (a : ActD) (hW : 1 ≤ W) : Held (stepS W S a) := by
  intro c t ht
  by_cases hc : a.client = c
  · change aget (putT W S.1 S.2 a.client a.seq) c = some t at ht
    show (aget (putL W S.1 S.2 a.client a.seq a.ans) (c, t)).isSome = true
    unfold putT at ht
    unfold putL
    by_cases h0 : lookOf W S.1 S.2 a.client a.seq = 0
    · rw [if_pos h0] at ht ⊢
      by_cases h1 : (aget S.2 a.client).getD 0 < a.seq
      · rw [if_pos h1] at ht ⊢
        rw [hc, aget_aput, if_pos rfl] at ht
        cases ht
        rw [aget_delN_out _ (Or.inr (out_of_range (by omega))), aget_aput, hc, if_pos rfl]
        rfl
      · rw [if_neg h1] at ht ⊢
        rw [aget_aput]
        split
        · rfl
        · exact h c t ht
    · rw [if_neg h0] at ht ⊢
      exact h c t ht
  · have ha := At.other (W := W) (S := S) a hc
    rw [← ha.1 t]
    rw [← ha.2] at ht
    exact h c t ht
theorem runS_held {W : Int} (hW : 1 ≤ W) : ∀ (xs : List ActD) {S : St}, Held S → Held (runS W S xs)
  | [], _, h => h
  | a :: xs, _, h => runS_held hW xs (h.step a hW)
theorem Held.pos {W : Int} {S : St} (h : Held S) (hok : okTab W S.2) {c : Int} (hc : c ∈ S.2.map (·.1)) : 0 < (seqsOf W S.1 S.2 c).length := by
  cases ht : aget S.2 c with
  | none => exact absurd hc (aget_none.1 ht)
  | some t =>
    have h1 := hok.2 c t ht
    have h2 := hok.1
    have hm := seqsOf_in (W := W) (T := S.2) (h c t ht) h1.1 (by rw [ht]; exact Int.le_refl _) (by rw [ht]; simp; omega)
    exact List.length_pos_of_mem hm

/-! ### The counts, gone over in whatever order -/

/-- An element that is an int at most W. -/
def leR (W : Int) (v : Value) : Option (DataW Unit × List MemPlace) := match v with | .int .i64 c => if c ≤ W then some (.lit (.int .i64 c), []) else none | _ => none
theorem leR_inv {W : Int} {v : Value} {y : DataW Unit × List MemPlace} (h : leR W v = some y) : ∃ c : Int, v = .int .i64 c ∧ c ≤ W := by
  unfold leR at h
  split at h
  · rename_i c
    split at h
    · exact ⟨c, rfl, by assumption⟩
    · cases h
  · cases h
theorem MapOf.ownsLe {w : World} {b : Nat} {E : List (Int × Int)} {W : Int} (h : MapOf Try.prog 3 iv (fun v (x : Int) => v = iv x) w b E) (hE : E.length ≤ 1000000) (hle : ∀ p, p ∈ E → p.2 ≤ W) : ∃ D0 : DataW Unit, w.ownsMap Try.prog 3 (leR W) b E.length D0 := by
  obtain ⟨es, clock, hb, hs, hk, ha⟩ := h
  have hlen : es.size = E.length := by simpa using ha.length
  refine ⟨_, es, clock, hb, ⟨by unfold maxLen; omega, hs, ?_⟩, by omega, rfl⟩
  intro x hx
  obtain ⟨l, hl⟩ := hk x hx
  obtain ⟨p, hp, _, hv⟩ := All2.mem_l ha hx
  have hR : leR W x.val = some (.lit (.int .i64 p.2), []) := by
    rw [hv]
    unfold leR iv
    simp [hle p hp]
  exact ⟨_, Go.WideElems.rd_mk hl hR⟩

theorem WSt.but {tb lb mb pn nb pk pt pw : Nat} {W : Int} {L : List ((Int × Int) × List UInt8)} {T E : List (Int × Int)} {w w' : World} {S : Nat → Prop} (h : WSt tb lb mb pn nb pk pt pw W L T E w) (hk : Kept S w w')
    (ncell : ∀ {k : Nat} {t : TypeId} {cs : Array Value}, w.heap[k]? = some (.cells cs t) → ¬ S k) (nmap : ∀ {k : Nat} {es : Array MapEntry} {cl : Nat}, w.heap[k]? = some (.map es cl) → ¬ S k) (hu8 : ∀ (p : Addr) (u : Int), w.cell? p = some (.int .u8 u) → ¬ S p.block) : WSt tb lb mb pn nb pk pt pw W L T E w' := by
  have hl : ¬ S lb := by obtain ⟨es, cl, hm, _⟩ := h.tab.ans; exact nmap hm
  have hm' : ¬ S mb := by obtain ⟨es, cl, hm, _⟩ := h.tab.top; exact nmap hm
  have hn' : ¬ S nb := by obtain ⟨es, cl, hm, _⟩ := h.cnt; exact nmap hm
  exact ⟨⟨h.tab.box.kept hk (ncell h.tab.box), (h.tab.ans.kept hk hl).imp (fun _ _ hx => hx.kept3 hk hu8), h.tab.top.kept hk hm'⟩,
    h.n.kept hk (ncell h.n), h.k.kept hk (ncell h.k), h.t.kept hk (ncell h.t), h.win.kept hk (ncell h.win), h.cnt.kept hk hn', h.ne⟩

theorem WSt.iter {tb lb mb pn nb pk pt pw r : Nat} {W : Int} {L : List ((Int × Int) × List UInt8)} {T E : List (Int × Int)} {w w' : World} (h : WSt tb lb mb pn nb pk pt pw W L T E w) (hg : w.grownBy w' (some r))
    {m : Option Nat} {a c : Nat} {s : Array Nat} (hr : w.heap[r]? = some (.mapIter m a s c)) : WSt tb lb mb pn nb pk pt pw W L T E w' := by
  have hk : Kept (fun k => k = r) w w' := (Kept.refl _ w).grown hg (fun k e => by cases e; exact Or.inl rfl)
  refine h.but hk ?_ ?_ ?_
  · rintro k t cs hb rfl
    rw [hr] at hb
    cases hb
  · rintro k t cs hb rfl
    rw [hr] at hb
    cases hb
  · rintro p u hp rfl
    unfold World.cell? at hp
    rw [hr] at hp
    cases hp
theorem WSt.iter_kept {tb lb mb pn nb pk pt pw r n cnt : Nat} {W : Int} {L : List ((Int × Int) × List UInt8)} {T E : List (Int × Int)} {w w' : World} {R : Value → Option (DataW Unit × List MemPlace)} {D : DataW Unit} {left : Lit → Bool}
    (h : WSt tb lb mb pn nb pk pt pw W L T E w) (hr : w.ranges Try.prog 3 R nb r n D left cnt) (hg : w.grownBy w' (some r)) : WSt tb lb mb pn nb pk pt pw W L T E w' := by
  obtain ⟨es, clock, since, seen, c0, _, _, _, _, h5, _⟩ := hr
  exact h.iter hg h5
theorem leR_mk {v : Value} {W : Int} {y : DataW Unit × List MemPlace} (h : leR W v = some y) : ∃ c : Int, v = iv c := by
  obtain ⟨c, rfl, _⟩ := leR_inv h
  exact ⟨c, rfl⟩
theorem leR_le {c : Int} {W : Int} {y : DataW Unit × List MemPlace} (h : leR W (iv c) = some y) : c ≤ W := by
  obtain ⟨c', e, h'⟩ := leR_inv h
  injection e with _ e
  omega

/-- What holds at the head of the loop of puts: the table, the window's and the table's variable, the acts. -/
structure WinRel (w : World) (W : Int) (A : Option Addr) (n : Nat) (xs : List ActD) (tb lb mb pw pt : Nat) (S : St) (wr : World) : Prop where
  tab : Tab wr tb lb mb W S.1 S.2
  acts : Acts wr A n xs
  win : Blk wr pw 3 #[.int .i64 W]
  t : Blk wr pt 25 #[.pointer (some ⟨tb, 0, none⟩)]
  kept : Kept NoBlk w wr
  ne : lb ≠ mb
  lb : w.heap.size ≤ lb
  mb : w.heap.size ≤ mb

theorem WinRel.put {w : World} {W : Int} {A : Option Addr} {n : Nat} {xs : List ActD} {tb lb mb pw pt : Nat} {S : St} {wr : World} (h : WinRel w W A n xs tb lb mb pw pt S wr) {act : ActD} {w4 : World}
    (hT : Tab w4 tb lb mb W (putL W S.1 S.2 act.client act.seq act.ans) (putT W S.1 S.2 act.client act.seq)) (hk : Kept (Two lb mb) wr w4) : WinRel w W A n xs tb lb mb pw pt (stepS W S act) w4 :=
  ⟨hT, h.acts.kept hk h.tab.noCells, h.win.kept hk (fun e => h.tab.noCells _ e _ _ _ h.win), h.t.kept hk (fun e => h.tab.noCells _ e _ _ _ h.t),
    h.kept.inner hk (by have h1 := h.lb; have h2 := h.mb; rintro k (rfl | rfl) <;> omega), h.ne, h.lb, h.mb⟩

set_option maxRecDepth 100000 in
set_option maxHeartbeats 2000000 in
theorem window_main (W : Int) (A : Option Addr) (n c : Nat) (xs : List ActD) (w : World) (h : Acts w A n xs) (hf : fewB xs = true) (h1 : 1 ≤ W) (h2 : W ≤ 50) :
    Calls Try.prog 4 #[.int .i64 W, .slice A n c] w (TrueEnd w) := by
  have hn := h.2.1
  have HA := Lib.hid h
  have Hf := Lib.hid hf
  clear h hf
  have q1 : ¬ W < 1 := by omega
  have q2 : ¬ 50 < W := by omega
  go_enter Try.func4, Try.ntmps4
  go_wp2_with fail
  refine (known_any _).mono ?_
  rintro e w1 ⟨rfl, hk1⟩
  have hk1w : Kept NoBlk w w1 := ((Kept.refl NoBlk w).alloc _).trans hk1
  have hb1 : Blk w1 w.heap.size 3 #[.int .i64 W] := (Blk.new w 3 _).kept hk1 (fun e => e.elim)
  obtain ⟨pw, hpw⟩ : ∃ pw, w.heap.size = pw := ⟨_, rfl⟩
  rw [hpw] at hb1 ⊢
  have c1 : w1.cell? ⟨pw, 0, none⟩ = some (.int .i64 W) := hb1.cell 0
  have HA1 := Lib.hid (HA.out.kept hk1w (NoCells.none w))
  have HK1 := Lib.hid hk1w
  have HB1 := Lib.hid hb1
  clear hk1 hk1w hb1 hpw
  go_wp2_with fail
  refine (few_any A n c xs w1 HA1.out).mono ?_
  rw [Hf.out]
  rintro e w1' ⟨rfl, rfl⟩
  go_wp2_with fail
  refine (new_any W h1 (by omega) w1).mono ?_
  rintro e w2 ⟨tb, lb, mb, rfl, hT, hlm, htb, hlb, hmb, hk2⟩
  have hs1 := HK1.out.size
  have HR := Lib.hid (show WinRel w W A n xs tb lb mb pw w2.heap.size (runS W ([], []) (xs.take 0)) (w2.alloc (.cells #[.pointer (some ⟨tb, 0, none⟩)] 25)) from
    ⟨hT.kept ((Kept.refl NoBlk w2).alloc _), HA1.out.kept (hk2.alloc _) (NoCells.none w1), (HB1.out.kept hk2 (fun e => e.elim)).alloc _, Blk.new w2 25 _, (HK1.out.trans hk2).alloc _, hlm, by omega, by omega⟩)
  clear hT hk2 HK1 HA1 HA HB1 c1 hs1 htb hlb hmb hlm
  go_wp2_with fail
  obtain ⟨pt, hpt⟩ : ∃ pt, w2.heap.size = pt := ⟨_, rfl⟩
  obtain ⟨wz, hwz⟩ : ∃ wz, w2.alloc (.cells #[.pointer (some ⟨tb, 0, none⟩)] 25) = wz := ⟨_, rfl⟩
  rw [hpt, hwz] at HR
  rw [hpt, hwz]
  clear hpt hwz
  go_loopg [7] n (fun g v wr => ∃ (k : Nat), g + k = n ∧ v = .int .i64 k ∧ WinRel w W A n xs tb lb mb pw pt (runS W ([], []) (xs.take k)) wr)
  case atStart => exact ⟨0, by omega, rfl, HR.out⟩
  case round =>
    obtain ⟨k, hgk, rfl, hrel⟩ := hrel
    have Hgk := Lib.hid hgk
    have HRr := Lib.hid hrel
    have d5 : wr.cell? ⟨pt, 0, none⟩ = some (.pointer (some ⟨tb, 0, none⟩)) := hrel.t.cell 0
    clear hgk hrel HR
    by_cases hlt : k < n
    · obtain ⟨b, off, a, v, rfl, ha, m0, m1, m2, m3, hv⟩ := HRr.out.acts.at_ hlt
      have HV := Lib.hid hv
      have Ha := Lib.hid ha
      have k0 : (0 : Int) ≤ (k : Int) := by omega
      have k1 : (k : Int) < (n : Int) := by omega
      have hok := (runS_good (Good.start h1 (by omega)) (xs.take k)).ok
      have Hok := Lib.hid hok
      clear ha hv m0 hok
      go_upto_region 11 with fail
      go_region_with (go_at_call 9; refine (put_any (HRr.out.tab.kept ((Kept.refl NoBlk _).drewN _)) Hok.out HRr.out.ne _ _ _ _ (HV.out.kept ((Kept.refl NoBlk _).drewN _) (NoCells.none _))).mono ?_; rintro e w4 ⟨rfl, hT4, hk4⟩)
      all_goals
        go_wp2_with fail
        go_roundg (n - (k + 1))
        case measure => have := Hgk.out; omega
        case rel => exact ⟨k + 1, by omega, by go_num, by rw [runS_take Ha.out]; exact HRr.out.put hT4 (((Kept.refl _ _).drewN _).trans hk4)⟩
    · have hr := HRr.out
      have e : runS W ([], []) (xs.take k) = runS W ([], []) xs := by
        rw [List.take_of_length_le]
        have h1 := HRr.out.acts.1
        have h2 := Hgk.out
        omega
      rw [e] at hr
      have hgood := runS_good (Good.start h1 (by omega)) xs
      have hheld := runS_held h1 xs Held.start
      have hsmall := small_of (W := W) (ys := xs) Hf.out (Nat.le_refl _) (fun _ h => h)
      generalize runS W ([], []) xs = S at hr hgood hheld hsmall
      have HR2 := Lib.hid hr
      have HG := Lib.hid hgood
      have HH := Lib.hid hheld
      have HSm := Lib.hid hsmall
      obtain ⟨wy, hwy⟩ : ∃ wy, wr = wy := ⟨_, rfl⟩
      rw [hwy] at HR2 d5 ⊢
      clear hr hgood hheld hsmall e HRr hwy
      have hmm := @run_makeMap Try.prog
      have hst : WSt tb lb mb (wy.heap.size + 1) wy.heap.size (wy.heap.size + 2) pt pw W S.1 S.2 [] (((wy.alloc (.map #[] 0)).alloc (.cells #[.map (some wy.heap.size)] 37)).alloc (.cells #[.bool true] 4)) := by
        have k3 : Kept NoBlk wy (((wy.alloc (.map #[] 0)).alloc (.cells #[.map (some wy.heap.size)] 37)).alloc (.cells #[.bool true] 4)) := (((Kept.refl NoBlk wy).alloc _).alloc _).alloc _
        have k2 : Kept NoBlk (wy.alloc (.map #[] 0)) (((wy.alloc (.map #[] 0)).alloc (.cells #[.map (some wy.heap.size)] 37)).alloc (.cells #[.bool true] 4)) := ((Kept.refl NoBlk _).alloc _).alloc _
        refine ⟨HR2.out.tab.kept k3, ?_, ?_, HR2.out.t.kept k3 (fun e => e.elim), HR2.out.win.kept k3 (fun e => e.elim), (MapOf.made Try.prog 3 iv _ wy).kept k2 (fun e => e.elim), ?_⟩
        · simpa using (Blk.new (wy.alloc (.map #[] 0)) 37 _).alloc _
        · simpa using Blk.new ((wy.alloc (.map #[] 0)).alloc (.cells #[.map (some wy.heap.size)] 37)) 4 _
        · have h1 := HR2.out.tab.ans.lt
          have h2 := HR2.out.tab.top.lt
          omega
      have HST := Lib.hid hst
      clear hst
      go_upto_region 14 with fail
      obtain ⟨ws, hws⟩ : ∃ ws, ((wy.alloc (.map #[] 0)).alloc (.cells #[.map (some wy.heap.size)] 37)).alloc (.cells #[.bool true] 4) = ws := ⟨_, rfl⟩
      have k3 : Kept NoBlk w ws := by rw [← hws]; exact (((HR2.out.kept.alloc _).alloc _).alloc _)
      have K3 := Lib.hid k3
      rw [hws] at HST ⊢
      have ll : w.heap.size ≤ wy.heap.size := HR2.out.kept.size
      obtain ⟨nb, hnb⟩ : ∃ nb, wy.heap.size = nb := ⟨_, rfl⟩
      rw [hnb] at HST ll ⊢
      have d5' : ws.cell? ⟨pt, 0, none⟩ = some (.pointer (some ⟨tb, 0, none⟩)) := HST.out.t.cell 0
      clear hnb hws k3 d5 HR2 hmm
      go_wp2_with fail
      refine (each_any HST.out HG.out.ok HG.out.t HSm.out (fun c hc => HH.out.pos HG.out.ok hc)).mono ?_
      rintro e we ⟨rfl, hWe, hke⟩
      have hlen : (cntOf W S.1 S.2 (sortK S.2)).length = S.2.length := by
        unfold cntOf sortK
        rw [List.length_map, (List.mergeSort_perm _ _).length_eq, List.length_map]
      have hkw : Kept NoBlk w we := K3.out.inner hke (by rintro k (rfl | rfl) <;> omega)
      have hle : ∀ p, p ∈ cntOf W S.1 S.2 (sortK S.2) → p.2 ≤ W := by
        intro p hp
        unfold cntOf at hp
        obtain ⟨c, _, rfl⟩ := List.mem_map.1 hp
        exact seqsOf_window _ HG.out.ok c
      obtain ⟨D0, hown⟩ := hWe.cnt.ownsLe (W := W) (by rw [hlen]; exact Nat.le_trans HSm.out.tops (by omega)) hle
      rw [hlen] at hown
      have d8 : we.cell? ⟨nb + 1, 0, none⟩ = some (.map (some nb)) := hWe.n.cell 0
      have HWe := Lib.hid hWe
      have HKw := Lib.hid hkw
      have HOwn := Lib.hid hown
      have Hlen := Lib.hid hlen
      clear hWe hke hkw hle hown hlen HST d5' K3
      go_wp2_with (at_range; refine wpList_range_own _ rfl _ 37 rfl 3 3 law3 Try.underlying37 _ nb _ _ rfl HOwn.out ?_; intro w0 hrg0 hg0 hs0)
      go_frame
      obtain ⟨r, hr⟩ : ∃ r, we.heap.size = r := ⟨_, rfl⟩
      rw [hr] at hrg0 ⊢
      have hw0 : WSt tb lb mb (nb + 1) nb (nb + 1 + 1) pt pw W S.1 S.2 (cntOf W S.1 S.2 (sortK S.2)) w0 := HWe.out.kept ((Kept.refl NoBlk _).grown hg0 (fun k e => by cases e))
      have hk0 : Kept NoBlk w w0 := HKw.out.grown hg0 (fun k e => by cases e)
      have hrw : w.heap.size ≤ r := by rw [← hr]; exact HKw.out.size
      have hr1 : nb + 1 + 1 < r := by rw [← hr]; exact HWe.out.k.lt
      have Hr1 := Lib.hid hr1
      have Hrw := Lib.hid hrw
      have HRg := Lib.hid hrg0
      have HW0 := Lib.hid hw0
      have HK0 := Lib.hid hk0
      have Hll := Lib.hid ll
      clear hg0 hs0 hr hw0 hk0 hrw hr1 hrg0 HWe HKw d8 HOwn ll
      go_loopw [11] (fun _ wr => ∃ (left : Lit → Bool) (cnt : Nat), wr.ranges Try.prog 3 (leR W) nb r S.2.length D0 left cnt ∧ WSt tb lb mb (nb + 1) nb (nb + 1 + 1) pt pw W S.1 S.2 (cntOf W S.1 S.2 (sortK S.2)) wr ∧ Kept NoBlk w wr)
        (fun _ wr => wr.rangeLeft nb r)
      case atStart => exact ⟨_, _, HRg.out, HW0.out, HK0.out⟩
      case round =>
        obtain ⟨left, cnt, hrg, hst, hkp⟩ := hrel
        have HRg1 := Lib.hid hrg
        have HSt := Lib.hid hst
        have HKp := Lib.hid hkp
        clear hrg hst hkp HRg HW0 HK0
        obtain ⟨wn, hwn⟩ : ∃ wn, wr = wn := ⟨_, rfl⟩
        rw [hwn] at HRg1 HSt HKp ⊢
        have Hwn := Lib.hid hwn
        clear hwn
        go_wp2_with (at_next; refine wpList_next_ranges (α := Int) (β := Int) _ rfl _ rfl 3 law3 (leR W) (Value.int .i64) (Value.int .i64) (fun key kl hkey => by obtain ⟨x, rfl, _⟩ := Maps.keyOf_int_inv Try.underlying3 hkey; exact ⟨x, rfl⟩) (fun v y hv => leR_mk hv) nb r _ _ _ _ rfl HRg1.out ?_ ?_)
        · intro _ _
          have d8 : wn.cell? ⟨nb + 1, 0, none⟩ = some (.map (some nb)) := HSt.out.n.cell 0
          have d9 : wn.cell? ⟨nb + 1 + 1, 0, none⟩ = some (.bool true) := HSt.out.k.cell 0
          have d5 : wn.cell? ⟨pt, 0, none⟩ = some (.pointer (some ⟨tb, 0, none⟩)) := HSt.out.t.cell 0
          have hl := HSt.out.cnt.len_run Try.underlying37 3
          go_wp2_with fail
          refine (clients_any HSt.out.tab (Nat.le_trans HSm.out.tops (by omega))).mono ?_
          rintro e w3 ⟨v, rfl, hrow, hbel⟩
          obtain ⟨A4, n4, hv4, hints4⟩ := Ints.of_own hrow (Nat.le_trans HSm.out.tops (by omega))
          rw [hv4]
          have hk3 : Kept NoBlk w w3 := HKp.out.trans (Kept.of_below hbel)
          have HL := Lib.hid (show (cntOf W S.1 S.2 (sortK S.2)).length = S.2.length from Hlen.out)
          clear hv4 hrow hbel hl d5 d8 d9 hints4
          go_wp2_with fail
          go_ret
          exact ⟨by rw [HL.out]; simp, hk3⟩
        · intro x c' kl y1 y2 w1 cnt1 hkey hlk hv hat hrg1 hlt hg1 hs1 hen
          have hcW : c' ≤ W := leR_le hv
          have hst1 := HSt.out.iter_kept HRg1.out hg1
          have d9 : w1.cell? ⟨nb + 1 + 1, 0, none⟩ = some (.bool true) := hst1.k.cell 0
          have d9f : w1.frozen? ⟨nb + 1 + 1, 0, none⟩ = false := hst1.k.frozen 0
          have d4 : w1.cell? ⟨pw, 0, none⟩ = some (.int .i64 W) := hst1.win.cell 0
          have HSt1 := Lib.hid hst1
          have HG1 := Lib.hid hg1
          have HRg2 := Lib.hid hrg1
          clear hkey hlk hv hat hrg1 hg1 hs1 hst1
          go_wp2_with fail
          have hgs : w1.grownBy (w1.setCell ⟨nb + 1 + 1, 0, none⟩ (.bool true)) (some (nb + 1 + 1)) :=
            ⟨rfl, rfl, rfl, ((Kept.refl (fun k => k = nb + 1 + 1) w1).setCell (p := ⟨nb + 1 + 1, 0, none⟩) (Or.inl rfl) _).size, fun k _ hk => Below.heap_setCell _ _ _ k (fun e => hk (by rw [e]))⟩
          have hrg2 := HRg2.out.kept hgs (by simp; omega) (by have := Hr1.out; simp; omega)
          refine ⟨⟨_, _, hrg2, HSt1.out.again1 rfl rfl rfl rfl, ?_⟩, ?_⟩
          · have h1 := Hrw.out
            have h2 := Hll.out
            exact (HKp.out.grown HG1.out (fun k e => by cases e; exact Or.inr h1)).setCell (Or.inr (by show w.heap.size ≤ nb + 1 + 1; omega)) _
          · rw [hrg2.left_eq, HRg1.out.left_eq]
            exact hlt

set_option maxRecDepth 100000 in
set_option maxHeartbeats 1000000 in
theorem window_out (W : Int) (A : Option Addr) (n c : Nat) (xs : List ActD) (w : World) (h : Acts w A n xs) (ho : fewB xs = false ∨ W < 1 ∨ 50 < W) :
    Calls Try.prog 4 #[.int .i64 W, .slice A n c] w (TrueEnd w) := by
  have HA := Lib.hid h
  clear h
  have key : ∀ (f : Bool), (f = false ∨ W < 1 ∨ 50 < W) → fewB xs = f → Calls Try.prog 4 #[.int .i64 W, .slice A n c] w (TrueEnd w) := by
    intro f ho hf
    have Hf := Lib.hid hf
    clear hf
    have q : f = false ∨ (f = true ∧ W < 1) ∨ (f = true ∧ ¬ W < 1 ∧ 50 < W) := by
      cases f
      · exact Or.inl rfl
      · simp only [Bool.true_eq_false, false_or, true_and] at ho ⊢
        omega
    clear ho
    rcases q with rfl | ⟨rfl, q1⟩ | ⟨rfl, q1, q2⟩
    all_goals
      go_enter Try.func4, Try.ntmps4
      go_wp2_with fail
      refine (known_any _).mono ?_
      rintro e w1 ⟨rfl, hk1⟩
      have hk1w : Kept NoBlk w w1 := ((Kept.refl NoBlk w).alloc _).trans hk1
      have hb1 : Blk w1 w.heap.size 3 #[.int .i64 W] := (Blk.new w 3 _).kept hk1 (fun e => e.elim)
      have c1 : w1.cell? ⟨w.heap.size, 0, none⟩ = some (.int .i64 W) := hb1.cell 0
      go_wp2_with fail
      refine (few_any A n c xs w1 (HA.out.kept hk1w (NoCells.none w))).mono ?_
      rw [Hf.out]
      rintro e w1' ⟨rfl, rfl⟩
      go_wp2_with fail
      go_ret
      exact ⟨rfl, hk1w⟩
  exact key _ ho rfl

/-- 'DedupWindow', at whatever arguments. -/
theorem window_any (W : Int) (A : Option Addr) (n c : Nat) (xs : List ActD) (w : World) (h : Acts w A n xs) :
    Calls Try.prog 4 #[.int .i64 W, .slice A n c] w (TrueEnd w) := by
  by_cases ho : fewB xs = false ∨ W < 1 ∨ 50 < W
  · exact window_out W A n c xs w h ho
  · simp only [not_or] at ho
    obtain ⟨o1, o2, o3⟩ := ho
    exact window_main W A n c xs w h (by simpa using o1) (by omega) (by omega)


end Go.Proofs.Ytgopebigmcbbkaa
