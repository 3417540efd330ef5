/- What ChunkSums does: it returns true, and turns nothing that was there. -/
import Derived.Test.YtnaacgglbeipcaaDoorWhole
import Derived.Test.YtnaacgglbeipcaaDoorSumInj
namespace Go.Proofs.YtnaacgglbeipcaaDoor
open Go.RowKit

theorem drop_turned {bs : List UInt8} {size k i : Nat} (b' : UInt8) (h1 : 1 ≤ size) : ((bs.set (k * size) b').drop (i * size)).take size = if i = k then ((bs.drop (k * size)).take size).set 0 b' else (bs.drop (i * size)).take size := by
  by_cases hik : i = k
  · subst hik
    rw [if_pos rfl, List.drop_set, if_neg (by omega), Nat.sub_self, List.take_set]
  · rw [if_neg hik, List.drop_set]
    rcases Nat.lt_or_ge k i with h | h
    · have h2 : (k + 1) * size ≤ i * size := Nat.mul_le_mul_right size h
      rw [Nat.add_mul] at h2
      rw [if_pos (by omega)]
    · have hki : i + 1 ≤ k := by omega
      have h2 : (i + 1) * size ≤ k * size := Nat.mul_le_mul_right size hki
      rw [Nat.add_mul] at h2
      rw [if_neg (by omega), List.take_set, List.set_eq_of_length_le (by rw [List.length_take]; omega)]

theorem pc_pos {bs : List UInt8} {size k : Nat} (hb : 0 < bs.length) (h1 : 1 ≤ size) (hk : k < nP bs.length size) : k * size < bs.length := by
  rcases (lt_nP h1).1 hk with rfl | h
  · omega
  · exact h

theorem RdU.of_own {w : World} {base B n : Nat} {v : Value} {bs : List UInt8} (h : w.ownsRow base 5 1 v n (bs.map bv)) (hn : n ≤ 140737488351232) (hlt : ∀ g, v.ownBlock = some g → g < B) : RdU w B v bs := by
  obtain ⟨A, m, c, e, h1, h2, h3, h4, h5⟩ := RdB.of_own h hn
  refine ⟨A, m, c, e, h1, h2, h3, h4, h5.1, fun hm => ?_⟩
  obtain ⟨ad, e1, hb, hc⟩ := h5.2 hm
  refine ⟨ad, e1, ?_, hc⟩
  rcases h.2 with ⟨hv, h0⟩ | ⟨g, cap, cur, hv, _⟩
  · rw [hv] at e
    injection e with _ e2 _
    omega
  · rw [hv] at e
    injection e with e2 _ _
    rw [e1] at e2
    have e3 := Option.some.inj e2
    subst e3
    exact hlt g (by rw [hv]; rfl)

theorem pcs_turned {v w : World} (hkv : Kept NoBlk v w) {base : Nat} {A : Option Addr} {N c : Nat} {id : Int} {bs : List UInt8} {size : Nat} {ds : Nat → Value} (hv : Pcs v base 36 (.slice A N c) (cutD id bs size) ds) (hN : nP bs.length size = N) {k : Nat} (hk : k < N) (hb : 0 < bs.length) (h1 : 1 ≤ size) :
    ∃ g gd L cd b, A = some ⟨g, 0, none⟩ ∧ w.cell? ⟨g, k * 5 + 4, none⟩ = some (.slice (some ⟨gd, 0, none⟩) L cd) ∧ w.cell? ⟨gd, 0, none⟩ = some (bv b) ∧ w.frozen? ⟨gd, 0, none⟩ = false ∧ g ≠ gd ∧ (base ≤ gd ∧ gd < v.heap.size) ∧ 1 ≤ L ∧ bs[k * size]? = some b ∧
      ∀ b' : UInt8, PR (w.setCell ⟨gd, 0, none⟩ (bv b')) v.heap.size A N (pc id (sumOf bs) (bs.set (k * size) b') size) := by
  subst hN
  have h := hv.kept hkv (fun _ _ _ e => e.elim)
  have hkl := pc_pos hb h1 hk
  obtain ⟨g, p, hA, _, hp, _, _, _, _, a4, _⟩ := h.at_ hk
  rw [cutD_at hk] at hp
  obtain rfl := Option.some.inj hp
  have hown := h.own k _ (cutD_at hk)
  have hlen := pc_len id (sumOf bs) bs size k
  have hpos : 1 ≤ (pc id (sumOf bs) bs size k).data.length := by rw [hlen]; omega
  obtain ⟨gd, cd, hd, hbg⟩ : ∃ gd cd, ds k = .slice (some ⟨gd, 0, none⟩) (pc id (sumOf bs) bs size k).data.length cd ∧ base ≤ gd := by
    rcases hown.2 with ⟨_, h0⟩ | ⟨gd, cd, cur, hv, hbg, _⟩
    · have h0 : (pc id (sumOf bs) bs size k).data.length = 0 := h0
      omega
    · exact ⟨gd, cd, hv, hbg⟩
  rw [hd] at hown a4
  have hhead : (pc id (sumOf bs) bs size k).data[0]? = bs[k * size]? := by
    show ((bs.drop (k * size)).take size)[0]? = _
    rw [List.getElem?_take_of_lt (by omega), List.getElem?_drop]
    rfl
  have hbk : bs[k * size]? = some bs[k * size] := List.getElem?_eq_getElem hkl
  have hc0 : w.cell? ⟨gd, 0, none⟩ = some (bv bs[k * size]) := by
    have h2 := hown.cellAt 0 (by omega)
    rw [h2, List.getElem?_map, hhead, hbk]
    rfl
  have hfz := hown.frozenAt 0
  have hgne : g ≠ gd := by
    intro e
    subst e
    obtain ⟨cur, h3⟩ := ownsRow_tag hown (g := g) rfl
    obtain ⟨cur', h4⟩ := ownsRow_tag h.row (g := g) (by rw [hA]; rfl)
    rw [h3] at h4
    injection h4 with h4
    injection h4 with _ h4 _
    cases h4
  refine ⟨g, gd, _, cd, bs[k * size], hA, a4, hc0, hfz, hgne, ⟨hbg, (ownsRow_lt (hv.own k _ (cutD_at hk)) (g := gd) (by rw [hd]; rfl)).1⟩, hpos, hbk, fun b' => ?_⟩
  have hstored := (hown.stored 0 (bv b')).1
  have hk3 : Kept (Only gd) w (w.setCell ⟨gd, 0, none⟩ (bv b')) := (Kept.refl (Only gd) w).at_ _
  intro i hi
  obtain ⟨g', p, hA', _, hp', a0, a1, a2, a3, a4', r⟩ := h.at_ hi
  rw [cutD_at hi] at hp'
  obtain rfl := Option.some.inj hp'
  have hgg : g' = g := by
    rw [hA] at hA'
    injection hA' with h5
    injection h5 with h5
    exact h5.symm
  subst hgg
  have hn : ¬ Only gd g' := fun e => hgne e
  have hbl : (bs.set (k * size) b').length = bs.length := List.length_set
  refine ⟨g', ds i, hA, (ownsRow_lt hv.row (g := g') (by rw [hA]; rfl)).1, hk3.cell a0 hn, hk3.cell a1 hn, ?_, hk3.cell a3 hn, hk3.cell a4' hn, ?_⟩
  · show _ = some (Value.int .i64 ((bs.set (k * size) b').length : Int))
    rw [hbl]
    exact hk3.cell a2 hn
  · have hdat : (pc id (sumOf bs) (bs.set (k * size) b') size i).data = if i = k then (pc id (sumOf bs) bs size k).data.set 0 b' else (pc id (sumOf bs) bs size i).data := drop_turned b' h1
    rw [hdat]
    have hlt : ∀ x, (ds i).ownBlock = some x → x < v.heap.size := fun x hx => (ownsRow_lt (hv.own i _ (cutD_at hi)) hx).1
    by_cases hik : i = k
    · subst hik
      rw [if_pos rfl]
      rw [hd] at hlt ⊢
      refine RdU.of_own (base := base) (n := (pc id (sumOf bs) bs size i).data.length) ?_ ?_ hlt
      · rw [List.map_set]
        exact hstored
      · have := h.small i _ (cutD_at hi)
        omega
    · rw [if_neg hik]
      refine RdU.of_own (ownsRow_kept (h.own i _ (cutD_at hi)) hk3 (fun x hx e => ?_)) (h.small i _ (cutD_at hi)) hlt
      unfold Only at e
      subst e
      have hl := cutD_length id bs size
      rcases Nat.lt_or_ge i k with hlt | hge
      · exact h.apart i k x hlt (by omega) hx (by rw [hd]; rfl)
      · exact h.apart k i x (by omega) (by omega) (by rw [hd]; rfl) hx

theorem pr_of_pcs2 {v w : World} {b0 b1 : Nat} {A : Option Addr} {N c : Nat} {id : Int} {bs : List UInt8} {size : Nat} {ds : Nat → Value} (hv : Pcs v b0 36 (.slice A N c) (cutD id bs size) ds) (h : Pcs w b1 36 (.slice A N c) (cutD id bs size) ds) (hN : nP bs.length size = N) :
    PR w v.heap.size A N (pc id (sumOf bs) bs size) := by
  subst hN
  intro k hk
  obtain ⟨g, p, e, _, hp, a0, a1, a2, a3, a4, r⟩ := h.at_ hk
  rw [cutD_at hk] at hp
  obtain rfl := Option.some.inj hp
  exact ⟨g, ds k, e, (ownsRow_lt hv.row (g := g) (by rw [e]; rfl)).1, a0, a1, a2, a3, a4, RdU.of_own (h.own k _ (cutD_at hk)) (h.small k _ (cutD_at hk)) (fun x hx => (ownsRow_lt (hv.own k _ (cutD_at hk)) hx).1)⟩

theorem cut_pcs {id : Int} {v : Value} {size N : Nat} {bs : List UInt8} {w : World} (h : RdB w v bs) (hn : bs.length ≤ 1048576) (hid : 0 ≤ id) (h1 : 1 ≤ size) (h2 : size ≤ 65536) (hN : nP bs.length size = N) :
    Calls Tryd.prog 8 #[.int .i64 id, v, .int .i64 (size : Int)] w fun e W' => ∃ A c ds, e = .returned (.tuple #[.slice A N c, .nilIface]) ∧ Pcs W' w.heap.size 36 (.slice A N c) (cutD id bs size) ds ∧ Kept NoBlk w W' := by
  refine (cut_any h hn hid h1 h2).mono fun e W' ⟨v, ds, he, hp, hk⟩ => ?_
  obtain ⟨A, c, rfl⟩ := hp.len
  rw [cutD_length, hN] at he hp
  exact ⟨A, c, ds, he, hp, hk⟩

theorem bld_nil {w : World} {bb : Nat} (h : Blk w bb 76 #[.int .i64 (-1), .int .i64 0, .int .i64 0, .int .u32 0, .slice none 0 0]) : Bld w bb BlD.none_ := ⟨none, 0, h, ⟨rfl, Or.inl ⟨rfl, rfl⟩⟩, by decide⟩
set_option maxHeartbeats 400000 in
theorem newb_blk (w : World) : Calls Tryd.prog 12 #[] w fun e w' => ∃ bb, e = .returned (.pointer (some ⟨bb, 0, none⟩)) ∧ Blk w' bb 76 #[.int .i64 (-1), .int .i64 0, .int .i64 0, .int .u32 0, .slice none 0 0] ∧ w.heap.size ≤ bb ∧ Kept NoBlk w w' := by
  go_enter Tryd.func12, Tryd.ntmps12
  go_wp2_with fail
  go_ret
  exact ⟨_, rfl, Blk.new w 76 _, Nat.le_refl _, (Kept.refl _ _).alloc _⟩

theorem next_none {w : World} {bb : Nat} (h : Bld w bb BlD.none_) : Calls Tryd.prog 20 #[.pointer (some ⟨bb, 0, none⟩)] w fun e w' => e = .returned (.tuple #[.int .i64 (-1), .int .i64 0]) ∧ Kept NoBlk w w' := next_any h

set_option maxRecDepth 100000 in
set_option maxHeartbeats 8000000 in
theorem sums_main (size : Nat) (at_ turn : Int) (A0 : Option Addr) (n0 c0 : Nat) (bs : List UInt8) (w : World) (he : Env w) (h0 : RdB w (.slice A0 n0 c0) bs) (t0 : 0 ≤ turn) (t1' : turn < 256) (t2' : turn ≠ 0)
    (g0 : ¬ 2048 < n0) (g2 : n0 ≠ 0) (g1 : 1 ≤ size) (g3 : size ≤ 4096) :
    Calls Tryd.prog 6 #[.slice A0 n0 c0, .int .i64 (size : Int), .int .i64 at_, .int .u8 turn] w (TrueEnd w) := by
  have HE := Lib.hid he
  have H0 := Lib.hid h0
  have l0 := h0.length
  obtain ⟨N, hN⟩ : ∃ N, nP bs.length size = N := ⟨_, rfl⟩
  have hN1 : 1 ≤ N := by rw [← hN]; exact nP_pos g1
  have hN2 : N ≤ 2049 := by rw [← hN]; exact nP_le g1 (by omega)
  obtain ⟨u, hu⟩ : ∃ u, sumOf bs = u := ⟨_, rfl⟩
  have HC2 := Lib.hid (fun W (h : RdB W (.slice A0 n0 c0) bs) => cut_pcs (id := 2) h (by omega) (by decide) g1 (by omega) hN)
  have HC3 := Lib.hid (fun W (h : RdB W (.slice A0 n0 c0) bs) => cut_pcs (id := 3) h (by omega) (by decide) g1 (by omega) hN)
  have HL := Lib.hid (show bs.length ≤ 1048576 ∧ 0 < bs.length from ⟨by omega, by omega⟩)
  have HN := Lib.hid hN
  have HU := Lib.hid hu
  have q0 : ¬ (2048 : Int) < (n0 : Int) := by omega
  have q1 : ¬ (size : Int) < 1 := by omega
  have q3 : ¬ (4096 : Int) < (size : Int) := by omega
  have q4 : ((n0 : Int) == 0) = false := by simp; omega
  have q5 : (turn == 0) = false := by simpa using t2'
  clear he h0 l0 hN hu g2
  have HT2 := Lib.hid t2'
  clear t2'
  go_enter Tryd.func6, Tryd.ntmps6
  go_wp2_with fail
  refine (known_any HE.out).mono ?_
  rintro e w1 ⟨rfl, hk1⟩
  have HK1 := Lib.hid hk1
  clear hk1
  go_wp2_with fail
  refine (HC2.out _ (H0.out.kept HK1.out (NoCells.none _))).mono ?_
  rintro e w2 ⟨Al, cl, ds, rfl, hp, hk2⟩
  have HPL := Lib.hid hp
  have HK2 := Lib.hid (HK1.out.trans hk2)
  have HS2 := Lib.hid (HK1.out.size)
  clear hp hk2
  go_wp2_with fail
  refine (HC3.out _ (H0.out.kept HK2.out (NoCells.none _))).mono ?_
  rintro e w3 ⟨Am, cm, dm, rfl, hp, hk3⟩
  have HPM3 := Lib.hid hp
  have HK23 := Lib.hid hk3
  have HK3 := Lib.hid (HK2.out.trans hk3)
  clear hp hk3
  go_wp2_with fail
  refine (newb_blk w3).mono ?_
  rintro e w4 ⟨bb, rfl, hB, hbb, hk4⟩
  have HBB := Lib.hid (show Blk w4 bb 76 #[.int .i64 (-1), .int .i64 0, .int .i64 0, .int .u32 0, .slice none 0 0] ∧ w3.heap.size ≤ bb ∧ w.heap.size ≤ bb from ⟨hB, hbb, by have := HK3.out.size; omega⟩)
  have HK4 := Lib.hid hk4
  have n1 : (1 : Int) ≤ (N : Int) := by omega
  have hrb := rem_bound at_ N hN1
  have HRB := Lib.hid hrb
  clear hB hbb hk4 hrb
  obtain ⟨base, hbase⟩ : ∃ base, w3.heap.size = base := ⟨_, rfl⟩
  have HBase := Lib.hid hbase
  clear hbase
  go_upto_region 10 with fail
  go_cut [14] (fun v wq => v = .int .i64 (at_.tmod N) ∧ wq = w4)
  case first =>
    by_cases hz0 : 0 ≤ at_
    · have et : at_ % (N : Int) = at_.tmod N := by rw [Int.tmod_eq_emod_of_nonneg hz0]
      have HET := Lib.hid et
      clear et
      go_wp2_with fail
      go_meet
      exact ⟨by rw [HET.out], rfl⟩
    · go_wp2_with fail
      go_meet
      exact ⟨rfl, rfl⟩
  case rest =>
    obtain ⟨hv9, hw9⟩ := hcut
    have hrb := HRB.out
    obtain ⟨t, ht⟩ : ∃ t, at_.tmod N = t := ⟨_, rfl⟩
    rw [hw9]
    rw [ht] at hv9 hrb
    obtain ⟨t1, t2⟩ := hrb
    obtain ⟨k, hk, htk⟩ : ∃ k : Nat, k < N ∧ ((t = (k : Int)) ∨ (t = -(k : Int) ∧ 1 ≤ k)) := by
      rcases Int.lt_or_le t 0 with h | h
      · exact ⟨(-t).toNat, by omega, Or.inr ⟨by omega, by omega⟩⟩
      · exact ⟨t.toNat, by omega, Or.inl (by omega)⟩
    have m0 : (0 : Int) ≤ (k : Int) := by omega
    have m1 : (k : Int) < (N : Int) := by omega
    clear HRB ht hw9 t1 t2
    obtain ⟨g, gd, L, cd, b, rfl, d4, e0v, f0, hgne, ⟨hgw, hgw2⟩, hL1, hbk, hturn⟩ := pcs_turned (HK23.out.trans HK4.out) HPL.out HN.out hk HL.out.2 g1
    obtain ⟨b9, hx, hb9⟩ := byte_xor b t0 t1' HT2.out
    have hne := sum_turned hbk hb9
    rw [HU.out] at hne
    obtain ⟨bs', hbs'⟩ : ∃ bs', bs.set (k * size) b9 = bs' := ⟨_, rfl⟩
    have hlen' : bs'.length = bs.length := by rw [← hbs', List.length_set]
    have hturn9 := hturn b9
    rw [hbs'] at hturn9
    have hbase2 : w2.heap.size ≤ base := by have := HK23.out.size; have := HBase.out; omega
    rw [hbs'] at hne
    have HTurn := Lib.hid (hturn9.more hbase2)
    have HL2 := Lib.hid (show bs'.length ≤ 1048576 ∧ bs'.length = bs.length from ⟨by rw [hlen']; exact HL.out.1, hlen'⟩)
    have HNe := Lib.hid hne
    have hgdw : w.heap.size ≤ gd := by have := HS2.out; omega
    have hgdb : ∀ x, Only gd x → w.heap.size ≤ x := fun x e => by unfold Only at e; omega
    have e0 : w4.cell? ⟨gd, 0, none⟩ = some (.int .u8 (b.toNat : Int)) := e0v
    clear e0v
    have z1 : (0 : Int) < (L : Int) := by omega
    have z0 : 0 < L := hL1
    have hkset : Kept (Only gd) w4 (w4.setCell ⟨gd, 0, none⟩ (bv b9)) := (Kept.refl _ _).at_ _
    have HSet := Lib.hid hkset
    have d5 : (w4.setCell ⟨gd, 0, none⟩ (.int .u8 (b9.toNat : Int))).cell? ⟨g, k * 5 + 4, none⟩ = some (.slice (some ⟨gd, 0, none⟩) L cd) := hkset.cell d4 (fun e => hgne e)
    have D5 := Lib.hid d5
    have hgbb : bb ≠ gd := by have := HBB.out.2.1; have := HBase.out; omega
    have hKW : Kept NoBlk w (w4.setCell ⟨gd, 0, none⟩ (bv b9)) := (HK3.out.trans HK4.out).inner hkset (fun x e => Or.inr (hgdb x e))
    have HRS := Lib.hid (show BRel w base bb BlD.none_ (w4.setCell ⟨gd, 0, none⟩ (bv b9)) from ⟨bld_nil (HBB.out.1.kept hkset (fun e => hgbb e)), by have := HBase.out; have := HBB.out.2.1; omega, HBB.out.2.2, hKW⟩)
    have hpm : PR (w4.setCell ⟨gd, 0, none⟩ (bv b9)) w3.heap.size Am N (pc 3 (sumOf bs) bs size) := pr_of_pcs2 HPM3.out ((HPM3.out.kept HK4.out (fun _ _ _ e => e.elim)).kept hkset (fun x hx _ e => by unfold Only at e; omega)) HN.out
    rw [HBase.out] at hpm
    have HPMS := Lib.hid hpm
    clear d5 hgbb hKW hpm hbase2
    have HF0 := Lib.hid f0
    clear hbk hb9 hne hbs' hlen' hturn hturn9 hkset
    rcases htk with htk | ⟨htk, hk1⟩
    all_goals
      subst htk
      rw [hv9]
      clear hv9
      go_upto_region 13 with fail
      go_cut [] (fun wx => PR wx base (some ⟨g, 0, none⟩) N (pc 2 (sumOf bs) bs' size) ∧ BRel w base bb BlD.none_ wx ∧ PR wx base Am N (pc 3 (sumOf bs) bs size))
      case first =>
        refine wp_region_held_drew (S := fun w' => w'.cell? ⟨g, k * 5 + 4, none⟩ = some (.slice (some ⟨gd, 0, none⟩) L cd)) (by kernel_rfl) (by (first | exact d4 | exact D5.out)) (fun hHeld => ?_)
        refine wpAnyH_take (i := 0) (oi := _) (v := ?_) rfl (by kernel_rfl) (by kernel_rfl) (by kernel_rfl) (fun _ _ _ h => h) (Or.inl ⟨by rfl, ?_⟩) (by assumption) ?_
        rotate_left
        · intro wS hSw
          go_simp
          try with_reducible rfl
        try simp only [go_sem]
        refine wpAnyH_take (i := 1) (oi := _) (v := ?_) rfl (by kernel_rfl) (by kernel_rfl) (by kernel_rfl) (fun _ _ _ h => h) (Or.inl ⟨by rfl, ?_⟩) (by assumption) ?_
        rotate_left
        · intro wS hSw
          go_simp
          try with_reducible rfl
        try simp only [go_sem]
        refine wpAnyH_take (i := 2) (oi := _) (v := ?_) rfl (by kernel_rfl) (by kernel_rfl) (by kernel_rfl) (fun _ _ _ h => h) (Or.inl ⟨by rfl, ?_⟩) (by assumption) ?_
        rotate_left
        · intro wS hSw
          go_simp
          try with_reducible rfl
        try simp only [go_sem]
        refine wpAnyH_take (i := 3) (oi := _) (v := ?_) rfl (by kernel_rfl) (by kernel_rfl) (by kernel_rfl) (fun _ _ _ h => h) (Or.inl ⟨by rfl, ?_⟩) (by assumption) ?_
        rotate_left
        · intro wS hSw
          go_simp
          try with_reducible rfl
        try simp only [go_sem]
        refine wpAnyH_take (i := 4) (oi := _) (v := ?_) rfl (by kernel_rfl) (by kernel_rfl) (by kernel_rfl) (fun _ _ _ h => h) (Or.inl ⟨by rfl, ?_⟩) (by assumption) ?_
        rotate_left
        · intro wS hSw
          go_simp
          try with_reducible rfl
        try simp only [go_sem]
        refine wpAnyH_take (i := 5) (oi := _) (v := ?_) rfl (by kernel_rfl) (by kernel_rfl) (by kernel_rfl) (fun _ _ _ h => h) (Or.inl ⟨by rfl, ?_⟩) (by assumption) ?_
        rotate_left
        · intro wS hSw
          go_simp
          try with_reducible rfl
        try simp only [go_sem]
        refine wpAnyH_take (i := 6) (oi := _) (v := ?_) rfl (by kernel_rfl) (by kernel_rfl) (by kernel_rfl) (fun _ _ _ h => h) (Or.inl ⟨by rfl, ?_⟩) (by assumption) ?_
        rotate_left
        · intro wS hSw
          go_simp
          try with_reducible rfl
        try simp only [go_sem]
        refine wpAnyH_take (i := 7) (oi := _) (v := ?_) rfl (by kernel_rfl) (by kernel_rfl) (by kernel_rfl) (fun _ _ _ h => h) (Or.inl ⟨by rfl, ?_⟩) (by assumption) ?_
        rotate_left
        · intro wS hSw
          go_simp
          try with_reducible rfl
        try simp only [go_sem]
        refine wpAnyH_take (i := 8) (oi := _) (v := ?_) rfl (by kernel_rfl) (by kernel_rfl) (by kernel_rfl) (fun _ _ _ h => h) (Or.inl ⟨by rfl, ?_⟩) (by assumption) ?_
        rotate_left
        · intro wS hSw
          go_simp
          try with_reducible rfl
        try simp only [go_sem]
        refine wpAnyH_take (i := 9) (oi := _) (v := ?_) rfl (by kernel_rfl) (by kernel_rfl) (by kernel_rfl) (fun _ _ _ h => h) (Or.inl ⟨by rfl, ?_⟩) (by assumption) ?_
        rotate_left
        · intro wS hSw
          go_simp
          try with_reducible rfl
        try simp only [go_sem]
        refine wpAnyH_take (i := 10) (oi := _) (v := ?_) rfl (by kernel_rfl) (by kernel_rfl) (by kernel_rfl) (fun _ _ _ h => h) (Or.inl ⟨by rfl, ?_⟩) (by assumption) ?_
        rotate_left
        · intro wS hSw
          go_simp
          try with_reducible rfl
        try simp only [go_sem]
        refine wpAnyH_take (i := 12) (oi := _) (v := ?_) rfl (by kernel_rfl) (by kernel_rfl) (by kernel_rfl) (fun _ _ _ h => h) (Or.inl ⟨by rfl, ?_⟩) (by assumption) ?_
        rotate_left
        · intro wS hSw
          go_simp
          try with_reducible rfl
        try simp only [go_sem]
        refine wpAnyH_ready (rs := [11]) (by kernel_rfl) (by simp) ?_
        refine AllReadyH.cons (o := _) rfl (fun K hK => ?_) ?_
        · go_simp
          refine hK.out _ _ (by (first | exact d4 | exact D5.out)) (fun hHeld => ?_)
          clear hK K
          try simp only [go_sem]
          refine wpAnyH_take (i := 13) (oi := _) (v := ?_) rfl (by kernel_rfl) (by kernel_rfl) (by kernel_rfl) (fun _ _ _ h => h) (Or.inl ⟨by rfl, ?_⟩) (by assumption) ?_
          rotate_left
          · intro wS hSw
            go_simp
            try with_reducible rfl
          try simp only [go_sem]
          refine wpAnyH_take (i := 14) (oi := _) (v := ?_) rfl (by kernel_rfl) (by kernel_rfl) (by kernel_rfl) (fun _ _ _ h => h) (Or.inl ⟨by rfl, ?_⟩) (by assumption) ?_
          rotate_left
          · intro wS hSw
            go_simp
            try with_reducible rfl
          try simp only [go_sem]
          refine wpAnyH_ready (rs := [15]) (by kernel_rfl) (by simp) ?_
          refine AllReadyH.cons (o := _) rfl (fun K hK => ?_) ?_
          · go_simp
            refine hK.out _ _ (by (first | exact d4 | exact D5.out)) (fun hHeld => ?_)
            clear hK K
            try simp only [go_sem]
            refine wpAnyH_done (by kernel_rfl) ?_ _
            go_wp2_with fail
            go_meet
            exact ⟨HTurn.out, HRS.out.next (HRS.out.b.same (Kept.refl NoBlk _).drew) (Kept.refl (Only bb) _).drew, HPMS.out⟩
          exact AllReadyH.nil
        exact AllReadyH.nil
      case rest =>
        have HX := Lib.hid hcut
        clear hcut d4 e0 z1 z0
        clear hL1
        go_wp2_with fail
        go_loopg [15] N (fun gh v wr => ∃ (i : Nat) (s : BlD), gh + i = N ∧ v = .int .i64 i ∧ Upto 2 u bs' size i s ∧ BRel w base bb s wr ∧ PR wr base (some ⟨g, 0, none⟩) N (pc 2 (sumOf bs) bs' size) ∧ PR wr base Am N (pc 3 (sumOf bs) bs size))
        case atStart => exact ⟨0, _, by omega, rfl, Upto.start (Or.inl (by decide)), HX.out.2.1, HX.out.1, HX.out.2.2⟩
        case round =>
          obtain ⟨i, s, hgi, rfl, hup, hrel, hpl, hpm⟩ := hrel
          have Hgi := Lib.hid hgi
          have HUp := Lib.hid hup
          have HRr := Lib.hid hrel
          have HPLr := Lib.hid hpl
          have HPMr := Lib.hid hpm
          obtain ⟨wx, hwx⟩ : ∃ wx, wr = wx := ⟨_, rfl⟩
          rw [hwx] at HRr HPLr HPMr ⊢
          clear hgi hup hrel hpl hpm hwx HX
          by_cases hlt : i < N
          · obtain ⟨g', d, eg, hg, a0, a1, a2, a3, a4, r⟩ := HPLr.out i hlt
            cases eg
            have k0 : (0 : Int) ≤ (i : Int) := by omega
            have k1 : (i : Int) < (N : Int) := by omega
            have hstep := HUp.out.add (by decide) g1 HL2.out.1 ((lt_nP (len := bs'.length) (k := i) g1).1 (by rw [HL2.out.2, HN.out]; exact hlt))
            rw [HU.out] at a3 r
            have hc := addP_at HRr.out.b r HRr.out.base hstep.1 _ rfl _ rfl
            unfold aggP at hc
            have HC := Lib.hid hc
            have HStep := Lib.hid hstep.2
            clear hc hstep r
            go_wp2_with fail
            refine (HC.out).mono ?_
            rintro e w5 ⟨rfl, hB5, hk5⟩
            have HR5 := Lib.hid (HRr.out.next hB5 hk5)
            have HPL5 := Lib.hid (HRr.out.pr HPLr.out hk5)
            have HPM5 := Lib.hid (HRr.out.pr HPMr.out hk5)
            clear hB5 hk5 a0 a1 a2 a3 a4
            go_wp2_with fail
            go_roundg (gk - 1)
            case measure => have := Hgi.out; omega
            case rel => exact ⟨i + 1, _, by have := Hgi.out; omega, by go_num, HStep.out, HR5.out, HPL5.out, HPM5.out⟩
          · have hiN : i = N := by have := Hgi.out; omega
            have hsall := HUp.out.all (by omega) (by rw [hiN, ← HN.out, ← HL2.out.2]; exact nP_all g1)
            have hde : doneErr s = 9 := by
              rw [hsall, done_all (by decide), if_pos HNe.out]
            have hdt : doneTo s = BlD.none_ := by
              rw [hsall]
              unfold doneTo
              rw [if_neg (by simp)]
            have hd := done_bad_at HRr.out.b 9 hde (by decide) _ hdt
            have HD := Lib.hid hd
            have HS := Lib.hid (show s.id = 2 by rw [hsall])
            clear hiN hsall hde hdt hd
            go_wp2_with fail
            refine (HD.out).mono ?_
            rintro e w5 ⟨eb, rfl, hib, hB5, hk5⟩
            rw [HS.out] at hib
            have HIB := Lib.hid hib
            have HR5 := Lib.hid (HRr.out.next hB5 hk5)
            have HPM5 := Lib.hid (HRr.out.pr HPMr.out hk5)
            clear hib hB5 hk5
            go_wp2_with fail
            refine (next_none HR5.out.b).mono ?_
            rintro e w6 ⟨rfl, hk6⟩
            have HIB6 := Lib.hid (show IsB w6 eb 2 9 from HIB.out.kept hk6 (fun e => e.elim))
            have HR6 := Lib.hid (HR5.out.next (HR5.out.b.same hk6) hk6.none)
            have HPM6 := Lib.hid (HPM5.out.kept hk6 (fun _ e => e.elim))
            clear hk6
            go_wp2_with fail
            refine (broken_any HIB6.out (by unfold IsErr; omega) (by unfold okId; omega) (HE.out.kept HR6.out.kept)).mono ?_
            rintro e w7 ⟨rfl, hk7⟩
            have HR7 := Lib.hid (HR6.out.next (HR6.out.b.same hk7) hk7.none)
            have HPM7 := Lib.hid (HPM6.out.kept hk7 (fun _ e => e.elim))
            clear hk7
            go_wp2_with fail
            go_loopg [21] N (fun gh v wr => ∃ (i : Nat) (s : BlD), gh + i = N ∧ v = .int .i64 i ∧ Upto 3 u bs size i s ∧ BRel w base bb s wr ∧ PR wr base Am N (pc 3 (sumOf bs) bs size))
            case atStart => exact ⟨0, _, by omega, rfl, Upto.start (Or.inl (by decide)), HR7.out, HPM7.out⟩
            case round =>
              obtain ⟨j, s2, hgj, rfl, hup, hrel, hpm⟩ := hrel
              have Hgj := Lib.hid hgj
              have HUj := Lib.hid hup
              have HRj := Lib.hid hrel
              have HPMj := Lib.hid hpm
              obtain ⟨wy, hwy⟩ : ∃ wy, wr = wy := ⟨_, rfl⟩
              rw [hwy] at HRj HPMj ⊢
              clear hgj hup hrel hpm hwy
              by_cases hlt : j < N
              · obtain ⟨g, d, rfl, hg, a0, a1, a2, a3, a4, r⟩ := HPMj.out j hlt
                have k0 : (0 : Int) ≤ (j : Int) := by omega
                have k1 : (j : Int) < (N : Int) := by omega
                have hstep := HUj.out.add (by decide) g1 HL.out.1 ((lt_nP (len := bs.length) (k := j) g1).1 (by rw [HN.out]; exact hlt))
                rw [HU.out] at a3 r
                have hc := addP_at HRj.out.b r HRj.out.base hstep.1 _ rfl _ rfl
                unfold aggP at hc
                have HC := Lib.hid hc
                have HStep := Lib.hid hstep.2
                clear hc hstep r
                go_wp2_with fail
                refine (HC.out).mono ?_
                rintro e w8 ⟨rfl, hB8, hk8⟩
                have HR8 := Lib.hid (HRj.out.next hB8 hk8)
                have HPM8 := Lib.hid (HRj.out.pr HPMj.out hk8)
                clear hB8 hk8 a0 a1 a2 a3 a4
                go_wp2_with fail
                go_roundg (gk - 1)
                case measure => have := Hgj.out; omega
                case rel => exact ⟨j + 1, _, by have := Hgj.out; omega, by go_num, HStep.out, HR8.out, HPM8.out⟩
              · have hjN : j = N := by have := Hgj.out; omega
                have hsall := HUj.out.all (by omega) (by rw [hjN, ← HN.out]; exact nP_all g1)
                have hde : doneErr s2 = 0 := by
                  rw [hsall, done_all (by decide), HU.out]
                  simp
                have hd := done_ok_at HRj.out.b hde
                have HD2 := Lib.hid hd
                have HS2 := Lib.hid hsall
                clear hjN hsall hde hd
                go_wp2_with fail
                refine (HD2.out).mono ?_
                rintro e w8 ⟨v8, rfl, ⟨hr8, _⟩, hB8, hk8⟩
                rw [HS2.out] at hr8
                have HK8 := Lib.hid (HRj.out.kept.inner hk8 (only_ge HRj.out.hb))
                have s5 := str_run hr8
                have s6 := str_run (H0.out.kept HK8.out (NoCells.none _))
                clear hr8 hB8 hk8
                go_wp2_with fail
                go_ret
                exact ⟨by simp, HK8.out⟩

set_option maxRecDepth 100000 in
set_option maxHeartbeats 2000000 in
theorem sums_out (size at_ turn : Int) (A0 : Option Addr) (n0 c0 : Nat) (w : World) (he : Env w) (h : n0 = 0 ∨ 2048 < n0 ∨ size < 1 ∨ 4096 < size ∨ turn = 0) :
    Calls Tryd.prog 6 #[.slice A0 n0 c0, .int .i64 size, .int .i64 at_, .int .u8 turn] w (TrueEnd w) := by
  have HE := Lib.hid he
  have q : ((n0 : Int) == 0) = true ∨ (((n0 : Int) == 0) = false ∧ (2048 : Int) < n0) ∨ (((n0 : Int) == 0) = false ∧ ¬ (2048 : Int) < n0 ∧ size < 1) ∨ (((n0 : Int) == 0) = false ∧ ¬ (2048 : Int) < n0 ∧ ¬ size < 1 ∧ 4096 < size) ∨
      (((n0 : Int) == 0) = false ∧ ¬ (2048 : Int) < n0 ∧ ¬ size < 1 ∧ ¬ 4096 < size ∧ (turn == 0) = true) := by
    simp only [beq_iff_eq, beq_eq_false_iff_ne, ne_eq]
    omega
  clear h he
  rcases q with q1 | ⟨q1, q2⟩ | ⟨q1, q2, q3⟩ | ⟨q1, q2, q3, q4⟩ | ⟨q1, q2, q3, q4, q5⟩
  all_goals
    go_enter Tryd.func6, Tryd.ntmps6
    go_wp2_with fail
    refine (known_any HE.out).mono ?_
    rintro e w1 ⟨rfl, hk1⟩
    go_wp2_with fail
    go_ret
    exact ⟨rfl, hk1⟩

theorem sums_any (size at_ turn : Int) (A0 : Option Addr) (n0 c0 : Nat) (bs : List UInt8) (w : World) (he : Env w) (ht : 0 ≤ turn ∧ turn < 256) (h0 : RdB w (.slice A0 n0 c0) bs) :
    Calls Tryd.prog 6 #[.slice A0 n0 c0, .int .i64 size, .int .i64 at_, .int .u8 turn] w (TrueEnd w) := by
  by_cases h : n0 = 0 ∨ 2048 < n0 ∨ size < 1 ∨ 4096 < size ∨ turn = 0
  · exact sums_out size at_ turn A0 n0 c0 w he h
  · obtain ⟨s, rfl⟩ : ∃ s : Nat, size = (s : Int) := ⟨size.toNat, by omega⟩
    exact sums_main s at_ turn A0 n0 c0 bs w he h0 ht.1 ht.2 (by omega) (by omega) (by omega) (by omega) (by omega)
end Go.Proofs.YtnaacgglbeipcaaDoor
