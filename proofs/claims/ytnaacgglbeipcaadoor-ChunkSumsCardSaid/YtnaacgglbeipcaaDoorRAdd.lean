/- The document's Builder.Add where the piece is taken. -/
import Derived.Test.YtnaacgglbeipcaaDoorRAddNot
namespace Go.Proofs.YtnaacgglbeipcaaDoor
open Go.RowKit

def wholeB (s : BlD) : Bool := decide ((s.data.length : Int) = s.total)
def RAddEnd (bb : Nat) (s : BlD) (w : World) (e : Ending) (w' : World) : Prop := e = .returned (.tuple #[.bool (wholeB s), .int .i64 0]) ∧ RBld w' bb s ∧ Kept (Only bb) w w'

theorem rbld_set {w : World} {bb : Nat} {a0 a1 a2 a3 : Value} {pi pt pu : Int} (h : Blk w bb 51 #[a0, a1, a2, a3]) :
    RBld ((((w.setCell ⟨bb, 0, none⟩ (.int .i64 pi)).setCell ⟨bb, 1, none⟩ (.int .i64 pt)).setCell ⟨bb, 2, none⟩ (.int .u32 pu)).setCell ⟨bb, 3, none⟩ (.slice none 0 0)) bb ⟨pi, pt, pu, []⟩ := by
  refine ⟨none, 0, ?_, ⟨rfl, Or.inl ⟨rfl, rfl⟩⟩, by show 0 ≤ 1048576; omega⟩
  exact ((((h.set_ 0 (.int .i64 pi)).set_ 1 (.int .i64 pt)).set_ 2 (.int .u32 pu)).set_ 3 (.slice none 0 0))

/-- 'append(s, b...)' as a step of a region that draws its order. -/
theorem step_append_rdb {w : World} {ops : Array Oper} {o : Oper} {a : Act} {K : Act → World → Prop} {Q : Exit → Act → World → Prop} {E : Prop} (hgd : o.guard = none) (s x : Operand)
    (ho : o.op = .call { callee := .builtin .append, args := #[s, x], argTypes := #[22, 22] }) (base : Nat) (v : Value) (n : Nat) (xs : List Value) (hs : a.eval s = v) (hown : w.ownsRow base 5 1 v n xs)
    (cv : Value) (bs : List UInt8) (hx : a.eval x = cv) (hr : RdB w cv bs) (hn : n + bs.length ≤ 140737488355328) (hbase : base ≤ w.heap.size)
    (h : ∀ A m c w', w'.ownsRow base 5 1 (.slice A m c) (n + bs.length) (xs ++ bs.map bv) → w.grownBy w' v.ownBlock → K (a.put o.dst (.slice A m c)) w') : if Region.wanted o (yielded ops a.tmps) = true then Oper.wp Tryd.prog o a w K Q else E := by
  have hw : Region.wanted o (yielded ops a.tmps) = true := by simp [Region.wanted, hgd]
  rw [if_pos hw]
  obtain ⟨i0, hi, hz0, hz1, hz2⟩ := info_parts u8_info
  have hr0 := hr
  obtain ⟨A, m, c, rfl, g1, g2, g3, g4, g5⟩ := hr
  have hl : bs.length = m := by simpa using g5.1
  cases A with
  | none =>
    obtain ⟨rfl, rfl⟩ := g4 rfl
    have hb : bs = [] := List.eq_nil_of_length_eq_zero hl
    subst hb
    have hrun := run_append_owned_none (P := Tryd.prog) (w := w) base 22 o.type 5 i0 1 Tryd.underlying22 hi v n xs hown
    obtain ⟨A, m, c, hv⟩ : ∃ A m c, v = .slice A m c := by
      rcases hown.2 with ⟨e, _⟩ | ⟨g, cap, cur, e, _⟩
      · exact ⟨_, _, _, e⟩
      · exact ⟨_, _, _, e⟩
    have hk := h A m c w (by rw [← hv]; simpa using hown) ⟨rfl, rfl, rfl, Nat.le_refl _, fun _ _ _ => rfl⟩
    rw [← hv] at hk
    unfold Oper.wp
    simp [execOp, ho, resolve, invoke, builtin, hs, hx, hrun, Result.andThen]
    exact hk
  | some ad =>
    refine wp_append_own w s x 22 ho base 5 i0 (.int .u8 0) 1 1 Tryd.underlying22 hi hz0 hz1 hz2 rfl (by decide) v n xs hs hown ad m c (bs.map bv) hx (by simp; omega) hr0.cells (bv_one bs) (by unfold maxLen; omega) (by omega) hbase ?_
    intro v' w' h1 h2 _
    obtain ⟨A, m', c', hv⟩ : ∃ A m c, v' = .slice A m c := by
      rcases h1.2 with ⟨e, _⟩ | ⟨g, cap, cur, e, _⟩
      · exact ⟨_, _, _, e⟩
      · exact ⟨_, _, _, e⟩
    subst hv
    rw [← hl] at h1
    exact h A m' c' w' h1 h2

set_option maxRecDepth 100000 in
set_option maxHeartbeats 4000000 in
theorem radd_ok_new {w : World} {bb : Nat} {s : BlD} (h : RBld w bb s) {pi pt pu : Int} {A' : Option Addr} {pos L c' : Nat} (hbad : ¬ badN pi pos pt L) (hid : s.id < pi) (hsame : ¬ s.id < pi → pt = s.total ∧ pu = s.sum) {base : Nat} {ps : List UInt8} (hd : RdU w base (.slice A' L c') ps) (hbb : base ≤ bb) (hfar : pos ≤ (restart s pi pt pu).data.length) :
    Calls Tryd.prog 18 #[.pointer (some ⟨bb, 0, none⟩), .agg #[.int .i64 pi, .int .i64 pos, .int .i64 pt, .int .u32 pu, .slice A' L c']] w (RAddEnd bb (addData (restart s pi pt pu) pos ps) w) := by
  have seen : True := (fun _ => trivial) (And.intro hsame hbad)
  clear seen
  obtain ⟨b0, hb0⟩ : ∃ b0, restart s pi pt pu = b0 := ⟨_, rfl⟩
  rw [hb0] at hfar ⊢
  obtain ⟨bE, hbE⟩ : ∃ bE, addData b0 pos ps = bE := ⟨_, rfl⟩
  rw [hbE]
  have HB0 := Lib.hid hb0
  have HBE := Lib.hid hbE
  clear hb0 hbE
  have HD := Lib.hid hd
  have HF := Lib.hid hfar
  clear hd hfar
  have H := Lib.hid h
  unfold badN at hbad
  simp only [not_or] at hbad
  obtain ⟨b1, b2, b3, b4, b5, b6, b7⟩ := hbad
  obtain ⟨A, c, h1, h2, h3⟩ := h
  have hlt := h1.lt
  have hne : bb ≠ w.heap.size := by omega
  obtain ⟨i, hi⟩ : ∃ i, s.id = i := ⟨_, rfl⟩
  obtain ⟨sd, hsd⟩ : ∃ sd, s.data.length = sd := ⟨_, rfl⟩
  obtain ⟨st, hst⟩ : ∃ st, s.total = st := ⟨_, rfl⟩
  obtain ⟨su, hsu⟩ : ∃ su, s.sum = su := ⟨_, rfl⟩
  rw [hsd] at h3
  rw [hi] at hid
  have hpos : (pos : Int) ≤ 0 := by
    have := HF.out
    rw [← HB0.out] at this
    unfold restart at this
    rw [hi, if_pos hid] at this
    have h : pos ≤ 0 := by simpa using this
    omega
  have hb1 : (i == pi) = false := by simp; omega
  clear hsame
  have HI := Lib.hid hi
  have HSD := Lib.hid hsd
  have HST := Lib.hid hst
  have HSU := Lib.hid hsu
  have H6 := Lib.hid b6
  clear h1 h2 hi b6 hsd hst hsu
  go_enter Tryd.func18, Tryd.ntmps18
  go_upto_region 1 with fail
  go_cut [53] (fun u wx => u = .bool false ∧ RBld wx bb s ∧ Blk wx w.heap.size 37 #[.int .i64 pi, .int .i64 pos, .int .i64 pt, .int .u32 pu, .slice A' L c'] ∧ Kept NoBlk w wx)
  case first =>
    have k0 : Kept NoBlk w (w.alloc (.cells #[.int .i64 pi, .int .i64 pos, .int .i64 pt, .int .u32 pu, .slice A' L c'] 37)) := (Kept.refl NoBlk w).alloc _
    have K0 := Lib.hid k0
    clear k0
    have q : ((L : Int) == 0) = false ∨ (((L : Int) == 0) = true ∧ (pt != 0) = false) := by
      have := H6.out
      simp only [beq_iff_eq, beq_eq_false_iff_ne, bne_eq_false_iff_eq, ne_eq]
      omega
    rcases q with q | ⟨q, q'⟩
    all_goals
      go_wp2_with fail
      go_meet
      exact ⟨by simp; try omega, H.out.same K0.out, Blk.new w 37 _, K0.out⟩
  case rest =>
    obtain ⟨hv, hB, hP, hK⟩ := hcut
    rw [hv]
    have HB := Lib.hid hB
    have HP := Lib.hid hP
    have HK := Lib.hid hK
    have p0 : wc.cell? ⟨w.heap.size, 0, none⟩ = some (.int .i64 pi) := hP.cell 0
    have p1 : wc.cell? ⟨w.heap.size, 0 + 1, none⟩ = some (.int .i64 pos) := hP.cell 1
    have p2 : wc.cell? ⟨w.heap.size, 0 + 2, none⟩ = some (.int .i64 pt) := hP.cell 2
    have p3 : wc.cell? ⟨w.heap.size, 0 + 3, none⟩ = some (.int .u32 pu) := hP.cell 3
    have p4 : wc.cell? ⟨w.heap.size, 0 + 4, none⟩ = some (.slice A' L c') := hP.cell 4
    clear hB hP hK hv
    obtain ⟨A1, c1, g1, _, _⟩ := HB.out
    have d0 : wc.cell? ⟨bb, 0, none⟩ = some (.int .i64 s.id) := g1.cell 0
    have d1 : wc.cell? ⟨bb, 0 + 1, none⟩ = some (.int .i64 s.total) := g1.cell 1
    have d2 : wc.cell? ⟨bb, 0 + 2, none⟩ = some (.int .u32 s.sum) := g1.cell 2
    have d3 : wc.cell? ⟨bb, 0 + 3, none⟩ = some (.slice A1 s.data.length c1) := g1.cell 3
    rw [HI.out] at d0
    rw [HST.out] at d1
    rw [HSU.out] at d2
    rw [HSD.out] at d3
    have f0 := g1.frozen
    have G1 := Lib.hid g1
    clear g1
    go_wp2_with fail
    go_quiet (fail)
    go_wp2_with fail
    go_quiet (fail)
    go_wp2_with fail
    go_quiet (fail)
    go_wp2_with fail
    go_quiet (fail)
    go_upto_region 13 with fail
    go_cut [] (fun wd => RBld wd bb b0 ∧ Blk wd w.heap.size 37 #[.int .i64 pi, .int .i64 pos, .int .i64 pt, .int .u32 pu, .slice A' L c'] ∧ Kept (Only bb) w wd)
    case first =>
      go_wp2_with fail
      go_meet
      have e : b0 = ⟨pi, pt, pu, []⟩ := by rw [← HB0.out]; unfold restart; rw [HI.out, if_pos hid]
      rw [e]
      exact ⟨rbld_set (G1.out.drewN _), (((((HP.out.drewN _).far (fun e => hne e.symm) _).far (fun e => hne e.symm) _).far (fun e => hne e.symm) _).far (fun e => hne e.symm) _),
        ((((HK.out.none.drewN _).at_ _).at_ _).at_ _).at_ _⟩
    case rest =>
      obtain ⟨hB2, hP2, hK2⟩ := hcut
      have X2 := Lib.hid (show RBld wc bb b0 ∧ Blk wc w.heap.size 37 #[.int .i64 pi, .int .i64 pos, .int .i64 pt, .int .u32 pu, .slice A' L c'] ∧ Kept (Only bb) w wc from ⟨hB2, hP2, hK2⟩)
      clear hB2 hP2 hK2 hpos hb1
      clear p0 p1 p2 p3 p4 d0 d1 d2 d3 f0 G1 HB HP
      have hf0 := HF.out
      clear HF
      obtain ⟨A2, c2, g2, o2, l2⟩ := X2.out.1
      have e3 : wc.cell? ⟨bb, 0 + 3, none⟩ = some (.slice A2 b0.data.length c2) := g2.cell 3
      have e1 : wc.cell? ⟨bb, 0 + 1, none⟩ = some (.int .i64 b0.total) := g2.cell 1
      have r1 : wc.cell? ⟨w.heap.size, 0 + 1, none⟩ = some (.int .i64 pos) := X2.out.2.1.cell 1
      have r4 : wc.cell? ⟨w.heap.size, 0 + 4, none⟩ = some (.slice A' L c') := X2.out.2.1.cell 4
      have G2 := Lib.hid g2
      have O2 := Lib.hid o2
      clear g2 o2
      have HL := Lib.hid (HD.out.len)
      obtain ⟨hv, hhv⟩ : ∃ hv, b0.data.length = hv := ⟨_, rfl⟩
      have HBF := Lib.hid (show bE = if hv < pos + L then ⟨b0.id, b0.total, b0.sum, b0.data ++ ps.drop (hv - pos)⟩ else b0 by rw [← HBE.out]; unfold addData; rw [HL.out, hhv])
      rw [hhv] at hf0 l2 e3 G2 O2
      have HHV := Lib.hid hhv
      clear hhv
      obtain ⟨tt, htt⟩ : ∃ tt, b0.total = tt := ⟨_, rfl⟩
      rw [htt] at e1
      have HTT := Lib.hid htt
      clear htt
      by_cases hlt2 : hv < pos + L
      · obtain ⟨k, hk⟩ : ∃ k, pos + k = hv := ⟨hv - pos, by omega⟩
        subst hk
        have HBG := Lib.hid (show (⟨b0.id, b0.total, b0.sum, b0.data ++ ps.drop k⟩ : BlD) = bE by
          have h := HBF.out
          rw [if_pos hlt2] at h
          have ek : pos + k - pos = k := by omega
          rw [ek] at h
          exact h.symm)
        clear hf0
        have hkL : k < L := by omega
        have hrd := (HD.out.kept X2.out.2.2 (fun g hg => by unfold Only at hg; omega))
        have hL0 : L ≤ c' ∧ ∃ ad, A' = some ad := by
          obtain ⟨A3, n3, c3, e, q1, q2, q3, q4, _⟩ := HD.out
          injection e with e1 e2 e3
          subst e1 e2 e3
          refine ⟨q1, ?_⟩
          cases A' with
          | none => have := (q4 rfl).1; omega
          | some ad => exact ⟨ad, rfl⟩
        obtain ⟨hLc, ad, rfl⟩ := hL0
        have z0b : IntKind.i64.wrap (k : Int) = (k : Int) := by rw [IntKind.wrap_i64]; omega
        have z0c : IntKind.i64.wrap ((pos : Int) + (k : Int) - (pos : Int)) = (k : Int) := by rw [IntKind.wrap_i64]; omega
        have z1 : (0 : Int) ≤ (k : Int) := by omega
        have z2 : (k : Int) ≤ (L : Int) := by omega
        have z3 : ¬ c' = k := by omega
        have z4 : (L : Int) ≤ (c' : Int) := by omega
        have X3 := Lib.hid (show RdB wc (.slice A2 (pos + k) c2) b0.data ∧ RdB wc (.slice (some (ad.add k)) (L - k) (c' - k)) (ps.drop k) from by
          refine ⟨RdB.of_own (e := 5) (n := pos + k) O2.out (by omega), ?_⟩
          have h5 := (hrd.rd (by have := X2.out.2.2.size; omega)).sub (t := k) (p := L) (by omega) (Nat.le_refl _)
          have e5 : (ps.drop k).take (L - k) = ps.drop k := List.take_of_length_le (by rw [List.length_drop, HL.out]; omega)
          rw [e5] at h5
          exact h5)
        have hlen : (b0.data ++ ps.drop k).length = L + pos := by rw [List.length_append, List.length_drop, HL.out, HHV.out]; omega
        have HSZ := Lib.hid (show 0 + b0.data.length ≤ 140737488355328 ∧ 0 + b0.data.length + (ps.drop k).length ≤ 140737488355328 by
          rw [List.length_append] at hlen
          omega)
        have hnew : ∀ (w4 : World) (A4 : Option Addr) (m4 c4 : Nat), w4.ownsRow wc.heap.size 5 1 (.slice A4 m4 c4) (0 + b0.data.length + (ps.drop k).length) ([] ++ b0.data.map bv ++ (ps.drop k).map bv) → Kept NoBlk wc w4 →
            m4 = L + pos ∧ RBld (w4.setCell ⟨bb, 3, none⟩ (.slice A4 (L + pos) c4)) bb ⟨b0.id, b0.total, b0.sum, b0.data ++ ps.drop k⟩ := by
          intro w4 A4 m4 c4 h6 h7
          have hl2 : 0 + b0.data.length + (ps.drop k).length = L + pos := by rw [List.length_append] at hlen; omega
          rw [hl2, List.nil_append, ← List.map_append] at h6
          have hv4 : m4 = L + pos := by
            rcases h6.2 with ⟨e3, e4⟩ | ⟨g, cap, cur, e3, _⟩
            · injection e3 with _ e5 _
              have e6 : L + pos = 0 := e4
              omega
            · injection e3
          subst hv4
          refine ⟨rfl, A4, c4, ?_, ?_, ?_⟩
          · show Blk _ _ _ #[_, _, _, .slice A4 (b0.data ++ ps.drop k).length c4]
            rw [hlen]
            exact (G2.out.kept h7 (fun e => e.elim)).set_ 3 (.slice A4 (L + pos) c4)
          · show World.ownsRow _ _ _ _ (.slice A4 (b0.data ++ ps.drop k).length c4) (b0.data ++ ps.drop k).length _
            rw [hlen]
            exact ownsRow_no5 (ownsRow_base h6 (Nat.zero_le _)) (Kept.at_ (Kept.refl (Only bb) w4) _) (No5.of_blk (G2.out.kept h7 (fun e => e.elim)) (by decide))
          · show (b0.data ++ ps.drop k).length ≤ 1048576
            rw [hlen]
            omega
        have HN := Lib.hid hnew
        have HLE := Lib.hid hlen
        have HOW := Lib.hid (World.ownsRow_made (e := 5) (size := 1) wc.drew #[] 0 (Nat.le_refl _) (Nat.zero_le _) rfl)
        clear hnew hrd hLc hlen
        have hwB : wholeB bE = (((L + pos : Nat) : Int) == tt) := by
          rw [← HBG.out]
          show decide (((b0.data ++ ps.drop k).length : Int) = b0.total) = _
          rw [HLE.out, HTT.out]
          rfl
        have HWB := Lib.hid hwB
        have hltc := X2.out.1.lt
        have hnec : bb ≠ wc.heap.size := by omega
        have e5 : (wc.alloc (.cells #[] 5)).cell? ⟨bb, 3, none⟩ = some (.slice A2 (pos + k) c2) := (G2.out.alloc _).cell 3
        have e6 : ∀ n, ((wc.drewN n).alloc (.cells #[] 5)).cell? ⟨bb, 3, none⟩ = some (.slice A2 (pos + k) c2) := fun n => ((G2.out.drewN n).alloc _).cell 3
        have e7 : ∀ n, ((wc.drewN n).drew.alloc (.cells #[] 5)).cell? ⟨bb, 3, none⟩ = some (.slice A2 (pos + k) c2) := fun n => (((G2.out.drewN n).drew).alloc _).cell 3
        clear hwB
        go_wp2_with fail
        go_quiet (fail)
        go_wp2_with fail
        refine wp_region_held_drew (S := fun w' => w'.cell? ⟨w.heap.size, 1, none⟩ = some (.int .i64 pos) ∧ w'.cell? ⟨w.heap.size, 4, none⟩ = some (.slice (some ad) L c')) (by kernel_rfl) (by (first | exact ⟨((X2.out.2.1.drewN _).drewN 1).cell 1, ((X2.out.2.1.drewN _).drewN 1).cell 4⟩ | exact ⟨(((X2.out.2.1.drewN _).drewN 1).alloc _).cell 1, (((X2.out.2.1.drewN _).drewN 1).alloc _).cell 4⟩ | exact ⟨P5.out.cell 1, P5.out.cell 4⟩ | exact ⟨(P5.out.far (fun e => hne e.symm) _).cell 1, (P5.out.far (fun e => hne e.symm) _).cell 4⟩ | exact ⟨P4.out.cell 1, P4.out.cell 4⟩)) (fun hHeld => ?_)
        refine wpAnyH_take (i := 0) (oi := _) (v := ?_) rfl (by kernel_rfl) (by kernel_rfl) (by kernel_rfl) (fun _ _ _ h => h) (Or.inl ⟨by rfl, ?_⟩) (by assumption) ?_
        rotate_left
        · intro wS hSw
          go_simp
          try with_reducible rfl
        try simp only [go_sem]
        refine wpAnyH_take (i := 2) (oi := _) (v := ?_) rfl (by kernel_rfl) (by kernel_rfl) (by kernel_rfl) (fun _ _ _ h => h) (Or.inl ⟨by rfl, ?_⟩) (by assumption) ?_
        rotate_left
        · intro wS hSw
          go_simp
          try with_reducible rfl
        try simp only [go_sem]
        refine wpAnyH_take (i := 3) (oi := _) (v := ?_) rfl (by kernel_rfl) (by kernel_rfl) (by kernel_rfl) (fun _ _ _ h => h) (Or.inl ⟨by rfl, ?_⟩) (by assumption) ?_
        rotate_left
        · intro wS hSw
          go_simp
          try with_reducible rfl
        try simp only [go_sem]
        refine wpAnyH_take (i := 4) (oi := _) (v := ?_) rfl (by kernel_rfl) (by kernel_rfl) (by kernel_rfl) (fun _ _ _ h => h) (Or.inl ⟨by rfl, ?_⟩) (by assumption) ?_
        rotate_left
        · intro wS hSw
          go_simp
          try with_reducible rfl
        try simp only [go_sem]
        refine wpAnyH_take (i := 7) (oi := _) (v := ?_) rfl (by kernel_rfl) (by kernel_rfl) (by kernel_rfl) (fun _ _ _ h => h) (Or.inl ⟨by rfl, ?_⟩) (by assumption) ?_
        rotate_left
        · intro wS hSw
          go_simp
          try with_reducible rfl
        try simp only [go_sem]
        refine wpAnyH_take (i := 8) (oi := _) (v := ?_) rfl (by kernel_rfl) (by kernel_rfl) (by kernel_rfl) (fun _ _ _ h => h) (Or.inl ⟨by rfl, ?_⟩) (by assumption) ?_
        rotate_left
        · intro wS hSw
          go_simp
          try with_reducible rfl
        try simp only [go_sem]
        refine wpAnyH_take (i := 9) (oi := _) (v := ?_) rfl (by kernel_rfl) (by kernel_rfl) (by kernel_rfl) (fun _ _ _ h => h) (Or.inl ⟨by rfl, ?_⟩) (by assumption) ?_
        rotate_left
        · intro wS hSw
          go_simp
          try with_reducible rfl
        try simp only [go_sem]
        refine wpAnyH_take (i := 10) (oi := _) (v := ?_) rfl (by kernel_rfl) (by kernel_rfl) (by kernel_rfl) (fun _ _ _ h => h) (Or.inl ⟨by rfl, ?_⟩) (by assumption) ?_
        rotate_left
        · intro wS hSw
          go_simp
          try with_reducible rfl
        try simp only [go_sem]
        refine wpAnyH_take (i := 11) (oi := _) (v := ?_) rfl (by kernel_rfl) (by kernel_rfl) (by kernel_rfl) (fun _ _ _ h => h) (Or.inl ⟨by rfl, ?_⟩) (by assumption) ?_
        rotate_left
        · intro wS hSw
          go_simp
          try with_reducible rfl
        try simp only [go_sem]
        refine wpAnyH_take (i := 14) (oi := _) (v := ?_) rfl (by kernel_rfl) (by kernel_rfl) (by kernel_rfl) (fun _ _ _ h => h) (Or.inl ⟨by rfl, ?_⟩) (by assumption) ?_
        rotate_left
        · intro wS hSw
          go_simp
          try with_reducible rfl
        try simp only [go_sem]
        refine wpAnyH_take (i := 15) (oi := _) (v := ?_) rfl (by kernel_rfl) (by kernel_rfl) (by kernel_rfl) (fun _ _ _ h => h) (Or.inl ⟨by rfl, ?_⟩) (by assumption) ?_
        rotate_left
        · intro wS hSw
          go_simp
          try with_reducible rfl
        try simp only [go_sem]
        refine wpAnyH_ready (rs := [1, 5, 12]) (by kernel_rfl) (by simp) ?_
        refine AllReadyH.cons (o := _) rfl (fun K hK => ?_) ?_
        · go_simp
          refine hK.out _ _ (by (first | exact ⟨((X2.out.2.1.drewN _).drewN 1).cell 1, ((X2.out.2.1.drewN _).drewN 1).cell 4⟩ | exact ⟨(((X2.out.2.1.drewN _).drewN 1).alloc _).cell 1, (((X2.out.2.1.drewN _).drewN 1).alloc _).cell 4⟩ | exact ⟨P5.out.cell 1, P5.out.cell 4⟩ | exact ⟨(P5.out.far (fun e => hne e.symm) _).cell 1, (P5.out.far (fun e => hne e.symm) _).cell 4⟩ | exact ⟨P4.out.cell 1, P4.out.cell 4⟩)) (fun hHeld => ?_)
          clear hK K
          try simp only [go_sem]
          refine wpAnyH_ready (rs := [5, 12]) (by kernel_rfl) (by simp) ?_
          refine AllReadyH.cons (o := _) rfl (fun K hK => ?_) ?_
          · go_simp
            refine hK.out _ _ (by (first | exact ⟨((X2.out.2.1.drewN _).drewN 1).cell 1, ((X2.out.2.1.drewN _).drewN 1).cell 4⟩ | exact ⟨(((X2.out.2.1.drewN _).drewN 1).alloc _).cell 1, (((X2.out.2.1.drewN _).drewN 1).alloc _).cell 4⟩ | exact ⟨P5.out.cell 1, P5.out.cell 4⟩ | exact ⟨(P5.out.far (fun e => hne e.symm) _).cell 1, (P5.out.far (fun e => hne e.symm) _).cell 4⟩ | exact ⟨P4.out.cell 1, P4.out.cell 4⟩)) (fun hHeld => ?_)
            clear hK K
            try simp only [go_sem]
            refine wpAnyH_ready (rs := [6, 12]) (by kernel_rfl) (by simp) ?_
            refine AllReadyH.cons (o := _) rfl (fun K hK => ?_) ?_
            · refine step_append_rdb rfl (.tmp 131) (.tmp 135) rfl wc.heap.size _ 0 [] rfl (World.ownsRow_made (e := 5) (size := 1) _ #[] 0 (Nat.le_refl _) (Nat.zero_le _) rfl) _ b0.data rfl (X3.out.1.kept (((Kept.refl NoBlk wc).drewN _).alloc _) (NoCells.none _)) HSZ.out.1 (by simp) ?_
              intro A4 m4 c4 w4 hown4 hg4
              have k4 : Kept NoBlk wc w4 := (((Kept.refl NoBlk wc).drewN _).alloc _).grown hg4 (fun g hg => Or.inr (by have e : wc.heap.size = g := Option.some.inj hg; omega))
              have K4 := Lib.hid k4
              have R4 := Lib.hid hown4
              have P4 := Lib.hid (X2.out.2.1.kept k4 (fun e => e.elim))
              have q4 : w4.cell? ⟨bb, 3, none⟩ = some (.slice A2 (pos + k) c2) := (G2.out.kept k4 (fun e => e.elim)).cell 3
              clear hown4 hg4 k4
              try go_simp
              refine hK.out _ _ (by (first | exact ⟨((X2.out.2.1.drewN _).drewN 1).cell 1, ((X2.out.2.1.drewN _).drewN 1).cell 4⟩ | exact ⟨(((X2.out.2.1.drewN _).drewN 1).alloc _).cell 1, (((X2.out.2.1.drewN _).drewN 1).alloc _).cell 4⟩ | exact ⟨P5.out.cell 1, P5.out.cell 4⟩ | exact ⟨(P5.out.far (fun e => hne e.symm) _).cell 1, (P5.out.far (fun e => hne e.symm) _).cell 4⟩ | exact ⟨P4.out.cell 1, P4.out.cell 4⟩)) (fun hHeld => ?_)
              clear hK K
              try simp only [go_sem]
              refine wpAnyH_ready (rs := [12]) (by kernel_rfl) (by simp) ?_
              refine AllReadyH.cons (o := _) rfl (fun K hK => ?_) ?_
              · go_simp
                refine hK.out _ _ (by (first | exact ⟨((X2.out.2.1.drewN _).drewN 1).cell 1, ((X2.out.2.1.drewN _).drewN 1).cell 4⟩ | exact ⟨(((X2.out.2.1.drewN _).drewN 1).alloc _).cell 1, (((X2.out.2.1.drewN _).drewN 1).alloc _).cell 4⟩ | exact ⟨P5.out.cell 1, P5.out.cell 4⟩ | exact ⟨(P5.out.far (fun e => hne e.symm) _).cell 1, (P5.out.far (fun e => hne e.symm) _).cell 4⟩ | exact ⟨P4.out.cell 1, P4.out.cell 4⟩)) (fun hHeld => ?_)
                clear hK K
                try simp only [go_sem]
                refine wpAnyH_take (i := 13) (oi := _) (v := ?_) rfl (by kernel_rfl) (by kernel_rfl) (by kernel_rfl) (fun _ _ _ h => h) (Or.inl ⟨by rfl, ?_⟩) (by assumption) ?_
                rotate_left
                · intro wS hSw
                  go_simp
                  try with_reducible rfl
                try simp only [go_sem]
                refine wpAnyH_take (i := 16) (oi := _) (v := ?_) rfl (by kernel_rfl) (by kernel_rfl) (by kernel_rfl) (fun _ _ _ h => h) (Or.inl ⟨by rfl, ?_⟩) (by assumption) ?_
                rotate_left
                · intro wS hSw
                  go_simp
                  try with_reducible rfl
                try simp only [go_sem]
                refine wpAnyH_take (i := 17) (oi := _) (v := ?_) rfl (by kernel_rfl) (by kernel_rfl) (by kernel_rfl) (fun _ _ _ h => h) (Or.inl ⟨by rfl, ?_⟩) (by assumption) ?_
                rotate_left
                · intro wS hSw
                  go_simp
                  try with_reducible rfl
                try simp only [go_sem]
                refine wpAnyH_ready (rs := [18]) (by kernel_rfl) (by simp) ?_
                refine AllReadyH.cons (o := _) rfl (fun K hK => ?_) ?_
                · refine step_append_rdb rfl (.tmp 136) (.tmp 147) rfl wc.heap.size _ _ _ rfl R4.out _ (ps.drop k) rfl (X3.out.2.kept K4.out (NoCells.none _)) HSZ.out.2 K4.out.size ?_
                  intro A5 m5 c5 w5 hown5 hg5
                  have k5 : Kept NoBlk wc w5 := K4.out.grown hg5 (fun g hg => Or.inr (ownsRow_lt R4.out hg).2)
                  obtain ⟨hm5, hb5⟩ := HN.out w5 A5 m5 c5 hown5 k5
                  subst hm5
                  have K5 := Lib.hid k5
                  have B5 := Lib.hid hb5
                  have P5 := Lib.hid (X2.out.2.1.kept k5 (fun e => e.elim))
                  have q5 : w5.cell? ⟨bb, 3, none⟩ = some (.slice A2 (pos + k) c2) := (G2.out.kept k5 (fun e => e.elim)).cell 3
                  have q6 : w5.frozen? ⟨bb, 3, none⟩ = false := (G2.out.kept k5 (fun e => e.elim)).frozen 3
                  have q7 : w5.cell? ⟨bb, 1, none⟩ = some (.int .i64 tt) := by
                    have := (G2.out.kept k5 (fun e => e.elim)).cell 1
                    rw [HTT.out] at this
                    exact this
                  clear hown5 hg5 k5 hb5
                  try go_simp
                  refine hK.out _ _ (by (first | exact ⟨((X2.out.2.1.drewN _).drewN 1).cell 1, ((X2.out.2.1.drewN _).drewN 1).cell 4⟩ | exact ⟨(((X2.out.2.1.drewN _).drewN 1).alloc _).cell 1, (((X2.out.2.1.drewN _).drewN 1).alloc _).cell 4⟩ | exact ⟨P5.out.cell 1, P5.out.cell 4⟩ | exact ⟨(P5.out.far (fun e => hne e.symm) _).cell 1, (P5.out.far (fun e => hne e.symm) _).cell 4⟩ | exact ⟨P4.out.cell 1, P4.out.cell 4⟩)) (fun hHeld => ?_)
                  clear hK K
                  try simp only [go_sem]
                  refine wpAnyH_take (i := 19) (oi := _) (v := ?_) rfl (by kernel_rfl) (by kernel_rfl) (by kernel_rfl) (fun _ _ _ h => h) (Or.inl ⟨by rfl, ?_⟩) (by assumption) ?_
                  rotate_left
                  · intro wS hSw
                    go_simp
                    try with_reducible rfl
                  try simp only [go_sem]
                  refine wpAnyH_take (i := 20) (oi := _) (v := ?_) rfl (by kernel_rfl) (by kernel_rfl) (by kernel_rfl) (fun _ _ _ h => h) (Or.inl ⟨by rfl, ?_⟩) (by assumption) ?_
                  rotate_left
                  · intro wS hSw
                    go_simp
                    try with_reducible rfl
                  try simp only [go_sem]
                  refine wpAnyH_ready (rs := [21]) (by kernel_rfl) (by simp) ?_
                  refine AllReadyH.cons (o := _) rfl (fun K hK => ?_) ?_
                  · go_simp
                    refine hK.out _ _ (by (first | exact ⟨((X2.out.2.1.drewN _).drewN 1).cell 1, ((X2.out.2.1.drewN _).drewN 1).cell 4⟩ | exact ⟨(((X2.out.2.1.drewN _).drewN 1).alloc _).cell 1, (((X2.out.2.1.drewN _).drewN 1).alloc _).cell 4⟩ | exact ⟨P5.out.cell 1, P5.out.cell 4⟩ | exact ⟨(P5.out.far (fun e => hne e.symm) _).cell 1, (P5.out.far (fun e => hne e.symm) _).cell 4⟩ | exact ⟨P4.out.cell 1, P4.out.cell 4⟩)) (fun hHeld => ?_)
                    clear hK K
                    try simp only [go_sem]
                    refine wpAnyH_done (by kernel_rfl) ?_ _
                    go_wp2_with fail
                    go_quiet (fail)
                    go_wp2_with fail
                    go_ret2
                    exact ⟨by rw [HWB.out]; rfl, by rw [← HBG.out]; exact B5.out.same ((Kept.refl NoBlk _).drewN _), ((X2.out.2.2.inner K5.out (fun _ e => e.elim)).at_ _).drewN _⟩
                  exact AllReadyH.nil
                exact AllReadyH.nil
              exact AllReadyH.nil
            refine AllReadyH.cons (o := _) rfl (fun K hK => ?_) ?_
            · go_simp
              refine hK.out _ _ (by (first | exact ⟨((X2.out.2.1.drewN _).drewN 1).cell 1, ((X2.out.2.1.drewN _).drewN 1).cell 4⟩ | exact ⟨(((X2.out.2.1.drewN _).drewN 1).alloc _).cell 1, (((X2.out.2.1.drewN _).drewN 1).alloc _).cell 4⟩ | exact ⟨P5.out.cell 1, P5.out.cell 4⟩ | exact ⟨(P5.out.far (fun e => hne e.symm) _).cell 1, (P5.out.far (fun e => hne e.symm) _).cell 4⟩ | exact ⟨P4.out.cell 1, P4.out.cell 4⟩)) (fun hHeld => ?_)
              clear hK K
              try simp only [go_sem]
              refine wpAnyH_take (i := 13) (oi := _) (v := ?_) rfl (by kernel_rfl) (by kernel_rfl) (by kernel_rfl) (fun _ _ _ h => h) (Or.inl ⟨by rfl, ?_⟩) (by assumption) ?_
              rotate_left
              · intro wS hSw
                go_simp
                try with_reducible rfl
              try simp only [go_sem]
              refine wpAnyH_take (i := 16) (oi := _) (v := ?_) rfl (by kernel_rfl) (by kernel_rfl) (by kernel_rfl) (fun _ _ _ h => h) (Or.inl ⟨by rfl, ?_⟩) (by assumption) ?_
              rotate_left
              · intro wS hSw
                go_simp
                try with_reducible rfl
              try simp only [go_sem]
              refine wpAnyH_take (i := 17) (oi := _) (v := ?_) rfl (by kernel_rfl) (by kernel_rfl) (by kernel_rfl) (fun _ _ _ h => h) (Or.inl ⟨by rfl, ?_⟩) (by assumption) ?_
              rotate_left
              · intro wS hSw
                go_simp
                try with_reducible rfl
              try simp only [go_sem]
              refine wpAnyH_ready (rs := [6]) (by kernel_rfl) (by simp) ?_
              refine AllReadyH.cons (o := _) rfl (fun K hK => ?_) ?_
              · refine step_append_rdb rfl (.tmp 131) (.tmp 135) rfl wc.heap.size _ 0 [] rfl (World.ownsRow_made (e := 5) (size := 1) _ #[] 0 (Nat.le_refl _) (Nat.zero_le _) rfl) _ b0.data rfl (X3.out.1.kept (((Kept.refl NoBlk wc).drewN _).alloc _) (NoCells.none _)) HSZ.out.1 (by simp) ?_
                intro A4 m4 c4 w4 hown4 hg4
                have k4 : Kept NoBlk wc w4 := (((Kept.refl NoBlk wc).drewN _).alloc _).grown hg4 (fun g hg => Or.inr (by have e : wc.heap.size = g := Option.some.inj hg; omega))
                have K4 := Lib.hid k4
                have R4 := Lib.hid hown4
                have P4 := Lib.hid (X2.out.2.1.kept k4 (fun e => e.elim))
                have q4 : w4.cell? ⟨bb, 3, none⟩ = some (.slice A2 (pos + k) c2) := (G2.out.kept k4 (fun e => e.elim)).cell 3
                clear hown4 hg4 k4
                try go_simp
                refine hK.out _ _ (by (first | exact ⟨((X2.out.2.1.drewN _).drewN 1).cell 1, ((X2.out.2.1.drewN _).drewN 1).cell 4⟩ | exact ⟨(((X2.out.2.1.drewN _).drewN 1).alloc _).cell 1, (((X2.out.2.1.drewN _).drewN 1).alloc _).cell 4⟩ | exact ⟨P5.out.cell 1, P5.out.cell 4⟩ | exact ⟨(P5.out.far (fun e => hne e.symm) _).cell 1, (P5.out.far (fun e => hne e.symm) _).cell 4⟩ | exact ⟨P4.out.cell 1, P4.out.cell 4⟩)) (fun hHeld => ?_)
                clear hK K
                try simp only [go_sem]
                refine wpAnyH_ready (rs := [18]) (by kernel_rfl) (by simp) ?_
                refine AllReadyH.cons (o := _) rfl (fun K hK => ?_) ?_
                · refine step_append_rdb rfl (.tmp 136) (.tmp 147) rfl wc.heap.size _ _ _ rfl R4.out _ (ps.drop k) rfl (X3.out.2.kept K4.out (NoCells.none _)) HSZ.out.2 K4.out.size ?_
                  intro A5 m5 c5 w5 hown5 hg5
                  have k5 : Kept NoBlk wc w5 := K4.out.grown hg5 (fun g hg => Or.inr (ownsRow_lt R4.out hg).2)
                  obtain ⟨hm5, hb5⟩ := HN.out w5 A5 m5 c5 hown5 k5
                  subst hm5
                  have K5 := Lib.hid k5
                  have B5 := Lib.hid hb5
                  have P5 := Lib.hid (X2.out.2.1.kept k5 (fun e => e.elim))
                  have q5 : w5.cell? ⟨bb, 3, none⟩ = some (.slice A2 (pos + k) c2) := (G2.out.kept k5 (fun e => e.elim)).cell 3
                  have q6 : w5.frozen? ⟨bb, 3, none⟩ = false := (G2.out.kept k5 (fun e => e.elim)).frozen 3
                  have q7 : w5.cell? ⟨bb, 1, none⟩ = some (.int .i64 tt) := by
                    have := (G2.out.kept k5 (fun e => e.elim)).cell 1
                    rw [HTT.out] at this
                    exact this
                  clear hown5 hg5 k5 hb5
                  try go_simp
                  refine hK.out _ _ (by (first | exact ⟨((X2.out.2.1.drewN _).drewN 1).cell 1, ((X2.out.2.1.drewN _).drewN 1).cell 4⟩ | exact ⟨(((X2.out.2.1.drewN _).drewN 1).alloc _).cell 1, (((X2.out.2.1.drewN _).drewN 1).alloc _).cell 4⟩ | exact ⟨P5.out.cell 1, P5.out.cell 4⟩ | exact ⟨(P5.out.far (fun e => hne e.symm) _).cell 1, (P5.out.far (fun e => hne e.symm) _).cell 4⟩ | exact ⟨P4.out.cell 1, P4.out.cell 4⟩)) (fun hHeld => ?_)
                  clear hK K
                  try simp only [go_sem]
                  refine wpAnyH_take (i := 19) (oi := _) (v := ?_) rfl (by kernel_rfl) (by kernel_rfl) (by kernel_rfl) (fun _ _ _ h => h) (Or.inl ⟨by rfl, ?_⟩) (by assumption) ?_
                  rotate_left
                  · intro wS hSw
                    go_simp
                    try with_reducible rfl
                  try simp only [go_sem]
                  refine wpAnyH_take (i := 20) (oi := _) (v := ?_) rfl (by kernel_rfl) (by kernel_rfl) (by kernel_rfl) (fun _ _ _ h => h) (Or.inl ⟨by rfl, ?_⟩) (by assumption) ?_
                  rotate_left
                  · intro wS hSw
                    go_simp
                    try with_reducible rfl
                  try simp only [go_sem]
                  refine wpAnyH_ready (rs := [21]) (by kernel_rfl) (by simp) ?_
                  refine AllReadyH.cons (o := _) rfl (fun K hK => ?_) ?_
                  · go_simp
                    refine hK.out _ _ (by (first | exact ⟨((X2.out.2.1.drewN _).drewN 1).cell 1, ((X2.out.2.1.drewN _).drewN 1).cell 4⟩ | exact ⟨(((X2.out.2.1.drewN _).drewN 1).alloc _).cell 1, (((X2.out.2.1.drewN _).drewN 1).alloc _).cell 4⟩ | exact ⟨P5.out.cell 1, P5.out.cell 4⟩ | exact ⟨(P5.out.far (fun e => hne e.symm) _).cell 1, (P5.out.far (fun e => hne e.symm) _).cell 4⟩ | exact ⟨P4.out.cell 1, P4.out.cell 4⟩)) (fun hHeld => ?_)
                    clear hK K
                    try simp only [go_sem]
                    refine wpAnyH_done (by kernel_rfl) ?_ _
                    go_wp2_with fail
                    go_quiet (fail)
                    go_wp2_with fail
                    go_ret2
                    exact ⟨by rw [HWB.out]; rfl, by rw [← HBG.out]; exact B5.out.same ((Kept.refl NoBlk _).drewN _), ((X2.out.2.2.inner K5.out (fun _ e => e.elim)).at_ _).drewN _⟩
                  exact AllReadyH.nil
                exact AllReadyH.nil
              exact AllReadyH.nil
            exact AllReadyH.nil
          refine AllReadyH.cons (o := _) rfl (fun K hK => ?_) ?_
          · go_simp
            refine hK.out _ _ (by (first | exact ⟨((X2.out.2.1.drewN _).drewN 1).cell 1, ((X2.out.2.1.drewN _).drewN 1).cell 4⟩ | exact ⟨(((X2.out.2.1.drewN _).drewN 1).alloc _).cell 1, (((X2.out.2.1.drewN _).drewN 1).alloc _).cell 4⟩ | exact ⟨P5.out.cell 1, P5.out.cell 4⟩ | exact ⟨(P5.out.far (fun e => hne e.symm) _).cell 1, (P5.out.far (fun e => hne e.symm) _).cell 4⟩ | exact ⟨P4.out.cell 1, P4.out.cell 4⟩)) (fun hHeld => ?_)
            clear hK K
            try simp only [go_sem]
            refine wpAnyH_take (i := 13) (oi := _) (v := ?_) rfl (by kernel_rfl) (by kernel_rfl) (by kernel_rfl) (fun _ _ _ h => h) (Or.inl ⟨by rfl, ?_⟩) (by assumption) ?_
            rotate_left
            · intro wS hSw
              go_simp
              try with_reducible rfl
            try simp only [go_sem]
            refine wpAnyH_take (i := 16) (oi := _) (v := ?_) rfl (by kernel_rfl) (by kernel_rfl) (by kernel_rfl) (fun _ _ _ h => h) (Or.inl ⟨by rfl, ?_⟩) (by assumption) ?_
            rotate_left
            · intro wS hSw
              go_simp
              try with_reducible rfl
            try simp only [go_sem]
            refine wpAnyH_take (i := 17) (oi := _) (v := ?_) rfl (by kernel_rfl) (by kernel_rfl) (by kernel_rfl) (fun _ _ _ h => h) (Or.inl ⟨by rfl, ?_⟩) (by assumption) ?_
            rotate_left
            · intro wS hSw
              go_simp
              try with_reducible rfl
            try simp only [go_sem]
            refine wpAnyH_ready (rs := [5]) (by kernel_rfl) (by simp) ?_
            refine AllReadyH.cons (o := _) rfl (fun K hK => ?_) ?_
            · go_simp
              refine hK.out _ _ (by (first | exact ⟨((X2.out.2.1.drewN _).drewN 1).cell 1, ((X2.out.2.1.drewN _).drewN 1).cell 4⟩ | exact ⟨(((X2.out.2.1.drewN _).drewN 1).alloc _).cell 1, (((X2.out.2.1.drewN _).drewN 1).alloc _).cell 4⟩ | exact ⟨P5.out.cell 1, P5.out.cell 4⟩ | exact ⟨(P5.out.far (fun e => hne e.symm) _).cell 1, (P5.out.far (fun e => hne e.symm) _).cell 4⟩ | exact ⟨P4.out.cell 1, P4.out.cell 4⟩)) (fun hHeld => ?_)
              clear hK K
              try simp only [go_sem]
              refine wpAnyH_ready (rs := [6]) (by kernel_rfl) (by simp) ?_
              refine AllReadyH.cons (o := _) rfl (fun K hK => ?_) ?_
              · refine step_append_rdb rfl (.tmp 131) (.tmp 135) rfl wc.heap.size _ 0 [] rfl (World.ownsRow_made (e := 5) (size := 1) _ #[] 0 (Nat.le_refl _) (Nat.zero_le _) rfl) _ b0.data rfl (X3.out.1.kept (((Kept.refl NoBlk wc).drewN _).alloc _) (NoCells.none _)) HSZ.out.1 (by simp) ?_
                intro A4 m4 c4 w4 hown4 hg4
                have k4 : Kept NoBlk wc w4 := (((Kept.refl NoBlk wc).drewN _).alloc _).grown hg4 (fun g hg => Or.inr (by have e : wc.heap.size = g := Option.some.inj hg; omega))
                have K4 := Lib.hid k4
                have R4 := Lib.hid hown4
                have P4 := Lib.hid (X2.out.2.1.kept k4 (fun e => e.elim))
                have q4 : w4.cell? ⟨bb, 3, none⟩ = some (.slice A2 (pos + k) c2) := (G2.out.kept k4 (fun e => e.elim)).cell 3
                clear hown4 hg4 k4
                try go_simp
                refine hK.out _ _ (by (first | exact ⟨((X2.out.2.1.drewN _).drewN 1).cell 1, ((X2.out.2.1.drewN _).drewN 1).cell 4⟩ | exact ⟨(((X2.out.2.1.drewN _).drewN 1).alloc _).cell 1, (((X2.out.2.1.drewN _).drewN 1).alloc _).cell 4⟩ | exact ⟨P5.out.cell 1, P5.out.cell 4⟩ | exact ⟨(P5.out.far (fun e => hne e.symm) _).cell 1, (P5.out.far (fun e => hne e.symm) _).cell 4⟩ | exact ⟨P4.out.cell 1, P4.out.cell 4⟩)) (fun hHeld => ?_)
                clear hK K
                try simp only [go_sem]
                refine wpAnyH_ready (rs := [18]) (by kernel_rfl) (by simp) ?_
                refine AllReadyH.cons (o := _) rfl (fun K hK => ?_) ?_
                · refine step_append_rdb rfl (.tmp 136) (.tmp 147) rfl wc.heap.size _ _ _ rfl R4.out _ (ps.drop k) rfl (X3.out.2.kept K4.out (NoCells.none _)) HSZ.out.2 K4.out.size ?_
                  intro A5 m5 c5 w5 hown5 hg5
                  have k5 : Kept NoBlk wc w5 := K4.out.grown hg5 (fun g hg => Or.inr (ownsRow_lt R4.out hg).2)
                  obtain ⟨hm5, hb5⟩ := HN.out w5 A5 m5 c5 hown5 k5
                  subst hm5
                  have K5 := Lib.hid k5
                  have B5 := Lib.hid hb5
                  have P5 := Lib.hid (X2.out.2.1.kept k5 (fun e => e.elim))
                  have q5 : w5.cell? ⟨bb, 3, none⟩ = some (.slice A2 (pos + k) c2) := (G2.out.kept k5 (fun e => e.elim)).cell 3
                  have q6 : w5.frozen? ⟨bb, 3, none⟩ = false := (G2.out.kept k5 (fun e => e.elim)).frozen 3
                  have q7 : w5.cell? ⟨bb, 1, none⟩ = some (.int .i64 tt) := by
                    have := (G2.out.kept k5 (fun e => e.elim)).cell 1
                    rw [HTT.out] at this
                    exact this
                  clear hown5 hg5 k5 hb5
                  try go_simp
                  refine hK.out _ _ (by (first | exact ⟨((X2.out.2.1.drewN _).drewN 1).cell 1, ((X2.out.2.1.drewN _).drewN 1).cell 4⟩ | exact ⟨(((X2.out.2.1.drewN _).drewN 1).alloc _).cell 1, (((X2.out.2.1.drewN _).drewN 1).alloc _).cell 4⟩ | exact ⟨P5.out.cell 1, P5.out.cell 4⟩ | exact ⟨(P5.out.far (fun e => hne e.symm) _).cell 1, (P5.out.far (fun e => hne e.symm) _).cell 4⟩ | exact ⟨P4.out.cell 1, P4.out.cell 4⟩)) (fun hHeld => ?_)
                  clear hK K
                  try simp only [go_sem]
                  refine wpAnyH_take (i := 19) (oi := _) (v := ?_) rfl (by kernel_rfl) (by kernel_rfl) (by kernel_rfl) (fun _ _ _ h => h) (Or.inl ⟨by rfl, ?_⟩) (by assumption) ?_
                  rotate_left
                  · intro wS hSw
                    go_simp
                    try with_reducible rfl
                  try simp only [go_sem]
                  refine wpAnyH_take (i := 20) (oi := _) (v := ?_) rfl (by kernel_rfl) (by kernel_rfl) (by kernel_rfl) (fun _ _ _ h => h) (Or.inl ⟨by rfl, ?_⟩) (by assumption) ?_
                  rotate_left
                  · intro wS hSw
                    go_simp
                    try with_reducible rfl
                  try simp only [go_sem]
                  refine wpAnyH_ready (rs := [21]) (by kernel_rfl) (by simp) ?_
                  refine AllReadyH.cons (o := _) rfl (fun K hK => ?_) ?_
                  · go_simp
                    refine hK.out _ _ (by (first | exact ⟨((X2.out.2.1.drewN _).drewN 1).cell 1, ((X2.out.2.1.drewN _).drewN 1).cell 4⟩ | exact ⟨(((X2.out.2.1.drewN _).drewN 1).alloc _).cell 1, (((X2.out.2.1.drewN _).drewN 1).alloc _).cell 4⟩ | exact ⟨P5.out.cell 1, P5.out.cell 4⟩ | exact ⟨(P5.out.far (fun e => hne e.symm) _).cell 1, (P5.out.far (fun e => hne e.symm) _).cell 4⟩ | exact ⟨P4.out.cell 1, P4.out.cell 4⟩)) (fun hHeld => ?_)
                    clear hK K
                    try simp only [go_sem]
                    refine wpAnyH_done (by kernel_rfl) ?_ _
                    go_wp2_with fail
                    go_quiet (fail)
                    go_wp2_with fail
                    go_ret2
                    exact ⟨by rw [HWB.out]; rfl, by rw [← HBG.out]; exact B5.out.same ((Kept.refl NoBlk _).drewN _), ((X2.out.2.2.inner K5.out (fun _ e => e.elim)).at_ _).drewN _⟩
                  exact AllReadyH.nil
                exact AllReadyH.nil
              exact AllReadyH.nil
            exact AllReadyH.nil
          exact AllReadyH.nil
        refine AllReadyH.cons (o := _) rfl (fun K hK => ?_) ?_
        · go_simp
          refine hK.out _ _ (by (first | exact ⟨((X2.out.2.1.drewN _).drewN 1).cell 1, ((X2.out.2.1.drewN _).drewN 1).cell 4⟩ | exact ⟨(((X2.out.2.1.drewN _).drewN 1).alloc _).cell 1, (((X2.out.2.1.drewN _).drewN 1).alloc _).cell 4⟩ | exact ⟨P5.out.cell 1, P5.out.cell 4⟩ | exact ⟨(P5.out.far (fun e => hne e.symm) _).cell 1, (P5.out.far (fun e => hne e.symm) _).cell 4⟩ | exact ⟨P4.out.cell 1, P4.out.cell 4⟩)) (fun hHeld => ?_)
          clear hK K
          try simp only [go_sem]
          refine wpAnyH_ready (rs := [1, 12]) (by kernel_rfl) (by simp) ?_
          refine AllReadyH.cons (o := _) rfl (fun K hK => ?_) ?_
          · go_simp
            refine hK.out _ _ (by (first | exact ⟨((X2.out.2.1.drewN _).drewN 1).cell 1, ((X2.out.2.1.drewN _).drewN 1).cell 4⟩ | exact ⟨(((X2.out.2.1.drewN _).drewN 1).alloc _).cell 1, (((X2.out.2.1.drewN _).drewN 1).alloc _).cell 4⟩ | exact ⟨P5.out.cell 1, P5.out.cell 4⟩ | exact ⟨(P5.out.far (fun e => hne e.symm) _).cell 1, (P5.out.far (fun e => hne e.symm) _).cell 4⟩ | exact ⟨P4.out.cell 1, P4.out.cell 4⟩)) (fun hHeld => ?_)
            clear hK K
            try simp only [go_sem]
            refine wpAnyH_ready (rs := [6, 12]) (by kernel_rfl) (by simp) ?_
            refine AllReadyH.cons (o := _) rfl (fun K hK => ?_) ?_
            · refine step_append_rdb rfl (.tmp 131) (.tmp 135) rfl wc.heap.size _ 0 [] rfl (World.ownsRow_made (e := 5) (size := 1) _ #[] 0 (Nat.le_refl _) (Nat.zero_le _) rfl) _ b0.data rfl (X3.out.1.kept (((Kept.refl NoBlk wc).drewN _).alloc _) (NoCells.none _)) HSZ.out.1 (by simp) ?_
              intro A4 m4 c4 w4 hown4 hg4
              have k4 : Kept NoBlk wc w4 := (((Kept.refl NoBlk wc).drewN _).alloc _).grown hg4 (fun g hg => Or.inr (by have e : wc.heap.size = g := Option.some.inj hg; omega))
              have K4 := Lib.hid k4
              have R4 := Lib.hid hown4
              have P4 := Lib.hid (X2.out.2.1.kept k4 (fun e => e.elim))
              have q4 : w4.cell? ⟨bb, 3, none⟩ = some (.slice A2 (pos + k) c2) := (G2.out.kept k4 (fun e => e.elim)).cell 3
              clear hown4 hg4 k4
              try go_simp
              refine hK.out _ _ (by (first | exact ⟨((X2.out.2.1.drewN _).drewN 1).cell 1, ((X2.out.2.1.drewN _).drewN 1).cell 4⟩ | exact ⟨(((X2.out.2.1.drewN _).drewN 1).alloc _).cell 1, (((X2.out.2.1.drewN _).drewN 1).alloc _).cell 4⟩ | exact ⟨P5.out.cell 1, P5.out.cell 4⟩ | exact ⟨(P5.out.far (fun e => hne e.symm) _).cell 1, (P5.out.far (fun e => hne e.symm) _).cell 4⟩ | exact ⟨P4.out.cell 1, P4.out.cell 4⟩)) (fun hHeld => ?_)
              clear hK K
              try simp only [go_sem]
              refine wpAnyH_ready (rs := [12]) (by kernel_rfl) (by simp) ?_
              refine AllReadyH.cons (o := _) rfl (fun K hK => ?_) ?_
              · go_simp
                refine hK.out _ _ (by (first | exact ⟨((X2.out.2.1.drewN _).drewN 1).cell 1, ((X2.out.2.1.drewN _).drewN 1).cell 4⟩ | exact ⟨(((X2.out.2.1.drewN _).drewN 1).alloc _).cell 1, (((X2.out.2.1.drewN _).drewN 1).alloc _).cell 4⟩ | exact ⟨P5.out.cell 1, P5.out.cell 4⟩ | exact ⟨(P5.out.far (fun e => hne e.symm) _).cell 1, (P5.out.far (fun e => hne e.symm) _).cell 4⟩ | exact ⟨P4.out.cell 1, P4.out.cell 4⟩)) (fun hHeld => ?_)
                clear hK K
                try simp only [go_sem]
                refine wpAnyH_take (i := 13) (oi := _) (v := ?_) rfl (by kernel_rfl) (by kernel_rfl) (by kernel_rfl) (fun _ _ _ h => h) (Or.inl ⟨by rfl, ?_⟩) (by assumption) ?_
                rotate_left
                · intro wS hSw
                  go_simp
                  try with_reducible rfl
                try simp only [go_sem]
                refine wpAnyH_take (i := 16) (oi := _) (v := ?_) rfl (by kernel_rfl) (by kernel_rfl) (by kernel_rfl) (fun _ _ _ h => h) (Or.inl ⟨by rfl, ?_⟩) (by assumption) ?_
                rotate_left
                · intro wS hSw
                  go_simp
                  try with_reducible rfl
                try simp only [go_sem]
                refine wpAnyH_take (i := 17) (oi := _) (v := ?_) rfl (by kernel_rfl) (by kernel_rfl) (by kernel_rfl) (fun _ _ _ h => h) (Or.inl ⟨by rfl, ?_⟩) (by assumption) ?_
                rotate_left
                · intro wS hSw
                  go_simp
                  try with_reducible rfl
                try simp only [go_sem]
                refine wpAnyH_ready (rs := [18]) (by kernel_rfl) (by simp) ?_
                refine AllReadyH.cons (o := _) rfl (fun K hK => ?_) ?_
                · refine step_append_rdb rfl (.tmp 136) (.tmp 147) rfl wc.heap.size _ _ _ rfl R4.out _ (ps.drop k) rfl (X3.out.2.kept K4.out (NoCells.none _)) HSZ.out.2 K4.out.size ?_
                  intro A5 m5 c5 w5 hown5 hg5
                  have k5 : Kept NoBlk wc w5 := K4.out.grown hg5 (fun g hg => Or.inr (ownsRow_lt R4.out hg).2)
                  obtain ⟨hm5, hb5⟩ := HN.out w5 A5 m5 c5 hown5 k5
                  subst hm5
                  have K5 := Lib.hid k5
                  have B5 := Lib.hid hb5
                  have P5 := Lib.hid (X2.out.2.1.kept k5 (fun e => e.elim))
                  have q5 : w5.cell? ⟨bb, 3, none⟩ = some (.slice A2 (pos + k) c2) := (G2.out.kept k5 (fun e => e.elim)).cell 3
                  have q6 : w5.frozen? ⟨bb, 3, none⟩ = false := (G2.out.kept k5 (fun e => e.elim)).frozen 3
                  have q7 : w5.cell? ⟨bb, 1, none⟩ = some (.int .i64 tt) := by
                    have := (G2.out.kept k5 (fun e => e.elim)).cell 1
                    rw [HTT.out] at this
                    exact this
                  clear hown5 hg5 k5 hb5
                  try go_simp
                  refine hK.out _ _ (by (first | exact ⟨((X2.out.2.1.drewN _).drewN 1).cell 1, ((X2.out.2.1.drewN _).drewN 1).cell 4⟩ | exact ⟨(((X2.out.2.1.drewN _).drewN 1).alloc _).cell 1, (((X2.out.2.1.drewN _).drewN 1).alloc _).cell 4⟩ | exact ⟨P5.out.cell 1, P5.out.cell 4⟩ | exact ⟨(P5.out.far (fun e => hne e.symm) _).cell 1, (P5.out.far (fun e => hne e.symm) _).cell 4⟩ | exact ⟨P4.out.cell 1, P4.out.cell 4⟩)) (fun hHeld => ?_)
                  clear hK K
                  try simp only [go_sem]
                  refine wpAnyH_take (i := 19) (oi := _) (v := ?_) rfl (by kernel_rfl) (by kernel_rfl) (by kernel_rfl) (fun _ _ _ h => h) (Or.inl ⟨by rfl, ?_⟩) (by assumption) ?_
                  rotate_left
                  · intro wS hSw
                    go_simp
                    try with_reducible rfl
                  try simp only [go_sem]
                  refine wpAnyH_take (i := 20) (oi := _) (v := ?_) rfl (by kernel_rfl) (by kernel_rfl) (by kernel_rfl) (fun _ _ _ h => h) (Or.inl ⟨by rfl, ?_⟩) (by assumption) ?_
                  rotate_left
                  · intro wS hSw
                    go_simp
                    try with_reducible rfl
                  try simp only [go_sem]
                  refine wpAnyH_ready (rs := [21]) (by kernel_rfl) (by simp) ?_
                  refine AllReadyH.cons (o := _) rfl (fun K hK => ?_) ?_
                  · go_simp
                    refine hK.out _ _ (by (first | exact ⟨((X2.out.2.1.drewN _).drewN 1).cell 1, ((X2.out.2.1.drewN _).drewN 1).cell 4⟩ | exact ⟨(((X2.out.2.1.drewN _).drewN 1).alloc _).cell 1, (((X2.out.2.1.drewN _).drewN 1).alloc _).cell 4⟩ | exact ⟨P5.out.cell 1, P5.out.cell 4⟩ | exact ⟨(P5.out.far (fun e => hne e.symm) _).cell 1, (P5.out.far (fun e => hne e.symm) _).cell 4⟩ | exact ⟨P4.out.cell 1, P4.out.cell 4⟩)) (fun hHeld => ?_)
                    clear hK K
                    try simp only [go_sem]
                    refine wpAnyH_done (by kernel_rfl) ?_ _
                    go_wp2_with fail
                    go_quiet (fail)
                    go_wp2_with fail
                    go_ret2
                    exact ⟨by rw [HWB.out]; rfl, by rw [← HBG.out]; exact B5.out.same ((Kept.refl NoBlk _).drewN _), ((X2.out.2.2.inner K5.out (fun _ e => e.elim)).at_ _).drewN _⟩
                  exact AllReadyH.nil
                exact AllReadyH.nil
              exact AllReadyH.nil
            refine AllReadyH.cons (o := _) rfl (fun K hK => ?_) ?_
            · go_simp
              refine hK.out _ _ (by (first | exact ⟨((X2.out.2.1.drewN _).drewN 1).cell 1, ((X2.out.2.1.drewN _).drewN 1).cell 4⟩ | exact ⟨(((X2.out.2.1.drewN _).drewN 1).alloc _).cell 1, (((X2.out.2.1.drewN _).drewN 1).alloc _).cell 4⟩ | exact ⟨P5.out.cell 1, P5.out.cell 4⟩ | exact ⟨(P5.out.far (fun e => hne e.symm) _).cell 1, (P5.out.far (fun e => hne e.symm) _).cell 4⟩ | exact ⟨P4.out.cell 1, P4.out.cell 4⟩)) (fun hHeld => ?_)
              clear hK K
              try simp only [go_sem]
              refine wpAnyH_take (i := 13) (oi := _) (v := ?_) rfl (by kernel_rfl) (by kernel_rfl) (by kernel_rfl) (fun _ _ _ h => h) (Or.inl ⟨by rfl, ?_⟩) (by assumption) ?_
              rotate_left
              · intro wS hSw
                go_simp
                try with_reducible rfl
              try simp only [go_sem]
              refine wpAnyH_take (i := 16) (oi := _) (v := ?_) rfl (by kernel_rfl) (by kernel_rfl) (by kernel_rfl) (fun _ _ _ h => h) (Or.inl ⟨by rfl, ?_⟩) (by assumption) ?_
              rotate_left
              · intro wS hSw
                go_simp
                try with_reducible rfl
              try simp only [go_sem]
              refine wpAnyH_take (i := 17) (oi := _) (v := ?_) rfl (by kernel_rfl) (by kernel_rfl) (by kernel_rfl) (fun _ _ _ h => h) (Or.inl ⟨by rfl, ?_⟩) (by assumption) ?_
              rotate_left
              · intro wS hSw
                go_simp
                try with_reducible rfl
              try simp only [go_sem]
              refine wpAnyH_ready (rs := [6]) (by kernel_rfl) (by simp) ?_
              refine AllReadyH.cons (o := _) rfl (fun K hK => ?_) ?_
              · refine step_append_rdb rfl (.tmp 131) (.tmp 135) rfl wc.heap.size _ 0 [] rfl (World.ownsRow_made (e := 5) (size := 1) _ #[] 0 (Nat.le_refl _) (Nat.zero_le _) rfl) _ b0.data rfl (X3.out.1.kept (((Kept.refl NoBlk wc).drewN _).alloc _) (NoCells.none _)) HSZ.out.1 (by simp) ?_
                intro A4 m4 c4 w4 hown4 hg4
                have k4 : Kept NoBlk wc w4 := (((Kept.refl NoBlk wc).drewN _).alloc _).grown hg4 (fun g hg => Or.inr (by have e : wc.heap.size = g := Option.some.inj hg; omega))
                have K4 := Lib.hid k4
                have R4 := Lib.hid hown4
                have P4 := Lib.hid (X2.out.2.1.kept k4 (fun e => e.elim))
                have q4 : w4.cell? ⟨bb, 3, none⟩ = some (.slice A2 (pos + k) c2) := (G2.out.kept k4 (fun e => e.elim)).cell 3
                clear hown4 hg4 k4
                try go_simp
                refine hK.out _ _ (by (first | exact ⟨((X2.out.2.1.drewN _).drewN 1).cell 1, ((X2.out.2.1.drewN _).drewN 1).cell 4⟩ | exact ⟨(((X2.out.2.1.drewN _).drewN 1).alloc _).cell 1, (((X2.out.2.1.drewN _).drewN 1).alloc _).cell 4⟩ | exact ⟨P5.out.cell 1, P5.out.cell 4⟩ | exact ⟨(P5.out.far (fun e => hne e.symm) _).cell 1, (P5.out.far (fun e => hne e.symm) _).cell 4⟩ | exact ⟨P4.out.cell 1, P4.out.cell 4⟩)) (fun hHeld => ?_)
                clear hK K
                try simp only [go_sem]
                refine wpAnyH_ready (rs := [18]) (by kernel_rfl) (by simp) ?_
                refine AllReadyH.cons (o := _) rfl (fun K hK => ?_) ?_
                · refine step_append_rdb rfl (.tmp 136) (.tmp 147) rfl wc.heap.size _ _ _ rfl R4.out _ (ps.drop k) rfl (X3.out.2.kept K4.out (NoCells.none _)) HSZ.out.2 K4.out.size ?_
                  intro A5 m5 c5 w5 hown5 hg5
                  have k5 : Kept NoBlk wc w5 := K4.out.grown hg5 (fun g hg => Or.inr (ownsRow_lt R4.out hg).2)
                  obtain ⟨hm5, hb5⟩ := HN.out w5 A5 m5 c5 hown5 k5
                  subst hm5
                  have K5 := Lib.hid k5
                  have B5 := Lib.hid hb5
                  have P5 := Lib.hid (X2.out.2.1.kept k5 (fun e => e.elim))
                  have q5 : w5.cell? ⟨bb, 3, none⟩ = some (.slice A2 (pos + k) c2) := (G2.out.kept k5 (fun e => e.elim)).cell 3
                  have q6 : w5.frozen? ⟨bb, 3, none⟩ = false := (G2.out.kept k5 (fun e => e.elim)).frozen 3
                  have q7 : w5.cell? ⟨bb, 1, none⟩ = some (.int .i64 tt) := by
                    have := (G2.out.kept k5 (fun e => e.elim)).cell 1
                    rw [HTT.out] at this
                    exact this
                  clear hown5 hg5 k5 hb5
                  try go_simp
                  refine hK.out _ _ (by (first | exact ⟨((X2.out.2.1.drewN _).drewN 1).cell 1, ((X2.out.2.1.drewN _).drewN 1).cell 4⟩ | exact ⟨(((X2.out.2.1.drewN _).drewN 1).alloc _).cell 1, (((X2.out.2.1.drewN _).drewN 1).alloc _).cell 4⟩ | exact ⟨P5.out.cell 1, P5.out.cell 4⟩ | exact ⟨(P5.out.far (fun e => hne e.symm) _).cell 1, (P5.out.far (fun e => hne e.symm) _).cell 4⟩ | exact ⟨P4.out.cell 1, P4.out.cell 4⟩)) (fun hHeld => ?_)
                  clear hK K
                  try simp only [go_sem]
                  refine wpAnyH_take (i := 19) (oi := _) (v := ?_) rfl (by kernel_rfl) (by kernel_rfl) (by kernel_rfl) (fun _ _ _ h => h) (Or.inl ⟨by rfl, ?_⟩) (by assumption) ?_
                  rotate_left
                  · intro wS hSw
                    go_simp
                    try with_reducible rfl
                  try simp only [go_sem]
                  refine wpAnyH_take (i := 20) (oi := _) (v := ?_) rfl (by kernel_rfl) (by kernel_rfl) (by kernel_rfl) (fun _ _ _ h => h) (Or.inl ⟨by rfl, ?_⟩) (by assumption) ?_
                  rotate_left
                  · intro wS hSw
                    go_simp
                    try with_reducible rfl
                  try simp only [go_sem]
                  refine wpAnyH_ready (rs := [21]) (by kernel_rfl) (by simp) ?_
                  refine AllReadyH.cons (o := _) rfl (fun K hK => ?_) ?_
                  · go_simp
                    refine hK.out _ _ (by (first | exact ⟨((X2.out.2.1.drewN _).drewN 1).cell 1, ((X2.out.2.1.drewN _).drewN 1).cell 4⟩ | exact ⟨(((X2.out.2.1.drewN _).drewN 1).alloc _).cell 1, (((X2.out.2.1.drewN _).drewN 1).alloc _).cell 4⟩ | exact ⟨P5.out.cell 1, P5.out.cell 4⟩ | exact ⟨(P5.out.far (fun e => hne e.symm) _).cell 1, (P5.out.far (fun e => hne e.symm) _).cell 4⟩ | exact ⟨P4.out.cell 1, P4.out.cell 4⟩)) (fun hHeld => ?_)
                    clear hK K
                    try simp only [go_sem]
                    refine wpAnyH_done (by kernel_rfl) ?_ _
                    go_wp2_with fail
                    go_quiet (fail)
                    go_wp2_with fail
                    go_ret2
                    exact ⟨by rw [HWB.out]; rfl, by rw [← HBG.out]; exact B5.out.same ((Kept.refl NoBlk _).drewN _), ((X2.out.2.2.inner K5.out (fun _ e => e.elim)).at_ _).drewN _⟩
                  exact AllReadyH.nil
                exact AllReadyH.nil
              exact AllReadyH.nil
            exact AllReadyH.nil
          refine AllReadyH.cons (o := _) rfl (fun K hK => ?_) ?_
          · go_simp
            refine hK.out _ _ (by (first | exact ⟨((X2.out.2.1.drewN _).drewN 1).cell 1, ((X2.out.2.1.drewN _).drewN 1).cell 4⟩ | exact ⟨(((X2.out.2.1.drewN _).drewN 1).alloc _).cell 1, (((X2.out.2.1.drewN _).drewN 1).alloc _).cell 4⟩ | exact ⟨P5.out.cell 1, P5.out.cell 4⟩ | exact ⟨(P5.out.far (fun e => hne e.symm) _).cell 1, (P5.out.far (fun e => hne e.symm) _).cell 4⟩ | exact ⟨P4.out.cell 1, P4.out.cell 4⟩)) (fun hHeld => ?_)
            clear hK K
            try simp only [go_sem]
            refine wpAnyH_take (i := 13) (oi := _) (v := ?_) rfl (by kernel_rfl) (by kernel_rfl) (by kernel_rfl) (fun _ _ _ h => h) (Or.inl ⟨by rfl, ?_⟩) (by assumption) ?_
            rotate_left
            · intro wS hSw
              go_simp
              try with_reducible rfl
            try simp only [go_sem]
            refine wpAnyH_take (i := 16) (oi := _) (v := ?_) rfl (by kernel_rfl) (by kernel_rfl) (by kernel_rfl) (fun _ _ _ h => h) (Or.inl ⟨by rfl, ?_⟩) (by assumption) ?_
            rotate_left
            · intro wS hSw
              go_simp
              try with_reducible rfl
            try simp only [go_sem]
            refine wpAnyH_take (i := 17) (oi := _) (v := ?_) rfl (by kernel_rfl) (by kernel_rfl) (by kernel_rfl) (fun _ _ _ h => h) (Or.inl ⟨by rfl, ?_⟩) (by assumption) ?_
            rotate_left
            · intro wS hSw
              go_simp
              try with_reducible rfl
            try simp only [go_sem]
            refine wpAnyH_ready (rs := [1]) (by kernel_rfl) (by simp) ?_
            refine AllReadyH.cons (o := _) rfl (fun K hK => ?_) ?_
            · go_simp
              refine hK.out _ _ (by (first | exact ⟨((X2.out.2.1.drewN _).drewN 1).cell 1, ((X2.out.2.1.drewN _).drewN 1).cell 4⟩ | exact ⟨(((X2.out.2.1.drewN _).drewN 1).alloc _).cell 1, (((X2.out.2.1.drewN _).drewN 1).alloc _).cell 4⟩ | exact ⟨P5.out.cell 1, P5.out.cell 4⟩ | exact ⟨(P5.out.far (fun e => hne e.symm) _).cell 1, (P5.out.far (fun e => hne e.symm) _).cell 4⟩ | exact ⟨P4.out.cell 1, P4.out.cell 4⟩)) (fun hHeld => ?_)
              clear hK K
              try simp only [go_sem]
              refine wpAnyH_ready (rs := [6]) (by kernel_rfl) (by simp) ?_
              refine AllReadyH.cons (o := _) rfl (fun K hK => ?_) ?_
              · refine step_append_rdb rfl (.tmp 131) (.tmp 135) rfl wc.heap.size _ 0 [] rfl (World.ownsRow_made (e := 5) (size := 1) _ #[] 0 (Nat.le_refl _) (Nat.zero_le _) rfl) _ b0.data rfl (X3.out.1.kept (((Kept.refl NoBlk wc).drewN _).alloc _) (NoCells.none _)) HSZ.out.1 (by simp) ?_
                intro A4 m4 c4 w4 hown4 hg4
                have k4 : Kept NoBlk wc w4 := (((Kept.refl NoBlk wc).drewN _).alloc _).grown hg4 (fun g hg => Or.inr (by have e : wc.heap.size = g := Option.some.inj hg; omega))
                have K4 := Lib.hid k4
                have R4 := Lib.hid hown4
                have P4 := Lib.hid (X2.out.2.1.kept k4 (fun e => e.elim))
                have q4 : w4.cell? ⟨bb, 3, none⟩ = some (.slice A2 (pos + k) c2) := (G2.out.kept k4 (fun e => e.elim)).cell 3
                clear hown4 hg4 k4
                try go_simp
                refine hK.out _ _ (by (first | exact ⟨((X2.out.2.1.drewN _).drewN 1).cell 1, ((X2.out.2.1.drewN _).drewN 1).cell 4⟩ | exact ⟨(((X2.out.2.1.drewN _).drewN 1).alloc _).cell 1, (((X2.out.2.1.drewN _).drewN 1).alloc _).cell 4⟩ | exact ⟨P5.out.cell 1, P5.out.cell 4⟩ | exact ⟨(P5.out.far (fun e => hne e.symm) _).cell 1, (P5.out.far (fun e => hne e.symm) _).cell 4⟩ | exact ⟨P4.out.cell 1, P4.out.cell 4⟩)) (fun hHeld => ?_)
                clear hK K
                try simp only [go_sem]
                refine wpAnyH_ready (rs := [18]) (by kernel_rfl) (by simp) ?_
                refine AllReadyH.cons (o := _) rfl (fun K hK => ?_) ?_
                · refine step_append_rdb rfl (.tmp 136) (.tmp 147) rfl wc.heap.size _ _ _ rfl R4.out _ (ps.drop k) rfl (X3.out.2.kept K4.out (NoCells.none _)) HSZ.out.2 K4.out.size ?_
                  intro A5 m5 c5 w5 hown5 hg5
                  have k5 : Kept NoBlk wc w5 := K4.out.grown hg5 (fun g hg => Or.inr (ownsRow_lt R4.out hg).2)
                  obtain ⟨hm5, hb5⟩ := HN.out w5 A5 m5 c5 hown5 k5
                  subst hm5
                  have K5 := Lib.hid k5
                  have B5 := Lib.hid hb5
                  have P5 := Lib.hid (X2.out.2.1.kept k5 (fun e => e.elim))
                  have q5 : w5.cell? ⟨bb, 3, none⟩ = some (.slice A2 (pos + k) c2) := (G2.out.kept k5 (fun e => e.elim)).cell 3
                  have q6 : w5.frozen? ⟨bb, 3, none⟩ = false := (G2.out.kept k5 (fun e => e.elim)).frozen 3
                  have q7 : w5.cell? ⟨bb, 1, none⟩ = some (.int .i64 tt) := by
                    have := (G2.out.kept k5 (fun e => e.elim)).cell 1
                    rw [HTT.out] at this
                    exact this
                  clear hown5 hg5 k5 hb5
                  try go_simp
                  refine hK.out _ _ (by (first | exact ⟨((X2.out.2.1.drewN _).drewN 1).cell 1, ((X2.out.2.1.drewN _).drewN 1).cell 4⟩ | exact ⟨(((X2.out.2.1.drewN _).drewN 1).alloc _).cell 1, (((X2.out.2.1.drewN _).drewN 1).alloc _).cell 4⟩ | exact ⟨P5.out.cell 1, P5.out.cell 4⟩ | exact ⟨(P5.out.far (fun e => hne e.symm) _).cell 1, (P5.out.far (fun e => hne e.symm) _).cell 4⟩ | exact ⟨P4.out.cell 1, P4.out.cell 4⟩)) (fun hHeld => ?_)
                  clear hK K
                  try simp only [go_sem]
                  refine wpAnyH_take (i := 19) (oi := _) (v := ?_) rfl (by kernel_rfl) (by kernel_rfl) (by kernel_rfl) (fun _ _ _ h => h) (Or.inl ⟨by rfl, ?_⟩) (by assumption) ?_
                  rotate_left
                  · intro wS hSw
                    go_simp
                    try with_reducible rfl
                  try simp only [go_sem]
                  refine wpAnyH_take (i := 20) (oi := _) (v := ?_) rfl (by kernel_rfl) (by kernel_rfl) (by kernel_rfl) (fun _ _ _ h => h) (Or.inl ⟨by rfl, ?_⟩) (by assumption) ?_
                  rotate_left
                  · intro wS hSw
                    go_simp
                    try with_reducible rfl
                  try simp only [go_sem]
                  refine wpAnyH_ready (rs := [21]) (by kernel_rfl) (by simp) ?_
                  refine AllReadyH.cons (o := _) rfl (fun K hK => ?_) ?_
                  · go_simp
                    refine hK.out _ _ (by (first | exact ⟨((X2.out.2.1.drewN _).drewN 1).cell 1, ((X2.out.2.1.drewN _).drewN 1).cell 4⟩ | exact ⟨(((X2.out.2.1.drewN _).drewN 1).alloc _).cell 1, (((X2.out.2.1.drewN _).drewN 1).alloc _).cell 4⟩ | exact ⟨P5.out.cell 1, P5.out.cell 4⟩ | exact ⟨(P5.out.far (fun e => hne e.symm) _).cell 1, (P5.out.far (fun e => hne e.symm) _).cell 4⟩ | exact ⟨P4.out.cell 1, P4.out.cell 4⟩)) (fun hHeld => ?_)
                    clear hK K
                    try simp only [go_sem]
                    refine wpAnyH_done (by kernel_rfl) ?_ _
                    go_wp2_with fail
                    go_quiet (fail)
                    go_wp2_with fail
                    go_ret2
                    exact ⟨by rw [HWB.out]; rfl, by rw [← HBG.out]; exact B5.out.same ((Kept.refl NoBlk _).drewN _), ((X2.out.2.2.inner K5.out (fun _ e => e.elim)).at_ _).drewN _⟩
                  exact AllReadyH.nil
                exact AllReadyH.nil
              exact AllReadyH.nil
            exact AllReadyH.nil
          exact AllReadyH.nil
        refine AllReadyH.cons (o := _) rfl (fun K hK => ?_) ?_
        · go_simp
          refine hK.out _ _ (by (first | exact ⟨((X2.out.2.1.drewN _).drewN 1).cell 1, ((X2.out.2.1.drewN _).drewN 1).cell 4⟩ | exact ⟨(((X2.out.2.1.drewN _).drewN 1).alloc _).cell 1, (((X2.out.2.1.drewN _).drewN 1).alloc _).cell 4⟩ | exact ⟨P5.out.cell 1, P5.out.cell 4⟩ | exact ⟨(P5.out.far (fun e => hne e.symm) _).cell 1, (P5.out.far (fun e => hne e.symm) _).cell 4⟩ | exact ⟨P4.out.cell 1, P4.out.cell 4⟩)) (fun hHeld => ?_)
          clear hK K
          try simp only [go_sem]
          refine wpAnyH_take (i := 13) (oi := _) (v := ?_) rfl (by kernel_rfl) (by kernel_rfl) (by kernel_rfl) (fun _ _ _ h => h) (Or.inl ⟨by rfl, ?_⟩) (by assumption) ?_
          rotate_left
          · intro wS hSw
            go_simp
            try with_reducible rfl
          try simp only [go_sem]
          refine wpAnyH_take (i := 16) (oi := _) (v := ?_) rfl (by kernel_rfl) (by kernel_rfl) (by kernel_rfl) (fun _ _ _ h => h) (Or.inl ⟨by rfl, ?_⟩) (by assumption) ?_
          rotate_left
          · intro wS hSw
            go_simp
            try with_reducible rfl
          try simp only [go_sem]
          refine wpAnyH_take (i := 17) (oi := _) (v := ?_) rfl (by kernel_rfl) (by kernel_rfl) (by kernel_rfl) (fun _ _ _ h => h) (Or.inl ⟨by rfl, ?_⟩) (by assumption) ?_
          rotate_left
          · intro wS hSw
            go_simp
            try with_reducible rfl
          try simp only [go_sem]
          refine wpAnyH_ready (rs := [1, 5]) (by kernel_rfl) (by simp) ?_
          refine AllReadyH.cons (o := _) rfl (fun K hK => ?_) ?_
          · go_simp
            refine hK.out _ _ (by (first | exact ⟨((X2.out.2.1.drewN _).drewN 1).cell 1, ((X2.out.2.1.drewN _).drewN 1).cell 4⟩ | exact ⟨(((X2.out.2.1.drewN _).drewN 1).alloc _).cell 1, (((X2.out.2.1.drewN _).drewN 1).alloc _).cell 4⟩ | exact ⟨P5.out.cell 1, P5.out.cell 4⟩ | exact ⟨(P5.out.far (fun e => hne e.symm) _).cell 1, (P5.out.far (fun e => hne e.symm) _).cell 4⟩ | exact ⟨P4.out.cell 1, P4.out.cell 4⟩)) (fun hHeld => ?_)
            clear hK K
            try simp only [go_sem]
            refine wpAnyH_ready (rs := [5]) (by kernel_rfl) (by simp) ?_
            refine AllReadyH.cons (o := _) rfl (fun K hK => ?_) ?_
            · go_simp
              refine hK.out _ _ (by (first | exact ⟨((X2.out.2.1.drewN _).drewN 1).cell 1, ((X2.out.2.1.drewN _).drewN 1).cell 4⟩ | exact ⟨(((X2.out.2.1.drewN _).drewN 1).alloc _).cell 1, (((X2.out.2.1.drewN _).drewN 1).alloc _).cell 4⟩ | exact ⟨P5.out.cell 1, P5.out.cell 4⟩ | exact ⟨(P5.out.far (fun e => hne e.symm) _).cell 1, (P5.out.far (fun e => hne e.symm) _).cell 4⟩ | exact ⟨P4.out.cell 1, P4.out.cell 4⟩)) (fun hHeld => ?_)
              clear hK K
              try simp only [go_sem]
              refine wpAnyH_ready (rs := [6]) (by kernel_rfl) (by simp) ?_
              refine AllReadyH.cons (o := _) rfl (fun K hK => ?_) ?_
              · refine step_append_rdb rfl (.tmp 131) (.tmp 135) rfl wc.heap.size _ 0 [] rfl (World.ownsRow_made (e := 5) (size := 1) _ #[] 0 (Nat.le_refl _) (Nat.zero_le _) rfl) _ b0.data rfl (X3.out.1.kept (((Kept.refl NoBlk wc).drewN _).alloc _) (NoCells.none _)) HSZ.out.1 (by simp) ?_
                intro A4 m4 c4 w4 hown4 hg4
                have k4 : Kept NoBlk wc w4 := (((Kept.refl NoBlk wc).drewN _).alloc _).grown hg4 (fun g hg => Or.inr (by have e : wc.heap.size = g := Option.some.inj hg; omega))
                have K4 := Lib.hid k4
                have R4 := Lib.hid hown4
                have P4 := Lib.hid (X2.out.2.1.kept k4 (fun e => e.elim))
                have q4 : w4.cell? ⟨bb, 3, none⟩ = some (.slice A2 (pos + k) c2) := (G2.out.kept k4 (fun e => e.elim)).cell 3
                clear hown4 hg4 k4
                try go_simp
                refine hK.out _ _ (by (first | exact ⟨((X2.out.2.1.drewN _).drewN 1).cell 1, ((X2.out.2.1.drewN _).drewN 1).cell 4⟩ | exact ⟨(((X2.out.2.1.drewN _).drewN 1).alloc _).cell 1, (((X2.out.2.1.drewN _).drewN 1).alloc _).cell 4⟩ | exact ⟨P5.out.cell 1, P5.out.cell 4⟩ | exact ⟨(P5.out.far (fun e => hne e.symm) _).cell 1, (P5.out.far (fun e => hne e.symm) _).cell 4⟩ | exact ⟨P4.out.cell 1, P4.out.cell 4⟩)) (fun hHeld => ?_)
                clear hK K
                try simp only [go_sem]
                refine wpAnyH_ready (rs := [18]) (by kernel_rfl) (by simp) ?_
                refine AllReadyH.cons (o := _) rfl (fun K hK => ?_) ?_
                · refine step_append_rdb rfl (.tmp 136) (.tmp 147) rfl wc.heap.size _ _ _ rfl R4.out _ (ps.drop k) rfl (X3.out.2.kept K4.out (NoCells.none _)) HSZ.out.2 K4.out.size ?_
                  intro A5 m5 c5 w5 hown5 hg5
                  have k5 : Kept NoBlk wc w5 := K4.out.grown hg5 (fun g hg => Or.inr (ownsRow_lt R4.out hg).2)
                  obtain ⟨hm5, hb5⟩ := HN.out w5 A5 m5 c5 hown5 k5
                  subst hm5
                  have K5 := Lib.hid k5
                  have B5 := Lib.hid hb5
                  have P5 := Lib.hid (X2.out.2.1.kept k5 (fun e => e.elim))
                  have q5 : w5.cell? ⟨bb, 3, none⟩ = some (.slice A2 (pos + k) c2) := (G2.out.kept k5 (fun e => e.elim)).cell 3
                  have q6 : w5.frozen? ⟨bb, 3, none⟩ = false := (G2.out.kept k5 (fun e => e.elim)).frozen 3
                  have q7 : w5.cell? ⟨bb, 1, none⟩ = some (.int .i64 tt) := by
                    have := (G2.out.kept k5 (fun e => e.elim)).cell 1
                    rw [HTT.out] at this
                    exact this
                  clear hown5 hg5 k5 hb5
                  try go_simp
                  refine hK.out _ _ (by (first | exact ⟨((X2.out.2.1.drewN _).drewN 1).cell 1, ((X2.out.2.1.drewN _).drewN 1).cell 4⟩ | exact ⟨(((X2.out.2.1.drewN _).drewN 1).alloc _).cell 1, (((X2.out.2.1.drewN _).drewN 1).alloc _).cell 4⟩ | exact ⟨P5.out.cell 1, P5.out.cell 4⟩ | exact ⟨(P5.out.far (fun e => hne e.symm) _).cell 1, (P5.out.far (fun e => hne e.symm) _).cell 4⟩ | exact ⟨P4.out.cell 1, P4.out.cell 4⟩)) (fun hHeld => ?_)
                  clear hK K
                  try simp only [go_sem]
                  refine wpAnyH_take (i := 19) (oi := _) (v := ?_) rfl (by kernel_rfl) (by kernel_rfl) (by kernel_rfl) (fun _ _ _ h => h) (Or.inl ⟨by rfl, ?_⟩) (by assumption) ?_
                  rotate_left
                  · intro wS hSw
                    go_simp
                    try with_reducible rfl
                  try simp only [go_sem]
                  refine wpAnyH_take (i := 20) (oi := _) (v := ?_) rfl (by kernel_rfl) (by kernel_rfl) (by kernel_rfl) (fun _ _ _ h => h) (Or.inl ⟨by rfl, ?_⟩) (by assumption) ?_
                  rotate_left
                  · intro wS hSw
                    go_simp
                    try with_reducible rfl
                  try simp only [go_sem]
                  refine wpAnyH_ready (rs := [21]) (by kernel_rfl) (by simp) ?_
                  refine AllReadyH.cons (o := _) rfl (fun K hK => ?_) ?_
                  · go_simp
                    refine hK.out _ _ (by (first | exact ⟨((X2.out.2.1.drewN _).drewN 1).cell 1, ((X2.out.2.1.drewN _).drewN 1).cell 4⟩ | exact ⟨(((X2.out.2.1.drewN _).drewN 1).alloc _).cell 1, (((X2.out.2.1.drewN _).drewN 1).alloc _).cell 4⟩ | exact ⟨P5.out.cell 1, P5.out.cell 4⟩ | exact ⟨(P5.out.far (fun e => hne e.symm) _).cell 1, (P5.out.far (fun e => hne e.symm) _).cell 4⟩ | exact ⟨P4.out.cell 1, P4.out.cell 4⟩)) (fun hHeld => ?_)
                    clear hK K
                    try simp only [go_sem]
                    refine wpAnyH_done (by kernel_rfl) ?_ _
                    go_wp2_with fail
                    go_quiet (fail)
                    go_wp2_with fail
                    go_ret2
                    exact ⟨by rw [HWB.out]; rfl, by rw [← HBG.out]; exact B5.out.same ((Kept.refl NoBlk _).drewN _), ((X2.out.2.2.inner K5.out (fun _ e => e.elim)).at_ _).drewN _⟩
                  exact AllReadyH.nil
                exact AllReadyH.nil
              exact AllReadyH.nil
            exact AllReadyH.nil
          refine AllReadyH.cons (o := _) rfl (fun K hK => ?_) ?_
          · go_simp
            refine hK.out _ _ (by (first | exact ⟨((X2.out.2.1.drewN _).drewN 1).cell 1, ((X2.out.2.1.drewN _).drewN 1).cell 4⟩ | exact ⟨(((X2.out.2.1.drewN _).drewN 1).alloc _).cell 1, (((X2.out.2.1.drewN _).drewN 1).alloc _).cell 4⟩ | exact ⟨P5.out.cell 1, P5.out.cell 4⟩ | exact ⟨(P5.out.far (fun e => hne e.symm) _).cell 1, (P5.out.far (fun e => hne e.symm) _).cell 4⟩ | exact ⟨P4.out.cell 1, P4.out.cell 4⟩)) (fun hHeld => ?_)
            clear hK K
            try simp only [go_sem]
            refine wpAnyH_ready (rs := [1]) (by kernel_rfl) (by simp) ?_
            refine AllReadyH.cons (o := _) rfl (fun K hK => ?_) ?_
            · go_simp
              refine hK.out _ _ (by (first | exact ⟨((X2.out.2.1.drewN _).drewN 1).cell 1, ((X2.out.2.1.drewN _).drewN 1).cell 4⟩ | exact ⟨(((X2.out.2.1.drewN _).drewN 1).alloc _).cell 1, (((X2.out.2.1.drewN _).drewN 1).alloc _).cell 4⟩ | exact ⟨P5.out.cell 1, P5.out.cell 4⟩ | exact ⟨(P5.out.far (fun e => hne e.symm) _).cell 1, (P5.out.far (fun e => hne e.symm) _).cell 4⟩ | exact ⟨P4.out.cell 1, P4.out.cell 4⟩)) (fun hHeld => ?_)
              clear hK K
              try simp only [go_sem]
              refine wpAnyH_ready (rs := [6]) (by kernel_rfl) (by simp) ?_
              refine AllReadyH.cons (o := _) rfl (fun K hK => ?_) ?_
              · refine step_append_rdb rfl (.tmp 131) (.tmp 135) rfl wc.heap.size _ 0 [] rfl (World.ownsRow_made (e := 5) (size := 1) _ #[] 0 (Nat.le_refl _) (Nat.zero_le _) rfl) _ b0.data rfl (X3.out.1.kept (((Kept.refl NoBlk wc).drewN _).alloc _) (NoCells.none _)) HSZ.out.1 (by simp) ?_
                intro A4 m4 c4 w4 hown4 hg4
                have k4 : Kept NoBlk wc w4 := (((Kept.refl NoBlk wc).drewN _).alloc _).grown hg4 (fun g hg => Or.inr (by have e : wc.heap.size = g := Option.some.inj hg; omega))
                have K4 := Lib.hid k4
                have R4 := Lib.hid hown4
                have P4 := Lib.hid (X2.out.2.1.kept k4 (fun e => e.elim))
                have q4 : w4.cell? ⟨bb, 3, none⟩ = some (.slice A2 (pos + k) c2) := (G2.out.kept k4 (fun e => e.elim)).cell 3
                clear hown4 hg4 k4
                try go_simp
                refine hK.out _ _ (by (first | exact ⟨((X2.out.2.1.drewN _).drewN 1).cell 1, ((X2.out.2.1.drewN _).drewN 1).cell 4⟩ | exact ⟨(((X2.out.2.1.drewN _).drewN 1).alloc _).cell 1, (((X2.out.2.1.drewN _).drewN 1).alloc _).cell 4⟩ | exact ⟨P5.out.cell 1, P5.out.cell 4⟩ | exact ⟨(P5.out.far (fun e => hne e.symm) _).cell 1, (P5.out.far (fun e => hne e.symm) _).cell 4⟩ | exact ⟨P4.out.cell 1, P4.out.cell 4⟩)) (fun hHeld => ?_)
                clear hK K
                try simp only [go_sem]
                refine wpAnyH_ready (rs := [18]) (by kernel_rfl) (by simp) ?_
                refine AllReadyH.cons (o := _) rfl (fun K hK => ?_) ?_
                · refine step_append_rdb rfl (.tmp 136) (.tmp 147) rfl wc.heap.size _ _ _ rfl R4.out _ (ps.drop k) rfl (X3.out.2.kept K4.out (NoCells.none _)) HSZ.out.2 K4.out.size ?_
                  intro A5 m5 c5 w5 hown5 hg5
                  have k5 : Kept NoBlk wc w5 := K4.out.grown hg5 (fun g hg => Or.inr (ownsRow_lt R4.out hg).2)
                  obtain ⟨hm5, hb5⟩ := HN.out w5 A5 m5 c5 hown5 k5
                  subst hm5
                  have K5 := Lib.hid k5
                  have B5 := Lib.hid hb5
                  have P5 := Lib.hid (X2.out.2.1.kept k5 (fun e => e.elim))
                  have q5 : w5.cell? ⟨bb, 3, none⟩ = some (.slice A2 (pos + k) c2) := (G2.out.kept k5 (fun e => e.elim)).cell 3
                  have q6 : w5.frozen? ⟨bb, 3, none⟩ = false := (G2.out.kept k5 (fun e => e.elim)).frozen 3
                  have q7 : w5.cell? ⟨bb, 1, none⟩ = some (.int .i64 tt) := by
                    have := (G2.out.kept k5 (fun e => e.elim)).cell 1
                    rw [HTT.out] at this
                    exact this
                  clear hown5 hg5 k5 hb5
                  try go_simp
                  refine hK.out _ _ (by (first | exact ⟨((X2.out.2.1.drewN _).drewN 1).cell 1, ((X2.out.2.1.drewN _).drewN 1).cell 4⟩ | exact ⟨(((X2.out.2.1.drewN _).drewN 1).alloc _).cell 1, (((X2.out.2.1.drewN _).drewN 1).alloc _).cell 4⟩ | exact ⟨P5.out.cell 1, P5.out.cell 4⟩ | exact ⟨(P5.out.far (fun e => hne e.symm) _).cell 1, (P5.out.far (fun e => hne e.symm) _).cell 4⟩ | exact ⟨P4.out.cell 1, P4.out.cell 4⟩)) (fun hHeld => ?_)
                  clear hK K
                  try simp only [go_sem]
                  refine wpAnyH_take (i := 19) (oi := _) (v := ?_) rfl (by kernel_rfl) (by kernel_rfl) (by kernel_rfl) (fun _ _ _ h => h) (Or.inl ⟨by rfl, ?_⟩) (by assumption) ?_
                  rotate_left
                  · intro wS hSw
                    go_simp
                    try with_reducible rfl
                  try simp only [go_sem]
                  refine wpAnyH_take (i := 20) (oi := _) (v := ?_) rfl (by kernel_rfl) (by kernel_rfl) (by kernel_rfl) (fun _ _ _ h => h) (Or.inl ⟨by rfl, ?_⟩) (by assumption) ?_
                  rotate_left
                  · intro wS hSw
                    go_simp
                    try with_reducible rfl
                  try simp only [go_sem]
                  refine wpAnyH_ready (rs := [21]) (by kernel_rfl) (by simp) ?_
                  refine AllReadyH.cons (o := _) rfl (fun K hK => ?_) ?_
                  · go_simp
                    refine hK.out _ _ (by (first | exact ⟨((X2.out.2.1.drewN _).drewN 1).cell 1, ((X2.out.2.1.drewN _).drewN 1).cell 4⟩ | exact ⟨(((X2.out.2.1.drewN _).drewN 1).alloc _).cell 1, (((X2.out.2.1.drewN _).drewN 1).alloc _).cell 4⟩ | exact ⟨P5.out.cell 1, P5.out.cell 4⟩ | exact ⟨(P5.out.far (fun e => hne e.symm) _).cell 1, (P5.out.far (fun e => hne e.symm) _).cell 4⟩ | exact ⟨P4.out.cell 1, P4.out.cell 4⟩)) (fun hHeld => ?_)
                    clear hK K
                    try simp only [go_sem]
                    refine wpAnyH_done (by kernel_rfl) ?_ _
                    go_wp2_with fail
                    go_quiet (fail)
                    go_wp2_with fail
                    go_ret2
                    exact ⟨by rw [HWB.out]; rfl, by rw [← HBG.out]; exact B5.out.same ((Kept.refl NoBlk _).drewN _), ((X2.out.2.2.inner K5.out (fun _ e => e.elim)).at_ _).drewN _⟩
                  exact AllReadyH.nil
                exact AllReadyH.nil
              exact AllReadyH.nil
            exact AllReadyH.nil
          exact AllReadyH.nil
        exact AllReadyH.nil
      · have HBG := Lib.hid (show bE = b0 by
          have h := HBF.out
          rw [if_neg hlt2] at h
          exact h)
        go_wp2_with fail
        go_quiet (fail)
        go_wp2_with fail
        go_quiet (fail)
        go_wp2_with fail
        go_ret2
        have hwB : wholeB bE = ((hv : Int) == tt) := by
          rw [HBG.out]
          show decide ((b0.data.length : Int) = b0.total) = _
          rw [HHV.out, HTT.out]
          rfl
        exact ⟨by rw [hwB]; rfl, by rw [HBG.out]; exact X2.out.1.same (((Kept.refl NoBlk _).drewN _).drewN _), (X2.out.2.2.drewN _).drewN _⟩

set_option maxRecDepth 100000 in
set_option maxHeartbeats 4000000 in
theorem radd_ok_same {w : World} {bb : Nat} {s : BlD} (h : RBld w bb s) {pi pt pu : Int} {A' : Option Addr} {pos L c' : Nat} (hbad : ¬ badN pi pos pt L) (heq : pi = s.id) (hsame : ¬ s.id < pi → pt = s.total ∧ pu = s.sum) {base : Nat} {ps : List UInt8} (hd : RdU w base (.slice A' L c') ps) (hbb : base ≤ bb) (hfar : pos ≤ (restart s pi pt pu).data.length) :
    Calls Tryd.prog 18 #[.pointer (some ⟨bb, 0, none⟩), .agg #[.int .i64 pi, .int .i64 pos, .int .i64 pt, .int .u32 pu, .slice A' L c']] w (RAddEnd bb (addData (restart s pi pt pu) pos ps) w) := by
  have seen : True := (fun _ => trivial) (And.intro hsame hbad)
  clear seen
  obtain ⟨b0, hb0⟩ : ∃ b0, restart s pi pt pu = b0 := ⟨_, rfl⟩
  rw [hb0] at hfar ⊢
  obtain ⟨bE, hbE⟩ : ∃ bE, addData b0 pos ps = bE := ⟨_, rfl⟩
  rw [hbE]
  have HB0 := Lib.hid hb0
  have HBE := Lib.hid hbE
  clear hb0 hbE
  have HD := Lib.hid hd
  have HF := Lib.hid hfar
  clear hd hfar
  have H := Lib.hid h
  unfold badN at hbad
  simp only [not_or] at hbad
  obtain ⟨b1, b2, b3, b4, b5, b6, b7⟩ := hbad
  obtain ⟨A, c, h1, h2, h3⟩ := h
  have hlt := h1.lt
  have hne : bb ≠ w.heap.size := by omega
  obtain ⟨i, hi⟩ : ∃ i, s.id = i := ⟨_, rfl⟩
  obtain ⟨sd, hsd⟩ : ∃ sd, s.data.length = sd := ⟨_, rfl⟩
  obtain ⟨st, hst⟩ : ∃ st, s.total = st := ⟨_, rfl⟩
  obtain ⟨su, hsu⟩ : ∃ su, s.sum = su := ⟨_, rfl⟩
  rw [hsd] at h3
  obtain ⟨t1, t2⟩ := hsame (by omega)
  rw [hst] at t1
  rw [hsu] at t2
  have hpos : (pos : Int) ≤ sd := by
    have := HF.out
    rw [← HB0.out] at this
    unfold restart at this
    rw [if_neg (by omega), hsd] at this
    omega
  subst t1 t2
  obtain rfl : pi = i := by rw [heq, hi]
  clear hsame heq
  have HI := Lib.hid hi
  have HSD := Lib.hid hsd
  have HST := Lib.hid hst
  have HSU := Lib.hid hsu
  have H6 := Lib.hid b6
  clear h1 h2 hi b6 hsd hst hsu
  go_enter Tryd.func18, Tryd.ntmps18
  go_upto_region 1 with fail
  go_cut [53] (fun u wx => u = .bool false ∧ RBld wx bb s ∧ Blk wx w.heap.size 37 #[.int .i64 pi, .int .i64 pos, .int .i64 pt, .int .u32 pu, .slice A' L c'] ∧ Kept NoBlk w wx)
  case first =>
    have k0 : Kept NoBlk w (w.alloc (.cells #[.int .i64 pi, .int .i64 pos, .int .i64 pt, .int .u32 pu, .slice A' L c'] 37)) := (Kept.refl NoBlk w).alloc _
    have K0 := Lib.hid k0
    clear k0
    have q : ((L : Int) == 0) = false ∨ (((L : Int) == 0) = true ∧ (pt != 0) = false) := by
      have := H6.out
      simp only [beq_iff_eq, beq_eq_false_iff_ne, bne_eq_false_iff_eq, ne_eq]
      omega
    rcases q with q | ⟨q, q'⟩
    all_goals
      go_wp2_with fail
      go_meet
      exact ⟨by simp; try omega, H.out.same K0.out, Blk.new w 37 _, K0.out⟩
  case rest =>
    obtain ⟨hv, hB, hP, hK⟩ := hcut
    rw [hv]
    have HB := Lib.hid hB
    have HP := Lib.hid hP
    have HK := Lib.hid hK
    have p0 : wc.cell? ⟨w.heap.size, 0, none⟩ = some (.int .i64 pi) := hP.cell 0
    have p1 : wc.cell? ⟨w.heap.size, 0 + 1, none⟩ = some (.int .i64 pos) := hP.cell 1
    have p2 : wc.cell? ⟨w.heap.size, 0 + 2, none⟩ = some (.int .i64 pt) := hP.cell 2
    have p3 : wc.cell? ⟨w.heap.size, 0 + 3, none⟩ = some (.int .u32 pu) := hP.cell 3
    have p4 : wc.cell? ⟨w.heap.size, 0 + 4, none⟩ = some (.slice A' L c') := hP.cell 4
    clear hB hP hK hv
    obtain ⟨A1, c1, g1, _, _⟩ := HB.out
    have d0 : wc.cell? ⟨bb, 0, none⟩ = some (.int .i64 s.id) := g1.cell 0
    have d1 : wc.cell? ⟨bb, 0 + 1, none⟩ = some (.int .i64 s.total) := g1.cell 1
    have d2 : wc.cell? ⟨bb, 0 + 2, none⟩ = some (.int .u32 s.sum) := g1.cell 2
    have d3 : wc.cell? ⟨bb, 0 + 3, none⟩ = some (.slice A1 s.data.length c1) := g1.cell 3
    rw [HI.out] at d0
    rw [HST.out] at d1
    rw [HSU.out] at d2
    rw [HSD.out] at d3
    have f0 := g1.frozen
    have G1 := Lib.hid g1
    clear g1
    go_wp2_with fail
    go_quiet (fail)
    go_wp2_with fail
    go_quiet (fail)
    go_wp2_with fail
    go_quiet (fail)
    go_upto_region 12 with fail
    go_cut [108] (fun b wd => b = .bool false ∧ RBld wd bb b0 ∧ Blk wd w.heap.size 37 #[.int .i64 pi, .int .i64 pos, .int .i64 pt, .int .u32 pu, .slice A' L c'] ∧ Kept (Only bb) w wd)
    case first =>
      go_quiet (fail)
      go_wp2_with fail
      go_meet
      have e : b0 = s := by rw [← HB0.out]; unfold restart; rw [HI.out, if_neg (by omega)]
      rw [e]
      exact ⟨by simp, HB.out.same (((Kept.refl NoBlk _).drewN _).drewN _), (HP.out.drewN _).drewN _, (HK.out.none.drewN _).drewN _⟩
    case rest =>
      obtain ⟨hb5, hB2, hP2, hK2⟩ := hcut
      have X2 := Lib.hid (show RBld wc bb b0 ∧ Blk wc w.heap.size 37 #[.int .i64 pi, .int .i64 pos, .int .i64 pt, .int .u32 pu, .slice A' L c'] ∧ Kept (Only bb) w wc from ⟨hB2, hP2, hK2⟩)
      rw [hb5]
      clear hb5 hB2 hP2 hK2 hpos
      clear p0 p1 p2 p3 p4 d0 d1 d2 d3 f0 G1 HB HP
      have hf0 := HF.out
      clear HF
      obtain ⟨A2, c2, g2, o2, l2⟩ := X2.out.1
      have e3 : wc.cell? ⟨bb, 0 + 3, none⟩ = some (.slice A2 b0.data.length c2) := g2.cell 3
      have e1 : wc.cell? ⟨bb, 0 + 1, none⟩ = some (.int .i64 b0.total) := g2.cell 1
      have r1 : wc.cell? ⟨w.heap.size, 0 + 1, none⟩ = some (.int .i64 pos) := X2.out.2.1.cell 1
      have r4 : wc.cell? ⟨w.heap.size, 0 + 4, none⟩ = some (.slice A' L c') := X2.out.2.1.cell 4
      have G2 := Lib.hid g2
      have O2 := Lib.hid o2
      clear g2 o2
      have HL := Lib.hid (HD.out.len)
      obtain ⟨hv, hhv⟩ : ∃ hv, b0.data.length = hv := ⟨_, rfl⟩
      have HBF := Lib.hid (show bE = if hv < pos + L then ⟨b0.id, b0.total, b0.sum, b0.data ++ ps.drop (hv - pos)⟩ else b0 by rw [← HBE.out]; unfold addData; rw [HL.out, hhv])
      rw [hhv] at hf0 l2 e3 G2 O2
      have HHV := Lib.hid hhv
      clear hhv
      obtain ⟨tt, htt⟩ : ∃ tt, b0.total = tt := ⟨_, rfl⟩
      rw [htt] at e1
      have HTT := Lib.hid htt
      clear htt
      by_cases hlt2 : hv < pos + L
      · obtain ⟨k, hk⟩ : ∃ k, pos + k = hv := ⟨hv - pos, by omega⟩
        subst hk
        have HBG := Lib.hid (show (⟨b0.id, b0.total, b0.sum, b0.data ++ ps.drop k⟩ : BlD) = bE by
          have h := HBF.out
          rw [if_pos hlt2] at h
          have ek : pos + k - pos = k := by omega
          rw [ek] at h
          exact h.symm)
        clear hf0
        have hkL : k < L := by omega
        have hrd := (HD.out.kept X2.out.2.2 (fun g hg => by unfold Only at hg; omega))
        have hL0 : L ≤ c' ∧ ∃ ad, A' = some ad := by
          obtain ⟨A3, n3, c3, e, q1, q2, q3, q4, _⟩ := HD.out
          injection e with e1 e2 e3
          subst e1 e2 e3
          refine ⟨q1, ?_⟩
          cases A' with
          | none => have := (q4 rfl).1; omega
          | some ad => exact ⟨ad, rfl⟩
        obtain ⟨hLc, ad, rfl⟩ := hL0
        have z0b : IntKind.i64.wrap (k : Int) = (k : Int) := by rw [IntKind.wrap_i64]; omega
        have z0c : IntKind.i64.wrap ((pos : Int) + (k : Int) - (pos : Int)) = (k : Int) := by rw [IntKind.wrap_i64]; omega
        have z1 : (0 : Int) ≤ (k : Int) := by omega
        have z2 : (k : Int) ≤ (L : Int) := by omega
        have z3 : ¬ c' = k := by omega
        have z4 : (L : Int) ≤ (c' : Int) := by omega
        have X3 := Lib.hid (show RdB wc (.slice A2 (pos + k) c2) b0.data ∧ RdB wc (.slice (some (ad.add k)) (L - k) (c' - k)) (ps.drop k) from by
          refine ⟨RdB.of_own (e := 5) (n := pos + k) O2.out (by omega), ?_⟩
          have h5 := (hrd.rd (by have := X2.out.2.2.size; omega)).sub (t := k) (p := L) (by omega) (Nat.le_refl _)
          have e5 : (ps.drop k).take (L - k) = ps.drop k := List.take_of_length_le (by rw [List.length_drop, HL.out]; omega)
          rw [e5] at h5
          exact h5)
        have hlen : (b0.data ++ ps.drop k).length = L + pos := by rw [List.length_append, List.length_drop, HL.out, HHV.out]; omega
        have HSZ := Lib.hid (show 0 + b0.data.length ≤ 140737488355328 ∧ 0 + b0.data.length + (ps.drop k).length ≤ 140737488355328 by
          rw [List.length_append] at hlen
          omega)
        have hnew : ∀ (w4 : World) (A4 : Option Addr) (m4 c4 : Nat), w4.ownsRow wc.heap.size 5 1 (.slice A4 m4 c4) (0 + b0.data.length + (ps.drop k).length) ([] ++ b0.data.map bv ++ (ps.drop k).map bv) → Kept NoBlk wc w4 →
            m4 = L + pos ∧ RBld (w4.setCell ⟨bb, 3, none⟩ (.slice A4 (L + pos) c4)) bb ⟨b0.id, b0.total, b0.sum, b0.data ++ ps.drop k⟩ := by
          intro w4 A4 m4 c4 h6 h7
          have hl2 : 0 + b0.data.length + (ps.drop k).length = L + pos := by rw [List.length_append] at hlen; omega
          rw [hl2, List.nil_append, ← List.map_append] at h6
          have hv4 : m4 = L + pos := by
            rcases h6.2 with ⟨e3, e4⟩ | ⟨g, cap, cur, e3, _⟩
            · injection e3 with _ e5 _
              have e6 : L + pos = 0 := e4
              omega
            · injection e3
          subst hv4
          refine ⟨rfl, A4, c4, ?_, ?_, ?_⟩
          · show Blk _ _ _ #[_, _, _, .slice A4 (b0.data ++ ps.drop k).length c4]
            rw [hlen]
            exact (G2.out.kept h7 (fun e => e.elim)).set_ 3 (.slice A4 (L + pos) c4)
          · show World.ownsRow _ _ _ _ (.slice A4 (b0.data ++ ps.drop k).length c4) (b0.data ++ ps.drop k).length _
            rw [hlen]
            exact ownsRow_no5 (ownsRow_base h6 (Nat.zero_le _)) (Kept.at_ (Kept.refl (Only bb) w4) _) (No5.of_blk (G2.out.kept h7 (fun e => e.elim)) (by decide))
          · show (b0.data ++ ps.drop k).length ≤ 1048576
            rw [hlen]
            omega
        have HN := Lib.hid hnew
        have HLE := Lib.hid hlen
        have HOW := Lib.hid (World.ownsRow_made (e := 5) (size := 1) wc.drew #[] 0 (Nat.le_refl _) (Nat.zero_le _) rfl)
        clear hnew hrd hLc hlen
        have hwB : wholeB bE = (((L + pos : Nat) : Int) == tt) := by
          rw [← HBG.out]
          show decide (((b0.data ++ ps.drop k).length : Int) = b0.total) = _
          rw [HLE.out, HTT.out]
          rfl
        have HWB := Lib.hid hwB
        have hltc := X2.out.1.lt
        have hnec : bb ≠ wc.heap.size := by omega
        have e5 : (wc.alloc (.cells #[] 5)).cell? ⟨bb, 3, none⟩ = some (.slice A2 (pos + k) c2) := (G2.out.alloc _).cell 3
        have e6 : ∀ n, ((wc.drewN n).alloc (.cells #[] 5)).cell? ⟨bb, 3, none⟩ = some (.slice A2 (pos + k) c2) := fun n => ((G2.out.drewN n).alloc _).cell 3
        have e7 : ∀ n, ((wc.drewN n).drew.alloc (.cells #[] 5)).cell? ⟨bb, 3, none⟩ = some (.slice A2 (pos + k) c2) := fun n => (((G2.out.drewN n).drew).alloc _).cell 3
        clear hwB
        go_wp2_with fail
        go_quiet (fail)
        go_wp2_with fail
        refine wp_region_held_drew (S := fun w' => w'.cell? ⟨w.heap.size, 1, none⟩ = some (.int .i64 pos) ∧ w'.cell? ⟨w.heap.size, 4, none⟩ = some (.slice (some ad) L c')) (by kernel_rfl) (by (first | exact ⟨((X2.out.2.1.drewN _).drewN 1).cell 1, ((X2.out.2.1.drewN _).drewN 1).cell 4⟩ | exact ⟨(((X2.out.2.1.drewN _).drewN 1).alloc _).cell 1, (((X2.out.2.1.drewN _).drewN 1).alloc _).cell 4⟩ | exact ⟨P5.out.cell 1, P5.out.cell 4⟩ | exact ⟨(P5.out.far (fun e => hne e.symm) _).cell 1, (P5.out.far (fun e => hne e.symm) _).cell 4⟩ | exact ⟨P4.out.cell 1, P4.out.cell 4⟩)) (fun hHeld => ?_)
        refine wpAnyH_take (i := 0) (oi := _) (v := ?_) rfl (by kernel_rfl) (by kernel_rfl) (by kernel_rfl) (fun _ _ _ h => h) (Or.inl ⟨by rfl, ?_⟩) (by assumption) ?_
        rotate_left
        · intro wS hSw
          go_simp
          try with_reducible rfl
        try simp only [go_sem]
        refine wpAnyH_take (i := 2) (oi := _) (v := ?_) rfl (by kernel_rfl) (by kernel_rfl) (by kernel_rfl) (fun _ _ _ h => h) (Or.inl ⟨by rfl, ?_⟩) (by assumption) ?_
        rotate_left
        · intro wS hSw
          go_simp
          try with_reducible rfl
        try simp only [go_sem]
        refine wpAnyH_take (i := 3) (oi := _) (v := ?_) rfl (by kernel_rfl) (by kernel_rfl) (by kernel_rfl) (fun _ _ _ h => h) (Or.inl ⟨by rfl, ?_⟩) (by assumption) ?_
        rotate_left
        · intro wS hSw
          go_simp
          try with_reducible rfl
        try simp only [go_sem]
        refine wpAnyH_take (i := 4) (oi := _) (v := ?_) rfl (by kernel_rfl) (by kernel_rfl) (by kernel_rfl) (fun _ _ _ h => h) (Or.inl ⟨by rfl, ?_⟩) (by assumption) ?_
        rotate_left
        · intro wS hSw
          go_simp
          try with_reducible rfl
        try simp only [go_sem]
        refine wpAnyH_take (i := 7) (oi := _) (v := ?_) rfl (by kernel_rfl) (by kernel_rfl) (by kernel_rfl) (fun _ _ _ h => h) (Or.inl ⟨by rfl, ?_⟩) (by assumption) ?_
        rotate_left
        · intro wS hSw
          go_simp
          try with_reducible rfl
        try simp only [go_sem]
        refine wpAnyH_take (i := 8) (oi := _) (v := ?_) rfl (by kernel_rfl) (by kernel_rfl) (by kernel_rfl) (fun _ _ _ h => h) (Or.inl ⟨by rfl, ?_⟩) (by assumption) ?_
        rotate_left
        · intro wS hSw
          go_simp
          try with_reducible rfl
        try simp only [go_sem]
        refine wpAnyH_take (i := 9) (oi := _) (v := ?_) rfl (by kernel_rfl) (by kernel_rfl) (by kernel_rfl) (fun _ _ _ h => h) (Or.inl ⟨by rfl, ?_⟩) (by assumption) ?_
        rotate_left
        · intro wS hSw
          go_simp
          try with_reducible rfl
        try simp only [go_sem]
        refine wpAnyH_take (i := 10) (oi := _) (v := ?_) rfl (by kernel_rfl) (by kernel_rfl) (by kernel_rfl) (fun _ _ _ h => h) (Or.inl ⟨by rfl, ?_⟩) (by assumption) ?_
        rotate_left
        · intro wS hSw
          go_simp
          try with_reducible rfl
        try simp only [go_sem]
        refine wpAnyH_take (i := 11) (oi := _) (v := ?_) rfl (by kernel_rfl) (by kernel_rfl) (by kernel_rfl) (fun _ _ _ h => h) (Or.inl ⟨by rfl, ?_⟩) (by assumption) ?_
        rotate_left
        · intro wS hSw
          go_simp
          try with_reducible rfl
        try simp only [go_sem]
        refine wpAnyH_take (i := 14) (oi := _) (v := ?_) rfl (by kernel_rfl) (by kernel_rfl) (by kernel_rfl) (fun _ _ _ h => h) (Or.inl ⟨by rfl, ?_⟩) (by assumption) ?_
        rotate_left
        · intro wS hSw
          go_simp
          try with_reducible rfl
        try simp only [go_sem]
        refine wpAnyH_take (i := 15) (oi := _) (v := ?_) rfl (by kernel_rfl) (by kernel_rfl) (by kernel_rfl) (fun _ _ _ h => h) (Or.inl ⟨by rfl, ?_⟩) (by assumption) ?_
        rotate_left
        · intro wS hSw
          go_simp
          try with_reducible rfl
        try simp only [go_sem]
        refine wpAnyH_ready (rs := [1, 5, 12]) (by kernel_rfl) (by simp) ?_
        refine AllReadyH.cons (o := _) rfl (fun K hK => ?_) ?_
        · go_simp
          refine hK.out _ _ (by (first | exact ⟨((X2.out.2.1.drewN _).drewN 1).cell 1, ((X2.out.2.1.drewN _).drewN 1).cell 4⟩ | exact ⟨(((X2.out.2.1.drewN _).drewN 1).alloc _).cell 1, (((X2.out.2.1.drewN _).drewN 1).alloc _).cell 4⟩ | exact ⟨P5.out.cell 1, P5.out.cell 4⟩ | exact ⟨(P5.out.far (fun e => hne e.symm) _).cell 1, (P5.out.far (fun e => hne e.symm) _).cell 4⟩ | exact ⟨P4.out.cell 1, P4.out.cell 4⟩)) (fun hHeld => ?_)
          clear hK K
          try simp only [go_sem]
          refine wpAnyH_ready (rs := [5, 12]) (by kernel_rfl) (by simp) ?_
          refine AllReadyH.cons (o := _) rfl (fun K hK => ?_) ?_
          · go_simp
            refine hK.out _ _ (by (first | exact ⟨((X2.out.2.1.drewN _).drewN 1).cell 1, ((X2.out.2.1.drewN _).drewN 1).cell 4⟩ | exact ⟨(((X2.out.2.1.drewN _).drewN 1).alloc _).cell 1, (((X2.out.2.1.drewN _).drewN 1).alloc _).cell 4⟩ | exact ⟨P5.out.cell 1, P5.out.cell 4⟩ | exact ⟨(P5.out.far (fun e => hne e.symm) _).cell 1, (P5.out.far (fun e => hne e.symm) _).cell 4⟩ | exact ⟨P4.out.cell 1, P4.out.cell 4⟩)) (fun hHeld => ?_)
            clear hK K
            try simp only [go_sem]
            refine wpAnyH_ready (rs := [6, 12]) (by kernel_rfl) (by simp) ?_
            refine AllReadyH.cons (o := _) rfl (fun K hK => ?_) ?_
            · refine step_append_rdb rfl (.tmp 131) (.tmp 135) rfl wc.heap.size _ 0 [] rfl (World.ownsRow_made (e := 5) (size := 1) _ #[] 0 (Nat.le_refl _) (Nat.zero_le _) rfl) _ b0.data rfl (X3.out.1.kept (((Kept.refl NoBlk wc).drewN _).alloc _) (NoCells.none _)) HSZ.out.1 (by simp) ?_
              intro A4 m4 c4 w4 hown4 hg4
              have k4 : Kept NoBlk wc w4 := (((Kept.refl NoBlk wc).drewN _).alloc _).grown hg4 (fun g hg => Or.inr (by have e : wc.heap.size = g := Option.some.inj hg; omega))
              have K4 := Lib.hid k4
              have R4 := Lib.hid hown4
              have P4 := Lib.hid (X2.out.2.1.kept k4 (fun e => e.elim))
              have q4 : w4.cell? ⟨bb, 3, none⟩ = some (.slice A2 (pos + k) c2) := (G2.out.kept k4 (fun e => e.elim)).cell 3
              clear hown4 hg4 k4
              try go_simp
              refine hK.out _ _ (by (first | exact ⟨((X2.out.2.1.drewN _).drewN 1).cell 1, ((X2.out.2.1.drewN _).drewN 1).cell 4⟩ | exact ⟨(((X2.out.2.1.drewN _).drewN 1).alloc _).cell 1, (((X2.out.2.1.drewN _).drewN 1).alloc _).cell 4⟩ | exact ⟨P5.out.cell 1, P5.out.cell 4⟩ | exact ⟨(P5.out.far (fun e => hne e.symm) _).cell 1, (P5.out.far (fun e => hne e.symm) _).cell 4⟩ | exact ⟨P4.out.cell 1, P4.out.cell 4⟩)) (fun hHeld => ?_)
              clear hK K
              try simp only [go_sem]
              refine wpAnyH_ready (rs := [12]) (by kernel_rfl) (by simp) ?_
              refine AllReadyH.cons (o := _) rfl (fun K hK => ?_) ?_
              · go_simp
                refine hK.out _ _ (by (first | exact ⟨((X2.out.2.1.drewN _).drewN 1).cell 1, ((X2.out.2.1.drewN _).drewN 1).cell 4⟩ | exact ⟨(((X2.out.2.1.drewN _).drewN 1).alloc _).cell 1, (((X2.out.2.1.drewN _).drewN 1).alloc _).cell 4⟩ | exact ⟨P5.out.cell 1, P5.out.cell 4⟩ | exact ⟨(P5.out.far (fun e => hne e.symm) _).cell 1, (P5.out.far (fun e => hne e.symm) _).cell 4⟩ | exact ⟨P4.out.cell 1, P4.out.cell 4⟩)) (fun hHeld => ?_)
                clear hK K
                try simp only [go_sem]
                refine wpAnyH_take (i := 13) (oi := _) (v := ?_) rfl (by kernel_rfl) (by kernel_rfl) (by kernel_rfl) (fun _ _ _ h => h) (Or.inl ⟨by rfl, ?_⟩) (by assumption) ?_
                rotate_left
                · intro wS hSw
                  go_simp
                  try with_reducible rfl
                try simp only [go_sem]
                refine wpAnyH_take (i := 16) (oi := _) (v := ?_) rfl (by kernel_rfl) (by kernel_rfl) (by kernel_rfl) (fun _ _ _ h => h) (Or.inl ⟨by rfl, ?_⟩) (by assumption) ?_
                rotate_left
                · intro wS hSw
                  go_simp
                  try with_reducible rfl
                try simp only [go_sem]
                refine wpAnyH_take (i := 17) (oi := _) (v := ?_) rfl (by kernel_rfl) (by kernel_rfl) (by kernel_rfl) (fun _ _ _ h => h) (Or.inl ⟨by rfl, ?_⟩) (by assumption) ?_
                rotate_left
                · intro wS hSw
                  go_simp
                  try with_reducible rfl
                try simp only [go_sem]
                refine wpAnyH_ready (rs := [18]) (by kernel_rfl) (by simp) ?_
                refine AllReadyH.cons (o := _) rfl (fun K hK => ?_) ?_
                · refine step_append_rdb rfl (.tmp 136) (.tmp 147) rfl wc.heap.size _ _ _ rfl R4.out _ (ps.drop k) rfl (X3.out.2.kept K4.out (NoCells.none _)) HSZ.out.2 K4.out.size ?_
                  intro A5 m5 c5 w5 hown5 hg5
                  have k5 : Kept NoBlk wc w5 := K4.out.grown hg5 (fun g hg => Or.inr (ownsRow_lt R4.out hg).2)
                  obtain ⟨hm5, hb5⟩ := HN.out w5 A5 m5 c5 hown5 k5
                  subst hm5
                  have K5 := Lib.hid k5
                  have B5 := Lib.hid hb5
                  have P5 := Lib.hid (X2.out.2.1.kept k5 (fun e => e.elim))
                  have q5 : w5.cell? ⟨bb, 3, none⟩ = some (.slice A2 (pos + k) c2) := (G2.out.kept k5 (fun e => e.elim)).cell 3
                  have q6 : w5.frozen? ⟨bb, 3, none⟩ = false := (G2.out.kept k5 (fun e => e.elim)).frozen 3
                  have q7 : w5.cell? ⟨bb, 1, none⟩ = some (.int .i64 tt) := by
                    have := (G2.out.kept k5 (fun e => e.elim)).cell 1
                    rw [HTT.out] at this
                    exact this
                  clear hown5 hg5 k5 hb5
                  try go_simp
                  refine hK.out _ _ (by (first | exact ⟨((X2.out.2.1.drewN _).drewN 1).cell 1, ((X2.out.2.1.drewN _).drewN 1).cell 4⟩ | exact ⟨(((X2.out.2.1.drewN _).drewN 1).alloc _).cell 1, (((X2.out.2.1.drewN _).drewN 1).alloc _).cell 4⟩ | exact ⟨P5.out.cell 1, P5.out.cell 4⟩ | exact ⟨(P5.out.far (fun e => hne e.symm) _).cell 1, (P5.out.far (fun e => hne e.symm) _).cell 4⟩ | exact ⟨P4.out.cell 1, P4.out.cell 4⟩)) (fun hHeld => ?_)
                  clear hK K
                  try simp only [go_sem]
                  refine wpAnyH_take (i := 19) (oi := _) (v := ?_) rfl (by kernel_rfl) (by kernel_rfl) (by kernel_rfl) (fun _ _ _ h => h) (Or.inl ⟨by rfl, ?_⟩) (by assumption) ?_
                  rotate_left
                  · intro wS hSw
                    go_simp
                    try with_reducible rfl
                  try simp only [go_sem]
                  refine wpAnyH_take (i := 20) (oi := _) (v := ?_) rfl (by kernel_rfl) (by kernel_rfl) (by kernel_rfl) (fun _ _ _ h => h) (Or.inl ⟨by rfl, ?_⟩) (by assumption) ?_
                  rotate_left
                  · intro wS hSw
                    go_simp
                    try with_reducible rfl
                  try simp only [go_sem]
                  refine wpAnyH_ready (rs := [21]) (by kernel_rfl) (by simp) ?_
                  refine AllReadyH.cons (o := _) rfl (fun K hK => ?_) ?_
                  · go_simp
                    refine hK.out _ _ (by (first | exact ⟨((X2.out.2.1.drewN _).drewN 1).cell 1, ((X2.out.2.1.drewN _).drewN 1).cell 4⟩ | exact ⟨(((X2.out.2.1.drewN _).drewN 1).alloc _).cell 1, (((X2.out.2.1.drewN _).drewN 1).alloc _).cell 4⟩ | exact ⟨P5.out.cell 1, P5.out.cell 4⟩ | exact ⟨(P5.out.far (fun e => hne e.symm) _).cell 1, (P5.out.far (fun e => hne e.symm) _).cell 4⟩ | exact ⟨P4.out.cell 1, P4.out.cell 4⟩)) (fun hHeld => ?_)
                    clear hK K
                    try simp only [go_sem]
                    refine wpAnyH_done (by kernel_rfl) ?_ _
                    go_wp2_with fail
                    go_quiet (fail)
                    go_wp2_with fail
                    go_ret2
                    exact ⟨by rw [HWB.out]; rfl, by rw [← HBG.out]; exact B5.out.same ((Kept.refl NoBlk _).drewN _), ((X2.out.2.2.inner K5.out (fun _ e => e.elim)).at_ _).drewN _⟩
                  exact AllReadyH.nil
                exact AllReadyH.nil
              exact AllReadyH.nil
            refine AllReadyH.cons (o := _) rfl (fun K hK => ?_) ?_
            · go_simp
              refine hK.out _ _ (by (first | exact ⟨((X2.out.2.1.drewN _).drewN 1).cell 1, ((X2.out.2.1.drewN _).drewN 1).cell 4⟩ | exact ⟨(((X2.out.2.1.drewN _).drewN 1).alloc _).cell 1, (((X2.out.2.1.drewN _).drewN 1).alloc _).cell 4⟩ | exact ⟨P5.out.cell 1, P5.out.cell 4⟩ | exact ⟨(P5.out.far (fun e => hne e.symm) _).cell 1, (P5.out.far (fun e => hne e.symm) _).cell 4⟩ | exact ⟨P4.out.cell 1, P4.out.cell 4⟩)) (fun hHeld => ?_)
              clear hK K
              try simp only [go_sem]
              refine wpAnyH_take (i := 13) (oi := _) (v := ?_) rfl (by kernel_rfl) (by kernel_rfl) (by kernel_rfl) (fun _ _ _ h => h) (Or.inl ⟨by rfl, ?_⟩) (by assumption) ?_
              rotate_left
              · intro wS hSw
                go_simp
                try with_reducible rfl
              try simp only [go_sem]
              refine wpAnyH_take (i := 16) (oi := _) (v := ?_) rfl (by kernel_rfl) (by kernel_rfl) (by kernel_rfl) (fun _ _ _ h => h) (Or.inl ⟨by rfl, ?_⟩) (by assumption) ?_
              rotate_left
              · intro wS hSw
                go_simp
                try with_reducible rfl
              try simp only [go_sem]
              refine wpAnyH_take (i := 17) (oi := _) (v := ?_) rfl (by kernel_rfl) (by kernel_rfl) (by kernel_rfl) (fun _ _ _ h => h) (Or.inl ⟨by rfl, ?_⟩) (by assumption) ?_
              rotate_left
              · intro wS hSw
                go_simp
                try with_reducible rfl
              try simp only [go_sem]
              refine wpAnyH_ready (rs := [6]) (by kernel_rfl) (by simp) ?_
              refine AllReadyH.cons (o := _) rfl (fun K hK => ?_) ?_
              · refine step_append_rdb rfl (.tmp 131) (.tmp 135) rfl wc.heap.size _ 0 [] rfl (World.ownsRow_made (e := 5) (size := 1) _ #[] 0 (Nat.le_refl _) (Nat.zero_le _) rfl) _ b0.data rfl (X3.out.1.kept (((Kept.refl NoBlk wc).drewN _).alloc _) (NoCells.none _)) HSZ.out.1 (by simp) ?_
                intro A4 m4 c4 w4 hown4 hg4
                have k4 : Kept NoBlk wc w4 := (((Kept.refl NoBlk wc).drewN _).alloc _).grown hg4 (fun g hg => Or.inr (by have e : wc.heap.size = g := Option.some.inj hg; omega))
                have K4 := Lib.hid k4
                have R4 := Lib.hid hown4
                have P4 := Lib.hid (X2.out.2.1.kept k4 (fun e => e.elim))
                have q4 : w4.cell? ⟨bb, 3, none⟩ = some (.slice A2 (pos + k) c2) := (G2.out.kept k4 (fun e => e.elim)).cell 3
                clear hown4 hg4 k4
                try go_simp
                refine hK.out _ _ (by (first | exact ⟨((X2.out.2.1.drewN _).drewN 1).cell 1, ((X2.out.2.1.drewN _).drewN 1).cell 4⟩ | exact ⟨(((X2.out.2.1.drewN _).drewN 1).alloc _).cell 1, (((X2.out.2.1.drewN _).drewN 1).alloc _).cell 4⟩ | exact ⟨P5.out.cell 1, P5.out.cell 4⟩ | exact ⟨(P5.out.far (fun e => hne e.symm) _).cell 1, (P5.out.far (fun e => hne e.symm) _).cell 4⟩ | exact ⟨P4.out.cell 1, P4.out.cell 4⟩)) (fun hHeld => ?_)
                clear hK K
                try simp only [go_sem]
                refine wpAnyH_ready (rs := [18]) (by kernel_rfl) (by simp) ?_
                refine AllReadyH.cons (o := _) rfl (fun K hK => ?_) ?_
                · refine step_append_rdb rfl (.tmp 136) (.tmp 147) rfl wc.heap.size _ _ _ rfl R4.out _ (ps.drop k) rfl (X3.out.2.kept K4.out (NoCells.none _)) HSZ.out.2 K4.out.size ?_
                  intro A5 m5 c5 w5 hown5 hg5
                  have k5 : Kept NoBlk wc w5 := K4.out.grown hg5 (fun g hg => Or.inr (ownsRow_lt R4.out hg).2)
                  obtain ⟨hm5, hb5⟩ := HN.out w5 A5 m5 c5 hown5 k5
                  subst hm5
                  have K5 := Lib.hid k5
                  have B5 := Lib.hid hb5
                  have P5 := Lib.hid (X2.out.2.1.kept k5 (fun e => e.elim))
                  have q5 : w5.cell? ⟨bb, 3, none⟩ = some (.slice A2 (pos + k) c2) := (G2.out.kept k5 (fun e => e.elim)).cell 3
                  have q6 : w5.frozen? ⟨bb, 3, none⟩ = false := (G2.out.kept k5 (fun e => e.elim)).frozen 3
                  have q7 : w5.cell? ⟨bb, 1, none⟩ = some (.int .i64 tt) := by
                    have := (G2.out.kept k5 (fun e => e.elim)).cell 1
                    rw [HTT.out] at this
                    exact this
                  clear hown5 hg5 k5 hb5
                  try go_simp
                  refine hK.out _ _ (by (first | exact ⟨((X2.out.2.1.drewN _).drewN 1).cell 1, ((X2.out.2.1.drewN _).drewN 1).cell 4⟩ | exact ⟨(((X2.out.2.1.drewN _).drewN 1).alloc _).cell 1, (((X2.out.2.1.drewN _).drewN 1).alloc _).cell 4⟩ | exact ⟨P5.out.cell 1, P5.out.cell 4⟩ | exact ⟨(P5.out.far (fun e => hne e.symm) _).cell 1, (P5.out.far (fun e => hne e.symm) _).cell 4⟩ | exact ⟨P4.out.cell 1, P4.out.cell 4⟩)) (fun hHeld => ?_)
                  clear hK K
                  try simp only [go_sem]
                  refine wpAnyH_take (i := 19) (oi := _) (v := ?_) rfl (by kernel_rfl) (by kernel_rfl) (by kernel_rfl) (fun _ _ _ h => h) (Or.inl ⟨by rfl, ?_⟩) (by assumption) ?_
                  rotate_left
                  · intro wS hSw
                    go_simp
                    try with_reducible rfl
                  try simp only [go_sem]
                  refine wpAnyH_take (i := 20) (oi := _) (v := ?_) rfl (by kernel_rfl) (by kernel_rfl) (by kernel_rfl) (fun _ _ _ h => h) (Or.inl ⟨by rfl, ?_⟩) (by assumption) ?_
                  rotate_left
                  · intro wS hSw
                    go_simp
                    try with_reducible rfl
                  try simp only [go_sem]
                  refine wpAnyH_ready (rs := [21]) (by kernel_rfl) (by simp) ?_
                  refine AllReadyH.cons (o := _) rfl (fun K hK => ?_) ?_
                  · go_simp
                    refine hK.out _ _ (by (first | exact ⟨((X2.out.2.1.drewN _).drewN 1).cell 1, ((X2.out.2.1.drewN _).drewN 1).cell 4⟩ | exact ⟨(((X2.out.2.1.drewN _).drewN 1).alloc _).cell 1, (((X2.out.2.1.drewN _).drewN 1).alloc _).cell 4⟩ | exact ⟨P5.out.cell 1, P5.out.cell 4⟩ | exact ⟨(P5.out.far (fun e => hne e.symm) _).cell 1, (P5.out.far (fun e => hne e.symm) _).cell 4⟩ | exact ⟨P4.out.cell 1, P4.out.cell 4⟩)) (fun hHeld => ?_)
                    clear hK K
                    try simp only [go_sem]
                    refine wpAnyH_done (by kernel_rfl) ?_ _
                    go_wp2_with fail
                    go_quiet (fail)
                    go_wp2_with fail
                    go_ret2
                    exact ⟨by rw [HWB.out]; rfl, by rw [← HBG.out]; exact B5.out.same ((Kept.refl NoBlk _).drewN _), ((X2.out.2.2.inner K5.out (fun _ e => e.elim)).at_ _).drewN _⟩
                  exact AllReadyH.nil
                exact AllReadyH.nil
              exact AllReadyH.nil
            exact AllReadyH.nil
          refine AllReadyH.cons (o := _) rfl (fun K hK => ?_) ?_
          · go_simp
            refine hK.out _ _ (by (first | exact ⟨((X2.out.2.1.drewN _).drewN 1).cell 1, ((X2.out.2.1.drewN _).drewN 1).cell 4⟩ | exact ⟨(((X2.out.2.1.drewN _).drewN 1).alloc _).cell 1, (((X2.out.2.1.drewN _).drewN 1).alloc _).cell 4⟩ | exact ⟨P5.out.cell 1, P5.out.cell 4⟩ | exact ⟨(P5.out.far (fun e => hne e.symm) _).cell 1, (P5.out.far (fun e => hne e.symm) _).cell 4⟩ | exact ⟨P4.out.cell 1, P4.out.cell 4⟩)) (fun hHeld => ?_)
            clear hK K
            try simp only [go_sem]
            refine wpAnyH_take (i := 13) (oi := _) (v := ?_) rfl (by kernel_rfl) (by kernel_rfl) (by kernel_rfl) (fun _ _ _ h => h) (Or.inl ⟨by rfl, ?_⟩) (by assumption) ?_
            rotate_left
            · intro wS hSw
              go_simp
              try with_reducible rfl
            try simp only [go_sem]
            refine wpAnyH_take (i := 16) (oi := _) (v := ?_) rfl (by kernel_rfl) (by kernel_rfl) (by kernel_rfl) (fun _ _ _ h => h) (Or.inl ⟨by rfl, ?_⟩) (by assumption) ?_
            rotate_left
            · intro wS hSw
              go_simp
              try with_reducible rfl
            try simp only [go_sem]
            refine wpAnyH_take (i := 17) (oi := _) (v := ?_) rfl (by kernel_rfl) (by kernel_rfl) (by kernel_rfl) (fun _ _ _ h => h) (Or.inl ⟨by rfl, ?_⟩) (by assumption) ?_
            rotate_left
            · intro wS hSw
              go_simp
              try with_reducible rfl
            try simp only [go_sem]
            refine wpAnyH_ready (rs := [5]) (by kernel_rfl) (by simp) ?_
            refine AllReadyH.cons (o := _) rfl (fun K hK => ?_) ?_
            · go_simp
              refine hK.out _ _ (by (first | exact ⟨((X2.out.2.1.drewN _).drewN 1).cell 1, ((X2.out.2.1.drewN _).drewN 1).cell 4⟩ | exact ⟨(((X2.out.2.1.drewN _).drewN 1).alloc _).cell 1, (((X2.out.2.1.drewN _).drewN 1).alloc _).cell 4⟩ | exact ⟨P5.out.cell 1, P5.out.cell 4⟩ | exact ⟨(P5.out.far (fun e => hne e.symm) _).cell 1, (P5.out.far (fun e => hne e.symm) _).cell 4⟩ | exact ⟨P4.out.cell 1, P4.out.cell 4⟩)) (fun hHeld => ?_)
              clear hK K
              try simp only [go_sem]
              refine wpAnyH_ready (rs := [6]) (by kernel_rfl) (by simp) ?_
              refine AllReadyH.cons (o := _) rfl (fun K hK => ?_) ?_
              · refine step_append_rdb rfl (.tmp 131) (.tmp 135) rfl wc.heap.size _ 0 [] rfl (World.ownsRow_made (e := 5) (size := 1) _ #[] 0 (Nat.le_refl _) (Nat.zero_le _) rfl) _ b0.data rfl (X3.out.1.kept (((Kept.refl NoBlk wc).drewN _).alloc _) (NoCells.none _)) HSZ.out.1 (by simp) ?_
                intro A4 m4 c4 w4 hown4 hg4
                have k4 : Kept NoBlk wc w4 := (((Kept.refl NoBlk wc).drewN _).alloc _).grown hg4 (fun g hg => Or.inr (by have e : wc.heap.size = g := Option.some.inj hg; omega))
                have K4 := Lib.hid k4
                have R4 := Lib.hid hown4
                have P4 := Lib.hid (X2.out.2.1.kept k4 (fun e => e.elim))
                have q4 : w4.cell? ⟨bb, 3, none⟩ = some (.slice A2 (pos + k) c2) := (G2.out.kept k4 (fun e => e.elim)).cell 3
                clear hown4 hg4 k4
                try go_simp
                refine hK.out _ _ (by (first | exact ⟨((X2.out.2.1.drewN _).drewN 1).cell 1, ((X2.out.2.1.drewN _).drewN 1).cell 4⟩ | exact ⟨(((X2.out.2.1.drewN _).drewN 1).alloc _).cell 1, (((X2.out.2.1.drewN _).drewN 1).alloc _).cell 4⟩ | exact ⟨P5.out.cell 1, P5.out.cell 4⟩ | exact ⟨(P5.out.far (fun e => hne e.symm) _).cell 1, (P5.out.far (fun e => hne e.symm) _).cell 4⟩ | exact ⟨P4.out.cell 1, P4.out.cell 4⟩)) (fun hHeld => ?_)
                clear hK K
                try simp only [go_sem]
                refine wpAnyH_ready (rs := [18]) (by kernel_rfl) (by simp) ?_
                refine AllReadyH.cons (o := _) rfl (fun K hK => ?_) ?_
                · refine step_append_rdb rfl (.tmp 136) (.tmp 147) rfl wc.heap.size _ _ _ rfl R4.out _ (ps.drop k) rfl (X3.out.2.kept K4.out (NoCells.none _)) HSZ.out.2 K4.out.size ?_
                  intro A5 m5 c5 w5 hown5 hg5
                  have k5 : Kept NoBlk wc w5 := K4.out.grown hg5 (fun g hg => Or.inr (ownsRow_lt R4.out hg).2)
                  obtain ⟨hm5, hb5⟩ := HN.out w5 A5 m5 c5 hown5 k5
                  subst hm5
                  have K5 := Lib.hid k5
                  have B5 := Lib.hid hb5
                  have P5 := Lib.hid (X2.out.2.1.kept k5 (fun e => e.elim))
                  have q5 : w5.cell? ⟨bb, 3, none⟩ = some (.slice A2 (pos + k) c2) := (G2.out.kept k5 (fun e => e.elim)).cell 3
                  have q6 : w5.frozen? ⟨bb, 3, none⟩ = false := (G2.out.kept k5 (fun e => e.elim)).frozen 3
                  have q7 : w5.cell? ⟨bb, 1, none⟩ = some (.int .i64 tt) := by
                    have := (G2.out.kept k5 (fun e => e.elim)).cell 1
                    rw [HTT.out] at this
                    exact this
                  clear hown5 hg5 k5 hb5
                  try go_simp
                  refine hK.out _ _ (by (first | exact ⟨((X2.out.2.1.drewN _).drewN 1).cell 1, ((X2.out.2.1.drewN _).drewN 1).cell 4⟩ | exact ⟨(((X2.out.2.1.drewN _).drewN 1).alloc _).cell 1, (((X2.out.2.1.drewN _).drewN 1).alloc _).cell 4⟩ | exact ⟨P5.out.cell 1, P5.out.cell 4⟩ | exact ⟨(P5.out.far (fun e => hne e.symm) _).cell 1, (P5.out.far (fun e => hne e.symm) _).cell 4⟩ | exact ⟨P4.out.cell 1, P4.out.cell 4⟩)) (fun hHeld => ?_)
                  clear hK K
                  try simp only [go_sem]
                  refine wpAnyH_take (i := 19) (oi := _) (v := ?_) rfl (by kernel_rfl) (by kernel_rfl) (by kernel_rfl) (fun _ _ _ h => h) (Or.inl ⟨by rfl, ?_⟩) (by assumption) ?_
                  rotate_left
                  · intro wS hSw
                    go_simp
                    try with_reducible rfl
                  try simp only [go_sem]
                  refine wpAnyH_take (i := 20) (oi := _) (v := ?_) rfl (by kernel_rfl) (by kernel_rfl) (by kernel_rfl) (fun _ _ _ h => h) (Or.inl ⟨by rfl, ?_⟩) (by assumption) ?_
                  rotate_left
                  · intro wS hSw
                    go_simp
                    try with_reducible rfl
                  try simp only [go_sem]
                  refine wpAnyH_ready (rs := [21]) (by kernel_rfl) (by simp) ?_
                  refine AllReadyH.cons (o := _) rfl (fun K hK => ?_) ?_
                  · go_simp
                    refine hK.out _ _ (by (first | exact ⟨((X2.out.2.1.drewN _).drewN 1).cell 1, ((X2.out.2.1.drewN _).drewN 1).cell 4⟩ | exact ⟨(((X2.out.2.1.drewN _).drewN 1).alloc _).cell 1, (((X2.out.2.1.drewN _).drewN 1).alloc _).cell 4⟩ | exact ⟨P5.out.cell 1, P5.out.cell 4⟩ | exact ⟨(P5.out.far (fun e => hne e.symm) _).cell 1, (P5.out.far (fun e => hne e.symm) _).cell 4⟩ | exact ⟨P4.out.cell 1, P4.out.cell 4⟩)) (fun hHeld => ?_)
                    clear hK K
                    try simp only [go_sem]
                    refine wpAnyH_done (by kernel_rfl) ?_ _
                    go_wp2_with fail
                    go_quiet (fail)
                    go_wp2_with fail
                    go_ret2
                    exact ⟨by rw [HWB.out]; rfl, by rw [← HBG.out]; exact B5.out.same ((Kept.refl NoBlk _).drewN _), ((X2.out.2.2.inner K5.out (fun _ e => e.elim)).at_ _).drewN _⟩
                  exact AllReadyH.nil
                exact AllReadyH.nil
              exact AllReadyH.nil
            exact AllReadyH.nil
          exact AllReadyH.nil
        refine AllReadyH.cons (o := _) rfl (fun K hK => ?_) ?_
        · go_simp
          refine hK.out _ _ (by (first | exact ⟨((X2.out.2.1.drewN _).drewN 1).cell 1, ((X2.out.2.1.drewN _).drewN 1).cell 4⟩ | exact ⟨(((X2.out.2.1.drewN _).drewN 1).alloc _).cell 1, (((X2.out.2.1.drewN _).drewN 1).alloc _).cell 4⟩ | exact ⟨P5.out.cell 1, P5.out.cell 4⟩ | exact ⟨(P5.out.far (fun e => hne e.symm) _).cell 1, (P5.out.far (fun e => hne e.symm) _).cell 4⟩ | exact ⟨P4.out.cell 1, P4.out.cell 4⟩)) (fun hHeld => ?_)
          clear hK K
          try simp only [go_sem]
          refine wpAnyH_ready (rs := [1, 12]) (by kernel_rfl) (by simp) ?_
          refine AllReadyH.cons (o := _) rfl (fun K hK => ?_) ?_
          · go_simp
            refine hK.out _ _ (by (first | exact ⟨((X2.out.2.1.drewN _).drewN 1).cell 1, ((X2.out.2.1.drewN _).drewN 1).cell 4⟩ | exact ⟨(((X2.out.2.1.drewN _).drewN 1).alloc _).cell 1, (((X2.out.2.1.drewN _).drewN 1).alloc _).cell 4⟩ | exact ⟨P5.out.cell 1, P5.out.cell 4⟩ | exact ⟨(P5.out.far (fun e => hne e.symm) _).cell 1, (P5.out.far (fun e => hne e.symm) _).cell 4⟩ | exact ⟨P4.out.cell 1, P4.out.cell 4⟩)) (fun hHeld => ?_)
            clear hK K
            try simp only [go_sem]
            refine wpAnyH_ready (rs := [6, 12]) (by kernel_rfl) (by simp) ?_
            refine AllReadyH.cons (o := _) rfl (fun K hK => ?_) ?_
            · refine step_append_rdb rfl (.tmp 131) (.tmp 135) rfl wc.heap.size _ 0 [] rfl (World.ownsRow_made (e := 5) (size := 1) _ #[] 0 (Nat.le_refl _) (Nat.zero_le _) rfl) _ b0.data rfl (X3.out.1.kept (((Kept.refl NoBlk wc).drewN _).alloc _) (NoCells.none _)) HSZ.out.1 (by simp) ?_
              intro A4 m4 c4 w4 hown4 hg4
              have k4 : Kept NoBlk wc w4 := (((Kept.refl NoBlk wc).drewN _).alloc _).grown hg4 (fun g hg => Or.inr (by have e : wc.heap.size = g := Option.some.inj hg; omega))
              have K4 := Lib.hid k4
              have R4 := Lib.hid hown4
              have P4 := Lib.hid (X2.out.2.1.kept k4 (fun e => e.elim))
              have q4 : w4.cell? ⟨bb, 3, none⟩ = some (.slice A2 (pos + k) c2) := (G2.out.kept k4 (fun e => e.elim)).cell 3
              clear hown4 hg4 k4
              try go_simp
              refine hK.out _ _ (by (first | exact ⟨((X2.out.2.1.drewN _).drewN 1).cell 1, ((X2.out.2.1.drewN _).drewN 1).cell 4⟩ | exact ⟨(((X2.out.2.1.drewN _).drewN 1).alloc _).cell 1, (((X2.out.2.1.drewN _).drewN 1).alloc _).cell 4⟩ | exact ⟨P5.out.cell 1, P5.out.cell 4⟩ | exact ⟨(P5.out.far (fun e => hne e.symm) _).cell 1, (P5.out.far (fun e => hne e.symm) _).cell 4⟩ | exact ⟨P4.out.cell 1, P4.out.cell 4⟩)) (fun hHeld => ?_)
              clear hK K
              try simp only [go_sem]
              refine wpAnyH_ready (rs := [12]) (by kernel_rfl) (by simp) ?_
              refine AllReadyH.cons (o := _) rfl (fun K hK => ?_) ?_
              · go_simp
                refine hK.out _ _ (by (first | exact ⟨((X2.out.2.1.drewN _).drewN 1).cell 1, ((X2.out.2.1.drewN _).drewN 1).cell 4⟩ | exact ⟨(((X2.out.2.1.drewN _).drewN 1).alloc _).cell 1, (((X2.out.2.1.drewN _).drewN 1).alloc _).cell 4⟩ | exact ⟨P5.out.cell 1, P5.out.cell 4⟩ | exact ⟨(P5.out.far (fun e => hne e.symm) _).cell 1, (P5.out.far (fun e => hne e.symm) _).cell 4⟩ | exact ⟨P4.out.cell 1, P4.out.cell 4⟩)) (fun hHeld => ?_)
                clear hK K
                try simp only [go_sem]
                refine wpAnyH_take (i := 13) (oi := _) (v := ?_) rfl (by kernel_rfl) (by kernel_rfl) (by kernel_rfl) (fun _ _ _ h => h) (Or.inl ⟨by rfl, ?_⟩) (by assumption) ?_
                rotate_left
                · intro wS hSw
                  go_simp
                  try with_reducible rfl
                try simp only [go_sem]
                refine wpAnyH_take (i := 16) (oi := _) (v := ?_) rfl (by kernel_rfl) (by kernel_rfl) (by kernel_rfl) (fun _ _ _ h => h) (Or.inl ⟨by rfl, ?_⟩) (by assumption) ?_
                rotate_left
                · intro wS hSw
                  go_simp
                  try with_reducible rfl
                try simp only [go_sem]
                refine wpAnyH_take (i := 17) (oi := _) (v := ?_) rfl (by kernel_rfl) (by kernel_rfl) (by kernel_rfl) (fun _ _ _ h => h) (Or.inl ⟨by rfl, ?_⟩) (by assumption) ?_
                rotate_left
                · intro wS hSw
                  go_simp
                  try with_reducible rfl
                try simp only [go_sem]
                refine wpAnyH_ready (rs := [18]) (by kernel_rfl) (by simp) ?_
                refine AllReadyH.cons (o := _) rfl (fun K hK => ?_) ?_
                · refine step_append_rdb rfl (.tmp 136) (.tmp 147) rfl wc.heap.size _ _ _ rfl R4.out _ (ps.drop k) rfl (X3.out.2.kept K4.out (NoCells.none _)) HSZ.out.2 K4.out.size ?_
                  intro A5 m5 c5 w5 hown5 hg5
                  have k5 : Kept NoBlk wc w5 := K4.out.grown hg5 (fun g hg => Or.inr (ownsRow_lt R4.out hg).2)
                  obtain ⟨hm5, hb5⟩ := HN.out w5 A5 m5 c5 hown5 k5
                  subst hm5
                  have K5 := Lib.hid k5
                  have B5 := Lib.hid hb5
                  have P5 := Lib.hid (X2.out.2.1.kept k5 (fun e => e.elim))
                  have q5 : w5.cell? ⟨bb, 3, none⟩ = some (.slice A2 (pos + k) c2) := (G2.out.kept k5 (fun e => e.elim)).cell 3
                  have q6 : w5.frozen? ⟨bb, 3, none⟩ = false := (G2.out.kept k5 (fun e => e.elim)).frozen 3
                  have q7 : w5.cell? ⟨bb, 1, none⟩ = some (.int .i64 tt) := by
                    have := (G2.out.kept k5 (fun e => e.elim)).cell 1
                    rw [HTT.out] at this
                    exact this
                  clear hown5 hg5 k5 hb5
                  try go_simp
                  refine hK.out _ _ (by (first | exact ⟨((X2.out.2.1.drewN _).drewN 1).cell 1, ((X2.out.2.1.drewN _).drewN 1).cell 4⟩ | exact ⟨(((X2.out.2.1.drewN _).drewN 1).alloc _).cell 1, (((X2.out.2.1.drewN _).drewN 1).alloc _).cell 4⟩ | exact ⟨P5.out.cell 1, P5.out.cell 4⟩ | exact ⟨(P5.out.far (fun e => hne e.symm) _).cell 1, (P5.out.far (fun e => hne e.symm) _).cell 4⟩ | exact ⟨P4.out.cell 1, P4.out.cell 4⟩)) (fun hHeld => ?_)
                  clear hK K
                  try simp only [go_sem]
                  refine wpAnyH_take (i := 19) (oi := _) (v := ?_) rfl (by kernel_rfl) (by kernel_rfl) (by kernel_rfl) (fun _ _ _ h => h) (Or.inl ⟨by rfl, ?_⟩) (by assumption) ?_
                  rotate_left
                  · intro wS hSw
                    go_simp
                    try with_reducible rfl
                  try simp only [go_sem]
                  refine wpAnyH_take (i := 20) (oi := _) (v := ?_) rfl (by kernel_rfl) (by kernel_rfl) (by kernel_rfl) (fun _ _ _ h => h) (Or.inl ⟨by rfl, ?_⟩) (by assumption) ?_
                  rotate_left
                  · intro wS hSw
                    go_simp
                    try with_reducible rfl
                  try simp only [go_sem]
                  refine wpAnyH_ready (rs := [21]) (by kernel_rfl) (by simp) ?_
                  refine AllReadyH.cons (o := _) rfl (fun K hK => ?_) ?_
                  · go_simp
                    refine hK.out _ _ (by (first | exact ⟨((X2.out.2.1.drewN _).drewN 1).cell 1, ((X2.out.2.1.drewN _).drewN 1).cell 4⟩ | exact ⟨(((X2.out.2.1.drewN _).drewN 1).alloc _).cell 1, (((X2.out.2.1.drewN _).drewN 1).alloc _).cell 4⟩ | exact ⟨P5.out.cell 1, P5.out.cell 4⟩ | exact ⟨(P5.out.far (fun e => hne e.symm) _).cell 1, (P5.out.far (fun e => hne e.symm) _).cell 4⟩ | exact ⟨P4.out.cell 1, P4.out.cell 4⟩)) (fun hHeld => ?_)
                    clear hK K
                    try simp only [go_sem]
                    refine wpAnyH_done (by kernel_rfl) ?_ _
                    go_wp2_with fail
                    go_quiet (fail)
                    go_wp2_with fail
                    go_ret2
                    exact ⟨by rw [HWB.out]; rfl, by rw [← HBG.out]; exact B5.out.same ((Kept.refl NoBlk _).drewN _), ((X2.out.2.2.inner K5.out (fun _ e => e.elim)).at_ _).drewN _⟩
                  exact AllReadyH.nil
                exact AllReadyH.nil
              exact AllReadyH.nil
            refine AllReadyH.cons (o := _) rfl (fun K hK => ?_) ?_
            · go_simp
              refine hK.out _ _ (by (first | exact ⟨((X2.out.2.1.drewN _).drewN 1).cell 1, ((X2.out.2.1.drewN _).drewN 1).cell 4⟩ | exact ⟨(((X2.out.2.1.drewN _).drewN 1).alloc _).cell 1, (((X2.out.2.1.drewN _).drewN 1).alloc _).cell 4⟩ | exact ⟨P5.out.cell 1, P5.out.cell 4⟩ | exact ⟨(P5.out.far (fun e => hne e.symm) _).cell 1, (P5.out.far (fun e => hne e.symm) _).cell 4⟩ | exact ⟨P4.out.cell 1, P4.out.cell 4⟩)) (fun hHeld => ?_)
              clear hK K
              try simp only [go_sem]
              refine wpAnyH_take (i := 13) (oi := _) (v := ?_) rfl (by kernel_rfl) (by kernel_rfl) (by kernel_rfl) (fun _ _ _ h => h) (Or.inl ⟨by rfl, ?_⟩) (by assumption) ?_
              rotate_left
              · intro wS hSw
                go_simp
                try with_reducible rfl
              try simp only [go_sem]
              refine wpAnyH_take (i := 16) (oi := _) (v := ?_) rfl (by kernel_rfl) (by kernel_rfl) (by kernel_rfl) (fun _ _ _ h => h) (Or.inl ⟨by rfl, ?_⟩) (by assumption) ?_
              rotate_left
              · intro wS hSw
                go_simp
                try with_reducible rfl
              try simp only [go_sem]
              refine wpAnyH_take (i := 17) (oi := _) (v := ?_) rfl (by kernel_rfl) (by kernel_rfl) (by kernel_rfl) (fun _ _ _ h => h) (Or.inl ⟨by rfl, ?_⟩) (by assumption) ?_
              rotate_left
              · intro wS hSw
                go_simp
                try with_reducible rfl
              try simp only [go_sem]
              refine wpAnyH_ready (rs := [6]) (by kernel_rfl) (by simp) ?_
              refine AllReadyH.cons (o := _) rfl (fun K hK => ?_) ?_
              · refine step_append_rdb rfl (.tmp 131) (.tmp 135) rfl wc.heap.size _ 0 [] rfl (World.ownsRow_made (e := 5) (size := 1) _ #[] 0 (Nat.le_refl _) (Nat.zero_le _) rfl) _ b0.data rfl (X3.out.1.kept (((Kept.refl NoBlk wc).drewN _).alloc _) (NoCells.none _)) HSZ.out.1 (by simp) ?_
                intro A4 m4 c4 w4 hown4 hg4
                have k4 : Kept NoBlk wc w4 := (((Kept.refl NoBlk wc).drewN _).alloc _).grown hg4 (fun g hg => Or.inr (by have e : wc.heap.size = g := Option.some.inj hg; omega))
                have K4 := Lib.hid k4
                have R4 := Lib.hid hown4
                have P4 := Lib.hid (X2.out.2.1.kept k4 (fun e => e.elim))
                have q4 : w4.cell? ⟨bb, 3, none⟩ = some (.slice A2 (pos + k) c2) := (G2.out.kept k4 (fun e => e.elim)).cell 3
                clear hown4 hg4 k4
                try go_simp
                refine hK.out _ _ (by (first | exact ⟨((X2.out.2.1.drewN _).drewN 1).cell 1, ((X2.out.2.1.drewN _).drewN 1).cell 4⟩ | exact ⟨(((X2.out.2.1.drewN _).drewN 1).alloc _).cell 1, (((X2.out.2.1.drewN _).drewN 1).alloc _).cell 4⟩ | exact ⟨P5.out.cell 1, P5.out.cell 4⟩ | exact ⟨(P5.out.far (fun e => hne e.symm) _).cell 1, (P5.out.far (fun e => hne e.symm) _).cell 4⟩ | exact ⟨P4.out.cell 1, P4.out.cell 4⟩)) (fun hHeld => ?_)
                clear hK K
                try simp only [go_sem]
                refine wpAnyH_ready (rs := [18]) (by kernel_rfl) (by simp) ?_
                refine AllReadyH.cons (o := _) rfl (fun K hK => ?_) ?_
                · refine step_append_rdb rfl (.tmp 136) (.tmp 147) rfl wc.heap.size _ _ _ rfl R4.out _ (ps.drop k) rfl (X3.out.2.kept K4.out (NoCells.none _)) HSZ.out.2 K4.out.size ?_
                  intro A5 m5 c5 w5 hown5 hg5
                  have k5 : Kept NoBlk wc w5 := K4.out.grown hg5 (fun g hg => Or.inr (ownsRow_lt R4.out hg).2)
                  obtain ⟨hm5, hb5⟩ := HN.out w5 A5 m5 c5 hown5 k5
                  subst hm5
                  have K5 := Lib.hid k5
                  have B5 := Lib.hid hb5
                  have P5 := Lib.hid (X2.out.2.1.kept k5 (fun e => e.elim))
                  have q5 : w5.cell? ⟨bb, 3, none⟩ = some (.slice A2 (pos + k) c2) := (G2.out.kept k5 (fun e => e.elim)).cell 3
                  have q6 : w5.frozen? ⟨bb, 3, none⟩ = false := (G2.out.kept k5 (fun e => e.elim)).frozen 3
                  have q7 : w5.cell? ⟨bb, 1, none⟩ = some (.int .i64 tt) := by
                    have := (G2.out.kept k5 (fun e => e.elim)).cell 1
                    rw [HTT.out] at this
                    exact this
                  clear hown5 hg5 k5 hb5
                  try go_simp
                  refine hK.out _ _ (by (first | exact ⟨((X2.out.2.1.drewN _).drewN 1).cell 1, ((X2.out.2.1.drewN _).drewN 1).cell 4⟩ | exact ⟨(((X2.out.2.1.drewN _).drewN 1).alloc _).cell 1, (((X2.out.2.1.drewN _).drewN 1).alloc _).cell 4⟩ | exact ⟨P5.out.cell 1, P5.out.cell 4⟩ | exact ⟨(P5.out.far (fun e => hne e.symm) _).cell 1, (P5.out.far (fun e => hne e.symm) _).cell 4⟩ | exact ⟨P4.out.cell 1, P4.out.cell 4⟩)) (fun hHeld => ?_)
                  clear hK K
                  try simp only [go_sem]
                  refine wpAnyH_take (i := 19) (oi := _) (v := ?_) rfl (by kernel_rfl) (by kernel_rfl) (by kernel_rfl) (fun _ _ _ h => h) (Or.inl ⟨by rfl, ?_⟩) (by assumption) ?_
                  rotate_left
                  · intro wS hSw
                    go_simp
                    try with_reducible rfl
                  try simp only [go_sem]
                  refine wpAnyH_take (i := 20) (oi := _) (v := ?_) rfl (by kernel_rfl) (by kernel_rfl) (by kernel_rfl) (fun _ _ _ h => h) (Or.inl ⟨by rfl, ?_⟩) (by assumption) ?_
                  rotate_left
                  · intro wS hSw
                    go_simp
                    try with_reducible rfl
                  try simp only [go_sem]
                  refine wpAnyH_ready (rs := [21]) (by kernel_rfl) (by simp) ?_
                  refine AllReadyH.cons (o := _) rfl (fun K hK => ?_) ?_
                  · go_simp
                    refine hK.out _ _ (by (first | exact ⟨((X2.out.2.1.drewN _).drewN 1).cell 1, ((X2.out.2.1.drewN _).drewN 1).cell 4⟩ | exact ⟨(((X2.out.2.1.drewN _).drewN 1).alloc _).cell 1, (((X2.out.2.1.drewN _).drewN 1).alloc _).cell 4⟩ | exact ⟨P5.out.cell 1, P5.out.cell 4⟩ | exact ⟨(P5.out.far (fun e => hne e.symm) _).cell 1, (P5.out.far (fun e => hne e.symm) _).cell 4⟩ | exact ⟨P4.out.cell 1, P4.out.cell 4⟩)) (fun hHeld => ?_)
                    clear hK K
                    try simp only [go_sem]
                    refine wpAnyH_done (by kernel_rfl) ?_ _
                    go_wp2_with fail
                    go_quiet (fail)
                    go_wp2_with fail
                    go_ret2
                    exact ⟨by rw [HWB.out]; rfl, by rw [← HBG.out]; exact B5.out.same ((Kept.refl NoBlk _).drewN _), ((X2.out.2.2.inner K5.out (fun _ e => e.elim)).at_ _).drewN _⟩
                  exact AllReadyH.nil
                exact AllReadyH.nil
              exact AllReadyH.nil
            exact AllReadyH.nil
          refine AllReadyH.cons (o := _) rfl (fun K hK => ?_) ?_
          · go_simp
            refine hK.out _ _ (by (first | exact ⟨((X2.out.2.1.drewN _).drewN 1).cell 1, ((X2.out.2.1.drewN _).drewN 1).cell 4⟩ | exact ⟨(((X2.out.2.1.drewN _).drewN 1).alloc _).cell 1, (((X2.out.2.1.drewN _).drewN 1).alloc _).cell 4⟩ | exact ⟨P5.out.cell 1, P5.out.cell 4⟩ | exact ⟨(P5.out.far (fun e => hne e.symm) _).cell 1, (P5.out.far (fun e => hne e.symm) _).cell 4⟩ | exact ⟨P4.out.cell 1, P4.out.cell 4⟩)) (fun hHeld => ?_)
            clear hK K
            try simp only [go_sem]
            refine wpAnyH_take (i := 13) (oi := _) (v := ?_) rfl (by kernel_rfl) (by kernel_rfl) (by kernel_rfl) (fun _ _ _ h => h) (Or.inl ⟨by rfl, ?_⟩) (by assumption) ?_
            rotate_left
            · intro wS hSw
              go_simp
              try with_reducible rfl
            try simp only [go_sem]
            refine wpAnyH_take (i := 16) (oi := _) (v := ?_) rfl (by kernel_rfl) (by kernel_rfl) (by kernel_rfl) (fun _ _ _ h => h) (Or.inl ⟨by rfl, ?_⟩) (by assumption) ?_
            rotate_left
            · intro wS hSw
              go_simp
              try with_reducible rfl
            try simp only [go_sem]
            refine wpAnyH_take (i := 17) (oi := _) (v := ?_) rfl (by kernel_rfl) (by kernel_rfl) (by kernel_rfl) (fun _ _ _ h => h) (Or.inl ⟨by rfl, ?_⟩) (by assumption) ?_
            rotate_left
            · intro wS hSw
              go_simp
              try with_reducible rfl
            try simp only [go_sem]
            refine wpAnyH_ready (rs := [1]) (by kernel_rfl) (by simp) ?_
            refine AllReadyH.cons (o := _) rfl (fun K hK => ?_) ?_
            · go_simp
              refine hK.out _ _ (by (first | exact ⟨((X2.out.2.1.drewN _).drewN 1).cell 1, ((X2.out.2.1.drewN _).drewN 1).cell 4⟩ | exact ⟨(((X2.out.2.1.drewN _).drewN 1).alloc _).cell 1, (((X2.out.2.1.drewN _).drewN 1).alloc _).cell 4⟩ | exact ⟨P5.out.cell 1, P5.out.cell 4⟩ | exact ⟨(P5.out.far (fun e => hne e.symm) _).cell 1, (P5.out.far (fun e => hne e.symm) _).cell 4⟩ | exact ⟨P4.out.cell 1, P4.out.cell 4⟩)) (fun hHeld => ?_)
              clear hK K
              try simp only [go_sem]
              refine wpAnyH_ready (rs := [6]) (by kernel_rfl) (by simp) ?_
              refine AllReadyH.cons (o := _) rfl (fun K hK => ?_) ?_
              · refine step_append_rdb rfl (.tmp 131) (.tmp 135) rfl wc.heap.size _ 0 [] rfl (World.ownsRow_made (e := 5) (size := 1) _ #[] 0 (Nat.le_refl _) (Nat.zero_le _) rfl) _ b0.data rfl (X3.out.1.kept (((Kept.refl NoBlk wc).drewN _).alloc _) (NoCells.none _)) HSZ.out.1 (by simp) ?_
                intro A4 m4 c4 w4 hown4 hg4
                have k4 : Kept NoBlk wc w4 := (((Kept.refl NoBlk wc).drewN _).alloc _).grown hg4 (fun g hg => Or.inr (by have e : wc.heap.size = g := Option.some.inj hg; omega))
                have K4 := Lib.hid k4
                have R4 := Lib.hid hown4
                have P4 := Lib.hid (X2.out.2.1.kept k4 (fun e => e.elim))
                have q4 : w4.cell? ⟨bb, 3, none⟩ = some (.slice A2 (pos + k) c2) := (G2.out.kept k4 (fun e => e.elim)).cell 3
                clear hown4 hg4 k4
                try go_simp
                refine hK.out _ _ (by (first | exact ⟨((X2.out.2.1.drewN _).drewN 1).cell 1, ((X2.out.2.1.drewN _).drewN 1).cell 4⟩ | exact ⟨(((X2.out.2.1.drewN _).drewN 1).alloc _).cell 1, (((X2.out.2.1.drewN _).drewN 1).alloc _).cell 4⟩ | exact ⟨P5.out.cell 1, P5.out.cell 4⟩ | exact ⟨(P5.out.far (fun e => hne e.symm) _).cell 1, (P5.out.far (fun e => hne e.symm) _).cell 4⟩ | exact ⟨P4.out.cell 1, P4.out.cell 4⟩)) (fun hHeld => ?_)
                clear hK K
                try simp only [go_sem]
                refine wpAnyH_ready (rs := [18]) (by kernel_rfl) (by simp) ?_
                refine AllReadyH.cons (o := _) rfl (fun K hK => ?_) ?_
                · refine step_append_rdb rfl (.tmp 136) (.tmp 147) rfl wc.heap.size _ _ _ rfl R4.out _ (ps.drop k) rfl (X3.out.2.kept K4.out (NoCells.none _)) HSZ.out.2 K4.out.size ?_
                  intro A5 m5 c5 w5 hown5 hg5
                  have k5 : Kept NoBlk wc w5 := K4.out.grown hg5 (fun g hg => Or.inr (ownsRow_lt R4.out hg).2)
                  obtain ⟨hm5, hb5⟩ := HN.out w5 A5 m5 c5 hown5 k5
                  subst hm5
                  have K5 := Lib.hid k5
                  have B5 := Lib.hid hb5
                  have P5 := Lib.hid (X2.out.2.1.kept k5 (fun e => e.elim))
                  have q5 : w5.cell? ⟨bb, 3, none⟩ = some (.slice A2 (pos + k) c2) := (G2.out.kept k5 (fun e => e.elim)).cell 3
                  have q6 : w5.frozen? ⟨bb, 3, none⟩ = false := (G2.out.kept k5 (fun e => e.elim)).frozen 3
                  have q7 : w5.cell? ⟨bb, 1, none⟩ = some (.int .i64 tt) := by
                    have := (G2.out.kept k5 (fun e => e.elim)).cell 1
                    rw [HTT.out] at this
                    exact this
                  clear hown5 hg5 k5 hb5
                  try go_simp
                  refine hK.out _ _ (by (first | exact ⟨((X2.out.2.1.drewN _).drewN 1).cell 1, ((X2.out.2.1.drewN _).drewN 1).cell 4⟩ | exact ⟨(((X2.out.2.1.drewN _).drewN 1).alloc _).cell 1, (((X2.out.2.1.drewN _).drewN 1).alloc _).cell 4⟩ | exact ⟨P5.out.cell 1, P5.out.cell 4⟩ | exact ⟨(P5.out.far (fun e => hne e.symm) _).cell 1, (P5.out.far (fun e => hne e.symm) _).cell 4⟩ | exact ⟨P4.out.cell 1, P4.out.cell 4⟩)) (fun hHeld => ?_)
                  clear hK K
                  try simp only [go_sem]
                  refine wpAnyH_take (i := 19) (oi := _) (v := ?_) rfl (by kernel_rfl) (by kernel_rfl) (by kernel_rfl) (fun _ _ _ h => h) (Or.inl ⟨by rfl, ?_⟩) (by assumption) ?_
                  rotate_left
                  · intro wS hSw
                    go_simp
                    try with_reducible rfl
                  try simp only [go_sem]
                  refine wpAnyH_take (i := 20) (oi := _) (v := ?_) rfl (by kernel_rfl) (by kernel_rfl) (by kernel_rfl) (fun _ _ _ h => h) (Or.inl ⟨by rfl, ?_⟩) (by assumption) ?_
                  rotate_left
                  · intro wS hSw
                    go_simp
                    try with_reducible rfl
                  try simp only [go_sem]
                  refine wpAnyH_ready (rs := [21]) (by kernel_rfl) (by simp) ?_
                  refine AllReadyH.cons (o := _) rfl (fun K hK => ?_) ?_
                  · go_simp
                    refine hK.out _ _ (by (first | exact ⟨((X2.out.2.1.drewN _).drewN 1).cell 1, ((X2.out.2.1.drewN _).drewN 1).cell 4⟩ | exact ⟨(((X2.out.2.1.drewN _).drewN 1).alloc _).cell 1, (((X2.out.2.1.drewN _).drewN 1).alloc _).cell 4⟩ | exact ⟨P5.out.cell 1, P5.out.cell 4⟩ | exact ⟨(P5.out.far (fun e => hne e.symm) _).cell 1, (P5.out.far (fun e => hne e.symm) _).cell 4⟩ | exact ⟨P4.out.cell 1, P4.out.cell 4⟩)) (fun hHeld => ?_)
                    clear hK K
                    try simp only [go_sem]
                    refine wpAnyH_done (by kernel_rfl) ?_ _
                    go_wp2_with fail
                    go_quiet (fail)
                    go_wp2_with fail
                    go_ret2
                    exact ⟨by rw [HWB.out]; rfl, by rw [← HBG.out]; exact B5.out.same ((Kept.refl NoBlk _).drewN _), ((X2.out.2.2.inner K5.out (fun _ e => e.elim)).at_ _).drewN _⟩
                  exact AllReadyH.nil
                exact AllReadyH.nil
              exact AllReadyH.nil
            exact AllReadyH.nil
          exact AllReadyH.nil
        refine AllReadyH.cons (o := _) rfl (fun K hK => ?_) ?_
        · go_simp
          refine hK.out _ _ (by (first | exact ⟨((X2.out.2.1.drewN _).drewN 1).cell 1, ((X2.out.2.1.drewN _).drewN 1).cell 4⟩ | exact ⟨(((X2.out.2.1.drewN _).drewN 1).alloc _).cell 1, (((X2.out.2.1.drewN _).drewN 1).alloc _).cell 4⟩ | exact ⟨P5.out.cell 1, P5.out.cell 4⟩ | exact ⟨(P5.out.far (fun e => hne e.symm) _).cell 1, (P5.out.far (fun e => hne e.symm) _).cell 4⟩ | exact ⟨P4.out.cell 1, P4.out.cell 4⟩)) (fun hHeld => ?_)
          clear hK K
          try simp only [go_sem]
          refine wpAnyH_take (i := 13) (oi := _) (v := ?_) rfl (by kernel_rfl) (by kernel_rfl) (by kernel_rfl) (fun _ _ _ h => h) (Or.inl ⟨by rfl, ?_⟩) (by assumption) ?_
          rotate_left
          · intro wS hSw
            go_simp
            try with_reducible rfl
          try simp only [go_sem]
          refine wpAnyH_take (i := 16) (oi := _) (v := ?_) rfl (by kernel_rfl) (by kernel_rfl) (by kernel_rfl) (fun _ _ _ h => h) (Or.inl ⟨by rfl, ?_⟩) (by assumption) ?_
          rotate_left
          · intro wS hSw
            go_simp
            try with_reducible rfl
          try simp only [go_sem]
          refine wpAnyH_take (i := 17) (oi := _) (v := ?_) rfl (by kernel_rfl) (by kernel_rfl) (by kernel_rfl) (fun _ _ _ h => h) (Or.inl ⟨by rfl, ?_⟩) (by assumption) ?_
          rotate_left
          · intro wS hSw
            go_simp
            try with_reducible rfl
          try simp only [go_sem]
          refine wpAnyH_ready (rs := [1, 5]) (by kernel_rfl) (by simp) ?_
          refine AllReadyH.cons (o := _) rfl (fun K hK => ?_) ?_
          · go_simp
            refine hK.out _ _ (by (first | exact ⟨((X2.out.2.1.drewN _).drewN 1).cell 1, ((X2.out.2.1.drewN _).drewN 1).cell 4⟩ | exact ⟨(((X2.out.2.1.drewN _).drewN 1).alloc _).cell 1, (((X2.out.2.1.drewN _).drewN 1).alloc _).cell 4⟩ | exact ⟨P5.out.cell 1, P5.out.cell 4⟩ | exact ⟨(P5.out.far (fun e => hne e.symm) _).cell 1, (P5.out.far (fun e => hne e.symm) _).cell 4⟩ | exact ⟨P4.out.cell 1, P4.out.cell 4⟩)) (fun hHeld => ?_)
            clear hK K
            try simp only [go_sem]
            refine wpAnyH_ready (rs := [5]) (by kernel_rfl) (by simp) ?_
            refine AllReadyH.cons (o := _) rfl (fun K hK => ?_) ?_
            · go_simp
              refine hK.out _ _ (by (first | exact ⟨((X2.out.2.1.drewN _).drewN 1).cell 1, ((X2.out.2.1.drewN _).drewN 1).cell 4⟩ | exact ⟨(((X2.out.2.1.drewN _).drewN 1).alloc _).cell 1, (((X2.out.2.1.drewN _).drewN 1).alloc _).cell 4⟩ | exact ⟨P5.out.cell 1, P5.out.cell 4⟩ | exact ⟨(P5.out.far (fun e => hne e.symm) _).cell 1, (P5.out.far (fun e => hne e.symm) _).cell 4⟩ | exact ⟨P4.out.cell 1, P4.out.cell 4⟩)) (fun hHeld => ?_)
              clear hK K
              try simp only [go_sem]
              refine wpAnyH_ready (rs := [6]) (by kernel_rfl) (by simp) ?_
              refine AllReadyH.cons (o := _) rfl (fun K hK => ?_) ?_
              · refine step_append_rdb rfl (.tmp 131) (.tmp 135) rfl wc.heap.size _ 0 [] rfl (World.ownsRow_made (e := 5) (size := 1) _ #[] 0 (Nat.le_refl _) (Nat.zero_le _) rfl) _ b0.data rfl (X3.out.1.kept (((Kept.refl NoBlk wc).drewN _).alloc _) (NoCells.none _)) HSZ.out.1 (by simp) ?_
                intro A4 m4 c4 w4 hown4 hg4
                have k4 : Kept NoBlk wc w4 := (((Kept.refl NoBlk wc).drewN _).alloc _).grown hg4 (fun g hg => Or.inr (by have e : wc.heap.size = g := Option.some.inj hg; omega))
                have K4 := Lib.hid k4
                have R4 := Lib.hid hown4
                have P4 := Lib.hid (X2.out.2.1.kept k4 (fun e => e.elim))
                have q4 : w4.cell? ⟨bb, 3, none⟩ = some (.slice A2 (pos + k) c2) := (G2.out.kept k4 (fun e => e.elim)).cell 3
                clear hown4 hg4 k4
                try go_simp
                refine hK.out _ _ (by (first | exact ⟨((X2.out.2.1.drewN _).drewN 1).cell 1, ((X2.out.2.1.drewN _).drewN 1).cell 4⟩ | exact ⟨(((X2.out.2.1.drewN _).drewN 1).alloc _).cell 1, (((X2.out.2.1.drewN _).drewN 1).alloc _).cell 4⟩ | exact ⟨P5.out.cell 1, P5.out.cell 4⟩ | exact ⟨(P5.out.far (fun e => hne e.symm) _).cell 1, (P5.out.far (fun e => hne e.symm) _).cell 4⟩ | exact ⟨P4.out.cell 1, P4.out.cell 4⟩)) (fun hHeld => ?_)
                clear hK K
                try simp only [go_sem]
                refine wpAnyH_ready (rs := [18]) (by kernel_rfl) (by simp) ?_
                refine AllReadyH.cons (o := _) rfl (fun K hK => ?_) ?_
                · refine step_append_rdb rfl (.tmp 136) (.tmp 147) rfl wc.heap.size _ _ _ rfl R4.out _ (ps.drop k) rfl (X3.out.2.kept K4.out (NoCells.none _)) HSZ.out.2 K4.out.size ?_
                  intro A5 m5 c5 w5 hown5 hg5
                  have k5 : Kept NoBlk wc w5 := K4.out.grown hg5 (fun g hg => Or.inr (ownsRow_lt R4.out hg).2)
                  obtain ⟨hm5, hb5⟩ := HN.out w5 A5 m5 c5 hown5 k5
                  subst hm5
                  have K5 := Lib.hid k5
                  have B5 := Lib.hid hb5
                  have P5 := Lib.hid (X2.out.2.1.kept k5 (fun e => e.elim))
                  have q5 : w5.cell? ⟨bb, 3, none⟩ = some (.slice A2 (pos + k) c2) := (G2.out.kept k5 (fun e => e.elim)).cell 3
                  have q6 : w5.frozen? ⟨bb, 3, none⟩ = false := (G2.out.kept k5 (fun e => e.elim)).frozen 3
                  have q7 : w5.cell? ⟨bb, 1, none⟩ = some (.int .i64 tt) := by
                    have := (G2.out.kept k5 (fun e => e.elim)).cell 1
                    rw [HTT.out] at this
                    exact this
                  clear hown5 hg5 k5 hb5
                  try go_simp
                  refine hK.out _ _ (by (first | exact ⟨((X2.out.2.1.drewN _).drewN 1).cell 1, ((X2.out.2.1.drewN _).drewN 1).cell 4⟩ | exact ⟨(((X2.out.2.1.drewN _).drewN 1).alloc _).cell 1, (((X2.out.2.1.drewN _).drewN 1).alloc _).cell 4⟩ | exact ⟨P5.out.cell 1, P5.out.cell 4⟩ | exact ⟨(P5.out.far (fun e => hne e.symm) _).cell 1, (P5.out.far (fun e => hne e.symm) _).cell 4⟩ | exact ⟨P4.out.cell 1, P4.out.cell 4⟩)) (fun hHeld => ?_)
                  clear hK K
                  try simp only [go_sem]
                  refine wpAnyH_take (i := 19) (oi := _) (v := ?_) rfl (by kernel_rfl) (by kernel_rfl) (by kernel_rfl) (fun _ _ _ h => h) (Or.inl ⟨by rfl, ?_⟩) (by assumption) ?_
                  rotate_left
                  · intro wS hSw
                    go_simp
                    try with_reducible rfl
                  try simp only [go_sem]
                  refine wpAnyH_take (i := 20) (oi := _) (v := ?_) rfl (by kernel_rfl) (by kernel_rfl) (by kernel_rfl) (fun _ _ _ h => h) (Or.inl ⟨by rfl, ?_⟩) (by assumption) ?_
                  rotate_left
                  · intro wS hSw
                    go_simp
                    try with_reducible rfl
                  try simp only [go_sem]
                  refine wpAnyH_ready (rs := [21]) (by kernel_rfl) (by simp) ?_
                  refine AllReadyH.cons (o := _) rfl (fun K hK => ?_) ?_
                  · go_simp
                    refine hK.out _ _ (by (first | exact ⟨((X2.out.2.1.drewN _).drewN 1).cell 1, ((X2.out.2.1.drewN _).drewN 1).cell 4⟩ | exact ⟨(((X2.out.2.1.drewN _).drewN 1).alloc _).cell 1, (((X2.out.2.1.drewN _).drewN 1).alloc _).cell 4⟩ | exact ⟨P5.out.cell 1, P5.out.cell 4⟩ | exact ⟨(P5.out.far (fun e => hne e.symm) _).cell 1, (P5.out.far (fun e => hne e.symm) _).cell 4⟩ | exact ⟨P4.out.cell 1, P4.out.cell 4⟩)) (fun hHeld => ?_)
                    clear hK K
                    try simp only [go_sem]
                    refine wpAnyH_done (by kernel_rfl) ?_ _
                    go_wp2_with fail
                    go_quiet (fail)
                    go_wp2_with fail
                    go_ret2
                    exact ⟨by rw [HWB.out]; rfl, by rw [← HBG.out]; exact B5.out.same ((Kept.refl NoBlk _).drewN _), ((X2.out.2.2.inner K5.out (fun _ e => e.elim)).at_ _).drewN _⟩
                  exact AllReadyH.nil
                exact AllReadyH.nil
              exact AllReadyH.nil
            exact AllReadyH.nil
          refine AllReadyH.cons (o := _) rfl (fun K hK => ?_) ?_
          · go_simp
            refine hK.out _ _ (by (first | exact ⟨((X2.out.2.1.drewN _).drewN 1).cell 1, ((X2.out.2.1.drewN _).drewN 1).cell 4⟩ | exact ⟨(((X2.out.2.1.drewN _).drewN 1).alloc _).cell 1, (((X2.out.2.1.drewN _).drewN 1).alloc _).cell 4⟩ | exact ⟨P5.out.cell 1, P5.out.cell 4⟩ | exact ⟨(P5.out.far (fun e => hne e.symm) _).cell 1, (P5.out.far (fun e => hne e.symm) _).cell 4⟩ | exact ⟨P4.out.cell 1, P4.out.cell 4⟩)) (fun hHeld => ?_)
            clear hK K
            try simp only [go_sem]
            refine wpAnyH_ready (rs := [1]) (by kernel_rfl) (by simp) ?_
            refine AllReadyH.cons (o := _) rfl (fun K hK => ?_) ?_
            · go_simp
              refine hK.out _ _ (by (first | exact ⟨((X2.out.2.1.drewN _).drewN 1).cell 1, ((X2.out.2.1.drewN _).drewN 1).cell 4⟩ | exact ⟨(((X2.out.2.1.drewN _).drewN 1).alloc _).cell 1, (((X2.out.2.1.drewN _).drewN 1).alloc _).cell 4⟩ | exact ⟨P5.out.cell 1, P5.out.cell 4⟩ | exact ⟨(P5.out.far (fun e => hne e.symm) _).cell 1, (P5.out.far (fun e => hne e.symm) _).cell 4⟩ | exact ⟨P4.out.cell 1, P4.out.cell 4⟩)) (fun hHeld => ?_)
              clear hK K
              try simp only [go_sem]
              refine wpAnyH_ready (rs := [6]) (by kernel_rfl) (by simp) ?_
              refine AllReadyH.cons (o := _) rfl (fun K hK => ?_) ?_
              · refine step_append_rdb rfl (.tmp 131) (.tmp 135) rfl wc.heap.size _ 0 [] rfl (World.ownsRow_made (e := 5) (size := 1) _ #[] 0 (Nat.le_refl _) (Nat.zero_le _) rfl) _ b0.data rfl (X3.out.1.kept (((Kept.refl NoBlk wc).drewN _).alloc _) (NoCells.none _)) HSZ.out.1 (by simp) ?_
                intro A4 m4 c4 w4 hown4 hg4
                have k4 : Kept NoBlk wc w4 := (((Kept.refl NoBlk wc).drewN _).alloc _).grown hg4 (fun g hg => Or.inr (by have e : wc.heap.size = g := Option.some.inj hg; omega))
                have K4 := Lib.hid k4
                have R4 := Lib.hid hown4
                have P4 := Lib.hid (X2.out.2.1.kept k4 (fun e => e.elim))
                have q4 : w4.cell? ⟨bb, 3, none⟩ = some (.slice A2 (pos + k) c2) := (G2.out.kept k4 (fun e => e.elim)).cell 3
                clear hown4 hg4 k4
                try go_simp
                refine hK.out _ _ (by (first | exact ⟨((X2.out.2.1.drewN _).drewN 1).cell 1, ((X2.out.2.1.drewN _).drewN 1).cell 4⟩ | exact ⟨(((X2.out.2.1.drewN _).drewN 1).alloc _).cell 1, (((X2.out.2.1.drewN _).drewN 1).alloc _).cell 4⟩ | exact ⟨P5.out.cell 1, P5.out.cell 4⟩ | exact ⟨(P5.out.far (fun e => hne e.symm) _).cell 1, (P5.out.far (fun e => hne e.symm) _).cell 4⟩ | exact ⟨P4.out.cell 1, P4.out.cell 4⟩)) (fun hHeld => ?_)
                clear hK K
                try simp only [go_sem]
                refine wpAnyH_ready (rs := [18]) (by kernel_rfl) (by simp) ?_
                refine AllReadyH.cons (o := _) rfl (fun K hK => ?_) ?_
                · refine step_append_rdb rfl (.tmp 136) (.tmp 147) rfl wc.heap.size _ _ _ rfl R4.out _ (ps.drop k) rfl (X3.out.2.kept K4.out (NoCells.none _)) HSZ.out.2 K4.out.size ?_
                  intro A5 m5 c5 w5 hown5 hg5
                  have k5 : Kept NoBlk wc w5 := K4.out.grown hg5 (fun g hg => Or.inr (ownsRow_lt R4.out hg).2)
                  obtain ⟨hm5, hb5⟩ := HN.out w5 A5 m5 c5 hown5 k5
                  subst hm5
                  have K5 := Lib.hid k5
                  have B5 := Lib.hid hb5
                  have P5 := Lib.hid (X2.out.2.1.kept k5 (fun e => e.elim))
                  have q5 : w5.cell? ⟨bb, 3, none⟩ = some (.slice A2 (pos + k) c2) := (G2.out.kept k5 (fun e => e.elim)).cell 3
                  have q6 : w5.frozen? ⟨bb, 3, none⟩ = false := (G2.out.kept k5 (fun e => e.elim)).frozen 3
                  have q7 : w5.cell? ⟨bb, 1, none⟩ = some (.int .i64 tt) := by
                    have := (G2.out.kept k5 (fun e => e.elim)).cell 1
                    rw [HTT.out] at this
                    exact this
                  clear hown5 hg5 k5 hb5
                  try go_simp
                  refine hK.out _ _ (by (first | exact ⟨((X2.out.2.1.drewN _).drewN 1).cell 1, ((X2.out.2.1.drewN _).drewN 1).cell 4⟩ | exact ⟨(((X2.out.2.1.drewN _).drewN 1).alloc _).cell 1, (((X2.out.2.1.drewN _).drewN 1).alloc _).cell 4⟩ | exact ⟨P5.out.cell 1, P5.out.cell 4⟩ | exact ⟨(P5.out.far (fun e => hne e.symm) _).cell 1, (P5.out.far (fun e => hne e.symm) _).cell 4⟩ | exact ⟨P4.out.cell 1, P4.out.cell 4⟩)) (fun hHeld => ?_)
                  clear hK K
                  try simp only [go_sem]
                  refine wpAnyH_take (i := 19) (oi := _) (v := ?_) rfl (by kernel_rfl) (by kernel_rfl) (by kernel_rfl) (fun _ _ _ h => h) (Or.inl ⟨by rfl, ?_⟩) (by assumption) ?_
                  rotate_left
                  · intro wS hSw
                    go_simp
                    try with_reducible rfl
                  try simp only [go_sem]
                  refine wpAnyH_take (i := 20) (oi := _) (v := ?_) rfl (by kernel_rfl) (by kernel_rfl) (by kernel_rfl) (fun _ _ _ h => h) (Or.inl ⟨by rfl, ?_⟩) (by assumption) ?_
                  rotate_left
                  · intro wS hSw
                    go_simp
                    try with_reducible rfl
                  try simp only [go_sem]
                  refine wpAnyH_ready (rs := [21]) (by kernel_rfl) (by simp) ?_
                  refine AllReadyH.cons (o := _) rfl (fun K hK => ?_) ?_
                  · go_simp
                    refine hK.out _ _ (by (first | exact ⟨((X2.out.2.1.drewN _).drewN 1).cell 1, ((X2.out.2.1.drewN _).drewN 1).cell 4⟩ | exact ⟨(((X2.out.2.1.drewN _).drewN 1).alloc _).cell 1, (((X2.out.2.1.drewN _).drewN 1).alloc _).cell 4⟩ | exact ⟨P5.out.cell 1, P5.out.cell 4⟩ | exact ⟨(P5.out.far (fun e => hne e.symm) _).cell 1, (P5.out.far (fun e => hne e.symm) _).cell 4⟩ | exact ⟨P4.out.cell 1, P4.out.cell 4⟩)) (fun hHeld => ?_)
                    clear hK K
                    try simp only [go_sem]
                    refine wpAnyH_done (by kernel_rfl) ?_ _
                    go_wp2_with fail
                    go_quiet (fail)
                    go_wp2_with fail
                    go_ret2
                    exact ⟨by rw [HWB.out]; rfl, by rw [← HBG.out]; exact B5.out.same ((Kept.refl NoBlk _).drewN _), ((X2.out.2.2.inner K5.out (fun _ e => e.elim)).at_ _).drewN _⟩
                  exact AllReadyH.nil
                exact AllReadyH.nil
              exact AllReadyH.nil
            exact AllReadyH.nil
          exact AllReadyH.nil
        exact AllReadyH.nil
      · have HBG := Lib.hid (show bE = b0 by
          have h := HBF.out
          rw [if_neg hlt2] at h
          exact h)
        go_wp2_with fail
        go_quiet (fail)
        go_wp2_with fail
        go_quiet (fail)
        go_wp2_with fail
        go_ret2
        have hwB : wholeB bE = ((hv : Int) == tt) := by
          rw [HBG.out]
          show decide ((b0.data.length : Int) = b0.total) = _
          rw [HHV.out, HTT.out]
          rfl
        exact ⟨by rw [hwB]; rfl, by rw [HBG.out]; exact X2.out.1.same (((Kept.refl NoBlk _).drewN _).drewN _), (X2.out.2.2.drewN _).drewN _⟩

end Go.Proofs.YtnaacgglbeipcaaDoor
