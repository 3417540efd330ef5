/- Builder.add where the piece fits. -/
import Derived.Test.YtnaacgglbeipcaaDoorBld
import Derived.Deep.RegionHeld3
namespace Go.Proofs.YtnaacgglbeipcaaDoor
open Go.RowKit

def RdU (w : World) (base : Nat) (v : Value) (bs : List UInt8) : Prop := ∃ A n c, v = .slice A n c ∧ n ≤ c ∧ c ≤ maxLen ∧ n ≤ 140737488351232 ∧ (A = Option.none → n = 0 ∧ c = 0) ∧ Reads w base 1 A n (bs.map bv)
theorem RdU.rd {w : World} {base : Nat} {v : Value} {bs : List UInt8} (h : RdU w base v bs) (hb : base ≤ w.heap.size) : RdB w v bs := by
  obtain ⟨A, n, c, e, h1, h2, h3, h4, h5⟩ := h
  exact ⟨A, n, c, e, h1, h2, h3, h4, h5.more hb⟩
theorem RdB.upto {w : World} {v : Value} {bs : List UInt8} (h : RdB w v bs) : RdU w w.heap.size v bs := h
theorem RdU.kept {w w' : World} {base : Nat} {v : Value} {bs : List UInt8} (h : RdU w base v bs) {S : Nat → Prop} (hk : Kept S w w') (hs : ∀ g, S g → base ≤ g) : RdU w' base v bs := by
  obtain ⟨A, n, c, e, h1, h2, h3, h4, h5⟩ := h
  refine ⟨A, n, c, e, h1, h2, h3, h4, h5.1, fun hn => ?_⟩
  obtain ⟨ad, e1, hb, hc⟩ := h5.2 hn
  exact ⟨ad, e1, hb, fun j u hu => hk.cell (hc j u hu) (fun hS => by have := hs _ hS; rw [block_of_add] at this; omega)⟩
theorem RdU.more {w : World} {base base' : Nat} {v : Value} {bs : List UInt8} (h : RdU w base v bs) (hb : base ≤ base') : RdU w base' v bs := by
  obtain ⟨A, n, c, e, h1, h2, h3, h4, h5⟩ := h
  exact ⟨A, n, c, e, h1, h2, h3, h4, h5.more hb⟩

/-- What no piece can be, by its numbers. -/
def badN (pi pp pt : Int) (L : Nat) : Prop := pp < 0 ∨ pt < 0 ∨ 1048576 < pt ∨ pt < pp ∨ pt - pp < L ∨ (L = 0 ∧ pt ≠ 0) ∨ pi < 0

def restart (s : BlD) (pi pt pu : Int) : BlD := if s.id < pi then ⟨pi, pt, pu, []⟩ else s
def addData (b : BlD) (pos : Nat) (ps : List UInt8) : BlD := if b.data.length < pos + ps.length then ⟨b.id, b.total, b.sum, b.data ++ ps.drop (b.data.length - pos)⟩ else b

def AddEnd (bb : Nat) (r : Int) (s : BlD) (w : World) (e : Ending) (w' : World) : Prop := e = .returned (.int .i64 r) ∧ Bld w' bb s ∧ Kept (Only bb) w w'

theorem bld_set {w : World} {bb : Nat} {a0 a1 a2 a3 a4 : Value} {pi pt pu : Int} (h : Blk w bb 76 #[a0, a1, a2, a3, a4]) :
    Bld (((((w.setCell ⟨bb, 0, none⟩ (.int .i64 pi)).setCell ⟨bb, 1, none⟩ (.int .i64 0)).setCell ⟨bb, 2, none⟩ (.int .i64 pt)).setCell ⟨bb, 3, none⟩ (.int .u32 pu)).setCell ⟨bb, 4, none⟩ (.slice none 0 0)) bb ⟨pi, pt, pu, []⟩ := by
  refine ⟨none, 0, ?_, ⟨rfl, Or.inl ⟨rfl, rfl⟩⟩, by show 0 ≤ 1048576; omega⟩
  exact (((((h.set_ 0 (.int .i64 pi)).set_ 1 (.int .i64 0)).set_ 2 (.int .i64 pt)).set_ 3 (.int .u32 pu)).set_ 4 (.slice none 0 0))
theorem RdU.len {w : World} {base : Nat} {A : Option Addr} {n c : Nat} {bs : List UInt8} (h : RdU w base (.slice A n c) bs) : bs.length = n := by
  obtain ⟨A', n', c', e, _, _, _, _, h1, _⟩ := h
  injection e with _ e2 _
  subst e2
  simpa using h1
theorem RdU.small {w : World} {base : Nat} {v : Value} {bs : List UInt8} (h : RdU w base v bs) : bs.length ≤ 140737488351232 := by
  obtain ⟨A', n', c', e, _, _, h3, _, h1, _⟩ := h
  have : bs.length = n' := by simpa using h1
  omega

set_option maxRecDepth 100000 in
set_option maxHeartbeats 4000000 in
theorem add_ok_new {w : World} {bb base : Nat} {s : BlD} (h : Bld w bb s) {pi pt pu : Int} {A' : Option Addr} {pos L c' : Nat} {ps : List UInt8} (hd : RdU w base (.slice A' L c') ps) (hbb : base ≤ bb) (hbad : ¬ badN pi pos pt L)
    (hge : ¬ pi < s.id) (hid : s.id < pi) (hsame : ¬ s.id < pi → pt = s.total ∧ pu = s.sum) (hfar : pos ≤ (restart s pi pt pu).data.length) :
    Calls Tryd.prog 30 #[.pointer (some ⟨bb, 0, none⟩), .agg #[.int .i64 pi, .int .i64 pos, .int .i64 pt, .int .u32 pu, .slice A' L c']] w (AddEnd bb 0 (addData (restart s pi pt pu) pos ps) w) := by
  have seen : True := (fun _ => trivial) (And.intro hge hid)
  clear seen
  obtain ⟨b0, hb0⟩ : ∃ b0, restart s pi pt pu = b0 := ⟨_, rfl⟩
  rw [hb0] at hfar ⊢
  obtain ⟨bE, hbE⟩ : ∃ bE, addData b0 pos ps = bE := ⟨_, rfl⟩
  rw [hbE]
  have HB0 := Lib.hid hb0
  have HBE := Lib.hid hbE
  clear hb0 hbE
  have H := Lib.hid h
  have HD := Lib.hid hd
  unfold badN at hbad
  simp only [not_or] at hbad
  obtain ⟨b1, b2, b3, b4, b5, b6, b7⟩ := hbad
  obtain ⟨A, c, h1, h2, h3⟩ := h
  have c0 : w.cell? ⟨bb, 0, none⟩ = some (.int .i64 s.id) := h1.cell 0
  have c4 : w.cell? ⟨bb, 0 + 4, none⟩ = some (.slice A s.data.length c) := h1.cell 4
  have hlt := h1.lt
  have hne : bb ≠ w.heap.size := by omega
  obtain ⟨i, hi⟩ : ∃ i, s.id = i := ⟨_, rfl⟩
  rw [hi] at c0 hge hid
  have HI := Lib.hid hi
  have HF := Lib.hid hfar
  have HS := Lib.hid hsame
  have H6 := Lib.hid b6
  clear h1 h2 hi hd hfar hsame b6
  have hpos : (pos : Int) ≤ 0 := by
    have := HF.out
    rw [← HB0.out] at this
    unfold restart at this
    rw [HI.out, if_pos hid] at this
    have h : pos ≤ 0 := by simpa using this
    omega
  have hb1 : (pi == i) = false := by simp; omega
  go_enter Tryd.func30, Tryd.ntmps30
  go_wp2_with fail
  go_quiet (fail)
  go_upto_region 4 with fail
  go_cut [5, 21] (fun v u wx => v = .int .i64 0 ∧ u = .bool false ∧ Bld wx bb s ∧ Blk wx w.heap.size 36 #[.int .i64 pi, .int .i64 pos, .int .i64 pt, .int .u32 pu, .slice A' L c'] ∧ Kept NoBlk w wx)
  case first =>
    have k0 : Kept NoBlk w (w.alloc (.cells #[.int .i64 pi, .int .i64 pos, .int .i64 pt, .int .u32 pu, .slice A' L c'] 36)) := (Kept.refl NoBlk w).alloc _
    have K0 := Lib.hid k0
    clear k0
    have q : ((L : Int) == 0) = false ∨ (((L : Int) == 0) = true ∧ (pt != 0) = false) := by
      have := H6.out
      simp only [beq_iff_eq, beq_eq_false_iff_ne, bne_eq_false_iff_eq, ne_eq]
      omega
    rcases q with q | ⟨q, q'⟩
    all_goals
      go_wp2_with fail
      go_meet
      exact ⟨rfl, by simp; omega, (H.out.same K0.out).same ((Kept.refl NoBlk _).drewN _), (Blk.new w 36 _).drewN _, K0.out.drewN _⟩
  case rest =>
    obtain ⟨hu, hv, hB, hP, hK⟩ := hcut
    rw [hu, hv]
    have HB := Lib.hid hB
    have HP := Lib.hid hP
    have HK := Lib.hid hK
    have p0 : wc.cell? ⟨w.heap.size, 0, none⟩ = some (.int .i64 pi) := hP.cell 0
    have p1 : wc.cell? ⟨w.heap.size, 0 + 1, none⟩ = some (.int .i64 pos) := hP.cell 1
    have p2 : wc.cell? ⟨w.heap.size, 0 + 2, none⟩ = some (.int .i64 pt) := hP.cell 2
    have p3 : wc.cell? ⟨w.heap.size, 0 + 3, none⟩ = some (.int .u32 pu) := hP.cell 3
    have p4 : wc.cell? ⟨w.heap.size, 0 + 4, none⟩ = some (.slice A' L c') := hP.cell 4
    clear hB hP hK hu hv c0 c4
    obtain ⟨A1, c1, g1, _, _⟩ := HB.out
    have d0 : wc.cell? ⟨bb, 0, none⟩ = some (.int .i64 s.id) := g1.cell 0
    have d1 : wc.cell? ⟨bb, 0 + 1, none⟩ = some (.int .i64 0) := g1.cell 1
    have d2 : wc.cell? ⟨bb, 0 + 2, none⟩ = some (.int .i64 s.total) := g1.cell 2
    have d3 : wc.cell? ⟨bb, 0 + 3, none⟩ = some (.int .u32 s.sum) := g1.cell 3
    have d4 : wc.cell? ⟨bb, 0 + 4, none⟩ = some (.slice A1 s.data.length c1) := g1.cell 4
    rw [HI.out] at d0
    have f0 := g1.frozen
    have G1 := Lib.hid g1
    clear g1
    go_wp2_with fail
    go_quiet (fail)
    go_wp2_with fail
    go_quiet (fail)
    go_wp2_with fail
    go_quiet (fail)
    go_upto_region 13 with fail
    go_cut [5] (fun v wd => v = .int .i64 (b0.data.length : Int) ∧ Bld wd bb b0 ∧ Blk wd w.heap.size 36 #[.int .i64 pi, .int .i64 pos, .int .i64 pt, .int .u32 pu, .slice A' L c'] ∧ Kept (Only bb) w wd)
    case first =>
      go_wp2_with fail
      go_meet
      have e : b0 = ⟨pi, pt, pu, []⟩ := by rw [← HB0.out]; unfold restart; rw [HI.out, if_pos hid]
      rw [e]
      exact ⟨rfl, bld_set (G1.out.drewN _), ((((((HP.out.drewN _).far (fun e => hne e.symm) _).far (fun e => hne e.symm) _).far (fun e => hne e.symm) _).far (fun e => hne e.symm) _).far (fun e => hne e.symm) _),
        (((((HK.out.none.drewN _).at_ _).at_ _).at_ _).at_ _).at_ _⟩
    case rest =>
      obtain ⟨hv5, hB2, hP2, hK2⟩ := hcut
      have X2 := Lib.hid (show Bld wc bb b0 ∧ Blk wc w.heap.size 36 #[.int .i64 pi, .int .i64 pos, .int .i64 pt, .int .u32 pu, .slice A' L c'] ∧ Kept (Only bb) w wc from ⟨hB2, hP2, hK2⟩)
      rw [hv5]
      clear hv5 hB2 hP2 hK2 hpos hb1
      clear p0 p1 p2 p3 p4 d0 d1 d2 d3 d4 f0 G1 HB HP
      have hf0 := HF.out
      clear HF
      obtain ⟨A2, c2, g2, o2, l2⟩ := X2.out.1
      have e4 : wc.cell? ⟨bb, 0 + 4, none⟩ = some (.slice A2 b0.data.length c2) := g2.cell 4
      have r1 : wc.cell? ⟨w.heap.size, 0 + 1, none⟩ = some (.int .i64 pos) := X2.out.2.1.cell 1
      have r4 : wc.cell? ⟨w.heap.size, 0 + 4, none⟩ = some (.slice A' L c') := X2.out.2.1.cell 4
      have G2 := Lib.hid g2
      have O2 := Lib.hid o2
      clear g2 o2
      have HL := Lib.hid (HD.out.len)
      obtain ⟨hv, hhv⟩ : ∃ hv, b0.data.length = hv := ⟨_, rfl⟩
      have HBF := Lib.hid (show bE = if hv < pos + L then ⟨b0.id, b0.total, b0.sum, b0.data ++ ps.drop (hv - pos)⟩ else b0 by rw [← HBE.out]; unfold addData; rw [HL.out, hhv])
      rw [hhv] at hf0 l2 e4 G2 O2 ⊢
      have HHV := Lib.hid hhv
      clear hhv
      by_cases hlt2 : hv < pos + L
      · obtain ⟨k, hk⟩ : ∃ k, pos + k = hv := ⟨hv - pos, by omega⟩
        subst hk
        have HBG := Lib.hid (show (⟨b0.id, b0.total, b0.sum, b0.data ++ ps.drop k⟩ : BlD) = bE by
          have h := HBF.out
          rw [if_pos hlt2] at h
          have ek : pos + k - pos = k := by omega
          rw [ek] at h
          exact h.symm)
        clear hf0
        have hkL : k < L := by omega
        have hrd := (HD.out.kept X2.out.2.2 (fun g hg => by unfold Only at hg; omega))
        have hpl := hrd.small
        have hL0 : L ≤ c' ∧ ∃ ad, A' = some ad := by
          obtain ⟨A3, n3, c3, e, q1, q2, q3, q4, _⟩ := HD.out
          injection e with e1 e2 e3
          subst e1 e2 e3
          refine ⟨q1, ?_⟩
          cases A' with
          | none => have := (q4 rfl).1; omega
          | some ad => exact ⟨ad, rfl⟩
        obtain ⟨hLc, ad, rfl⟩ := hL0
        have z0 : IntKind.i64.wrap (((pos + k : Nat) : Int) - (pos : Int)) = (k : Int) := by rw [IntKind.wrap_i64]; omega
        have z0b : IntKind.i64.wrap (k : Int) = (k : Int) := by rw [IntKind.wrap_i64]; omega
        have z0c : IntKind.i64.wrap ((pos : Int) + (k : Int) - (pos : Int)) = (k : Int) := by rw [IntKind.wrap_i64]; omega
        have z1 : (0 : Int) ≤ (k : Int) := by omega
        have z2 : (k : Int) ≤ (L : Int) := by omega
        have z3 : ¬ c' = k := by omega
        have z4 : (L : Int) ≤ (c' : Int) := by omega
        have X3 := Lib.hid (show RdB wc (.slice A2 (pos + k) c2) b0.data ∧ RdB wc (.slice (some (ad.add k)) (L - k) (c' - k)) (ps.drop k) from by
          refine ⟨RdB.of_own (e := 5) (n := pos + k) O2.out (by omega), ?_⟩
          have h5 := (hrd.rd (by have := X2.out.2.2.size; omega)).sub (t := k) (p := L) (by omega) (Nat.le_refl _)
          have e5 : (ps.drop k).take (L - k) = ps.drop k := List.take_of_length_le (by rw [List.length_drop, HL.out]; omega)
          rw [e5] at h5
          exact h5)
        have hsz : b0.data.length + (ps.drop k).length ≤ 140737488351232 := by rw [List.length_drop, HL.out, HHV.out]; omega
        have HSZ := Lib.hid hsz
        have hnew : ∀ (w4 : World) (v4 : Value), w4.ownsRow wc.heap.size 5 1 v4 (b0.data ++ ps.drop k).length ((b0.data ++ ps.drop k).map bv) → Kept NoBlk wc w4 → ∃ A4 c4, v4 = .slice A4 (L + pos) c4 ∧ Bld (w4.setCell ⟨bb, 4, none⟩ (.slice A4 (L + pos) c4)) bb ⟨b0.id, b0.total, b0.sum, b0.data ++ ps.drop k⟩ := by
          intro w4 v4 h6 h7
          have hlen : (b0.data ++ ps.drop k).length = L + pos := by rw [List.length_append, List.length_drop, HL.out, HHV.out]; omega
          rw [hlen] at h6
          obtain ⟨A4, c4, hv4⟩ : ∃ A4 c4, v4 = .slice A4 (L + pos) c4 := by
            rcases h6.2 with ⟨e3, e4⟩ | ⟨g, cap, cur, e3, _⟩
            · exact ⟨none, 0, by rw [e3, show L + pos = 0 from e4]⟩
            · exact ⟨_, _, e3⟩
          subst hv4
          refine ⟨A4, c4, rfl, A4, c4, ?_, ?_, ?_⟩
          · show Blk _ _ _ #[_, _, _, _, .slice A4 (b0.data ++ ps.drop k).length c4]
            rw [hlen]
            exact (G2.out.kept h7 (fun e => e.elim)).set_ 4 (.slice A4 (L + pos) c4)
          · show World.ownsRow _ _ _ _ (.slice A4 (b0.data ++ ps.drop k).length c4) (b0.data ++ ps.drop k).length _
            rw [hlen]
            exact ownsRow_no5 (ownsRow_base h6 (Nat.zero_le _)) (Kept.at_ (Kept.refl (Only bb) w4) _) (No5.of_blk (G2.out.kept h7 (fun e => e.elim)) (by decide))
          · show (b0.data ++ ps.drop k).length ≤ 1048576
            rw [hlen]
            omega
        have HN := Lib.hid hnew
        clear hsz hnew hrd hpl hLc
        go_wp2_with fail
        refine wp_region_held_drew (S := fun w' => w'.cell? ⟨w.heap.size, 1, none⟩ = some (.int .i64 pos) ∧ w'.cell? ⟨w.heap.size, 4, none⟩ = some (.slice (some ad) L c')) (by kernel_rfl) (by (first   | exact ⟨(X2.out.2.1.drewN 1).cell 1, (X2.out.2.1.drewN 1).cell 4⟩   | exact ⟨((X2.out.2.1.drewN 1).alloc _).cell 1, ((X2.out.2.1.drewN 1).alloc _).cell 4⟩   | exact ⟨P4.out.cell 1, P4.out.cell 4⟩   | exact ⟨(P4.out.far (fun e => hne e.symm) _).cell 1, (P4.out.far (fun e => hne e.symm) _).cell 4⟩)) (fun hHeld => ?_)
        refine wpAnyH_take (i := 0) (oi := _) (v := ?_) rfl (by kernel_rfl) (by kernel_rfl) (by kernel_rfl) (fun _ _ _ h => h) (Or.inl ⟨by rfl, ?_⟩) (by assumption) ?_
        rotate_left
        · intro wS hSw
          go_simp
          try with_reducible rfl
        try simp only [go_sem]
        refine wpAnyH_take (i := 1) (oi := _) (v := ?_) rfl (by kernel_rfl) (by kernel_rfl) (by kernel_rfl) (fun _ _ _ h => h) (Or.inl ⟨by rfl, ?_⟩) (by assumption) ?_
        rotate_left
        · intro wS hSw
          go_simp
          try with_reducible rfl
        try simp only [go_sem]
        refine wpAnyH_take (i := 2) (oi := _) (v := ?_) rfl (by kernel_rfl) (by kernel_rfl) (by kernel_rfl) (fun _ _ _ h => h) (Or.inl ⟨by rfl, ?_⟩) (by assumption) ?_
        rotate_left
        · intro wS hSw
          go_simp
          try with_reducible rfl
        try simp only [go_sem]
        refine wpAnyH_take (i := 3) (oi := _) (v := ?_) rfl (by kernel_rfl) (by kernel_rfl) (by kernel_rfl) (fun _ _ _ h => h) (Or.inl ⟨by rfl, ?_⟩) (by assumption) ?_
        rotate_left
        · intro wS hSw
          go_simp
          try with_reducible rfl
        try simp only [go_sem]
        refine wpAnyH_take (i := 4) (oi := _) (v := ?_) rfl (by kernel_rfl) (by kernel_rfl) (by kernel_rfl) (fun _ _ _ h => h) (Or.inl ⟨by rfl, ?_⟩) (by assumption) ?_
        rotate_left
        · intro wS hSw
          go_simp
          try with_reducible rfl
        try simp only [go_sem]
        refine wpAnyH_take (i := 6) (oi := _) (v := ?_) rfl (by kernel_rfl) (by kernel_rfl) (by kernel_rfl) (fun _ _ _ h => h) (Or.inl ⟨by rfl, ?_⟩) (by assumption) ?_
        rotate_left
        · intro wS hSw
          go_simp
          try with_reducible rfl
        try simp only [go_sem]
        refine wpAnyH_take (i := 7) (oi := _) (v := ?_) rfl (by kernel_rfl) (by kernel_rfl) (by kernel_rfl) (fun _ _ _ h => h) (Or.inl ⟨by rfl, ?_⟩) (by assumption) ?_
        rotate_left
        · intro wS hSw
          go_simp
          try with_reducible rfl
        try simp only [go_sem]
        refine wpAnyH_take (i := 8) (oi := _) (v := ?_) rfl (by kernel_rfl) (by kernel_rfl) (by kernel_rfl) (fun _ _ _ h => h) (Or.inl ⟨by rfl, ?_⟩) (by assumption) ?_
        rotate_left
        · intro wS hSw
          go_simp
          try with_reducible rfl
        try simp only [go_sem]
        refine wpAnyH_take (i := 9) (oi := _) (v := ?_) rfl (by kernel_rfl) (by kernel_rfl) (by kernel_rfl) (fun _ _ _ h => h) (Or.inl ⟨by rfl, ?_⟩) (by assumption) ?_
        rotate_left
        · intro wS hSw
          go_simp
          try with_reducible rfl
        try simp only [go_sem]
        refine wpAnyH_take (i := 10) (oi := _) (v := ?_) rfl (by kernel_rfl) (by kernel_rfl) (by kernel_rfl) (fun _ _ _ h => h) (Or.inl ⟨by rfl, ?_⟩) (by assumption) ?_
        rotate_left
        · intro wS hSw
          go_simp
          try with_reducible rfl
        try simp only [go_sem]
        refine wpAnyH_take (i := 11) (oi := _) (v := ?_) rfl (by kernel_rfl) (by kernel_rfl) (by kernel_rfl) (fun _ _ _ h => h) (Or.inl ⟨by rfl, ?_⟩) (by assumption) ?_
        rotate_left
        · intro wS hSw
          go_simp
          try with_reducible rfl
        try simp only [go_sem]
        refine wpAnyH_take (i := 12) (oi := _) (v := ?_) rfl (by kernel_rfl) (by kernel_rfl) (by kernel_rfl) (fun _ _ _ h => h) (Or.inl ⟨by rfl, ?_⟩) (by assumption) ?_
        rotate_left
        · intro wS hSw
          go_simp
          try with_reducible rfl
        try simp only [go_sem]
        refine wpAnyH_ready (rs := [5]) (by kernel_rfl) (by simp) ?_
        refine AllReadyH.cons (o := _) rfl (fun K hK => ?_) ?_
        · go_simp
          refine hK.out _ _ (by (first   | exact ⟨(X2.out.2.1.drewN 1).cell 1, (X2.out.2.1.drewN 1).cell 4⟩   | exact ⟨((X2.out.2.1.drewN 1).alloc _).cell 1, ((X2.out.2.1.drewN 1).alloc _).cell 4⟩   | exact ⟨P4.out.cell 1, P4.out.cell 4⟩   | exact ⟨(P4.out.far (fun e => hne e.symm) _).cell 1, (P4.out.far (fun e => hne e.symm) _).cell 4⟩)) (fun hHeld => ?_)
          clear hK K
          try simp only [go_sem]
          refine wpAnyH_ready (rs := [13]) (by kernel_rfl) (by simp) ?_
          refine AllReadyH.cons (o := _) rfl (fun K hK => ?_) ?_
          · go_simp
            refine hK.out _ _ (by (first   | exact ⟨(X2.out.2.1.drewN 1).cell 1, (X2.out.2.1.drewN 1).cell 4⟩   | exact ⟨((X2.out.2.1.drewN 1).alloc _).cell 1, ((X2.out.2.1.drewN 1).alloc _).cell 4⟩   | exact ⟨P4.out.cell 1, P4.out.cell 4⟩   | exact ⟨(P4.out.far (fun e => hne e.symm) _).cell 1, (P4.out.far (fun e => hne e.symm) _).cell 4⟩)) (fun hHeld => ?_)
            clear hK K
            try simp only [go_sem]
            refine wpAnyH_ready (rs := [14]) (by kernel_rfl) (by simp) ?_
            refine AllReadyH.cons (o := _) rfl (fun K hK => ?_) ?_
            · go_simp
              refine (concat_some (Blk.new _ 22 _) (X3.out.1.kept (((Kept.refl NoBlk wc).drewN _).alloc _) (NoCells.none _)) (X3.out.2.kept (((Kept.refl NoBlk wc).drewN _).alloc _) (NoCells.none _)) HSZ.out).mono ?_
              rintro e w4 ⟨v4, rfl, hown4, hk4⟩
              have k4 : Kept NoBlk wc w4 := (((Kept.refl NoBlk wc).drewN _).alloc _).trans hk4
              obtain ⟨A4, c4, rfl, hb4⟩ := HN.out w4 v4 (ownsRow_base hown4 (by simp)) k4
              have K4 := Lib.hid k4
              have B4 := Lib.hid hb4
              have P4 := Lib.hid (X2.out.2.1.kept k4 (fun e => e.elim))
              have q4 : w4.cell? ⟨bb, 4, none⟩ = some (.slice A2 (pos + k) c2) := (G2.out.kept k4 (fun e => e.elim)).cell 4
              have q5 : w4.frozen? ⟨bb, 4, none⟩ = false := (G2.out.kept k4 (fun e => e.elim)).frozen 4
              clear hown4 hk4 k4 hb4
              go_wp2_with fail
              refine hK.out _ _ (by (first   | exact ⟨(X2.out.2.1.drewN 1).cell 1, (X2.out.2.1.drewN 1).cell 4⟩   | exact ⟨((X2.out.2.1.drewN 1).alloc _).cell 1, ((X2.out.2.1.drewN 1).alloc _).cell 4⟩   | exact ⟨P4.out.cell 1, P4.out.cell 4⟩   | exact ⟨(P4.out.far (fun e => hne e.symm) _).cell 1, (P4.out.far (fun e => hne e.symm) _).cell 4⟩)) (fun hHeld => ?_)
              clear hK K
              try simp only [go_sem]
              refine wpAnyH_take (i := 15) (oi := _) (v := ?_) rfl (by kernel_rfl) (by kernel_rfl) (by kernel_rfl) (fun _ _ _ h => h) (Or.inl ⟨by rfl, ?_⟩) (by assumption) ?_
              rotate_left
              · intro wS hSw
                go_simp
                try with_reducible rfl
              try simp only [go_sem]
              refine wpAnyH_take (i := 16) (oi := _) (v := ?_) rfl (by kernel_rfl) (by kernel_rfl) (by kernel_rfl) (fun _ _ _ h => h) (Or.inl ⟨by rfl, ?_⟩) (by assumption) ?_
              rotate_left
              · intro wS hSw
                go_simp
                try with_reducible rfl
              try simp only [go_sem]
              refine wpAnyH_take (i := 17) (oi := _) (v := ?_) rfl (by kernel_rfl) (by kernel_rfl) (by kernel_rfl) (fun _ _ _ h => h) (Or.inl ⟨by rfl, ?_⟩) (by assumption) ?_
              rotate_left
              · intro wS hSw
                go_simp
                try with_reducible rfl
              try simp only [go_sem]
              refine wpAnyH_ready (rs := [18]) (by kernel_rfl) (by simp) ?_
              refine AllReadyH.cons (o := _) rfl (fun K hK => ?_) ?_
              · go_simp
                refine hK.out _ _ (by (first   | exact ⟨(X2.out.2.1.drewN 1).cell 1, (X2.out.2.1.drewN 1).cell 4⟩   | exact ⟨((X2.out.2.1.drewN 1).alloc _).cell 1, ((X2.out.2.1.drewN 1).alloc _).cell 4⟩   | exact ⟨P4.out.cell 1, P4.out.cell 4⟩   | exact ⟨(P4.out.far (fun e => hne e.symm) _).cell 1, (P4.out.far (fun e => hne e.symm) _).cell 4⟩)) (fun hHeld => ?_)
                clear hK K
                try simp only [go_sem]
                refine wpAnyH_done (by kernel_rfl) ?_ _
                go_wp2_with fail
                go_ret
                exact ⟨rfl, by rw [← HBG.out]; exact B4.out, (X2.out.2.2.inner K4.out (fun _ e => e.elim)).at_ _⟩
              exact AllReadyH.nil
            exact AllReadyH.nil
          exact AllReadyH.nil
        exact AllReadyH.nil
      · have HBG := Lib.hid (show bE = b0 by
          have h := HBF.out
          rw [if_neg hlt2] at h
          exact h)
        go_wp2_with fail
        go_ret
        exact ⟨rfl, by rw [HBG.out]; exact X2.out.1, X2.out.2.2⟩

set_option maxRecDepth 100000 in
set_option maxHeartbeats 4000000 in
theorem add_ok_same {w : World} {bb base : Nat} {s : BlD} (h : Bld w bb s) {pi pt pu : Int} {A' : Option Addr} {pos L c' : Nat} {ps : List UInt8} (hd : RdU w base (.slice A' L c') ps) (hbb : base ≤ bb) (hbad : ¬ badN pi pos pt L)
    (hge : ¬ pi < s.id) (hid : ¬ s.id < pi) (hsame : ¬ s.id < pi → pt = s.total ∧ pu = s.sum) (hfar : pos ≤ (restart s pi pt pu).data.length) :
    Calls Tryd.prog 30 #[.pointer (some ⟨bb, 0, none⟩), .agg #[.int .i64 pi, .int .i64 pos, .int .i64 pt, .int .u32 pu, .slice A' L c']] w (AddEnd bb 0 (addData (restart s pi pt pu) pos ps) w) := by
  have seen : True := (fun _ => trivial) (And.intro hge hid)
  clear seen
  obtain ⟨b0, hb0⟩ : ∃ b0, restart s pi pt pu = b0 := ⟨_, rfl⟩
  rw [hb0] at hfar ⊢
  obtain ⟨bE, hbE⟩ : ∃ bE, addData b0 pos ps = bE := ⟨_, rfl⟩
  rw [hbE]
  have HB0 := Lib.hid hb0
  have HBE := Lib.hid hbE
  clear hb0 hbE
  have H := Lib.hid h
  have HD := Lib.hid hd
  unfold badN at hbad
  simp only [not_or] at hbad
  obtain ⟨b1, b2, b3, b4, b5, b6, b7⟩ := hbad
  obtain ⟨A, c, h1, h2, h3⟩ := h
  have c0 : w.cell? ⟨bb, 0, none⟩ = some (.int .i64 s.id) := h1.cell 0
  have c4 : w.cell? ⟨bb, 0 + 4, none⟩ = some (.slice A s.data.length c) := h1.cell 4
  have hlt := h1.lt
  have hne : bb ≠ w.heap.size := by omega
  obtain ⟨i, hi⟩ : ∃ i, s.id = i := ⟨_, rfl⟩
  rw [hi] at c0 hge hid
  have HI := Lib.hid hi
  have HF := Lib.hid hfar
  have HS := Lib.hid hsame
  have H6 := Lib.hid b6
  clear h1 h2 hi hd hfar hsame b6
  obtain rfl : i = pi := by omega
  obtain ⟨t1, t2⟩ := HS.out (by rw [HI.out]; exact hid)
  obtain ⟨sd, hsd⟩ : ∃ sd, s.data.length = sd := ⟨_, rfl⟩
  rw [hsd] at c4 h3
  have hpos : (pos : Int) ≤ sd := by
    have := HF.out
    rw [← HB0.out] at this
    unfold restart at this
    rw [HI.out, if_neg hid, hsd] at this
    omega
  have T1 := Lib.hid t1
  have T2 := Lib.hid t2
  have HSD := Lib.hid hsd
  clear t1 t2 hsd
  go_enter Tryd.func30, Tryd.ntmps30
  go_wp2_with fail
  go_quiet (fail)
  go_upto_region 4 with fail
  go_cut [5, 21] (fun v u wx => v = .int .i64 (sd : Int) ∧ u = .bool false ∧ Bld wx bb s ∧ Blk wx w.heap.size 36 #[.int .i64 i, .int .i64 pos, .int .i64 pt, .int .u32 pu, .slice A' L c'] ∧ Kept NoBlk w wx)
  case first =>
    have k0 : Kept NoBlk w (w.alloc (.cells #[.int .i64 i, .int .i64 pos, .int .i64 pt, .int .u32 pu, .slice A' L c'] 36)) := (Kept.refl NoBlk w).alloc _
    have K0 := Lib.hid k0
    clear k0
    have q : ((L : Int) == 0) = false ∨ (((L : Int) == 0) = true ∧ (pt != 0) = false) := by
      have := H6.out
      simp only [beq_iff_eq, beq_eq_false_iff_ne, bne_eq_false_iff_eq, ne_eq]
      omega
    rcases q with q | ⟨q, q'⟩
    all_goals
      go_wp2_with fail
      go_meet
      exact ⟨rfl, by simp; omega, (H.out.same K0.out).same ((Kept.refl NoBlk _).drewN _), (Blk.new w 36 _).drewN _, K0.out.drewN _⟩
  case rest =>
    obtain ⟨hu, hv, hB, hP, hK⟩ := hcut
    rw [hu, hv]
    have HB := Lib.hid hB
    have HP := Lib.hid hP
    have HK := Lib.hid hK
    have p0 : wc.cell? ⟨w.heap.size, 0, none⟩ = some (.int .i64 i) := hP.cell 0
    have p1 : wc.cell? ⟨w.heap.size, 0 + 1, none⟩ = some (.int .i64 pos) := hP.cell 1
    have p2 : wc.cell? ⟨w.heap.size, 0 + 2, none⟩ = some (.int .i64 pt) := hP.cell 2
    have p3 : wc.cell? ⟨w.heap.size, 0 + 3, none⟩ = some (.int .u32 pu) := hP.cell 3
    have p4 : wc.cell? ⟨w.heap.size, 0 + 4, none⟩ = some (.slice A' L c') := hP.cell 4
    clear hB hP hK hu hv c0 c4
    obtain ⟨A1, c1, g1, _, _⟩ := HB.out
    have d0 : wc.cell? ⟨bb, 0, none⟩ = some (.int .i64 s.id) := g1.cell 0
    have d1 : wc.cell? ⟨bb, 0 + 1, none⟩ = some (.int .i64 0) := g1.cell 1
    have d2 : wc.cell? ⟨bb, 0 + 2, none⟩ = some (.int .i64 s.total) := g1.cell 2
    have d3 : wc.cell? ⟨bb, 0 + 3, none⟩ = some (.int .u32 s.sum) := g1.cell 3
    have d4 : wc.cell? ⟨bb, 0 + 4, none⟩ = some (.slice A1 s.data.length c1) := g1.cell 4
    rw [HI.out] at d0
    have f0 := g1.frozen
    have G1 := Lib.hid g1
    clear g1
    rw [← T1.out] at d2
    rw [← T2.out] at d3
    rw [HSD.out] at d4
    go_wp2_with fail
    go_quiet (fail)
    go_wp2_with fail
    go_quiet (fail)
    go_upto_region 12 with fail
    go_cut [5, 119] (fun v b wd => v = .int .i64 (b0.data.length : Int) ∧ b = .bool false ∧ Bld wd bb b0 ∧ Blk wd w.heap.size 36 #[.int .i64 i, .int .i64 pos, .int .i64 pt, .int .u32 pu, .slice A' L c'] ∧ Kept (Only bb) w wd)
    case first =>
      go_quiet (fail)
      go_wp2_with fail
      go_meet
      have e : b0 = s := by rw [← HB0.out]; unfold restart; rw [HI.out, if_neg (by omega)]
      rw [e, HSD.out]
      exact ⟨rfl, by simp, HB.out.same (((Kept.refl NoBlk _).drewN _).drewN _), (HP.out.drewN _).drewN _, (HK.out.none.drewN _).drewN _⟩
    case rest =>
      obtain ⟨hv5, hb5, hB2, hP2, hK2⟩ := hcut
      have X2 := Lib.hid (show Bld wc bb b0 ∧ Blk wc w.heap.size 36 #[.int .i64 i, .int .i64 pos, .int .i64 pt, .int .u32 pu, .slice A' L c'] ∧ Kept (Only bb) w wc from ⟨hB2, hP2, hK2⟩)
      rw [hv5, hb5]
      clear hv5 hb5 hB2 hP2 hK2 hpos
      clear p0 p1 p2 p3 p4 d0 d1 d2 d3 d4 f0 G1 HB HP
      have hf0 := HF.out
      clear HF
      obtain ⟨A2, c2, g2, o2, l2⟩ := X2.out.1
      have e4 : wc.cell? ⟨bb, 0 + 4, none⟩ = some (.slice A2 b0.data.length c2) := g2.cell 4
      have r1 : wc.cell? ⟨w.heap.size, 0 + 1, none⟩ = some (.int .i64 pos) := X2.out.2.1.cell 1
      have r4 : wc.cell? ⟨w.heap.size, 0 + 4, none⟩ = some (.slice A' L c') := X2.out.2.1.cell 4
      have G2 := Lib.hid g2
      have O2 := Lib.hid o2
      clear g2 o2
      have HL := Lib.hid (HD.out.len)
      obtain ⟨hv, hhv⟩ : ∃ hv, b0.data.length = hv := ⟨_, rfl⟩
      have HBF := Lib.hid (show bE = if hv < pos + L then ⟨b0.id, b0.total, b0.sum, b0.data ++ ps.drop (hv - pos)⟩ else b0 by rw [← HBE.out]; unfold addData; rw [HL.out, hhv])
      rw [hhv] at hf0 l2 e4 G2 O2 ⊢
      have HHV := Lib.hid hhv
      clear hhv
      by_cases hlt2 : hv < pos + L
      · obtain ⟨k, hk⟩ : ∃ k, pos + k = hv := ⟨hv - pos, by omega⟩
        subst hk
        have HBG := Lib.hid (show (⟨b0.id, b0.total, b0.sum, b0.data ++ ps.drop k⟩ : BlD) = bE by
          have h := HBF.out
          rw [if_pos hlt2] at h
          have ek : pos + k - pos = k := by omega
          rw [ek] at h
          exact h.symm)
        clear hf0
        have hkL : k < L := by omega
        have hrd := (HD.out.kept X2.out.2.2 (fun g hg => by unfold Only at hg; omega))
        have hpl := hrd.small
        have hL0 : L ≤ c' ∧ ∃ ad, A' = some ad := by
          obtain ⟨A3, n3, c3, e, q1, q2, q3, q4, _⟩ := HD.out
          injection e with e1 e2 e3
          subst e1 e2 e3
          refine ⟨q1, ?_⟩
          cases A' with
          | none => have := (q4 rfl).1; omega
          | some ad => exact ⟨ad, rfl⟩
        obtain ⟨hLc, ad, rfl⟩ := hL0
        have z0 : IntKind.i64.wrap (((pos + k : Nat) : Int) - (pos : Int)) = (k : Int) := by rw [IntKind.wrap_i64]; omega
        have z0b : IntKind.i64.wrap (k : Int) = (k : Int) := by rw [IntKind.wrap_i64]; omega
        have z0c : IntKind.i64.wrap ((pos : Int) + (k : Int) - (pos : Int)) = (k : Int) := by rw [IntKind.wrap_i64]; omega
        have z1 : (0 : Int) ≤ (k : Int) := by omega
        have z2 : (k : Int) ≤ (L : Int) := by omega
        have z3 : ¬ c' = k := by omega
        have z4 : (L : Int) ≤ (c' : Int) := by omega
        have X3 := Lib.hid (show RdB wc (.slice A2 (pos + k) c2) b0.data ∧ RdB wc (.slice (some (ad.add k)) (L - k) (c' - k)) (ps.drop k) from by
          refine ⟨RdB.of_own (e := 5) (n := pos + k) O2.out (by omega), ?_⟩
          have h5 := (hrd.rd (by have := X2.out.2.2.size; omega)).sub (t := k) (p := L) (by omega) (Nat.le_refl _)
          have e5 : (ps.drop k).take (L - k) = ps.drop k := List.take_of_length_le (by rw [List.length_drop, HL.out]; omega)
          rw [e5] at h5
          exact h5)
        have hsz : b0.data.length + (ps.drop k).length ≤ 140737488351232 := by rw [List.length_drop, HL.out, HHV.out]; omega
        have HSZ := Lib.hid hsz
        have hnew : ∀ (w4 : World) (v4 : Value), w4.ownsRow wc.heap.size 5 1 v4 (b0.data ++ ps.drop k).length ((b0.data ++ ps.drop k).map bv) → Kept NoBlk wc w4 → ∃ A4 c4, v4 = .slice A4 (L + pos) c4 ∧ Bld (w4.setCell ⟨bb, 4, none⟩ (.slice A4 (L + pos) c4)) bb ⟨b0.id, b0.total, b0.sum, b0.data ++ ps.drop k⟩ := by
          intro w4 v4 h6 h7
          have hlen : (b0.data ++ ps.drop k).length = L + pos := by rw [List.length_append, List.length_drop, HL.out, HHV.out]; omega
          rw [hlen] at h6
          obtain ⟨A4, c4, hv4⟩ : ∃ A4 c4, v4 = .slice A4 (L + pos) c4 := by
            rcases h6.2 with ⟨e3, e4⟩ | ⟨g, cap, cur, e3, _⟩
            · exact ⟨none, 0, by rw [e3, show L + pos = 0 from e4]⟩
            · exact ⟨_, _, e3⟩
          subst hv4
          refine ⟨A4, c4, rfl, A4, c4, ?_, ?_, ?_⟩
          · show Blk _ _ _ #[_, _, _, _, .slice A4 (b0.data ++ ps.drop k).length c4]
            rw [hlen]
            exact (G2.out.kept h7 (fun e => e.elim)).set_ 4 (.slice A4 (L + pos) c4)
          · show World.ownsRow _ _ _ _ (.slice A4 (b0.data ++ ps.drop k).length c4) (b0.data ++ ps.drop k).length _
            rw [hlen]
            exact ownsRow_no5 (ownsRow_base h6 (Nat.zero_le _)) (Kept.at_ (Kept.refl (Only bb) w4) _) (No5.of_blk (G2.out.kept h7 (fun e => e.elim)) (by decide))
          · show (b0.data ++ ps.drop k).length ≤ 1048576
            rw [hlen]
            omega
        have HN := Lib.hid hnew
        clear hsz hnew hrd hpl hLc
        go_wp2_with fail
        refine wp_region_held_drew (S := fun w' => w'.cell? ⟨w.heap.size, 1, none⟩ = some (.int .i64 pos) ∧ w'.cell? ⟨w.heap.size, 4, none⟩ = some (.slice (some ad) L c')) (by kernel_rfl) (by (first   | exact ⟨(X2.out.2.1.drewN 1).cell 1, (X2.out.2.1.drewN 1).cell 4⟩   | exact ⟨((X2.out.2.1.drewN 1).alloc _).cell 1, ((X2.out.2.1.drewN 1).alloc _).cell 4⟩   | exact ⟨P4.out.cell 1, P4.out.cell 4⟩   | exact ⟨(P4.out.far (fun e => hne e.symm) _).cell 1, (P4.out.far (fun e => hne e.symm) _).cell 4⟩)) (fun hHeld => ?_)
        refine wpAnyH_take (i := 0) (oi := _) (v := ?_) rfl (by kernel_rfl) (by kernel_rfl) (by kernel_rfl) (fun _ _ _ h => h) (Or.inl ⟨by rfl, ?_⟩) (by assumption) ?_
        rotate_left
        · intro wS hSw
          go_simp
          try with_reducible rfl
        try simp only [go_sem]
        refine wpAnyH_take (i := 1) (oi := _) (v := ?_) rfl (by kernel_rfl) (by kernel_rfl) (by kernel_rfl) (fun _ _ _ h => h) (Or.inl ⟨by rfl, ?_⟩) (by assumption) ?_
        rotate_left
        · intro wS hSw
          go_simp
          try with_reducible rfl
        try simp only [go_sem]
        refine wpAnyH_take (i := 2) (oi := _) (v := ?_) rfl (by kernel_rfl) (by kernel_rfl) (by kernel_rfl) (fun _ _ _ h => h) (Or.inl ⟨by rfl, ?_⟩) (by assumption) ?_
        rotate_left
        · intro wS hSw
          go_simp
          try with_reducible rfl
        try simp only [go_sem]
        refine wpAnyH_take (i := 3) (oi := _) (v := ?_) rfl (by kernel_rfl) (by kernel_rfl) (by kernel_rfl) (fun _ _ _ h => h) (Or.inl ⟨by rfl, ?_⟩) (by assumption) ?_
        rotate_left
        · intro wS hSw
          go_simp
          try with_reducible rfl
        try simp only [go_sem]
        refine wpAnyH_take (i := 4) (oi := _) (v := ?_) rfl (by kernel_rfl) (by kernel_rfl) (by kernel_rfl) (fun _ _ _ h => h) (Or.inl ⟨by rfl, ?_⟩) (by assumption) ?_
        rotate_left
        · intro wS hSw
          go_simp
          try with_reducible rfl
        try simp only [go_sem]
        refine wpAnyH_take (i := 6) (oi := _) (v := ?_) rfl (by kernel_rfl) (by kernel_rfl) (by kernel_rfl) (fun _ _ _ h => h) (Or.inl ⟨by rfl, ?_⟩) (by assumption) ?_
        rotate_left
        · intro wS hSw
          go_simp
          try with_reducible rfl
        try simp only [go_sem]
        refine wpAnyH_take (i := 7) (oi := _) (v := ?_) rfl (by kernel_rfl) (by kernel_rfl) (by kernel_rfl) (fun _ _ _ h => h) (Or.inl ⟨by rfl, ?_⟩) (by assumption) ?_
        rotate_left
        · intro wS hSw
          go_simp
          try with_reducible rfl
        try simp only [go_sem]
        refine wpAnyH_take (i := 8) (oi := _) (v := ?_) rfl (by kernel_rfl) (by kernel_rfl) (by kernel_rfl) (fun _ _ _ h => h) (Or.inl ⟨by rfl, ?_⟩) (by assumption) ?_
        rotate_left
        · intro wS hSw
          go_simp
          try with_reducible rfl
        try simp only [go_sem]
        refine wpAnyH_take (i := 9) (oi := _) (v := ?_) rfl (by kernel_rfl) (by kernel_rfl) (by kernel_rfl) (fun _ _ _ h => h) (Or.inl ⟨by rfl, ?_⟩) (by assumption) ?_
        rotate_left
        · intro wS hSw
          go_simp
          try with_reducible rfl
        try simp only [go_sem]
        refine wpAnyH_take (i := 10) (oi := _) (v := ?_) rfl (by kernel_rfl) (by kernel_rfl) (by kernel_rfl) (fun _ _ _ h => h) (Or.inl ⟨by rfl, ?_⟩) (by assumption) ?_
        rotate_left
        · intro wS hSw
          go_simp
          try with_reducible rfl
        try simp only [go_sem]
        refine wpAnyH_take (i := 11) (oi := _) (v := ?_) rfl (by kernel_rfl) (by kernel_rfl) (by kernel_rfl) (fun _ _ _ h => h) (Or.inl ⟨by rfl, ?_⟩) (by assumption) ?_
        rotate_left
        · intro wS hSw
          go_simp
          try with_reducible rfl
        try simp only [go_sem]
        refine wpAnyH_take (i := 12) (oi := _) (v := ?_) rfl (by kernel_rfl) (by kernel_rfl) (by kernel_rfl) (fun _ _ _ h => h) (Or.inl ⟨by rfl, ?_⟩) (by assumption) ?_
        rotate_left
        · intro wS hSw
          go_simp
          try with_reducible rfl
        try simp only [go_sem]
        refine wpAnyH_ready (rs := [5]) (by kernel_rfl) (by simp) ?_
        refine AllReadyH.cons (o := _) rfl (fun K hK => ?_) ?_
        · go_simp
          refine hK.out _ _ (by (first   | exact ⟨(X2.out.2.1.drewN 1).cell 1, (X2.out.2.1.drewN 1).cell 4⟩   | exact ⟨((X2.out.2.1.drewN 1).alloc _).cell 1, ((X2.out.2.1.drewN 1).alloc _).cell 4⟩   | exact ⟨P4.out.cell 1, P4.out.cell 4⟩   | exact ⟨(P4.out.far (fun e => hne e.symm) _).cell 1, (P4.out.far (fun e => hne e.symm) _).cell 4⟩)) (fun hHeld => ?_)
          clear hK K
          try simp only [go_sem]
          refine wpAnyH_ready (rs := [13]) (by kernel_rfl) (by simp) ?_
          refine AllReadyH.cons (o := _) rfl (fun K hK => ?_) ?_
          · go_simp
            refine hK.out _ _ (by (first   | exact ⟨(X2.out.2.1.drewN 1).cell 1, (X2.out.2.1.drewN 1).cell 4⟩   | exact ⟨((X2.out.2.1.drewN 1).alloc _).cell 1, ((X2.out.2.1.drewN 1).alloc _).cell 4⟩   | exact ⟨P4.out.cell 1, P4.out.cell 4⟩   | exact ⟨(P4.out.far (fun e => hne e.symm) _).cell 1, (P4.out.far (fun e => hne e.symm) _).cell 4⟩)) (fun hHeld => ?_)
            clear hK K
            try simp only [go_sem]
            refine wpAnyH_ready (rs := [14]) (by kernel_rfl) (by simp) ?_
            refine AllReadyH.cons (o := _) rfl (fun K hK => ?_) ?_
            · go_simp
              refine (concat_some (Blk.new _ 22 _) (X3.out.1.kept (((Kept.refl NoBlk wc).drewN _).alloc _) (NoCells.none _)) (X3.out.2.kept (((Kept.refl NoBlk wc).drewN _).alloc _) (NoCells.none _)) HSZ.out).mono ?_
              rintro e w4 ⟨v4, rfl, hown4, hk4⟩
              have k4 : Kept NoBlk wc w4 := (((Kept.refl NoBlk wc).drewN _).alloc _).trans hk4
              obtain ⟨A4, c4, rfl, hb4⟩ := HN.out w4 v4 (ownsRow_base hown4 (by simp)) k4
              have K4 := Lib.hid k4
              have B4 := Lib.hid hb4
              have P4 := Lib.hid (X2.out.2.1.kept k4 (fun e => e.elim))
              have q4 : w4.cell? ⟨bb, 4, none⟩ = some (.slice A2 (pos + k) c2) := (G2.out.kept k4 (fun e => e.elim)).cell 4
              have q5 : w4.frozen? ⟨bb, 4, none⟩ = false := (G2.out.kept k4 (fun e => e.elim)).frozen 4
              clear hown4 hk4 k4 hb4
              go_wp2_with fail
              refine hK.out _ _ (by (first   | exact ⟨(X2.out.2.1.drewN 1).cell 1, (X2.out.2.1.drewN 1).cell 4⟩   | exact ⟨((X2.out.2.1.drewN 1).alloc _).cell 1, ((X2.out.2.1.drewN 1).alloc _).cell 4⟩   | exact ⟨P4.out.cell 1, P4.out.cell 4⟩   | exact ⟨(P4.out.far (fun e => hne e.symm) _).cell 1, (P4.out.far (fun e => hne e.symm) _).cell 4⟩)) (fun hHeld => ?_)
              clear hK K
              try simp only [go_sem]
              refine wpAnyH_take (i := 15) (oi := _) (v := ?_) rfl (by kernel_rfl) (by kernel_rfl) (by kernel_rfl) (fun _ _ _ h => h) (Or.inl ⟨by rfl, ?_⟩) (by assumption) ?_
              rotate_left
              · intro wS hSw
                go_simp
                try with_reducible rfl
              try simp only [go_sem]
              refine wpAnyH_take (i := 16) (oi := _) (v := ?_) rfl (by kernel_rfl) (by kernel_rfl) (by kernel_rfl) (fun _ _ _ h => h) (Or.inl ⟨by rfl, ?_⟩) (by assumption) ?_
              rotate_left
              · intro wS hSw
                go_simp
                try with_reducible rfl
              try simp only [go_sem]
              refine wpAnyH_take (i := 17) (oi := _) (v := ?_) rfl (by kernel_rfl) (by kernel_rfl) (by kernel_rfl) (fun _ _ _ h => h) (Or.inl ⟨by rfl, ?_⟩) (by assumption) ?_
              rotate_left
              · intro wS hSw
                go_simp
                try with_reducible rfl
              try simp only [go_sem]
              refine wpAnyH_ready (rs := [18]) (by kernel_rfl) (by simp) ?_
              refine AllReadyH.cons (o := _) rfl (fun K hK => ?_) ?_
              · go_simp
                refine hK.out _ _ (by (first   | exact ⟨(X2.out.2.1.drewN 1).cell 1, (X2.out.2.1.drewN 1).cell 4⟩   | exact ⟨((X2.out.2.1.drewN 1).alloc _).cell 1, ((X2.out.2.1.drewN 1).alloc _).cell 4⟩   | exact ⟨P4.out.cell 1, P4.out.cell 4⟩   | exact ⟨(P4.out.far (fun e => hne e.symm) _).cell 1, (P4.out.far (fun e => hne e.symm) _).cell 4⟩)) (fun hHeld => ?_)
                clear hK K
                try simp only [go_sem]
                refine wpAnyH_done (by kernel_rfl) ?_ _
                go_wp2_with fail
                go_ret
                exact ⟨rfl, by rw [← HBG.out]; exact B4.out, (X2.out.2.2.inner K4.out (fun _ e => e.elim)).at_ _⟩
              exact AllReadyH.nil
            exact AllReadyH.nil
          exact AllReadyH.nil
        exact AllReadyH.nil
      · have HBG := Lib.hid (show bE = b0 by
          have h := HBF.out
          rw [if_neg hlt2] at h
          exact h)
        go_wp2_with fail
        go_ret
        exact ⟨rfl, by rw [HBG.out]; exact X2.out.1, X2.out.2.2⟩
end Go.Proofs.YtnaacgglbeipcaaDoor
