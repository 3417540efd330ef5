/- DedupWindow: its closure, Each over it. -/
import Derived.Test.YtgopebigmcbbkaaPureSame
import Derived.Deep.RegionWith
import Derived.Deep.QuietTactic
namespace Go.Proofs.Ytgopebigmcbbkaa
open Go.RowKit Go.Maps
open Go.ChangeMaps (setBlock)

/-! ### What the closure turns -/

theorem RdB.kept3 {w w' : World} {S : Nat → Prop} {v : Value} {bs : List UInt8} (h : RdB w v bs) (hk : Kept S w w') (hs : ∀ (p : Addr) (u : Int), w.cell? p = some (.int .u8 u) → ¬ S p.block) : RdB w' v bs := by
  obtain ⟨A, n, c, e, h1, h2, h4, h5, h3, h6⟩ := h
  refine ⟨A, n, c, e, h1, h2, h4, h5, h3, fun hn => ?_⟩
  obtain ⟨ad, ha, hb, hc⟩ := h6 hn
  refine ⟨ad, ha, Nat.lt_of_lt_of_le hb hk.size, fun j u hu => ?_⟩
  have hcell := hc j u hu
  obtain ⟨b, _, rfl⟩ := List.mem_map.1 (List.mem_of_getElem? hu)
  exact hk.cell hcell (hs _ _ hcell)

/-- What DedupWindow's closure reaches: the table, the counts, 'ok', the window. -/
structure WSt (tb lb mb pn nb pk pt pw : Nat) (W : Int) (L : List ((Int × Int) × List UInt8)) (T : List (Int × Int)) (E : List (Int × Int)) (w : World) : Prop where
  tab : Tab w tb lb mb W L T
  n : Blk w pn 37 #[.map (some nb)]
  k : Blk w pk 4 #[.bool true]
  t : Blk w pt 25 #[.pointer (some ⟨tb, 0, none⟩)]
  win : Blk w pw 3 #[.int .i64 W]
  cnt : MapOf Try.prog 3 iv (fun v (x : Int) => v = iv x) w nb E
  ne : nb ≠ lb ∧ nb ≠ mb

section
variable {tb lb mb pn nb pk pt pw : Nat} {W : Int} {L : List ((Int × Int) × List UInt8)} {T : List (Int × Int)} {E : List (Int × Int)} {w w' : World}

theorem WSt.kept (h : WSt tb lb mb pn nb pk pt pw W L T E w) (hk : Kept NoBlk w w') : WSt tb lb mb pn nb pk pt pw W L T E w' :=
  ⟨h.tab.kept hk, h.n.kept hk (fun e => e.elim), h.k.kept hk (fun e => e.elim), h.t.kept hk (fun e => e.elim), h.win.kept hk (fun e => e.elim), h.cnt.kept hk (fun e => e.elim), h.ne⟩

/-- What is not the counts' map nor 'ok' stays. -/
theorem WSt.turn (h : WSt tb lb mb pn nb pk pt pw W L T E w) {E' : List (Int × Int)} (hk : Kept (Two nb pk) w w') (hc : MapOf Try.prog 3 iv (fun v (x : Int) => v = iv x) w' nb E') (hb : Blk w' pk 4 #[.bool true]) : WSt tb lb mb pn nb pk pt pw W L T E' w' := by
  have ncell : ∀ {k : Nat} {t : TypeId} {cs : Array Value}, Blk w k t cs → t ≠ 4 → ¬ Two nb pk k := by
    intro k t cs hb' ht hS
    rcases hS with rfl | rfl
    · exact h.cnt.noCells _ _ _ hb'
    · have h1 := h.k
      unfold Blk at hb' h1
      rw [h1] at hb'
      injection hb' with e
      injection e with _ e2 _
      exact ht e2.symm
  have nmap : ∀ {k : Nat} {es : Array MapEntry} {cl : Nat}, w.heap[k]? = some (.map es cl) → k ≠ nb → ¬ Two nb pk k := by
    intro k es cl hm hne hS
    rcases hS with rfl | rfl
    · exact hne rfl
    · have h1 := h.k
      unfold Blk at h1
      rw [h1] at hm
      cases hm
  have hl : ¬ Two nb pk lb := by
    obtain ⟨es, cl, hm, _⟩ := h.tab.ans
    exact nmap hm h.ne.1.symm
  have hm' : ¬ Two nb pk mb := by
    obtain ⟨es, cl, hm, _⟩ := h.tab.top
    exact nmap hm h.ne.2.symm
  have hu8 : ∀ (p : Addr) (u : Int), w.cell? p = some (.int .u8 u) → ¬ Two nb pk p.block := by
    intro p u hp hS
    rcases hS with e | e
    · unfold World.cell? at hp
      obtain ⟨es, cl, hm, _⟩ := h.cnt
      rw [e, hm] at hp
      cases hp
    · have h1 := h.k
      unfold Blk at h1
      unfold World.cell? at hp
      rw [e, h1] at hp
      simp only at hp
      split at hp
      · cases hp
      · rcases Nat.eq_zero_or_pos p.off with h0 | h0
        · rw [h0] at hp
          simp at hp
        · rw [Array.getElem?_eq_none (by simp; omega)] at hp
          cases hp
  exact ⟨⟨h.tab.box.kept hk (ncell h.tab.box (by decide)), (h.tab.ans.kept hk hl).imp (fun _ _ hx => hx.kept3 hk hu8), h.tab.top.kept hk hm'⟩,
    h.n.kept hk (ncell h.n (by decide)), hb, h.t.kept hk (ncell h.t (by decide)), h.win.kept hk (ncell h.win (by decide)), hc, h.ne⟩
end

/-- 'ok' stored anew. -/
theorem WSt.again {tb lb mb pn nb pk pt pw : Nat} {W : Int} {L : List ((Int × Int) × List UInt8)} {T E : List (Int × Int)} {w wx : World} (h : WSt tb lb mb pn nb pk pt pw W L T E w)
    (e1 : wx.os = w.os) (e2 : wx.tape = w.tape) (e3 : wx.output = w.output) (e4 : wx.heap = (w.setCell ⟨pk, 0, none⟩ (.bool true)).heap) :
    WSt tb lb mb pn nb pk pt pw W L T E wx ∧ Kept (Two nb pk) w wx := by
  have hk0 : Kept (Two nb pk) w (w.setCell ⟨pk, 0, none⟩ (.bool true)) := (Kept.refl _ w).setCell (Or.inl (Or.inr rfl)) _
  have hk : Kept (Two nb pk) w wx := ⟨e1, e2, e3, by rw [e4]; exact hk0.size, fun k hk hn => by rw [e4]; exact hk0.block k hk hn⟩
  have hne : nb ≠ pk := fun e => h.cnt.noCells _ _ _ (e ▸ (h.k : w.heap[pk]? = _))
  refine ⟨h.turn hk (h.cnt.same ?_) ?_, hk⟩
  · rw [e4]
    exact Below.heap_setCell _ _ _ _ hne
  · have := h.k.set_ 0 (.bool true)
    unfold Blk at this ⊢
    rw [e4]
    exact this

theorem WSt.again1 {tb lb mb pn nb pk pt pw : Nat} {W : Int} {L : List ((Int × Int) × List UInt8)} {T E : List (Int × Int)} {w wx : World} (h : WSt tb lb mb pn nb pk pt pw W L T E w)
    (e1 : wx.os = w.os) (e2 : wx.tape = w.tape) (e3 : wx.output = w.output) (e4 : wx.heap = (w.setCell ⟨pk, 0, none⟩ (.bool true)).heap) : WSt tb lb mb pn nb pk pt pw W L T E wx := (h.again e1 e2 e3 e4).1
theorem WSt.again2 {tb lb mb pn nb pk pt pw : Nat} {W : Int} {L : List ((Int × Int) × List UInt8)} {T E : List (Int × Int)} {w w0 wx : World} (h : WSt tb lb mb pn nb pk pt pw W L T E w) (h0 : Kept (fun k => k = nb) w0 w)
    (e1 : wx.os = w.os) (e2 : wx.tape = w.tape) (e3 : wx.output = w.output) (e4 : wx.heap = (w.setCell ⟨pk, 0, none⟩ (.bool true)).heap) : Kept (Two nb pk) w0 wx := (h0.mono (fun _ e => Or.inl e)).trans (h.again e1 e2 e3 e4).2

theorem cnt_look {w : World} {nb : Nat} {E : List (Int × Int)} (h : MapOf Try.prog 3 iv (fun v (x : Int) => v = iv x) w nb E) {c : Int} (hc : wf c) : (Instr.lookup 37 (.map (some nb)) (.int .i64 c) false).run Try.prog w = .ok (.int .i64 ((aget E c).getD 0)) w := by
  cases ht : aget E c with
  | none => exact h.look_none law3 Try.underlying37 iv_inj (zero3 w) (key3 hc) false ht
  | some t =>
    obtain ⟨v, rfl, hv⟩ := h.look_some law3 Try.underlying37 iv_inj (key3 hc) false ht
    exact hv w rfl

theorem cnt_put {w : World} {nb : Nat} {E : List (Int × Int)} (h : MapOf Try.prog 3 iv (fun v (x : Int) => v = iv x) w nb E) {c : Int} (hc : wf c) (x : Int) :
    ∃ w', (Instr.mapUpdate 37 (.map (some nb)) (.int .i64 c) (.int .i64 x)).run Try.prog w = .ok () w' ∧ MapOf Try.prog 3 iv (fun v (x : Int) => v = iv x) w' nb (aput E c x) ∧ Kept (fun k => k = nb) w w' := by
  obtain ⟨o, hrun, hmap⟩ := h.update law3 Try.underlying37 iv_inj (key3 hc) (x := x) rfl
  exact ⟨_, hrun, hmap, kept_setBlock w nb o rfl⟩

def CountEnd (tb lb mb pn nb pk pt pw : Nat) (W : Int) (L : List ((Int × Int) × List UInt8)) (T : List (Int × Int)) (E : List (Int × Int)) (c : Int) (w : World) (e : Ending) (w' : World) : Prop :=
  e = .returned (.bool true) ∧ WSt tb lb mb pn nb pk pt pw W L T (aput E c ((aget E c).getD 0 + 1)) w' ∧ Kept (Two nb pk) w w'

set_option maxHeartbeats 2000000 in
theorem count_any {tb lb mb pn nb pk pt pw : Nat} {W : Int} {L : List ((Int × Int) × List UInt8)} {T E : List (Int × Int)} {w : World} (h : WSt tb lb mb pn nb pk pt pw W L T E w) (hok : okTab W T) {c s : Int} (hc : okReq c 1)
    (h1 : s ≤ (aget T c).getD 0) (h2 : (aget T c).getD 0 - W < s) (he : 0 ≤ (aget E c).getD 0 ∧ (aget E c).getD 0 ≤ 1000000) (v : Value) :
    Calls Try.prog 13 #[.int .i64 c, .int .i64 s, v, .pointer (some ⟨pn, 0, none⟩), .pointer (some ⟨pk, 0, none⟩), .pointer (some ⟨pt, 0, none⟩), .pointer (some ⟨pw, 0, none⟩)] w (CountEnd tb lb mb pn nb pk pt pw W L T E c w) := by
  have hwc : wf c := (wf_ok hc).1
  have htb := top_bound hok c
  have hl := cnt_look h.cnt hwc
  obtain ⟨x, hx⟩ : ∃ x, (aget E c).getD 0 = x := ⟨_, rfl⟩
  unfold CountEnd
  rw [hx] at hl he ⊢
  obtain ⟨w1, hput, hm1, hk1⟩ := cnt_put h.cnt hwc (x + 1)
  have hb1 : Blk w1 pk 4 #[.bool true] := h.k.kept hk1 (fun e => h.cnt.noCells _ _ _ (e ▸ (h.k : w.heap[pk]? = _)))
  have hS1 := h.turn (hk1.mono (fun k e => Or.inl e)) hm1 hb1
  obtain ⟨t, ht⟩ : ∃ t, (aget T c).getD 0 = t := ⟨_, rfl⟩
  have htop : ∀ wx, WSt tb lb mb pn nb pk pt pw W L T (aput E c (x + 1)) wx → Calls Try.prog 11 #[.pointer (some ⟨tb, 0, none⟩), .int .i64 c] wx fun e w' => e = .returned (.int .i64 t) ∧ wx = w' := by
    intro wx hwx
    have := top_any hwx.tab hwc
    rw [ht] at this
    exact this
  rw [ht] at h1 h2 htb
  obtain ⟨b3, b4⟩ := hok.1
  obtain ⟨t1, t2⟩ := htb
  obtain ⟨e1, e2⟩ := he
  have c3 : w.cell? ⟨pn, 0, none⟩ = some (.map (some nb)) := h.n.cell 0
  have d4 : w1.cell? ⟨pk, 0, none⟩ = some (.bool true) := hS1.k.cell 0
  have d4f : w1.frozen? ⟨pk, 0, none⟩ = false := hS1.k.frozen 0
  have d5 : w1.cell? ⟨pt, 0, none⟩ = some (.pointer (some ⟨tb, 0, none⟩)) := hS1.t.cell 0
  have d6 : w1.cell? ⟨pw, 0, none⟩ = some (.int .i64 W) := hS1.win.cell 0
  have HS1 := Lib.hid hS1
  have HTop := Lib.hid htop
  have HK1 := Lib.hid hk1
  clear h hx ht hm1 hb1 hS1 htop hk1
  go_enter Try.func13, Try.ntmps13
  have hs2 : decide (s ≤ t) = true := decide_eq_true h1
  have hs3 : decide (t - W < s) = true := decide_eq_true h2
  have hw3 : IntKind.i64.wrap (t - W) = t - W := IntWalk.i64_in _ (by omega)
  go_upto_region 2 with fail
  go_region_with (go_at_call 11; refine (HTop.out _ (HS1.out.kept ((Kept.refl _ _).drewN _))).mono ?_; rintro e w' ⟨rfl, rfl⟩)
  all_goals (go_wp2_with fail; go_ret; exact ⟨rfl, HS1.out.again1 (by rfl) (by rfl) (by rfl) (by rfl), HS1.out.again2 HK1.out (by rfl) (by rfl) (by rfl) (by rfl)⟩)

/-! ### Each, over that closure -/

section
variable {tb lb mb pn nb pk pt pw : Nat} {W : Int} {L : List ((Int × Int) × List UInt8)} {T E : List (Int × Int)} {w w' : World}
theorem WSt.ints (h : WSt tb lb mb pn nb pk pt pw W L T E w) (hk : Kept (Two nb pk) w w') {A : Option Addr} {n : Nat} {xs : List Int} (hi : Ints w A n xs) : Ints w' A n xs := by
  obtain ⟨h1, h2, h3, h4⟩ := hi
  have key : ∀ b, A = some ⟨b, 0, none⟩ → w'.heap[b]? = w.heap[b]? := by
    intro b hb
    obtain ⟨cs', f, e⟩ := h4 b hb
    refine hk.block b (heap_lt e) (fun hS => ?_)
    rcases hS with rfl | rfl
    · obtain ⟨es, cl, hm, _⟩ := h.cnt
      rw [hm] at e
      cases e
    · have hb' := h.k
      unfold Blk at hb'
      rw [hb'] at e
      injection e with e
      injection e with _ e2 _
      cases e2
  refine ⟨h1, h2, fun hn => ?_, fun b hb => ?_⟩
  · obtain ⟨b, hb, hc⟩ := h3 hn
    exact ⟨b, hb, fun i x hi => (World.cell?_of_block (a := ⟨b, i, none⟩) (key b hb)).trans (hc i x hi)⟩
  · obtain ⟨cs', f, e⟩ := h4 b hb
    exact ⟨cs', f, (key b hb).trans e⟩
end

/-- The counts while client c's requests are gone over: j of them so far. -/
def cntE (D : List (Int × Int)) (c : Int) (j : Nat) : List (Int × Int) := if j = 0 then D else D ++ [(c, (j : Int))]
theorem aget_snoc {D : List (Int × Int)} {c x : Int} (h : c ∉ D.map (·.1)) : aget (D ++ [(c, x)]) c = some x := by
  induction D with
  | nil => simp [aget]
  | cons p D ih =>
    obtain ⟨q, y⟩ := p
    simp only [List.map_cons, List.mem_cons, not_or] at h
    simp only [List.cons_append, aget]
    rw [if_neg (fun e => h.1 e.symm)]
    exact ih h.2
theorem aput_snoc {D : List (Int × Int)} {c x y : Int} (h : c ∉ D.map (·.1)) : aput (D ++ [(c, x)]) c y = D ++ [(c, y)] := by
  induction D with
  | nil => simp [aput]
  | cons p D ih =>
    obtain ⟨q, z⟩ := p
    simp only [List.map_cons, List.mem_cons, not_or] at h
    simp only [List.cons_append, aput]
    rw [if_neg (fun e => h.1 e.symm), ih h.2]
theorem aput_new {D : List (Int × Int)} {c y : Int} (h : c ∉ D.map (·.1)) : aput D c y = D ++ [(c, y)] := by
  induction D with
  | nil => simp [aput]
  | cons p D ih =>
    obtain ⟨q, z⟩ := p
    simp only [List.map_cons, List.mem_cons, not_or] at h
    simp only [List.cons_append, aput]
    rw [if_neg (fun e => h.1 e.symm), ih h.2]
theorem cntE_get {D : List (Int × Int)} {c : Int} (h : c ∉ D.map (·.1)) (j : Nat) : (aget (cntE D c j) c).getD 0 = j := by
  unfold cntE
  split
  · rename_i h0
    rw [aget_none.2 h, h0]
    rfl
  · rw [aget_snoc h]
    rfl
theorem cntE_put {D : List (Int × Int)} {c : Int} (h : c ∉ D.map (·.1)) (j : Nat) : aput (cntE D c j) c ((j : Int) + 1) = cntE D c (j + 1) := by
  unfold cntE
  rw [if_neg (by omega : ¬ j + 1 = 0)]
  split
  · rename_i h0
    rw [aput_new h, h0]
    simp
  · rw [aput_snoc h]
    simp

/-- How many of each client's requests are remembered. -/
def cntOf (W : Int) (L : List ((Int × Int) × List UInt8)) (T : List (Int × Int)) (cs : List Int) : List (Int × Int) := cs.map fun c => (c, ((seqsOf W L T c).length : Int))
theorem cntOf_keys (W : Int) (L : List ((Int × Int) × List UInt8)) (T : List (Int × Int)) (cs : List Int) : (cntOf W L T cs).map (·.1) = cs := by
  unfold cntOf
  rw [List.map_map]
  exact List.map_id' _

def EachEnd (tb lb mb pn nb pk pt pw : Nat) (W : Int) (L : List ((Int × Int) × List UInt8)) (T : List (Int × Int)) (w : World) (e : Ending) (w' : World) : Prop :=
  e = .returned (.tuple #[]) ∧ WSt tb lb mb pn nb pk pt pw W L T (cntOf W L T (sortK T)) w' ∧ Kept (Two nb pk) w w'

structure EachSt (tb lb mb pn nb pk pt pw : Nat) (W : Int) (L : List ((Int × Int) × List UInt8)) (T E : List (Int × Int)) (w : World) (A : Option Addr) (n : Nat) (wr : World) : Prop where
  st : WSt tb lb mb pn nb pk pt pw W L T E wr
  ints : Ints wr A n (sortK T)
  kept : Kept (Two nb pk) w wr

set_option maxRecDepth 100000 in
set_option maxHeartbeats 2000000 in
theorem each_any {tb lb mb pn nb pk pt pw : Nat} {W : Int} {L : List ((Int × Int) × List UInt8)} {T : List (Int × Int)} {w : World} (h : WSt tb lb mb pn nb pk pt pw W L T [] w) (hok : okTab W T) (hn : (T.map (·.1)).Nodup) (hs : Small L T)
    (hq : ∀ c, c ∈ T.map (·.1) → 0 < (seqsOf W L T c).length) :
    Calls Try.prog 12 #[.pointer (some ⟨tb, 0, none⟩), .func (.func 13) #[] #[.pointer (some ⟨pn, 0, none⟩), .pointer (some ⟨pk, 0, none⟩), .pointer (some ⟨pt, 0, none⟩), .pointer (some ⟨pw, 0, none⟩)]] w (EachEnd tb lb mb pn nb pk pt pw W L T w) := by
  have hnd : (sortK T).Nodup := (List.mergeSort_perm _ _).nodup_iff.2 hn
  have Hnd := Lib.hid hnd
  have Hs := Lib.hid hs
  have Hok := Lib.hid hok
  have Hq := Lib.hid hq
  have H := Lib.hid h
  clear h hok hs hq hnd hn
  go_enter Try.func12, Try.ntmps12
  go_wp2_with fail
  refine (clients_any H.out.tab (Nat.le_trans Hs.out.tops (by omega))).mono ?_
  rintro e w2 ⟨v, rfl, hrow, hb2⟩
  have htl := Hs.out.tops
  obtain ⟨A, ca, hv, hints⟩ := Ints.of_own hrow (by omega)
  rw [hv]
  obtain ⟨n, hn⟩ : ∃ n, T.length = n := ⟨_, rfl⟩
  rw [hn] at hints htl ⊢
  have Hn := Lib.hid hn
  have HS := Lib.hid (show EachSt tb lb mb pn nb pk pt pw W L T (cntOf W L T ((sortK T).take 0)) w A n w2 from ⟨H.out.kept (Kept.of_below hb2), hints, Kept.of_below hb2⟩)
  clear hv hrow hb2 hints hn
  go_wp2_with fail
  go_loopg [11, 5, 7, 17, 18, 19] n (fun r u _ _ _ _ _ wr => ∃ k : Nat, r + k = n ∧ u = .int .i64 k ∧ EachSt tb lb mb pn nb pk pt pw W L T (cntOf W L T ((sortK T).take k)) w A n wr)
  case atStart => exact ⟨0, by omega, rfl, HS.out⟩
  case round =>
    obtain ⟨k, hgk, rfl, hr⟩ := hrel
    have Hgk := Lib.hid hgk
    have HSr := Lib.hid hr
    clear hgk hr HS
    by_cases hlt : k < n
    · obtain ⟨b, c, rfl, hc, hcell⟩ := HSr.out.ints.at_ hlt
      have Hc := Lib.hid hc
      have hmem : c ∈ T.map (·.1) := sortK_mem (List.mem_of_getElem? hc)
      have hreq : okReq c 1 := Hs.out.keys c hmem
      have hpos := Hq.out c hmem
      have k0 : (0 : Int) ≤ (k : Int) := by omega
      have k1 : (k : Int) < (n : Int) := by omega
      have hnew : c ∉ (cntOf W L T ((sortK T).take k)).map (·.1) := by
        rw [cntOf_keys]
        intro hm
        obtain ⟨i, hi, he⟩ := List.getElem_of_mem hm
        rw [List.getElem_take] at he
        obtain ⟨hk, hck⟩ := List.getElem?_eq_some_iff.1 hc
        have hik : i < k := by
          simp at hi
          omega
        exact absurd (he.trans hck.symm) ((List.pairwise_iff_getElem.1 Hnd.out) i k (by omega) hk hik)
      have Hnew := Lib.hid hnew
      clear hc hmem hnew
      go_wp2_with fail
      refine (seqs_any HSr.out.st.tab Hok.out c hreq).mono ?_
      rintro e w3 ⟨v3, rfl, hrow3, hb3⟩
      have hml := seqsOf_length (L := L) Hok.out c
      obtain ⟨A3, c3, hv3, hi3⟩ := Ints.of_own hrow3 (by omega)
      rw [hv3]
      obtain ⟨m, hm⟩ : ∃ m, (seqsOf W L T c).length = m := ⟨_, rfl⟩
      rw [hm] at hi3 hml hpos ⊢
      have Hm := Lib.hid hm
      have HS3 := Lib.hid (show EachSt tb lb mb pn nb pk pt pw W L T (cntE (cntOf W L T ((sortK T).take k)) c 0) w (some ⟨b, 0, none⟩) n w3 from ⟨HSr.out.st.kept (Kept.of_below hb3), HSr.out.ints.kept (Kept.of_below hb3), HSr.out.kept.trans (Kept.of_below hb3)⟩)
      have HI3 := Lib.hid hi3
      clear hrow3 hb3 hv3 hm hi3 hcell
      go_wp2_with fail
      go_loopg [19, 7] m (fun r u _ wi => ∃ j : Nat, r + j = m ∧ u = .int .i64 j ∧ EachSt tb lb mb pn nb pk pt pw W L T (cntE (cntOf W L T ((sortK T).take k)) c j) w (some ⟨b, 0, none⟩) n wi ∧ Ints wi A3 m (seqsOf W L T c))
      case atStart => exact ⟨0, by omega, rfl, HS3.out, HI3.out⟩
      case round =>
        obtain ⟨j, hj, rfl, hr2, hi2⟩ := hrel
        have Hj := Lib.hid hj
        have HS5 := Lib.hid hr2
        have HI5 := Lib.hid hi2
        clear hj hr2 hi2 HS3 HI3
        by_cases hj2 : j < m
        · obtain ⟨b3, s, rfl, hsg, hcell3⟩ := HI5.out.at_ hj2
          have j0 : (0 : Int) ≤ (j : Int) := by omega
          have j1 : (j : Int) < (m : Int) := by omega
          obtain ⟨s1, s2, s3, s4, s5⟩ := seqsOf_mem Hok.out (List.mem_of_getElem? hsg)
          obtain ⟨kl, hkl⟩ := key51 (p := (c, s)) (wf_ok hreq).1 (wf_of (by omega) (by omega))
          obtain ⟨bs, hbs⟩ := Option.isSome_iff_exists.1 s5
          obtain ⟨v, hrd, hlook⟩ := HS5.out.st.tab.ans.look_some law51 Try.underlying46 kk_inj hkl false hbs
          have hl := hlook _ rfl
          have d1 := HS5.out.st.tab.box.cell 1
          have Hrd := Lib.hid hrd
          have Hs2 := Lib.hid s2
          have Hs3 := Lib.hid s3
          unfold kk at hl
          simp only [Bool.false_eq_true, if_false] at hl
          clear hlook hrd hbs hsg hkl s2 s3 s4 s5
          go_wp2_with fail
          refine (clone_any _ _ _ Hrd.out).mono ?_
          rintro e w6 ⟨v6, rfl, _, hk6⟩
          have hjg := cntE_get Hnew.out j
          have HC := Lib.hid (count_any (HS5.out.st.kept hk6) Hok.out (s := s) hreq Hs2.out Hs3.out (by rw [hjg]; omega) v6)
          have HK6 := Lib.hid hk6
          clear hk6 hjg d1 hl
          go_wp2_with (go_at_call 13; refine HC.out.mono ?_; rintro e w7 ⟨rfl, h7, hk7⟩)
          go_roundg (m - (j + 1))
          case measure => have := Hj.out; omega
          case rel =>
            have e : cntE (cntOf W L T ((sortK T).take k)) c (j + 1) = aput (cntE (cntOf W L T ((sortK T).take k)) c j) c ((aget (cntE (cntOf W L T ((sortK T).take k)) c j) c).getD 0 + 1) := by
              rw [cntE_get Hnew.out, cntE_put Hnew.out]
            exact ⟨j + 1, by omega, by go_num, by rw [e]; exact ⟨h7, (HS5.out.st.kept HK6.out).ints hk7 (HS5.out.ints.kept HK6.out), HS5.out.kept.trans (HK6.out.none.trans hk7)⟩, (HS5.out.st.kept HK6.out).ints hk7 (HI5.out.kept HK6.out)⟩
        · have hjm : j = m := by have := Hj.out; omega
          subst hjm
          go_wp2_with fail
          go_roundg (n - (k + 1))
          case measure => have := Hgk.out; omega
          case rel =>
            have e : cntOf W L T ((sortK T).take (k + 1)) = cntE (cntOf W L T ((sortK T).take k)) c j := by
              obtain ⟨hk, hck⟩ := List.getElem?_eq_some_iff.1 Hc.out
              unfold cntE
              rw [if_neg (by omega), List.take_succ_eq_append_getElem hk, hck]
              unfold cntOf
              rw [List.map_append, ← Hm.out]
              rfl
            exact ⟨k + 1, by omega, by go_num, by rw [e]; exact HS5.out⟩
    · have hkn : k = n := by have := Hgk.out; omega
      have hst := HSr.out
      rw [List.take_of_length_le (by rw [sortK_length, Hn.out]; omega)] at hst
      have HS9 := Lib.hid hst
      clear hst hkn
      go_wp2_with fail
      go_end0
      exact ⟨rfl, HS9.out.st, HS9.out.kept⟩

#print axioms each_any
end Go.Proofs.Ytgopebigmcbbkaa
