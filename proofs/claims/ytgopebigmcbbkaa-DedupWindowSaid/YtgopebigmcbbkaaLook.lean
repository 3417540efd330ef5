/- What Look, Top and Len do. -/
import Derived.Test.YtgopebigmcbbkaaTab
namespace Go.Proofs.Ytgopebigmcbbkaa
open Go.RowKit Go.Maps

def LookEnd (k : Int) (w : World) (e : Ending) (w' : World) : Prop := e = .returned (.tuple #[.int .i64 k, .slice none 0 0]) ∧ Kept NoBlk w w'

def okReq (c s : Int) : Prop := 0 ≤ c ∧ c ≤ 1048576 ∧ 1 ≤ s ∧ s ≤ 1099511627776
instance (c s : Int) : Decidable (okReq c s) := by unfold okReq; infer_instance

set_option maxHeartbeats 400000 in
theorem look_bad (tb : Nat) (c s : Int) (w : World) (h : ¬ okReq c s) :
    Calls Try.prog 10 #[.pointer (some ⟨tb, 0, none⟩), .int .i64 c, .int .i64 s] w (LookEnd 3 w) := by
  by_cases h1 : c < 0
  · go_enter Try.func10, Try.ntmps10
    go_wp2
    go_ret2
    exact ⟨rfl, Kept.refl _ _⟩
  by_cases h2 : 1048576 < c
  · go_enter Try.func10, Try.ntmps10
    go_wp2
    go_ret2
    exact ⟨rfl, Kept.refl _ _⟩
  by_cases h3 : s < 1
  · go_enter Try.func10, Try.ntmps10
    go_wp2
    go_ret2
    exact ⟨rfl, Kept.refl _ _⟩
  · have h4 : 1099511627776 < s := by unfold okReq at h; omega
    go_enter Try.func10, Try.ntmps10
    go_wp2
    go_ret2
    exact ⟨rfl, Kept.refl _ _⟩

set_option maxHeartbeats 400000 in
theorem look_exp (tb lb mb : Nat) (W c s t : Int) (w : World) (hb : Blk w tb 48 #[.int .i64 W, .map (some lb), .map (some mb)])
    (h : okReq c s) (hW : 1 ≤ W ∧ W ≤ 4096) (ht : 0 ≤ t ∧ t ≤ 1099511627776)
    (hl : ∀ n, (Instr.lookup 37 (.map (some mb)) (.int .i64 c) false).run Try.prog (w.drewN n) = .ok (.int .i64 t) (w.drewN n)) (hs : s ≤ t - W) :
    Calls Try.prog 10 #[.pointer (some ⟨tb, 0, none⟩), .int .i64 c, .int .i64 s] w (LookEnd 2 w) := by
  obtain ⟨g1, g2, g3, g4⟩ := h
  obtain ⟨g5, g6⟩ := hW
  obtain ⟨g7, g8⟩ := ht
  have c0 : w.cell? ⟨tb, 0, none⟩ = some (.int .i64 W) := hb.cell 0
  have c2 : w.cell? ⟨tb, 0 + 2, none⟩ = some (.map (some mb)) := hb.cell 2
  have q1 : ¬ c < 0 := by omega
  have q2 : ¬ 1048576 < c := by omega
  have q3 : ¬ s < 1 := by omega
  have q4 : ¬ 1099511627776 < s := by omega
  go_enter Try.func10, Try.ntmps10
  go_wp2
  go_quiet (fail)
  go_wp2
  go_ret2
  exact ⟨rfl, (Kept.refl _ _).drewN _⟩

set_option maxHeartbeats 400000 in
theorem look_new (tb lb mb : Nat) (W c s t : Int) (w : World) (hb : Blk w tb 48 #[.int .i64 W, .map (some lb), .map (some mb)])
    (h : okReq c s) (hW : 1 ≤ W ∧ W ≤ 4096) (ht : 0 ≤ t ∧ t ≤ 1099511627776)
    (hl : ∀ n, (Instr.lookup 37 (.map (some mb)) (.int .i64 c) false).run Try.prog (w.drewN n) = .ok (.int .i64 t) (w.drewN n)) (hs : t - W < s)
    (hm : ∀ n, (Instr.lookup 46 (.map (some lb)) (.agg #[.int .i64 c, .int .i64 s]) true).run Try.prog (w.drewN n) = .ok (.tuple #[.slice none 0 0, .bool false]) (w.drewN n)) :
    Calls Try.prog 10 #[.pointer (some ⟨tb, 0, none⟩), .int .i64 c, .int .i64 s] w (LookEnd 0 w) := by
  obtain ⟨g1, g2, g3, g4⟩ := h
  obtain ⟨g5, g6⟩ := hW
  obtain ⟨g7, g8⟩ := ht
  have c0 : w.cell? ⟨tb, 0, none⟩ = some (.int .i64 W) := hb.cell 0
  have c1 : w.cell? ⟨tb, 0 + 1, none⟩ = some (.map (some lb)) := hb.cell 1
  have c2 : w.cell? ⟨tb, 0 + 2, none⟩ = some (.map (some mb)) := hb.cell 2
  have q1 : ¬ c < 0 := by omega
  have q2 : ¬ 1048576 < c := by omega
  have q3 : ¬ s < 1 := by omega
  have q4 : ¬ 1099511627776 < s := by omega
  have q5 : ¬ s ≤ t - W := by omega
  go_enter Try.func10, Try.ntmps10
  go_wp2
  go_quiet (fail)
  go_wp2
  go_ret2
  exact ⟨rfl, (Kept.refl _ _).drewN _⟩

def OldEnd (bs : List UInt8) (w : World) (e : Ending) (w' : World) : Prop := ∃ v, e = .returned (.tuple #[.int .i64 1, v]) ∧ RdB w' v bs ∧ Kept NoBlk w w'

set_option maxHeartbeats 400000 in
theorem look_old (tb lb mb : Nat) (W c s t : Int) (v : Value) (bs : List UInt8) (w : World) (hb : Blk w tb 48 #[.int .i64 W, .map (some lb), .map (some mb)])
    (h : okReq c s) (hW : 1 ≤ W ∧ W ≤ 4096) (ht : 0 ≤ t ∧ t ≤ 1099511627776)
    (hl : ∀ n, (Instr.lookup 37 (.map (some mb)) (.int .i64 c) false).run Try.prog (w.drewN n) = .ok (.int .i64 t) (w.drewN n)) (hs : t - W < s)
    (hm : ∀ n, (Instr.lookup 46 (.map (some lb)) (.agg #[.int .i64 c, .int .i64 s]) true).run Try.prog (w.drewN n) = .ok (.tuple #[v, .bool true]) (w.drewN n)) (hv : RdB w v bs) :
    Calls Try.prog 10 #[.pointer (some ⟨tb, 0, none⟩), .int .i64 c, .int .i64 s] w (OldEnd bs w) := by
  obtain ⟨g1, g2, g3, g4⟩ := h
  obtain ⟨g5, g6⟩ := hW
  obtain ⟨g7, g8⟩ := ht
  have c0 : w.cell? ⟨tb, 0, none⟩ = some (.int .i64 W) := hb.cell 0
  have c1 : w.cell? ⟨tb, 0 + 1, none⟩ = some (.map (some lb)) := hb.cell 1
  have c2 : w.cell? ⟨tb, 0 + 2, none⟩ = some (.map (some mb)) := hb.cell 2
  have q1 : ¬ c < 0 := by omega
  have q2 : ¬ 1048576 < c := by omega
  have q3 : ¬ s < 1 := by omega
  have q4 : ¬ 1099511627776 < s := by omega
  have q5 : ¬ s ≤ t - W := by omega
  go_enter Try.func10, Try.ntmps10
  go_wp2
  go_quiet (fail)
  go_wp2_with (go_at_call 17; refine (clone_any v bs _ (hv.kept ((Kept.refl NoBlk w).drewN _) (NoCells.none w))).mono ?_; rintro e w' ⟨v', rfl, hv', hk'⟩)
  go_ret2
  exact ⟨_, rfl, hv', ((Kept.refl NoBlk w).drewN _).trans hk'⟩

/-- What Look answers. -/
def lookOf (W : Int) (L : List ((Int × Int) × List UInt8)) (T : List (Int × Int)) (c s : Int) : Int :=
  if ¬ okReq c s then 3 else if s ≤ (aget T c).getD 0 - W then 2 else if (aget L (c, s)).isSome then 1 else 0

/-- All tops are requests that may be; the window is one. -/
def okTab (W : Int) (T : List (Int × Int)) : Prop := (1 ≤ W ∧ W ≤ 4096) ∧ ∀ c t, aget T c = some t → 1 ≤ t ∧ t ≤ 1099511627776

theorem top_bound {W : Int} {T : List (Int × Int)} (h : okTab W T) (c : Int) : 0 ≤ (aget T c).getD 0 ∧ (aget T c).getD 0 ≤ 1099511627776 := by
  cases ht : aget T c with
  | none => simp
  | some t => have := h.2 c t ht; simp; omega

theorem look_top {w : World} {tb lb mb : Nat} {W : Int} {L : List ((Int × Int) × List UInt8)} {T : List (Int × Int)} (h : Tab w tb lb mb W L T) {c : Int} (hc : wf c) :
    (Instr.lookup 37 (.map (some mb)) (.int .i64 c) false).run Try.prog w = .ok (.int .i64 ((aget T c).getD 0)) w := by
  cases ht : aget T c with
  | none => exact h.top.look_none law3 Try.underlying37 iv_inj (zero3 w) (key3 hc) false ht
  | some t =>
    obtain ⟨v, rfl, hv⟩ := h.top.look_some law3 Try.underlying37 iv_inj (key3 hc) false ht
    exact hv w rfl

def LookAny (W : Int) (L : List ((Int × Int) × List UInt8)) (T : List (Int × Int)) (c s : Int) (w : World) (e : Ending) (w' : World) : Prop :=
  ∃ v, e = .returned (.tuple #[.int .i64 (lookOf W L T c s), v]) ∧ RdB w' v ((if lookOf W L T c s = 1 then aget L (c, s) else none).getD []) ∧ Kept NoBlk w w'

theorem wf_ok {c s : Int} (h : okReq c s) : wf c ∧ wf s := by
  obtain ⟨g1, g2, g3, g4⟩ := h
  exact ⟨wf_of (by omega) (by omega), wf_of (by omega) (by omega)⟩

/-- 'Look', at whatever request. -/
theorem look_any {w : World} {tb lb mb : Nat} {W : Int} {L : List ((Int × Int) × List UInt8)} {T : List (Int × Int)} (h : Tab w tb lb mb W L T) (hok : okTab W T) (c s : Int) :
    Calls Try.prog 10 #[.pointer (some ⟨tb, 0, none⟩), .int .i64 c, .int .i64 s] w (LookAny W L T c s w) := by
  by_cases hr : okReq c s
  · obtain ⟨wc, ws⟩ := wf_ok hr
    obtain ⟨kl, hkl⟩ := key51 (p := (c, s)) wc ws
    have hn : ∀ n, Tab (w.drewN n) tb lb mb W L T := fun n => h.kept ((Kept.refl NoBlk w).drewN n)
    by_cases hs : s ≤ (aget T c).getD 0 - W
    · have e : lookOf W L T c s = 2 := by simp [lookOf, hr, hs]
      refine (look_exp tb lb mb W c s _ w h.box hr hok.1 (top_bound hok c) (fun n => look_top (hn n) wc) hs).mono ?_
      rintro e' w' ⟨rfl, hk⟩
      exact ⟨_, by rw [e], by rw [e]; exact RdB.nil_ w', hk⟩
    · cases ha : aget L (c, s) with
      | none =>
        have e : lookOf W L T c s = 0 := by simp [lookOf, hr, hs, ha]
        refine (look_new tb lb mb W c s _ w h.box hr hok.1 (top_bound hok c) (fun n => look_top (hn n) wc) (by omega)
          (fun n => (hn n).ans.look_none law51 Try.underlying46 kk_inj (zero30 _) hkl true ha)).mono ?_
        rintro e' w' ⟨rfl, hk⟩
        exact ⟨_, by rw [e], by rw [e]; exact RdB.nil_ w', hk⟩
      | some bs =>
        have e : lookOf W L T c s = 1 := by simp [lookOf, hr, hs, ha]
        obtain ⟨v, hrd, hv⟩ := h.ans.look_some law51 Try.underlying46 kk_inj hkl true ha
        refine (look_old tb lb mb W c s _ v bs w h.box hr hok.1 (top_bound hok c) (fun n => look_top (hn n) wc) (by omega) (fun n => hv _ rfl) hrd).mono ?_
        rintro e' w' ⟨v', rfl, hv', hk⟩
        exact ⟨_, by rw [e], by rw [e, ha]; exact hv', hk⟩
  · have e : lookOf W L T c s = 3 := by simp [lookOf, hr]
    refine (look_bad tb c s w hr).mono ?_
    rintro e' w' ⟨rfl, hk⟩
    exact ⟨_, by rw [e], by rw [e]; exact RdB.nil_ w', hk⟩

set_option maxHeartbeats 400000 in
theorem top_any {w : World} {tb lb mb : Nat} {W : Int} {L : List ((Int × Int) × List UInt8)} {T : List (Int × Int)} (h : Tab w tb lb mb W L T) {c : Int} (hc : wf c) :
    Calls Try.prog 11 #[.pointer (some ⟨tb, 0, none⟩), .int .i64 c] w fun e w' => e = .returned (.int .i64 ((aget T c).getD 0)) ∧ w = w' := by
  have hl := look_top h hc
  have c2 : w.cell? ⟨tb, 0 + 2, none⟩ = some (.map (some mb)) := h.box.cell 2
  generalize (aget T c).getD 0 = t at hl ⊢
  clear h
  go_enter Try.func11, Try.ntmps11
  go_wp2
  go_ret
  exact ⟨rfl, rfl⟩

set_option maxHeartbeats 400000 in
theorem len_any {w : World} {tb lb mb : Nat} {W : Int} {L : List ((Int × Int) × List UInt8)} {T : List (Int × Int)} (h : Tab w tb lb mb W L T) :
    Calls Try.prog 16 #[.pointer (some ⟨tb, 0, none⟩)] w fun e w' => e = .returned (.int .i64 (L.length : Int)) ∧ w = w' := by
  have hl := h.ans.len_run Try.underlying46 3
  have c1 : w.cell? ⟨tb, 0 + 1, none⟩ = some (.map (some lb)) := h.box.cell 1
  clear h
  go_enter Try.func16, Try.ntmps16
  go_wp2
  go_ret
  exact ⟨rfl, rfl⟩

#print axioms look_any
end Go.Proofs.Ytgopebigmcbbkaa
