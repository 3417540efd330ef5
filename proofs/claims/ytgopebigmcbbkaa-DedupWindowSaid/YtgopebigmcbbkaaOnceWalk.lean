/- What DedupOnce does: it returns true, and turns nothing that was there. -/
import Derived.Test.YtgopebigmcbbkaaActs
import Derived.Test.YtgopebigmcbbkaaPure
namespace Go.Proofs.Ytgopebigmcbbkaa
open Go.RowKit Go.Maps

def TrueEnd (w : World) (e : Ending) (w' : World) : Prop := e = .returned (.bool true) ∧ Kept NoBlk w w'

/-- What holds at the head of each round. -/
structure OnceRel (w : World) (W client seq : Int) (tb lb mb : Nat) (A : Option Addr) (n : Nat) (xs : List ActD) (g : Bool) (wr : World) (L : List ((Int × Int) × List UInt8)) (T : List (Int × Int)) : Prop where
  tab : Tab wr tb lb mb W L T
  ok : okTab W T
  inv : OnceInv W L T client seq
  gone : g = true → seq ≤ topOf T client - W
  acts : Acts wr A n xs
  kept : Kept NoBlk w wr

theorem OnceRel.put {w : World} {W client seq : Int} {tb lb mb : Nat} {A : Option Addr} {n : Nat} {xs : List ActD} {g : Bool} {wr : World} {L : List ((Int × Int) × List UInt8)} {T : List (Int × Int)}
    (h : OnceRel w W client seq tb lb mb A n xs g wr L T) (hlb : w.heap.size ≤ lb) (hmb : w.heap.size ≤ mb) {c s : Int} {bs : List UInt8} {w4 : World} (hT : Tab w4 tb lb mb W (putL W L T c s bs) (putT W L T c s)) (hk : Kept (Two lb mb) wr w4) :
    OnceRel w W client seq tb lb mb A n xs g w4 (putL W L T c s bs) (putT W L T c s) :=
  ⟨hT, okTab_put h.ok c s, h.inv.put c s bs, fun e => by have h1 := h.gone e; have h2 := topOf_mono (W := W) (L := L) (T := T) c s client; omega,
    h.acts.kept hk h.tab.noCells, h.kept.inner hk (by rintro k (rfl | rfl) <;> omega)⟩

theorem OnceRel.next {w : World} {W client seq : Int} {tb lb mb : Nat} {A : Option Addr} {n : Nat} {xs : List ActD} {g : Bool} {wr : World} {L : List ((Int × Int) × List UInt8)} {T : List (Int × Int)}
    (h : OnceRel w W client seq tb lb mb A n xs g wr L T) {w4 : World} (hk : Kept NoBlk wr w4) {g' : Bool} (hg : g' = true → seq ≤ topOf T client - W) :
    OnceRel w W client seq tb lb mb A n xs g' w4 L T :=
  ⟨h.tab.kept hk, h.ok, h.inv, hg, h.acts.kept hk (NoCells.none wr), h.kept.trans hk⟩

set_option maxRecDepth 100000 in
set_option maxHeartbeats 1000000 in
theorem once_main (W client seq : Int) (A : Option Addr) (n c : Nat) (xs : List ActD) (w : World) (h : Acts w A n xs) (hf : fewB xs = true)
    (h1 : 1 ≤ W) (h2 : W ≤ 4096) (h3 : 0 ≤ client) (h4 : client ≤ 100) (h5 : 1 ≤ seq) (h6 : seq ≤ 1000) :
    Calls Try.prog 3 #[.int .i64 W, .slice A n c, .int .i64 client, .int .i64 seq] w (TrueEnd w) := by
  have hr : okReq client seq := ⟨h3, by omega, h5, by omega⟩
  have kc := fun (w : World) (C : Array Value) (n c : Nat) => Lib.run_convert_bytes_const (P := Try.prog) w 30 5 C n c Try.underlying30 Try.underlying5
  have hn := h.2.1
  have HA := Lib.hid h
  have Hf := Lib.hid hf
  clear h hf
  have q1 : ¬ W < 1 := by omega
  have q2 : ¬ 4096 < W := by omega
  have q3 : ¬ client < 0 := by omega
  have q4 : ¬ 100 < client := by omega
  have q5 : ¬ seq < 1 := by omega
  have q6 : ¬ 1000 < seq := by omega
  go_enter Try.func3, Try.ntmps3
  go_wp2_with fail
  refine (known_any w).mono ?_
  rintro e w1 ⟨rfl, hk1⟩
  have HA1 := Lib.hid (HA.out.kept hk1 (NoCells.none w))
  have HK1 := Lib.hid hk1
  clear hk1
  go_wp2_with fail
  refine (few_any A n c xs w1 HA1.out).mono ?_
  rw [Hf.out]
  rintro e w1' ⟨rfl, rfl⟩
  go_wp2_with fail
  refine (new_any W h1 h2 w1).mono ?_
  rintro e w2 ⟨tb, lb, mb, rfl, hT, hlm, htb, hlb, hmb, hk2⟩
  have HT := Lib.hid hT
  have HA2 := Lib.hid (HA1.out.kept hk2 (NoCells.none w1))
  have hsz := HK1.out.size
  have HK2 := Lib.hid (HK1.out.trans hk2)
  clear hT hk2 HK1 HA1 HA
  go_wp2_with fail
  refine (put_at (HT.out.kept ((Kept.refl NoBlk w2).alloc _)) ⟨⟨h1, h2⟩, by intro c t h; cases h⟩ hlm client seq _ first (rd_new w2 first (by decide) 5 (5, 6) 5 rfl _ rfl) 0 (once_start hr h1).1 _ rfl _ rfl).mono ?_
  rintro e w3 ⟨rfl, hT3, hok3, hk3⟩
  have HR := Lib.hid (show OnceRel w W client seq tb lb mb A n xs false w3 _ _ from ⟨hT3, hok3, (once_start hr h1).2, (fun e => by cases e),
    HA2.out.kept (((Kept.refl (Two lb mb) w2).alloc _).trans hk3) HT.out.noCells, HK2.out.inner (((Kept.refl (Two lb mb) w2).alloc _).trans hk3) (by rintro k (rfl | rfl) <;> omega)⟩)
  clear hT3 hok3 hk3 HT HA2 HK2
  go_wp2_with fail
  go_loopg [11, 12] n (fun g u v wr => ∃ (k : Nat) (gone : Bool) (L : List ((Int × Int) × List UInt8)) (T : List (Int × Int)), g + k = n ∧ u = .bool gone ∧ v = .int .i64 k ∧ OnceRel w W client seq tb lb mb A n xs gone wr L T)
  case atStart => exact ⟨0, false, _, _, by omega, rfl, rfl, HR.out⟩
  case round =>
    obtain ⟨k, gone, L, T, hgk, rfl, rfl, hrel⟩ := hrel
    have Hgk := Lib.hid hgk
    have HRr := Lib.hid hrel
    clear hgk hrel HR
    by_cases hlt : k < n
    · obtain ⟨b, off, a, v, rfl, ha, m0, m1, m2, m3, hv⟩ := HRr.out.acts.at_ hlt
      have HV := Lib.hid hv
      have k0 : (0 : Int) ≤ (k : Int) := by omega
      have k1 : (k : Int) < (n : Int) := by omega
      clear ha hv m0
      go_upto_region 12 with fail
      go_cut [] (fun wx => ∃ (L' : List ((Int × Int) × List UInt8)) (T' : List (Int × Int)), OnceRel w W client seq tb lb mb (some ⟨b, off, none⟩) n xs gone wx L' T')
      case first =>
        go_region_with (go_at_call 9; refine (put_any (HRr.out.tab.kept ((Kept.refl NoBlk _).drewN _)) HRr.out.ok hlm _ _ _ _ (HV.out.kept ((Kept.refl NoBlk _).drewN _) (NoCells.none _))).mono ?_; rintro e w4 ⟨rfl, hT4, hk4⟩)
        all_goals (go_wp2_with fail; go_meet; exact ⟨_, _, HRr.out.put (by omega) (by omega) hT4 (((Kept.refl _ _).drewN _).trans hk4)⟩)
      case rest =>
        obtain ⟨L', T', hrel'⟩ := hcut
        have HRc := Lib.hid hrel'
        have hlook := hrel'.inv.look hr
        have htb := top_bound hrel'.ok client
        have hinv := hrel'.inv.2
        have hgn := hrel'.gone
        obtain ⟨t, ht⟩ : ∃ t, topOf T' client = t := ⟨_, rfl⟩
        have ht' : (aget T' client).getD 0 = t := ht
        rw [ht'] at htb
        rw [ht] at hlook hinv hgn
        obtain ⟨t1, t2⟩ := htb
        have Ht := Lib.hid ht'
        clear m1 m2 m3 HV hrel' ht ht' HRr
        by_cases hin : t - W < seq
        · have hg0 : gone = false := by
            cases hg : gone with
            | false => rfl
            | true => have := hgn hg; omega
          subst hg0
          rw [if_pos hin] at hlook
          have Hinv := Lib.hid (hinv hin)
          have Hlook := Lib.hid hlook
          clear hlook hinv hgn
          go_wp2_with fail
          refine (look_at HRc.out.tab HRc.out.ok client seq 1 Hlook.out first (by rw [Hlook.out, if_pos rfl, Hinv.out]; rfl)).mono ?_
          rintro e w5 ⟨v5, rfl, hv5, hk5⟩
          have HR5 := Lib.hid (HRc.out.next (g' := false) hk5 (fun e => by cases e))
          have hstr := str_run hv5
          clear hv5 hk5
          go_wp2_with (go_at_call 11; refine (top_any HR5.out.tab (wf_ok hr).1).mono ?_; rintro e w6 ⟨rfl, rfl⟩; rw [Ht.out])
          go_roundg (gk - 1)
          case measure => have := Hgk.out; omega
          case rel => exact ⟨k + 1, false, _, _, by have := Hgk.out; omega, rfl, by go_num, HR5.out⟩
        · rw [if_neg hin] at hlook
          have Hlook := Lib.hid hlook
          have Hgone := Lib.hid (show seq ≤ topOf T' client - W by have h := Ht.out; unfold topOf; omega)
          clear hlook hinv hgn
          go_wp2_with fail
          refine (look_at HRc.out.tab HRc.out.ok client seq 2 Hlook.out [] (by rw [Hlook.out]; rfl)).mono ?_
          rintro e w5 ⟨v5, rfl, _, hk5⟩
          have HR5 := Lib.hid (HRc.out.next (g' := true) hk5 (fun _ => Hgone.out))
          clear hk5
          cases gone
          all_goals
            go_wp2_with (go_at_call 11; refine (top_any HR5.out.tab (wf_ok hr).1).mono ?_; rintro e w6 ⟨rfl, rfl⟩; rw [Ht.out])
            go_roundg (gk - 1)
            case measure => have := Hgk.out; omega
            case rel => exact ⟨k + 1, true, _, _, by have := Hgk.out; omega, by simp; omega, by go_num, HR5.out⟩
    · go_wp2
      go_ret
      exact ⟨rfl, HRr.out.kept⟩

/-- A request out of the guards' range, or too many acts. -/
def onceOut (W client seq : Int) (xs : List ActD) : Prop := fewB xs = false ∨ W < 1 ∨ 4096 < W ∨ client < 0 ∨ 100 < client ∨ seq < 1 ∨ 1000 < seq

set_option maxRecDepth 100000 in
set_option maxHeartbeats 1000000 in
theorem once_out (W client seq : Int) (A : Option Addr) (n c : Nat) (xs : List ActD) (w : World) (h : Acts w A n xs) (ho : onceOut W client seq xs) :
    Calls Try.prog 3 #[.int .i64 W, .slice A n c, .int .i64 client, .int .i64 seq] w (TrueEnd w) := by
  have HA := Lib.hid h
  clear h
  have key : ∀ (f : Bool), (f = false ∨ W < 1 ∨ 4096 < W ∨ client < 0 ∨ 100 < client ∨ seq < 1 ∨ 1000 < seq) → fewB xs = f → Calls Try.prog 3 #[.int .i64 W, .slice A n c, .int .i64 client, .int .i64 seq] w (TrueEnd w) := by
    intro f ho hf
    have Hf := Lib.hid hf
    clear hf
    have q : f = false ∨ (f = true ∧ W < 1) ∨ (f = true ∧ ¬ W < 1 ∧ 4096 < W) ∨ (f = true ∧ ¬ W < 1 ∧ ¬ 4096 < W ∧ client < 0) ∨ (f = true ∧ ¬ W < 1 ∧ ¬ 4096 < W ∧ ¬ client < 0 ∧ 100 < client) ∨
        (f = true ∧ ¬ W < 1 ∧ ¬ 4096 < W ∧ ¬ client < 0 ∧ ¬ 100 < client ∧ seq < 1) ∨ (f = true ∧ ¬ W < 1 ∧ ¬ 4096 < W ∧ ¬ client < 0 ∧ ¬ 100 < client ∧ ¬ seq < 1 ∧ 1000 < seq) := by
      cases f
      · exact Or.inl rfl
      · simp only [Bool.true_eq_false, false_or, true_and] at ho ⊢
        omega
    clear ho
    rcases q with rfl | ⟨rfl, q1⟩ | ⟨rfl, q1, q2⟩ | ⟨rfl, q1, q2, q3⟩ | ⟨rfl, q1, q2, q3, q4⟩ | ⟨rfl, q1, q2, q3, q4, q5⟩ | ⟨rfl, q1, q2, q3, q4, q5, q6⟩
    all_goals
      go_enter Try.func3, Try.ntmps3
      go_wp2_with fail
      refine (known_any w).mono ?_
      rintro e w1 ⟨rfl, hk1⟩
      go_wp2_with fail
      refine (few_any A n c xs w1 (HA.out.kept hk1 (NoCells.none w))).mono ?_
      rw [Hf.out]
      rintro e w1' ⟨rfl, rfl⟩
      go_wp2_with fail
      go_ret
      exact ⟨rfl, hk1⟩
  exact key _ ho rfl

/-- 'DedupOnce', at whatever arguments. -/
theorem once_any (W client seq : Int) (A : Option Addr) (n c : Nat) (xs : List ActD) (w : World) (h : Acts w A n xs) :
    Calls Try.prog 3 #[.int .i64 W, .slice A n c, .int .i64 client, .int .i64 seq] w (TrueEnd w) := by
  by_cases ho : onceOut W client seq xs
  · exact once_out W client seq A n c xs w h ho
  · simp only [onceOut, not_or] at ho
    obtain ⟨o1, o2, o3, o4, o5, o6, o7⟩ := ho
    exact once_main W client seq A n c xs w h (by simpa using o1) (by omega) (by omega) (by omega) (by omega) (by omega) (by omega)

#print axioms once_any
end Go.Proofs.Ytgopebigmcbbkaa
