/- What DedupSame does: it returns true, and turns nothing that was there. -/
import Derived.Test.YtgopebigmcbbkaaPureSame
import Derived.Test.YtgopebigmcbbkaaOnceWalk
namespace Go.Proofs.Ytgopebigmcbbkaa
open Go.RowKit Go.Maps

theorem Tab.kept2 {w w' : World} {S : Nat → Prop} {tb lb mb : Nat} {W : Int} {L : List ((Int × Int) × List UInt8)} {T : List (Int × Int)} (h : Tab w tb lb mb W L T) (hk : Kept S w w') (hs : NoCells w S) (hl : ¬ S lb) (hm : ¬ S mb) : Tab w' tb lb mb W L T :=
  ⟨h.box.kept hk (fun e => by
    have hb := h.box
    unfold Blk at hb
    exact hs _ e _ _ _ hb), (h.ans.kept hk hl).imp (fun _ _ hx => hx.kept hk hs), h.top.kept hk hm⟩

/-- Two tables, the acts; nothing that was there has turned. -/
structure SameRel (w : World) (W : Int) (A : Option Addr) (n : Nat) (xs : List ActD) (ta la ma tb lb mb : Nat) (S S' : St) (wr : World) : Prop where
  a : Tab wr ta la ma W S.1 S.2
  b : Tab wr tb lb mb W S'.1 S'.2
  acts : Acts wr A n xs
  kept : Kept NoBlk w wr

/-- The blocks of the two tables lie apart, behind all that was there. -/
structure Apart (w : World) (la ma lb mb : Nat) : Prop where
  ne1 : la ≠ ma
  ne2 : lb ≠ mb
  le1 : w.heap.size ≤ la
  le2 : w.heap.size ≤ ma
  ab : la < lb ∧ la < mb ∧ ma < lb ∧ ma < mb

section
variable {w : World} {W : Int} {A : Option Addr} {n : Nat} {xs : List ActD} {ta la ma tb lb mb : Nat} {S S' : St} {wr : World}
theorem SameRel.putA (h : SameRel w W A n xs ta la ma tb lb mb S S' wr) (hp : Apart w la ma lb mb) {act : ActD} {w4 : World} (hT : Tab w4 ta la ma W (putL W S.1 S.2 act.client act.seq act.ans) (putT W S.1 S.2 act.client act.seq)) (hk : Kept (Two la ma) wr w4) :
    SameRel w W A n xs ta la ma tb lb mb (stepS W S act) S' w4 :=
  ⟨hT, h.b.kept2 hk h.a.noCells (by have := hp.ab; unfold Two; omega) (by have := hp.ab; unfold Two; omega), h.acts.kept hk h.a.noCells,
    h.kept.inner hk (by have h1 := hp.le1; have h2 := hp.le2; rintro k (rfl | rfl) <;> omega)⟩
theorem SameRel.putB (h : SameRel w W A n xs ta la ma tb lb mb S S' wr) (hp : Apart w la ma lb mb) {act : ActD} {w4 : World} (hT : Tab w4 tb lb mb W (putL W S'.1 S'.2 act.client act.seq act.ans) (putT W S'.1 S'.2 act.client act.seq)) (hk : Kept (Two lb mb) wr w4) :
    SameRel w W A n xs ta la ma tb lb mb S (stepS W S' act) w4 :=
  ⟨h.a.kept2 hk h.b.noCells (by have := hp.ab; unfold Two; omega) (by have := hp.ab; unfold Two; omega), hT, h.acts.kept hk h.b.noCells,
    h.kept.inner hk (by have h1 := hp.le1; have h2 := hp.le2; have := hp.ab; rintro k (rfl | rfl) <;> omega)⟩
theorem SameRel.next (h : SameRel w W A n xs ta la ma tb lb mb S S' wr) {w4 : World} (hk : Kept NoBlk wr w4) : SameRel w W A n xs ta la ma tb lb mb S S' w4 :=
  ⟨h.a.kept hk, h.b.kept hk, h.acts.kept hk (NoCells.none wr), h.kept.trans hk⟩
end

theorem runS_snoc (W : Int) (S : St) (xs : List ActD) (a : ActD) : runS W S (xs ++ [a]) = stepS W (runS W S xs) a := by simp [runS]
theorem runS_take {W : Int} {S : St} {xs : List ActD} {k : Nat} {a : ActD} (h : xs[k]? = some a) : runS W S (xs.take (k + 1)) = stepS W (runS W S (xs.take k)) a := by
  obtain ⟨hk, rfl⟩ := List.getElem?_eq_some_iff.1 h
  rw [List.take_succ_eq_append_getElem hk, runS_snoc]

/-- What has been put into the second table: k turns whole, of the next one i acts. -/
def doneT (u : Int) (xs : List ActD) (k i : Nat) : List ActD := (List.range k).flatMap (fun (q : Nat) => xs.filter (cls u (q : Int))) ++ (xs.take i).filter (cls u (k : Int))
theorem doneT_yes {u : Int} {xs : List ActD} {k i : Nat} {a : ActD} (h : xs[i]? = some a) (hc : cls u k a = true) : doneT u xs k (i + 1) = doneT u xs k i ++ [a] := by
  obtain ⟨hk, rfl⟩ := List.getElem?_eq_some_iff.1 h
  unfold doneT
  rw [List.take_succ_eq_append_getElem hk, List.filter_append, List.append_assoc]
  simp [hc]
theorem doneT_no {u : Int} {xs : List ActD} {k i : Nat} {a : ActD} (h : xs[i]? = some a) (hc : cls u k a = false) : doneT u xs k (i + 1) = doneT u xs k i := by
  obtain ⟨hk, rfl⟩ := List.getElem?_eq_some_iff.1 h
  unfold doneT
  rw [List.take_succ_eq_append_getElem hk, List.filter_append]
  simp [hc]
theorem doneT_end (u : Int) (xs : List ActD) (k : Nat) : doneT u xs k xs.length = doneT u xs (k + 1) 0 := by
  unfold doneT
  simp [List.range_succ]
theorem doneT_three (u : Int) (xs : List ActD) : doneT u xs 3 0 = turns3 u xs := by
  unfold doneT turns3
  simp [List.range_succ]

theorem runS_bound {W : Int} {m : Nat} : ∀ (ys : List ActD) {n : Nat} {S : St}, Bound n m S → (∀ a, a ∈ ys → a.ans.length ≤ m) → Bound (n + ys.length) m (runS W S ys)
  | [], _, _, h, _ => h
  | a :: ys, n, S, h, hs => by
    have := runS_bound (W := W) ys (h.step (W := W) a (hs a (by simp))) (fun b hb => hs b (by simp [hb]))
    rw [List.length_cons]
    exact (show n + 1 + ys.length = n + (ys.length + 1) by omega) ▸ this
theorem turns3_mem {u : Int} {xs : List ActD} {a : ActD} (h : a ∈ turns3 u xs) : a ∈ xs := by
  unfold turns3 at h
  simp only [List.mem_append, List.mem_filter] at h
  rcases h with (h | h) | h <;> exact h.1

/-- Of a short play both tables stay small. -/
theorem small_of {W : Int} {xs ys : List ActD} (hf : fewB xs = true) (hl : ys.length ≤ xs.length) (hm : ∀ a, a ∈ ys → a ∈ xs) : Small (runS W ([], []) ys).1 (runS W ([], []) ys).2 := by
  simp only [fewB, Bool.and_eq_true, decide_eq_true_eq] at hf
  have h := runS_bound (W := W) ys (Bound.start 8192) (fun a ha => Nat.le_trans (ans_le (hm a ha)) (by omega))
  exact h.small (by omega) (by omega)

theorem and3 (t : Int) : 0 ≤ bits .and .i64 t 3 ∧ bits .and .i64 t 3 ≤ 3 := by
  have e : bits .and .i64 t 3 = IntKind.i64.wrap (((BitVec.ofInt 64 t &&& BitVec.ofInt 64 3).toNat : Nat) : Int) := rfl
  rw [e, BitVec.toNat_and, IntKind.wrap_i64]
  have h3 : (BitVec.ofInt 64 3).toNat = 3 := by decide
  rw [h3]
  have := Nat.and_le_right (n := (BitVec.ofInt 64 t).toNat) (m := 3)
  omega

set_option maxRecDepth 100000 in
set_option maxHeartbeats 2000000 in
theorem same_main (W turn : Int) (A : Option Addr) (n c : Nat) (xs : List ActD) (w : World) (h : Acts w A n xs) (hf : fewB xs = true) (h1 : 1 ≤ W) (h2 : W ≤ 4096) :
    Calls Try.prog 5 #[.int .i64 W, .slice A n c, .int .i64 turn] w (TrueEnd w) := by
  have hn := h.2.1
  have HA := Lib.hid h
  have Hf := Lib.hid hf
  clear h hf
  have q1 : ¬ W < 1 := by omega
  have q2 : ¬ 4096 < W := by omega
  go_enter Try.func5, Try.ntmps5
  go_wp2_with fail
  refine (known_any w).mono ?_
  rintro e w1 ⟨rfl, hk1⟩
  have HA1 := Lib.hid (HA.out.kept hk1 (NoCells.none w))
  have HK1 := Lib.hid hk1
  clear hk1
  go_wp2_with fail
  refine (few_any A n c xs w1 HA1.out).mono ?_
  rw [Hf.out]
  rintro e w1' ⟨rfl, rfl⟩
  go_wp2_with fail
  refine (new_any W h1 h2 w1).mono ?_
  rintro e w2 ⟨ta, la, ma, rfl, hT, hlm, hta, hla, hma, hk2⟩
  have hs1 := HK1.out.size
  have hla2 := hT.ans.lt
  have hma2 := hT.top.lt
  have HT := Lib.hid hT
  have HA2 := Lib.hid (HA1.out.kept hk2 (NoCells.none w1))
  have HK2 := Lib.hid (HK1.out.trans hk2)
  clear hT hk2 HK1 HA1 HA
  go_wp2_with fail
  refine (new_any W h1 h2 w2).mono ?_
  rintro e w3 ⟨tb, lb, mb, rfl, hT3, hlm3, htb, hlb, hmb, hk3⟩
  have HP := Lib.hid (show Apart w la ma lb mb from ⟨hlm, hlm3, by omega, by omega, by omega⟩)
  have HR := Lib.hid (show SameRel w W A n xs ta la ma tb lb mb (runS W ([], []) (xs.take 0)) ([], []) w3 from ⟨HT.out.kept hk3, hT3, HA2.out.kept hk3 (NoCells.none w2), HK2.out.trans hk3⟩)
  clear hT3 hk3 HT HA2 HK2 hs1 hla2 hma2 hta hla hma htb hlb hmb
  go_wp2_with fail
  go_loopg [11] n (fun g v wr => ∃ (k : Nat), g + k = n ∧ v = .int .i64 k ∧ SameRel w W A n xs ta la ma tb lb mb (runS W ([], []) (xs.take k)) ([], []) wr)
  case atStart => exact ⟨0, by omega, rfl, HR.out⟩
  case round =>
    obtain ⟨k, hgk, rfl, hrel⟩ := hrel
    have Hgk := Lib.hid hgk
    have HRr := Lib.hid hrel
    clear hgk hrel HR
    by_cases hlt : k < n
    · obtain ⟨b, off, a, v, rfl, ha, m0, m1, m2, m3, hv⟩ := HRr.out.acts.at_ hlt
      have HV := Lib.hid hv
      have Ha := Lib.hid ha
      have k0 : (0 : Int) ≤ (k : Int) := by omega
      have k1 : (k : Int) < (n : Int) := by omega
      have hok := (runS_good (Good.start h1 h2) (xs.take k)).ok
      have Hok := Lib.hid hok
      clear ha hv m0 hok
      go_upto_region 12 with fail
      go_region_with (go_at_call 9; refine (put_any (HRr.out.a.kept ((Kept.refl NoBlk _).drewN _)) Hok.out hlm _ _ _ _ (HV.out.kept ((Kept.refl NoBlk _).drewN _) (NoCells.none _))).mono ?_; rintro e w4 ⟨rfl, hT4, hk4⟩)
      all_goals
        go_wp2_with fail
        go_roundg (n - (k + 1))
        case measure => have := Hgk.out; omega
        case rel => exact ⟨k + 1, by omega, by go_num, by rw [runS_take Ha.out]; exact HRr.out.putA HP.out hT4 (((Kept.refl _ _).drewN _).trans hk4)⟩
    · have hkn : k = n := by have := Hgk.out; omega
      have e : runS W ([], []) (xs.take k) = runS W ([], []) xs := by
        rw [List.take_of_length_le]
        have := HRr.out.acts.1
        omega
      have hr := HRr.out
      rw [e] at hr
      have HR2 := Lib.hid hr
      clear hr e HRr hkn
      have hu := and3 turn
      obtain ⟨u0, u3⟩ := hu
      have HR3 := Lib.hid (show SameRel w W A n xs ta la ma tb lb mb (runS W ([], []) xs) (runS W ([], []) (doneT (bits .and .i64 turn 3) xs 0 0)) wr from HR2.out)
      clear HR2
      obtain ⟨wx, hwx⟩ : ∃ wx, wr = wx := ⟨_, rfl⟩
      rw [hwx] at HR3 ⊢
      clear hwx
      go_wp2_with fail
      go_loopg [12, 13] 3 (fun g v _ wr => ∃ (k : Nat), g + k = 3 ∧ v = .int .i64 k ∧ SameRel w W A n xs ta la ma tb lb mb (runS W ([], []) xs) (runS W ([], []) (doneT (bits .and .i64 turn 3) xs k 0)) wr)
      case atStart => exact ⟨0, by omega, rfl, HR3.out⟩
      case round =>
        obtain ⟨j, hgj, rfl, hrel⟩ := hrel
        have Hgj := Lib.hid hgj
        have HRj := Lib.hid hrel
        have j3 : j ≤ 3 := by omega
        clear hgj hrel HR3
        by_cases hj : j < 3
        · obtain ⟨wy, hwy⟩ : ∃ wy, wr = wy := ⟨_, rfl⟩
          rw [hwy] at HRj ⊢
          clear hwy
          have hjd : decide ((j : Int) < 3) = true := decide_eq_true (by omega)
          go_wp2_with fail
          go_loopg [13] n (fun g v wr => ∃ (i : Nat), g + i = n ∧ v = .int .i64 i ∧ SameRel w W A n xs ta la ma tb lb mb (runS W ([], []) xs) (runS W ([], []) (doneT (bits .and .i64 turn 3) xs j i)) wr)
          case atStart => exact ⟨0, by omega, rfl, HRj.out⟩
          case round =>
            obtain ⟨i, hgi, rfl, hrel⟩ := hrel
            have Hgi := Lib.hid hgi
            have HRi := Lib.hid hrel
            clear hgi hrel HRj
            by_cases hi : i < n
            · obtain ⟨b, off, a, v, rfl, ha, m0, m1, m2, m3, hv⟩ := HRi.out.acts.at_ hi
              have HV := Lib.hid hv
              have Ha := Lib.hid ha
              have i0 : (0 : Int) ≤ (i : Int) := by omega
              have i1 : (i : Int) < (n : Int) := by omega
              have hok := (runS_good (Good.start h1 h2) (doneT (bits .and .i64 turn 3) xs j i)).ok
              have Hok := Lib.hid hok
              clear ha hv m0 hok
              by_cases hc0 : 0 ≤ a.client
              · by_cases hcl : a.client % 3 = (j + bits .and .i64 turn 3) % 3
                · have hb : (a.client % 3 == (j + bits .and .i64 turn 3) % 3) = true := by simpa using hcl
                  have hcls : cls (bits .and .i64 turn 3) j a = true := by simp [cls, hc0, hcl]
                  have Hcls := Lib.hid hcls
                  clear hcl hcls
                  go_upto_region 20 with fail
                  go_region_with (go_at_call 9; refine (put_any (HRi.out.b.kept ((Kept.refl NoBlk _).drewN _)) Hok.out HP.out.ne2 _ _ _ _ (HV.out.kept ((Kept.refl NoBlk _).drewN _) (NoCells.none _))).mono ?_; rintro e w4 ⟨rfl, hT4, hk4⟩)
                  all_goals
                    go_wp2_with fail
                    go_roundg (n - (i + 1))
                    case measure => have := Hgi.out; omega
                    case rel => exact ⟨i + 1, by omega, by go_num, by rw [doneT_yes Ha.out Hcls.out, runS_snoc]; exact HRi.out.putB HP.out hT4 (((Kept.refl _ _).drewN _).trans hk4)⟩
                · have hb : (a.client % 3 == (j + bits .and .i64 turn 3) % 3) = false := by simpa using hcl
                  have hcls : cls (bits .and .i64 turn 3) j a = false := by simp [cls, hcl]
                  have Hcls := Lib.hid hcls
                  clear hcl hcls m2 m3
                  go_wp2_with fail
                  go_roundg (n - (i + 1))
                  case measure => have := Hgi.out; omega
                  case rel => exact ⟨i + 1, by omega, by go_num, by rw [doneT_no Ha.out Hcls.out]; exact HRi.out⟩
              · have hcls : cls (bits .and .i64 turn 3) j a = false := by simp [cls, hc0]
                have Hcls := Lib.hid hcls
                clear hcls m2 m3
                go_wp2_with fail
                go_roundg (n - (i + 1))
                case measure => have := Hgi.out; omega
                case rel => exact ⟨i + 1, by omega, by go_num, by rw [doneT_no Ha.out Hcls.out]; exact HRi.out⟩
            · have hin : i = xs.length := by
                have h1 := Hgi.out
                have h2 := HRi.out.acts.1
                omega
              have hr := HRi.out
              rw [hin, doneT_end] at hr
              have HR9 := Lib.hid hr
              clear hr hin HRi
              go_wp2_with fail
              go_roundg (3 - (j + 1))
              case measure => have := Hgj.out; omega
              case rel => exact ⟨j + 1, by omega, by go_num, HR9.out⟩
        · have hj3 : j = 3 := by omega
          have hr := HRj.out
          rw [hj3, doneT_three] at hr
          have HR9 := Lib.hid hr
          have sa := small_of (W := W) (ys := xs) Hf.out (Nat.le_refl _) (fun _ h => h)
          have sb := small_of (W := W) (ys := turns3 (bits .and .i64 turn 3) xs) Hf.out (turns3_length _ _) (fun _ h => turns3_mem h)
          have hsame := same_enc h1 h2 (bits .and .i64 turn 3) xs
          have oka := (runS_good (Good.start h1 h2) xs).ok
          have okb := (runS_good (Good.start h1 h2) (turns3 (bits .and .i64 turn 3) xs)).ok
          generalize runS W ([], []) xs = SA at HR9 sa oka hsame
          generalize runS W ([], []) (turns3 (bits .and .i64 turn 3) xs) = SB at HR9 sb okb hsame
          have Hsa := Lib.hid sa
          have Hsb := Lib.hid sb
          have Hoka := Lib.hid oka
          have Hokb := Lib.hid okb
          have Hsame := Lib.hid hsame
          clear hr hj3 sa sb oka okb hsame HRj u0 u3
          go_upto_region 21 with fail
          go_region_with (first
            | (go_at_call_of 15 (Value.pointer (some (⟨ta, 0, none⟩ : Addr))); refine (enc_any (HR9.out.a.kept ((Kept.refl NoBlk _).drewN _)) Hoka.out Hsa.out).mono ?_; rintro e w5 ⟨va, rfl, hva, hk5⟩; have strA := str_run hva; rw [Hsame.out] at strA)
            | (go_at_call_of 15 (Value.pointer (some (⟨tb, 0, none⟩ : Addr))); refine (enc_any (HR9.out.b.kept ((Kept.refl NoBlk _).drewN _)) Hokb.out Hsb.out).mono ?_; rintro e w5 ⟨vb, rfl, hvb, hk5⟩; have strB := str_run hvb)
            | (go_at_call_of 15 (Value.pointer (some (⟨tb, 0, none⟩ : Addr))); refine (enc_any (HR9.out.b.kept (((Kept.refl NoBlk _).drewN _).trans hk5)) Hokb.out Hsb.out).mono ?_; rintro e w6 ⟨vb, rfl, hvb, hk6⟩; have strB := str_run hvb; have strA2 := str_run (hva.kept hk6 (NoCells.none _)); rw [Hsame.out] at strA2)
            | (go_at_call_of 15 (Value.pointer (some (⟨ta, 0, none⟩ : Addr))); refine (enc_any (HR9.out.a.kept (((Kept.refl NoBlk _).drewN _).trans hk5)) Hoka.out Hsa.out).mono ?_; rintro e w6 ⟨va, rfl, hva, hk6⟩; have strA := str_run hva; rw [Hsame.out] at strA; have strB2 := str_run (hvb.kept hk6 (NoCells.none _))))
          all_goals (go_wp2_with fail; go_ret; exact ⟨rfl, HR9.out.kept.trans ((((Kept.refl _ _).drewN _).trans hk5).trans hk6)⟩)

set_option maxRecDepth 100000 in
set_option maxHeartbeats 1000000 in
theorem same_out (W turn : Int) (A : Option Addr) (n c : Nat) (xs : List ActD) (w : World) (h : Acts w A n xs) (ho : fewB xs = false ∨ W < 1 ∨ 4096 < W) :
    Calls Try.prog 5 #[.int .i64 W, .slice A n c, .int .i64 turn] w (TrueEnd w) := by
  have HA := Lib.hid h
  clear h
  have key : ∀ (f : Bool), (f = false ∨ W < 1 ∨ 4096 < W) → fewB xs = f → Calls Try.prog 5 #[.int .i64 W, .slice A n c, .int .i64 turn] w (TrueEnd w) := by
    intro f ho hf
    have Hf := Lib.hid hf
    clear hf
    have q : f = false ∨ (f = true ∧ W < 1) ∨ (f = true ∧ ¬ W < 1 ∧ 4096 < W) := by
      cases f
      · exact Or.inl rfl
      · simp only [Bool.true_eq_false, false_or, true_and] at ho ⊢
        omega
    clear ho
    rcases q with rfl | ⟨rfl, q1⟩ | ⟨rfl, q1, q2⟩
    all_goals
      go_enter Try.func5, Try.ntmps5
      go_wp2_with fail
      refine (known_any w).mono ?_
      rintro e w1 ⟨rfl, hk1⟩
      go_wp2_with fail
      refine (few_any A n c xs w1 (HA.out.kept hk1 (NoCells.none w))).mono ?_
      rw [Hf.out]
      rintro e w1' ⟨rfl, rfl⟩
      go_wp2_with fail
      go_ret
      exact ⟨rfl, hk1⟩
  exact key _ ho rfl

/-- 'DedupSame', at whatever arguments. -/
theorem same_any (W turn : Int) (A : Option Addr) (n c : Nat) (xs : List ActD) (w : World) (h : Acts w A n xs) :
    Calls Try.prog 5 #[.int .i64 W, .slice A n c, .int .i64 turn] w (TrueEnd w) := by
  by_cases ho : fewB xs = false ∨ W < 1 ∨ 4096 < W
  · exact same_out W turn A n c xs w h ho
  · simp only [not_or] at ho
    obtain ⟨o1, o2, o3⟩ := ho
    exact same_main W turn A n c xs w h (by simpa using o1) (by omega) (by omega)

#print axioms same_any
end Go.Proofs.Ytgopebigmcbbkaa
