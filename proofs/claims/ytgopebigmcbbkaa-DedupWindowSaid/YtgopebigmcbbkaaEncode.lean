/- Encode: a table's bytes. -/
import Derived.Test.YtgopebigmcbbkaaSeqs
import Derived.Test.YtgopebigmcbbkaaClients
import Derived.Deep.RegionHeld3
namespace Go.Proofs.Ytgopebigmcbbkaa
open Go.RowKit

def encOne (L : List ((Int × Int) × List UInt8)) (c s : Int) : List UInt8 := vints [s] ++ (vint ((aget L (c, s)).getD []).length ++ (aget L (c, s)).getD [])
def encClient (W : Int) (L : List ((Int × Int) × List UInt8)) (T : List (Int × Int)) (c : Int) : List UInt8 :=
  vints [c, (aget T c).getD 0, (seqsOf W L T c).length] ++ (seqsOf W L T c).flatMap (encOne L c)
def encOf (W : Int) (L : List ((Int × Int) × List UInt8)) (T : List (Int × Int)) : List UInt8 := vints [W, T.length] ++ (sortK T).flatMap (encClient W L T)

/-- What is there while a table is written: the writer, the clients' row. -/
structure EncSt (w : World) (g : Nat) (A : Option Addr) (n : Nat) (keys : List Int) (bs : List UInt8) (wx : World) : Prop where
  hwr : Wr wx w.heap.size g bs
  ints : Ints wx A n keys
  below : Below w.heap.size w wx

theorem EncSt.kept {w : World} {g : Nat} {A : Option Addr} {n : Nat} {keys : List Int} {bs : List UInt8} {wx wy : World} (h : EncSt w g A n keys bs wx) (hk : Kept NoBlk wx wy) : EncSt w g A n keys bs wy :=
  ⟨h.hwr.kept hk, h.ints.kept hk, h.below.trans (hk.below h.below.size (fun _ e => e.elim))⟩
theorem EncSt.step {w : World} {g : Nat} {A : Option Addr} {n : Nat} {keys : List Int} {bs bs' : List UInt8} {wx wy : World} (h : EncSt w g A n keys bs wx) (hk : WKept w.heap.size g wx wy) (hw : Wr wy w.heap.size g bs') : EncSt w g A n keys bs' wy := by
  obtain ⟨v, hb, _⟩ := h.hwr
  exact ⟨hw, h.ints.wkept hk hb (by decide), h.below.trans (hk.below h.below.size)⟩
theorem EncSt.other {w : World} {g : Nat} {A A' : Option Addr} {n n' : Nat} {keys keys' : List Int} {bs : List UInt8} {wx wy : World} (h : EncSt w g A n keys bs wx) (hk : WKept w.heap.size g wx wy) (hi : Ints wx A' n' keys') : Ints wy A' n' keys' := by
  obtain ⟨v, hb, _⟩ := h.hwr
  exact hi.wkept hk hb (by decide)

/-- No answer is long; no client is out of range. -/
structure Small (L : List ((Int × Int) × List UInt8)) (T : List (Int × Int)) : Prop where
  tops : T.length ≤ 200
  keys : ∀ c, c ∈ T.map (·.1) → okReq c 1
  ans : ∀ k bs, aget L k = some bs → bs.length ≤ 10000

section
variable {W : Int} {L : List ((Int × Int) × List UInt8)} {T : List (Int × Int)}
theorem flat_length {α : Type} {f : α → List UInt8} {m : Nat} : ∀ (l : List α), (∀ x ∈ l, (f x).length ≤ m) → (l.flatMap f).length ≤ l.length * m
  | [], _ => by simp
  | x :: l, h => by
    have h1 := flat_length l (fun y hy => h y (by simp [hy]))
    have h2 := h x (by simp)
    rw [List.flatMap_cons, List.length_append, List.length_cons, Nat.succ_mul]
    omega
theorem flat_snoc {α : Type} {f : α → List UInt8} {xs : List α} {k : Nat} {x : α} (h : xs[k]? = some x) : (xs.take (k + 1)).flatMap f = (xs.take k).flatMap f ++ f x := by
  obtain ⟨hk, rfl⟩ := List.getElem?_eq_some_iff.1 h
  rw [List.take_succ_eq_append_getElem hk, List.flatMap_append]
  simp
theorem encOne_length (hs : Small L T) (c s : Int) : (encOne L c s).length ≤ 10020 := by
  unfold encOne
  have h1 := vints_length [s]
  have h2 := vint_length (((aget L (c, s)).getD []).length : Int)
  have h3 : ((aget L (c, s)).getD []).length ≤ 10000 := by
    cases ha : aget L (c, s) with
    | none => simp
    | some bs => simpa using hs.ans _ _ ha
  simp only [List.length_append, List.length_cons, List.length_nil] at *
  omega
theorem seqsOf_length (hok : okTab W T) (c : Int) : (seqsOf W L T c).length ≤ 4096 := by
  unfold seqsOf
  refine Nat.le_trans (seqsN_length _ _ _ _) ?_
  have h1 := top_bound hok c
  have h2 := hok.1
  unfold seqLo
  omega
theorem encClient_length (hok : okTab W T) (hs : Small L T) (c : Int) : (encClient W L T c).length ≤ 41041950 := by
  unfold encClient
  have h1 := vints_length [c, (aget T c).getD 0, ((seqsOf W L T c).length : Int)]
  have h2 := flat_length (f := encOne L c) (seqsOf W L T c) (fun s _ => encOne_length hs c s)
  have h3 := seqsOf_length (L := L) hok c
  have h4 := Nat.mul_le_mul_right 10020 h3
  simp only [List.length_append, List.length_cons, List.length_nil] at *
  omega
theorem sortK_length : (sortK T).length = T.length := by simp [sortK]
theorem sortK_mem {c : Int} (h : c ∈ sortK T) : c ∈ T.map (·.1) := (List.mergeSort_perm _ _).mem_iff.1 h
end

theorem below_of {w wx w2 : World} {g : Nat} (hk : Kept NoBlk w wx) (h : WKept w.heap.size g wx w2) : Below w.heap.size w w2 := hk.all.trans (h.below hk.size)

set_option maxRecDepth 100000 in
set_option maxHeartbeats 6000000 in
theorem enc_any {w : World} {tb lb mb : Nat} {W : Int} {L : List ((Int × Int) × List UInt8)} {T : List (Int × Int)} (h : Tab w tb lb mb W L T) (hok : okTab W T) (hs : Small L T) :
    Calls Try.prog 15 #[.pointer (some ⟨tb, 0, none⟩)] w (CloneEnd (encOf W L T) w) := by
  have HT := Lib.hid h
  have c0 : w.cell? ⟨tb, 0, none⟩ = some (.int .i64 W) := h.box.cell 0
  have c2 : w.cell? ⟨tb, 0 + 2, none⟩ = some (.map (some mb)) := h.box.cell 2
  have hlen := h.top.len_run Try.underlying37 3
  clear h
  go_enter Try.func15, Try.ntmps15
  go_upto_region 1 with fail
  go_cut [3] (fun u wx => ∃ g, u = .pointer (some ⟨g, 0, none⟩) ∧ Wr wx w.heap.size g (vints [W, T.length]) ∧ Below w.heap.size w wx)
  case first =>
    go_region_with (first
      | (go_at_call 21; refine (newWriter_any w.heap.size _ (by simp)).mono ?_; rintro e w1 ⟨g, rfl, h1, h2⟩; have hk1 : Kept NoBlk w w1 := (by first | exact ((Kept.refl _ _).drewN _).trans h2 | exact (((Kept.refl _ _).drewN _).alloc _).trans h2); have d0 : w1.cell? ⟨tb, 0, none⟩ = some (.int .i64 W) := (HT.out.kept hk1).box.cell 0; have d2 : w1.cell? ⟨tb, 0 + 2, none⟩ = some (.map (some mb)) := (HT.out.kept hk1).box.cell 2; have dl := (HT.out.kept hk1).top.len_run Try.underlying37 3)
      | (go_at_call 22; first
          | (refine (numbersP_any w.heap.size g [] _ 2 2 [W, (T.length : Int)] _ (h1.kept ((Kept.refl _ _).alloc _)) (Ints.new w1 [W, (T.length : Int)] 2 rfl (by omega) _ rfl) (by simp)).mono ?_; rintro e w2 ⟨rfl, h3, h4⟩)
          | (refine (numbersP_any w.heap.size g [] _ 2 2 [W, (T.length : Int)] _ h1 ((Ints.new _ [W, (T.length : Int)] 2 rfl (by omega) _ rfl).kept h2) (by simp)).mono ?_; rintro e w2 ⟨rfl, h3, h4⟩)))
    all_goals (go_wp2_with fail; go_meet; refine ⟨g, rfl, by simpa using h3, ?_⟩; first | exact below_of (hk1.alloc _) h4 | exact below_of hk1 h4)
  case rest =>
    obtain ⟨g, hu, hW1, hB1⟩ := hcut
    rw [hu]
    have HT1 := Lib.hid (HT.out.kept (Kept.of_below hB1))
    have HW1 := Lib.hid hW1
    have HB1 := Lib.hid hB1
    clear c0 c2 hlen hu hW1 hB1
    go_wp2_with fail
    refine (clients_any HT1.out (Nat.le_trans hs.tops (by omega))).mono ?_
    rintro e w2 ⟨v, rfl, hrow, hb2⟩
    have htl := hs.tops
    obtain ⟨A, ca, hv, hints⟩ := Ints.of_own hrow (by omega)
    rw [hv]
    have HS := Lib.hid (show EncSt w g A T.length (sortK T) (vints [W, T.length] ++ ((sortK T).take 0).flatMap (encClient W L T)) w2 from ⟨by simpa using HW1.out.kept (Kept.of_below hb2), hints, HB1.out.trans (hb2.mono HB1.out.size)⟩)
    clear hv hrow hb2 HT1 HW1 HB1 hints
    have Hs := Lib.hid hs
    have Hok := Lib.hid hok
    clear hs hok
    obtain ⟨n, hn⟩ : ∃ n, T.length = n := ⟨_, rfl⟩
    rw [hn] at HS htl ⊢
    have Hn := Lib.hid hn
    clear hn
    go_wp2_with fail
    go_loopg [24, 5, 6, 8, 43, 44, 45] n (fun r u _ _ _ _ _ _ wr => ∃ k : Nat, r + k = n ∧ u = .int .i64 k ∧ EncSt w g A n (sortK T) (vints [W, (n : Int)] ++ ((sortK T).take k).flatMap (encClient W L T)) wr)
    case atStart => exact ⟨0, by omega, rfl, HS.out⟩
    case round =>
      obtain ⟨k, hgk, rfl, hr⟩ := hrel
      have Hgk := Lib.hid hgk
      have HSr := Lib.hid hr
      clear hgk hr HS
      by_cases hlt : k < n
      · obtain ⟨b, c, rfl, hc, hcell⟩ := HSr.out.ints.at_ hlt
        have Hc := Lib.hid hc
        have hreq : okReq c 1 := Hs.out.keys c (sortK_mem (List.mem_of_getElem? hc))
        have k0 : (0 : Int) ≤ (k : Int) := by omega
        have k1 : (k : Int) < (n : Int) := by omega
        clear hc
        go_wp2_with fail
        refine (seqs_any (HT.out.kept (Kept.of_below HSr.out.below)) Hok.out c hreq).mono ?_
        rintro e w3 ⟨v3, rfl, hrow3, hb3⟩
        have hml := seqsOf_length (L := L) Hok.out c
        obtain ⟨A3, c3, hv3, hi3⟩ := Ints.of_own hrow3 (by omega)
        rw [hv3]
        obtain ⟨m, hm⟩ : ∃ m, (seqsOf W L T c).length = m := ⟨_, rfl⟩
        rw [hm] at hi3 hml ⊢
        have Hm := Lib.hid hm
        have HS3 := Lib.hid (HSr.out.kept (Kept.of_below hb3))
        have HI3 := Lib.hid hi3
        have HT3 := Lib.hid (HT.out.kept (Kept.of_below HS3.out.below))
        have d2 : w3.cell? ⟨tb, 0 + 2, none⟩ = some (.map (some mb)) := HT3.out.box.cell 2
        have hlt3 := look_top HT3.out (wf_ok hreq).1
        obtain ⟨t, ht⟩ : ∃ t, (aget T c).getD 0 = t := ⟨_, rfl⟩
        rw [ht] at hlt3
        have Ht := Lib.hid ht
        clear hrow3 hb3 hv3 hm hi3 ht hcell
        go_wp2_with fail
        have hbl : (vints [W, (n : Int)] ++ ((sortK T).take k).flatMap (encClient W L T)).length ≤ 8208390020 := by
          rw [List.length_append]
          have h1 := vints_length [W, (n : Int)]
          have h2 := flat_length (f := encClient W L T) ((sortK T).take k) (fun c _ => encClient_length Hok.out Hs.out c)
          have h3 : ((sortK T).take k).length ≤ 200 := by
            have := List.length_take_le k (sortK T)
            omega
          have h4 := Nat.mul_le_mul_right 41041950 h3
          simp only [List.length_cons, List.length_nil] at h1
          omega
        refine (numbersP_any w.heap.size g _ _ 3 3 [c, t, (m : Int)] _ (HS3.out.hwr.kept ((Kept.refl _ _).alloc _)) (Ints.new w3 [c, t, (m : Int)] 3 rfl (by omega) _ rfl) (by omega)).mono ?_
        rintro e w4 ⟨rfl, h4, h5⟩
        have HS4 := Lib.hid ((HS3.out.kept ((Kept.refl NoBlk w3).alloc _)).step h5 h4)
        have HI4 := Lib.hid ((HS3.out.kept ((Kept.refl NoBlk w3).alloc _)).other h5 (HI3.out.kept ((Kept.refl NoBlk w3).alloc _)))
        have Hbl := Lib.hid hbl
        clear hbl h4 h5 HS3 HI3 HT3 d2 hlt3
        go_wp2_with fail
        go_loopg [45, 8] m (fun r u _ wi => ∃ j : Nat, r + j = m ∧ u = .int .i64 j ∧ EncSt w g (some ⟨b, 0, none⟩) n (sortK T) (vints [W, (n : Int)] ++ ((sortK T).take k).flatMap (encClient W L T) ++ vints [c, t, (m : Int)] ++ ((seqsOf W L T c).take j).flatMap (encOne L c)) wi ∧ Ints wi A3 m (seqsOf W L T c))
        case atStart => exact ⟨0, by omega, rfl, by simpa using HS4.out, HI4.out⟩
        case round =>
          obtain ⟨j, hj, rfl, hr2, hi2⟩ := hrel
          have Hj := Lib.hid hj
          have HS5 := Lib.hid hr2
          have HI5 := Lib.hid hi2
          clear hj hr2 hi2 HS4 HI4
          obtain ⟨bsX, hbx⟩ : ∃ x, vints [W, (n : Int)] ++ ((sortK T).take k).flatMap (encClient W L T) ++ vints [c, t, (m : Int)] ++ ((seqsOf W L T c).take j).flatMap (encOne L c) = x := ⟨_, rfl⟩
          rw [hbx] at HS5
          have Hbx := Lib.hid hbx
          by_cases hj2 : j < m
          · obtain ⟨b3, s, rfl, hsg, hcell3⟩ := HI5.out.at_ hj2
            have j0 : (0 : Int) ≤ (j : Int) := by omega
            have j1 : (j : Int) < (m : Int) := by omega
            obtain ⟨s1, s2, s3, s4, s5⟩ := seqsOf_mem Hok.out (List.mem_of_getElem? hsg)
            obtain ⟨kl, hkl⟩ := key51 (p := (c, s)) (wf_ok hreq).1 (wf_of (by omega) (by omega))
            obtain ⟨bs, hbs⟩ := Option.isSome_iff_exists.1 s5
            obtain ⟨v, hrd, hlook⟩ := HT.out.ans.look_some law51 Try.underlying46 kk_inj hkl false hbs
            obtain ⟨A5, n5, c5, rfl, hr1, hr2, hr3, hr4, hr5⟩ := hrd
            have hblk : ∀ wx, Below w.heap.size w wx → wx.heap[lb]? = w.heap[lb]? := fun wx hx => hx.block lb HT.out.ans.lt
            have hbel := HS5.out.below
            have hn5 : n5 ≤ 10000 := by
              have h1 := Hs.out.ans _ _ hbs
              have h2 := hr5.len1
              omega
            obtain ⟨wi, hwi⟩ : ∃ wi, wr = wi := ⟨_, rfl⟩
            rw [hwi] at HS5 HI5 hbel hcell3 ⊢
            clear hwi
            have f1 : Kept NoBlk w wi.drew := (Kept.of_below hbel).drew
            have f2 : Kept NoBlk w (wi.alloc (.cells #[.int .i64 s] 3)).drew := ((Kept.of_below hbel).alloc _).drew
            have d1 : wi.cell? ⟨tb, 0 + 1, none⟩ = some (.map (some lb)) := (HT.out.kept (Kept.of_below hbel)).box.cell 1
            have tlt : tb < wi.heap.size := World.block_lt_of_cell? wi _ d1
            have q1 := hlook _ (f1.block lb HT.out.ans.lt (fun e => e.elim))
            have q2 := hlook _ (f2.block lb HT.out.ans.lt (fun e => e.elim))
            have Hl := Lib.hid hlook
            have Hsg := Lib.hid hsg
            have HB := Lib.hid hbs
            have HR5 := Lib.hid hr5
            have HF1 := Lib.hid f1
            have HF2 := Lib.hid f2
            have hxl : bsX.length ≤ 9000000000 := by
              rw [← Hbx.out]
              have h1 := Hbl.out
              have h2 := vints_length [c, t, (m : Int)]
              have h3 := flat_length (f := encOne L c) ((seqsOf W L T c).take j) (fun s _ => encOne_length Hs.out c s)
              have h4 : ((seqsOf W L T c).take j).length ≤ 4096 := by
                have := List.length_take_le j (seqsOf W L T c)
                omega
              have h5 := Nat.mul_le_mul_right 10020 h4
              simp only [List.length_append, List.length_cons, List.length_nil] at *
              omega
            unfold kk at q1 q2
            simp only [Bool.false_eq_true, if_false] at q1 q2
            clear hlook hr1 hr2 hr3 hr4 hr5 hblk hbel f1 f2 hbs hsg hkl s4 s5 Hbl
            go_upto_region 10 with fail
            go_region_with (first
              | (go_at_call 22; refine (numbersP_any w.heap.size g bsX _ 1 1 [s] _ ((HS5.out.kept (((Kept.refl NoBlk wi).alloc _).drew)).hwr) ((Ints.new wi [s] 1 rfl (by omega) _ rfl).kept ((Kept.refl NoBlk _).drew)) (by omega)).mono ?_; rintro e w5 ⟨rfl, h5, h6⟩; have g1 := Lib.hid ((HS5.out.kept (((Kept.refl NoBlk wi).alloc _).drew)).step h6 h5); have g2 := Lib.hid ((HS5.out.kept (((Kept.refl NoBlk wi).alloc _).drew)).other h6 (HI5.out.kept (((Kept.refl NoBlk wi).alloc _).drew))); have d3 : w5.cell? ⟨tb, 0 + 1, none⟩ = some (.map (some lb)) := (HT.out.kept (Kept.of_below g1.out.below)).box.cell 1; have q3 := Hl.out w5 (g1.out.below.block lb HT.out.ans.lt); unfold kk at q3; simp only [Bool.false_eq_true, if_false] at q3)
              | (go_at_call 23; refine (bytes_any w.heap.size g (bsX ++ vints [s]) bs A5 n5 c5 _ g1.out.hwr (HR5.out.below g1.out.below) (by rw [List.length_append]; have := vints_length [s]; simp at this; omega) (by omega)).mono ?_; rintro e w6 ⟨rfl, h7, h8⟩))
            all_goals
              go_wp2_with fail
              go_roundg (m - (j + 1))
              case measure => have := Hj.out; omega
              case rel =>
                have e : vints [W, (n : Int)] ++ ((sortK T).take k).flatMap (encClient W L T) ++ vints [c, t, (m : Int)] ++ ((seqsOf W L T c).take (j + 1)).flatMap (encOne L c) = (bsX ++ vints [s]) ++ (vint bs.length ++ bs) := by
                  rw [flat_snoc Hsg.out, ← List.append_assoc, Hbx.out]
                  unfold encOne
                  rw [HB.out]
                  simp
                exact ⟨j + 1, by omega, by go_num, by rw [e]; exact g1.out.step h8 h7, g1.out.other h8 g2.out⟩
          · have hjm : j = m := by have := Hj.out; omega
            subst hjm
            go_wp2_with fail
            go_roundg (n - (k + 1))
            case measure => have := Hgk.out; omega
            case rel =>
              have e : vints [W, (n : Int)] ++ ((sortK T).take (k + 1)).flatMap (encClient W L T) = bsX := by
                rw [← Hbx.out, flat_snoc Hc.out]
                have ej : (seqsOf W L T c).take j = seqsOf W L T c := List.take_of_length_le (by rw [Hm.out]; exact Nat.le_refl _)
                unfold encClient
                rw [Ht.out, Hm.out, ej]
                simp
              exact ⟨k + 1, by omega, by go_num, by rw [e]; exact HS5.out⟩
      · have hkn : k = n := by have := Hgk.out; omega
        have e : vints [W, (n : Int)] ++ ((sortK T).take k).flatMap (encClient W L T) = encOf W L T := by
          unfold encOf
          rw [Hn.out, List.take_of_length_le (by rw [sortK_length, Hn.out]; omega)]
        have hS := HSr.out
        rw [e] at hS
        have HS9 := Lib.hid hS
        have hel : (encOf W L T).length ≤ 140737488351232 := by
          unfold encOf
          rw [List.length_append]
          have h1 := vints_length [W, (T.length : Int)]
          have h2 := flat_length (f := encClient W L T) (sortK T) (fun c _ => encClient_length Hok.out Hs.out c)
          have h3 : (sortK T).length ≤ 200 := by rw [sortK_length, Hn.out]; omega
          have h4 := Nat.mul_le_mul_right 41041950 h3
          simp only [List.length_cons, List.length_nil] at h1
          omega
        clear e hS
        go_wp2_with (go_at_call 24; refine (done_any w.heap.size g _ _ HS9.out.hwr hel).mono ?_; rintro e w9 ⟨v9, rfl, h9, k9⟩)
        go_ret
        exact ⟨_, rfl, h9, (Kept.of_below HS9.out.below).trans k9⟩

#print axioms enc_any
end Go.Proofs.Ytgopebigmcbbkaa
