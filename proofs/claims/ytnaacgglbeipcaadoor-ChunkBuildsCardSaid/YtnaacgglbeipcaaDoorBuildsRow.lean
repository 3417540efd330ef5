/- ChunkBuilds returns true for every input, and the argument reads behind the call as it did. No condition beside the row's own; the card ties the listed variables. -/
import Derived.Test.YtnaacgglbeipcaaDoorBuilds
import Derived.Test.YtnaacgglbeipcaaDoorActsOpen
import Derived.Test.YtnaacgglbeipcaaDoorLaid
import Derived.Test.YtnaacgglbeipcaaDoorTie
import Derived.Test.YtnaacgglbeipcaaDoorCards
import Derived.SevenTiedAt
namespace Go.Proofs.YtnaacgglbeipcaaDoor
open Go.ChangeShapes Go.WideShapes Go.ChangeAt Go.RowKit

set_option maxRecDepth 100000 in
set_option maxHeartbeats 1000000 in
theorem builds_out (A : Option Addr) (n c : Nat) (xs : List ActC) (w : World) (h : ActsC w w.heap.size A n xs) (he : Env w) (hf : fewB xs = false) :
    Calls Tryd.prog 5 #[.slice A n c] w (TrueEnd w) := by
  have HA := Lib.hid h
  have Hf := Lib.hid hf
  have HE := Lib.hid he
  clear h hf he
  go_enter Tryd.func5, Tryd.ntmps5
  go_wp2_with fail
  refine (known_any HE.out).mono ?_
  rintro e w1 ⟨rfl, hk1⟩
  have HK1 := Lib.hid hk1
  clear hk1
  go_wp2_with fail
  refine (few_any _ A n c xs w1 (HA.out.kept HK1.out)).mono ?_
  rw [Hf.out]
  rintro e w1' ⟨rfl, rfl⟩
  go_wp2_with fail
  go_ret
  exact ⟨rfl, HK1.out⟩

theorem builds_any (A : Option Addr) (n c : Nat) (xs : List ActC) (w : World) (h : ActsC w w.heap.size A n xs) (he : Env w) : Calls Tryd.prog 5 #[.slice A n c] w (TrueEnd w) := by
  cases hf : fewB xs
  · exact builds_out A n c xs w h he hf
  · exact builds_main A n c xs w h he hf

set_option maxRecDepth 100000 in
theorem builds_lifted (os : Os) (started : os.Started) (H : Type) (enc : TypeId × Value → H) :
    ReturnsInHanded {} Tryd.checked os 5 .any (fun w args => (Rows.chunkBuildsSpec.pre enc Tryd.prog Tryd.f5 [] false w args ∧ laidMetH Tryd.prog laid4 w) ∧ sizedMet enc Tryd.prog Tryd.f5 (OpenSpec.ofChange Rows.chunkBuildsSpec) false w args)
      (Rows.chunkBuildsSpec.post enc Tryd.prog Tryd.f5 false true false false) := by
  refine returnsInHanded_of_change_and (C := Tryd.checked) (X := fun w _ => laidMetH Tryd.prog laid4 w) (fun _ _ _ hh h => h.of_heap hh) Tryd.own started (by kernel_rfl) Tryd.func5
    (ChangeSpec.witness_shaped (enc := enc) (C := Tryd.checked) (os := os) (X := fun w _ => laidMetH Tryd.prog laid4 w) false (World.doorLaid Tryd.prog 4000 os) #[.slice none 0 0] 8 rfl (World.shaped_of_RefB (by kernel_rfl) (by kernel_rfl)) (by kernel_rfl) (by kernel_rfl) (by kernel_rfl) (door_met os _)) ?_
  intro W base args ds gs before hval0 hW hcnd hsz hL _
  have hval : ∀ (j : Nat) t v, Tryd.f5.params[j]? = some t → args[j]? = some v → Value.okWide Tryd.prog W .any base t v := hval0
  have hW' := hW
  obtain ⟨p, q, hA0, hV, rfl, hfz, hnd⟩ := hW
  have hA : DataW.TrodAll enc Tryd.prog W 0 (fun _ => true) true Tryd.f5.params.toList args.toList ds p := hA0
  have hsz' : (DataW.weightsEach Tryd.prog (Tryd.f5.params.toList ++ Rows.chunkBuildsSpec.plain.varTypes Tryd.prog) (ds ++ gs)).all (· ≤ reachBytes) = true := hsz
  rw [Tryd.params5] at hA hval hsz'
  obtain ⟨v0, vs0, d0, ds0, p0, q0, hargs, rfl, rfl, h0, r0⟩ := trodAll_cons hA
  obtain ⟨rfl, rfl, rfl⟩ := trodAll_nil r0
  obtain rfl : args = #[v0] := by cases args; simp_all
  obtain ⟨rfl, rfl⟩ := trodVars_none hV
  have hl0 : Light Tryd.prog 47 d0 := light_of hsz' (j := 0) rfl rfl
  obtain ⟨A, n, c, rfl⟩ := okWide_slice Tryd.underlying47 (hval 0 47 v0 rfl rfl)
  have k0 := h0
  have lt0 : ∀ x ∈ p0, x.block < W.heap.size := by obtain ⟨m, hm⟩ := k0; exact DataW.trod_lt m _ _ _ hm
  obtain ⟨fuel, hf⟩ := h0
  obtain ⟨A', n', c', xs, e, hacts⟩ := open_actsC hf hl0
  injection e with e1 e2 e3
  subst e1
  subst e2
  subst e3
  have henv := env_of_laid hL
  clear hA0 hval0 hsz hsz'
  refine (builds_any A n c xs W hacts henv).mono fun e W' ⟨he, hk⟩ => ?_
  subst he
  have bel := hk.all
  exact ⟨_, rfl, _, _, _, [], _, [], hW', trodAll_mk1 (shut_bool Tryd.underlying4 _), trodAll_cons_mk (Below.trod Tryd.laidOut (by kernel_rfl) (of_decide_eq_true (by kernel_rfl)) k0 bel lt0) trodAll_mk0, rfl, bel.frame _, fun h => by cases h⟩

theorem builds_row : Rows.ChunkBuildsSaid :=
  OpenClaim.holds_of_wide 5 Tryd.f5 rfl rfl rfl rfl rfl rfl rfl ⟨rfl, rfl, rfl, rfl, rfl⟩ rfl rfl rfl rfl rfl (by kernel_rfl) Tryd.func5 (by kernel_rfl)
    (of_decide_eq_true (by kernel_rfl)) (by unfold Func.isWrapper; first | (rw [if_pos (by decide +kernel)]; kernel_rfl) | (rw [if_neg (by decide +kernel)]; exact ⟨rfl, rfl⟩))
    (fun os started H enc _ => builds_lifted os started H enc)

theorem builds_holds : Rows.ChunkBuildsCardSaid :=
  Claim7.holds_tied_plain_at .later [] [.data, .data, .data, .handle] true (true, "99bd4135038e7add48397154717f9d729791203aabe5f9446ad382c926b608b6") true
    builds_row (fun _ h => by cases h) (by kernel_rfl) (fun _ h => by cases h) chunkBuilds_row_tie rfl ⟨rfl, rfl⟩ (by kernel_rfl) rfl
    (fun f fn hf hfn => by
      obtain rfl : f = 5 := Option.some.inj ((show Tryd.prog.funcNamed "teasel/teasellaw10.ChunkBuilds" = some 5 by kernel_rfl).symm.trans hf) |>.symm
      obtain rfl : fn = Tryd.f5 := (Option.some.inj (Tryd.func5.symm.trans hfn)).symm
      exact ⟨by kernel_rfl, fun j t ht => by
        rw [Tryd.params5] at ht
        have h3 : t = 47 := by
          rcases j with _ | j
          · simpa using ht.symm
          · simp at ht
        subst h3
        exact (show Tryd.prog.wantsStandIn 47 = false by kernel_rfl)⟩)
    (by kernel_rfl)
#print axioms builds_holds
end Go.Proofs.YtnaacgglbeipcaaDoor
