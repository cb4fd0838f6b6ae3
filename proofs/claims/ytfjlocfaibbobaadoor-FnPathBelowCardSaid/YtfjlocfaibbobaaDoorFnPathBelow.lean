/- The law FnPathBelow: For every input the law returns true, and its arguments read as before. Conditions: none. -/
import Derived.Test.YtfjlocfaibbobaaDoorRows
import Derived.Test.YtfjlocfaibbobaaDoorBelow
import Derived.Test.YtfjlocfaibbobaaDoorOpen
import Derived.Test.YtfjlocfaibbobaaDoorWords
import Derived.Shelf.Vars
import Derived.Test.YtfjlocfaibbobaaDoorCards
import Derived.Test.YtfjlocfaibbobaaDoorTie
import Derived.Test.YtfjlocfaibbobaaDoorDoorKit
import Derived.ProofKit
import Derived.OpenShut
import Derived.LaidMore
import Derived.Lay
import Derived.SevenTiedAt
import Derived.Stop.Joined
open Go.RowKit Go.ChangeShapes Go.WideShapes Go.ChangeAt
open Go.ChangeMaps (open_string shut_string)
set_option linter.unusedVariables false
namespace Go.Proofs.YtfjlocfaibbobaaDoor
theorem own_knobFnPathBelow : ownKnob Tryd.prog.godebug = none := by kernel_rfl
theorem laid_outFnPathBelow : laidOutB Tryd.prog = true := by kernel_rfl

set_option maxHeartbeats 1000000 in
theorem walkFnPathBelow (A0 : Option Addr) (n0 c0 : Nat) (x0 : List Int) (w : World) (hL : laidMetH Tryd.prog Rows.fnPathBelowRow.laid w) (hS : w.ShapedOpen Tryd.prog) (r0 : Rd w 1 A0 n0 (byts x0)) (l0 : n0 ≤ c0) (w0 : ∀ x ∈ x0, (Lit.int .u8 x).wf = true) :
    Calls Tryd.prog 4 #[.slice A0 n0 c0] w fun e w' => e = .returned (.bool true) ∧ Below w.heap.size w w' := by
  obtain ⟨mm, hm⟩ := cell_of_shapedOpen_int (P := Tryd.prog) (g := 1) (t := 3) (zero := #[.int .i64 0]) (k := .i64) hS (of_decide_eq_true (by kernel_rfl)) (by kernel_rfl) rfl (by kernel_rfl) (by kernel_rfl) Tryd.underlying3
  by_cases hb : n0 ≤ 1048576
  · go_enter Tryd.func4, Tryd.ntmps4
    go_wp2_with fail
    refine (drawPathBelow _ _ _ x0 _ r0 l0 w0).mono ?_
    rintro e w1 ⟨a, b, rfl, ha9, hb9, hbel⟩
    have hm1 := (hbel.cell (p := ⟨1, 0, none⟩) (World.block_lt_of_cell? w _ hm)).trans hm
    go_wp2_with fail
    refine (implPathBelow a b mm _ (by omega) (by omega) hm1).mono ?_
    rintro e w2 ⟨rfl, hb2⟩
    go_wp2_with fail
    refine (specPathBelow a b _ (by omega) (by omega)).mono ?_
    rintro e w3 ⟨rfl, hb3⟩
    have hB3 := below_step hb2 hb3
    have hm3 := (hB3.cell (p := ⟨1, 0, none⟩) (World.block_lt_of_cell? w1 _ hm1)).trans hm1
    have HB := Lib.hid (fun (h1 : belowP a b = true) (h2 : belowP b a = true) => belowP_both h1 h2)
    generalize hab : belowP a b = ab at *
    have HAB := Lib.hid hab
    clear hab
    go_wp2_with fail
    refine (implPathParts a mm _ (by omega) hm3).mono ?_
    rintro e w4 ⟨v4, rfl, hown4, hb4⟩
    have hB4 := below_step hB3 hb4
    have hm4 := (hB4.cell (p := ⟨1, 0, none⟩) (World.block_lt_of_cell? w1 _ hm1)).trans hm1
    have HP := Lib.hid (belowP_self a)
    have HR := Lib.hid (belowP_root a)
    clear hown4
    generalize (partsP a).2 = pa at *
    clear hm3 hm1 hm hb2 hb3 hb4
    have hB1 := below_step hbel hB4
    clear hB4 hB3 hbel
    cases pa
    all_goals
      go_wp2_with fail
      refine (implPathBelow a a mm _ (by omega) (by omega) hm4).mono ?_
      rintro e w5 ⟨rfl, hb5⟩
      rw [HP.out]
      have hm5 := (hb5.cell (p := ⟨1, 0, none⟩) (World.block_lt_of_cell? w4 _ hm4)).trans hm4
      have hB5 := below_step hB1 hb5
      clear hb5 hB1 hm4
      go_wp2_with fail
      have q6 := implPathBelow a (⟨#[47]⟩ : ByteArray) mm w5 (by omega) (by decide) hm5
      refine q6.mono ?_
      rintro e w6 ⟨rfl, hb6⟩
      rw [show belowP a (⟨#[47]⟩ : ByteArray) = belowP a slash from rfl, HR.out]
      have hm6 := (hb6.cell (p := ⟨1, 0, none⟩) (World.block_lt_of_cell? w5 _ hm5)).trans hm5
      have hB6 := below_step hB5 hb6
      clear hb6 hB5 hm5
      cases ab
      · go_wp2_with (go_at_call 19; refine (alive _).mono ?_; rintro e w' ⟨rfl, rfl⟩)
        go_ret
        exact ⟨rfl, hB6⟩
      · go_wp2_with fail
        refine (implPathBelow b a mm _ (by omega) (by omega) hm6).mono ?_
        rintro e w7 ⟨rfl, hb7⟩
        have hB7 := below_step hB6 hb7
        clear hb7 hB6 hm6
        generalize hba : belowP b a = ba at *
        cases ba
        · clear hba
          go_wp2_with (go_at_call 19; refine (alive _).mono ?_; rintro e w' ⟨rfl, rfl⟩)
          go_ret
          exact ⟨rfl, hB7⟩
        · have hab2 : a = b := HB.out (by trivial) (by trivial)
          subst hab2
          clear hba
          have hss : (a.toList == a.toList) = true := by simp
          go_wp2_with (go_at_call 19; refine (alive _).mono ?_; rintro e w' ⟨rfl, rfl⟩)
          go_ret
          exact ⟨rfl, hB7⟩
  · go_enter Tryd.func4, Tryd.ntmps4
    go_wp2
    go_ret
    exact ⟨rfl, Below.refl _ _⟩

section
set_option maxRecDepth 100000 in
theorem liftedFnPathBelow (os : Os) (started : os.Started) (H : Type) (enc : TypeId × Value → H) :
    ReturnsInHanded {} Tryd.checked os 4 .any (fun w args => (Rows.fnPathBelowSpec.pre enc Tryd.prog Tryd.f4 Rows.fnPathBelowRow.domain false w args ∧ laidMetH Tryd.prog Rows.fnPathBelowRow.laid w) ∧ sizedMet enc Tryd.prog Tryd.f4 (OpenSpec.ofChange Rows.fnPathBelowSpec) false w args) (Rows.fnPathBelowSpec.post enc Tryd.prog Tryd.f4 false true false false) := by
  refine returnsInHanded_and_shaped (C := Tryd.checked) (X := fun w _ => laidMetH Tryd.prog Rows.fnPathBelowRow.laid w) (fun _ _ _ hh h => h.of_heap hh) own_knobFnPathBelow started (by kernel_rfl) Tryd.func4
    (ChangeSpec.witness_shaped (enc := enc) (C := Tryd.checked) (os := os) (X := fun w _ => laidMetH Tryd.prog Rows.fnPathBelowRow.laid w) false (World.laidAll Tryd.prog os Rows.fnPathBelowRow.laid) #[.slice none 0 0] 8 (World.laidAll_os _ _ _)
      (World.shaped_of_ZipB (by kernel_rfl) (by kernel_rfl)) (by kernel_rfl) (by kernel_rfl) (by kernel_rfl)
      (by rw [MakeChecks.laidMetH_plain _ _ _ (by kernel_rfl)]; exact laidMet_laidAll _ (by kernel_rfl) (by kernel_rfl))) ?_
  intro W base args ds gs before hval0 hW hcnd _ hL hS _
  have hval : ∀ (j : Nat) t v, Tryd.f4.params[j]? = some t → args[j]? = some v → Value.okWide Tryd.prog W .any base t v := hval0
  have hW' := hW
  obtain ⟨p, q, hA0, hV, rfl, hfz, hnd⟩ := hW
  have hA : DataW.TrodAll enc Tryd.prog W 0 (fun _ => true) true Tryd.f4.params.toList args.toList ds p := hA0
  rw [Tryd.params4] at hA hval
  obtain ⟨v0, vs0, d0, ds0, p0, q0, hargs, rfl, rfl, h0, t0⟩ := trodAll_cons hA
  obtain ⟨rfl, rfl, rfl⟩ := trodAll_nil t0
  obtain rfl : args = #[v0] := by cases args; simp_all
  obtain ⟨rfl, rfl⟩ := trodVars_none hV
  obtain ⟨A0, n0, c0, rfl⟩ := okWide_slice Tryd.underlying23 (hval 0 23 v0 rfl rfl)
  have lt0 : ∀ x ∈ p0, x.block < W.heap.size := by obtain ⟨m, hm⟩ := h0; exact DataW.trod_lt m _ _ _ hm
  obtain ⟨l0, _, x0, r0, w0⟩ := open_rd_num Tryd.underlying23 Tryd.underlying5 (by kernel_rfl) h0
  clear hA0 hval0
  refine (walkFnPathBelow A0 n0 c0 x0 W hL hS r0 l0 w0).mono fun e W' ⟨he, bel⟩ => ?_
  subst he
  exact ⟨_, rfl, _, _, _, [], _, [], hW', trodAll_mk1 (shut_bool Tryd.underlying4 _), (trodAll_cons_mk (Below.trod laid_outFnPathBelow (by kernel_rfl) (of_decide_eq_true (by kernel_rfl)) h0 bel lt0) trodAll_mk0), rfl, bel.frame _, fun h => by cases h⟩

theorem overFnPathBelow : Rows.fnPathBelowRow.holds Tryd.pinned (OpenSpec.ofChange Rows.fnPathBelowSpec) :=
  OpenClaim.holds_of_wide 4 Tryd.f4 rfl rfl rfl rfl rfl rfl rfl ⟨rfl, rfl, rfl, rfl, rfl⟩ rfl rfl rfl rfl rfl (by kernel_rfl) Tryd.func4 (by kernel_rfl)
    (of_decide_eq_true (by kernel_rfl)) (by unfold Func.isWrapper; first | (rw [if_pos (by decide +kernel)]; kernel_rfl) | (rw [if_neg (by decide +kernel)]; exact ⟨rfl, rfl⟩))
    (fun os started H enc _ => liftedFnPathBelow os started H enc)

theorem provedFnPathBelow : Rows.FnPathBelowCardSaid :=
  Claim7.holds_tied_plain_at .later [] [.data, .pinned] true Rows.fnPathBelowCard.stood.harness false overFnPathBelow (fun _ h => by cases h) (by kernel_rfl) (fun _ h => by cases h) fnPathBelow_row_tie rfl ⟨rfl, rfl⟩ (by kernel_rfl) rfl
    (fun f fn hf hfn => by
      obtain rfl : f = 4 := Option.some.inj ((show Tryd.prog.funcNamed Rows.fnPathBelowRow.func = some 4 by kernel_rfl).symm.trans hf) |>.symm
      obtain rfl : fn = Tryd.f4 := (Option.some.inj (Tryd.func4.symm.trans hfn)).symm
      exact ⟨by kernel_rfl, fun j t ht => by
        rw [Tryd.params4] at ht
        have hm : t ∈ [23] := by simpa using Array.mem_of_getElem? ht
        have hall : ([23].all fun u => !Tryd.prog.wantsStandIn u) = true := by kernel_rfl
        exact (show Tryd.prog.wantsStandIn t = false by simpa using List.all_eq_true.1 hall t hm)⟩)
    (by kernel_rfl)
end
end Go.Proofs.YtfjlocfaibbobaaDoor
