/- The law FnExactReadFolder: For every input the law returns true, and its arguments read as before. Conditions: none. -/
import Derived.Test.YtfjlocfaibbobaaDoorRows
import Derived.Test.YtfjlocfaibbobaaDoorReadFi
import Derived.Test.YtfjlocfaibbobaaDoorEnts
import Derived.Test.YtfjlocfaibbobaaDoorMarkE
import Derived.Test.YtfjlocfaibbobaaDoorTabK
import Derived.Test.YtfjlocfaibbobaaDoorOwn
import Derived.Test.YtfjlocfaibbobaaDoorOpen
import Derived.Shelf.Vars
import Derived.Test.YtfjlocfaibbobaaDoorCards
import Derived.Test.YtfjlocfaibbobaaDoorTie
import Derived.Test.YtfjlocfaibbobaaDoorDoorKit
import Derived.ProofKit
import Derived.OpenShut
import Derived.LaidMore
import Derived.Lay
import Derived.SevenTiedAt
import Derived.Stop.Joined
open Go.RowKit Go.ChangeShapes Go.WideShapes Go.ChangeAt
open Go.ChangeMaps (open_string shut_string)
set_option linter.unusedVariables false
namespace Go.Proofs.YtfjlocfaibbobaaDoor
theorem own_knobFnExactReadFolder : ownKnob Tryd.prog.godebug = none := by kernel_rfl
theorem laid_outFnExactReadFolder : laidOutB Tryd.prog = true := by kernel_rfl

set_option maxHeartbeats 4000000 in
theorem walkFnExactReadFolder (a0 : ByteArray) (w : World) (hL : laidMetH Tryd.prog Rows.fnExactReadFolderRow.laid w) (hS : w.ShapedOpen Tryd.prog) (w0 : a0.size ≤ maxLen) :
    Calls Tryd.prog 12 #[.string a0] w fun e w' => e = .returned (.bool true) ∧ Below w.heap.size w w' := by
  have hcell := tab_cell hL (by kernel_rfl) (List.Mem.tail _ (List.Mem.head _))
  obtain ⟨mm, hm⟩ := cell_of_shapedOpen_int (P := Tryd.prog) (g := 1) (t := 3) (zero := #[.int .i64 0]) (k := .i64) hS (of_decide_eq_true (by kernel_rfl)) (by kernel_rfl) rfl (by kernel_rfl) (by kernel_rfl) Tryd.underlying3
  by_cases hb : a0.size ≤ 1048576
  · go_enter Tryd.func12, Tryd.ntmps12
    go_wp2_with fail
    refine (specReadFolder a0 _ hb).mono ?_
    rintro e u1 ⟨v1, ys, ok, rfl, hR, ho1, hb1⟩
    have sz2 := (hb1).size
    have hB2 := hb1
    obtain ⟨A1, c1, rfl, _⟩ := own_slice ho1
    have hl3 := hR.len
    cases ok
    all_goals
      go_wp2_with fail
      refine (implReadFolder a0 mm _ hb ((hB2.cell (p := ⟨1, 0, none⟩) (World.block_lt_of_cell? w _ hm)).trans hm) ((hB2.cell (p := ⟨5, 15, none⟩) (World.block_lt_of_cell? w _ hcell)).trans hcell)).mono ?_
      rintro e u3 ⟨v3, ys3, ok3, rfl, hR3, ho3, hb3⟩
      obtain ⟨hy3, hk3⟩ := hR3.same hR
      subst hy3 hk3
      have sz4 := (hb3).size
      have hB4 := below_step hB2 hb3
      have own1_4 := own_below ho1 hb3
      obtain ⟨A3, c3, rfl, _⟩ := own_slice ho3
      go_wp2_with fail
      refine (eqEntryS _ _ _ _ _ _ _ _ _ (Rd.own ho3) (Rd.own own1_4) (by omega)).mono ?_
      rintro e u5 ⟨rfl, hb5⟩
      rw [decide_eq_true rfl]
      have sz6 := (hb5).size
      have hB6 := below_step hB4 hb5
      have own1_6 := own_below own1_4 hb5
      have own3_6 := own_below ho3 hb5
      go_wp2_with fail
      refine (markEntryS _ _ _ 1 _ _ own3_6 (by omega) (by omega)).mono ?_
      rintro e u7 ⟨rfl, hm7, hg7⟩
      have sz7 := hg7.size
      have hB7 := Below.grown hB6 hg7 hB6.size (fun k e => by have := (ho3.lt k e).1; omega)
      have own1_7 := own1_6.kept hg7 (own_ne ho1 ho3 (by omega))
      go_wp2_with fail
      refine (heldEntryS _ _ _ 1 _ (Rd.own hm7) (by omega) (by omega)).mono ?_
      rintro e u8 ⟨rfl, hb8⟩
      have sz9 := (hb8).size
      have hB9 := below_step hB7 hb8
      have own1_9 := own_below own1_7 hb8
      have own3_9 := own_below hm7 hb8
      go_wp2_with fail
      refine (implReadFolder a0 mm _ hb ((hB9.cell (p := ⟨1, 0, none⟩) (World.block_lt_of_cell? w _ hm)).trans hm) ((hB9.cell (p := ⟨5, 15, none⟩) (World.block_lt_of_cell? w _ hcell)).trans hcell)).mono ?_
      rintro e u10 ⟨v10, ys10, ok10, rfl, hR10, ho10, hb10⟩
      obtain ⟨hy10, hk10⟩ := hR10.same hR
      subst hy10 hk10
      have sz11 := (hb10).size
      have hB11 := below_step hB9 hb10
      have own1_11 := own_below own1_9 hb10
      have own3_11 := own_below own3_9 hb10
      obtain ⟨A10, c10, rfl, _⟩ := own_slice ho10
      go_wp2_with fail
      refine (eqEntryS _ _ _ _ _ _ _ _ _ (Rd.own ho10) (Rd.own own1_11) (by omega)).mono ?_
      rintro e u12 ⟨rfl, hb12⟩
      rw [decide_eq_true rfl]
      have sz13 := (hb12).size
      have hB13 := below_step hB11 hb12
      have own1_13 := own_below own1_11 hb12
      have own3_13 := own_below own3_11 hb12
      have own10_13 := own_below ho10 hb12
      go_wp2_with fail
      refine (heldEntryS _ _ _ 1 _ (Rd.own own3_13) (by omega) (by omega)).mono ?_
      rintro e u14 ⟨rfl, hb14⟩
      have sz15 := (hb14).size
      have hB15 := below_step hB13 hb14
      have own1_15 := own_below own1_13 hb14
      have own3_15 := own_below own3_13 hb14
      have own10_15 := own_below own10_13 hb14
      go_wp2_with fail
      go_ret
      exact ⟨rfl, hB15⟩
  · go_enter Tryd.func12, Tryd.ntmps12
    go_wp2
    go_ret
    exact ⟨rfl, Below.refl _ _⟩

section
set_option maxRecDepth 100000 in
theorem liftedFnExactReadFolder (os : Os) (started : os.Started) (H : Type) (enc : TypeId × Value → H) :
    ReturnsInHanded {} Tryd.checked os 12 .any (fun w args => (Rows.fnExactReadFolderSpec.pre enc Tryd.prog Tryd.f12 Rows.fnExactReadFolderRow.domain false w args ∧ laidMetH Tryd.prog Rows.fnExactReadFolderRow.laid w) ∧ sizedMet enc Tryd.prog Tryd.f12 (OpenSpec.ofChange Rows.fnExactReadFolderSpec) false w args) (Rows.fnExactReadFolderSpec.post enc Tryd.prog Tryd.f12 false true false false) := by
  refine returnsInHanded_and_shaped (C := Tryd.checked) (X := fun w _ => laidMetH Tryd.prog Rows.fnExactReadFolderRow.laid w) (fun _ _ _ hh h => h.of_heap hh) own_knobFnExactReadFolder started (by kernel_rfl) Tryd.func12
    (ChangeSpec.witness_shaped (enc := enc) (C := Tryd.checked) (os := os) (X := fun w _ => laidMetH Tryd.prog Rows.fnExactReadFolderRow.laid w) false (World.laidAll Tryd.prog os Rows.fnExactReadFolderRow.laid) #[.string ByteArray.empty] 8 (World.laidAll_os _ _ _)
      (World.shaped_of_ZipB (by kernel_rfl) (by kernel_rfl)) (by kernel_rfl) (by kernel_rfl) (by kernel_rfl)
      (by rw [MakeChecks.laidMetH_plain _ _ _ (by kernel_rfl)]; exact laidMet_laidAll _ (by kernel_rfl) (by kernel_rfl))) ?_
  intro W base args ds gs before hval0 hW hcnd _ hL hS _
  have hval : ∀ (j : Nat) t v, Tryd.f12.params[j]? = some t → args[j]? = some v → Value.okWide Tryd.prog W .any base t v := hval0
  have hW' := hW
  obtain ⟨p, q, hA0, hV, rfl, hfz, hnd⟩ := hW
  have hA : DataW.TrodAll enc Tryd.prog W 0 (fun _ => true) true Tryd.f12.params.toList args.toList ds p := hA0
  rw [Tryd.params12] at hA hval
  obtain ⟨v0, vs0, d0, ds0, p0, q0, hargs, rfl, rfl, h0, t0⟩ := trodAll_cons hA
  obtain ⟨rfl, rfl, rfl⟩ := trodAll_nil t0
  obtain rfl : args = #[v0] := by cases args; simp_all
  obtain ⟨rfl, rfl⟩ := trodVars_none hV
  obtain ⟨a0, rfl, rfl, rfl, w0⟩ := open_string Tryd.underlying9 (hval 0 9 v0 rfl rfl) h0
  clear hA0 hval0
  refine (walkFnExactReadFolder a0 W hL hS w0).mono fun e W' ⟨he, bel⟩ => ?_
  subst he
  exact ⟨_, rfl, _, _, _, [], _, [], hW', trodAll_mk1 (shut_bool Tryd.underlying4 _), (trodAll_cons_mk (shut_string Tryd.underlying9 w0) trodAll_mk0), rfl, bel.frame _, fun h => by cases h⟩

theorem overFnExactReadFolder : Rows.fnExactReadFolderRow.holds Tryd.pinned (OpenSpec.ofChange Rows.fnExactReadFolderSpec) :=
  OpenClaim.holds_of_wide 12 Tryd.f12 rfl rfl rfl rfl rfl rfl rfl ⟨rfl, rfl, rfl, rfl, rfl⟩ rfl rfl rfl rfl rfl (by kernel_rfl) Tryd.func12 (by kernel_rfl)
    (of_decide_eq_true (by kernel_rfl)) (by unfold Func.isWrapper; first | (rw [if_pos (by decide +kernel)]; kernel_rfl) | (rw [if_neg (by decide +kernel)]; exact ⟨rfl, rfl⟩))
    (fun os started H enc _ => liftedFnExactReadFolder os started H enc)

theorem provedFnExactReadFolder : Rows.FnExactReadFolderCardSaid :=
  Claim7.holds_tied_plain_at .later [] [.data, .data, .data] true Rows.fnExactReadFolderCard.stood.harness false overFnExactReadFolder (fun _ h => by cases h) (by kernel_rfl) (fun _ h => by cases h) fnExactReadFolder_row_tie rfl ⟨rfl, rfl⟩ (by kernel_rfl) rfl
    (fun f fn hf hfn => by
      obtain rfl : f = 12 := Option.some.inj ((show Tryd.prog.funcNamed Rows.fnExactReadFolderRow.func = some 12 by kernel_rfl).symm.trans hf) |>.symm
      obtain rfl : fn = Tryd.f12 := (Option.some.inj (Tryd.func12.symm.trans hfn)).symm
      exact ⟨by kernel_rfl, fun j t ht => by
        rw [Tryd.params12] at ht
        have hm : t ∈ [9] := by simpa using Array.mem_of_getElem? ht
        have hall : ([9].all fun u => !Tryd.prog.wantsStandIn u) = true := by kernel_rfl
        exact (show Tryd.prog.wantsStandIn t = false by simpa using List.all_eq_true.1 hall t hm)⟩)
    (by kernel_rfl)
end
end Go.Proofs.YtfjlocfaibbobaaDoor
