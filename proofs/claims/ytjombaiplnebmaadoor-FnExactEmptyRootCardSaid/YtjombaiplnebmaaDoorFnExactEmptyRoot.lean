/- The law FnExactEmptyRoot: For every input the law returns true, and its arguments read as before. Conditions: none. -/
import Derived.Test.YtjombaiplnebmaaDoorRows
import Derived.Test.YtjombaiplnebmaaDoorEmpty
import Derived.Test.YtjombaiplnebmaaDoorToPB
import Derived.Test.YtjombaiplnebmaaDoorPcs
import Derived.Test.YtjombaiplnebmaaDoorMarkP
import Derived.Test.YtjombaiplnebmaaDoorTabK
import Derived.Test.YtjombaiplnebmaaDoorOwn
import Derived.Test.YtjombaiplnebmaaDoorOpen
import Derived.Test.YtjombaiplnebmaaDoorCards
import Derived.Test.YtjombaiplnebmaaDoorTie
import Derived.Test.YtjombaiplnebmaaDoorDoorKit
import Derived.ProofKit
import Derived.OpenShut
import Derived.LaidMore
import Derived.Lay
import Derived.SevenTiedAt
import Derived.Stop.Joined
open Go.RowKit Go.ChangeShapes Go.WideShapes Go.ChangeAt
open Go.ChangeMaps (open_string shut_string)
set_option linter.unusedVariables false
namespace Go.Proofs.YtjombaiplnebmaaDoor
theorem own_knobFnExactEmptyRoot : ownKnob Tryd.prog.godebug = none := by kernel_rfl
theorem laid_outFnExactEmptyRoot : laidOutB Tryd.prog = true := by kernel_rfl

set_option maxHeartbeats 4000000 in
theorem walkFnExactEmptyRoot (A0 : Option Addr) (n0 c0 : Nat) (x0 : List (Int × ByteArray)) (w : World) (hL : laidMetH Tryd.prog Rows.fnExactEmptyRootRow.laid w) (hS : w.ShapedOpen Tryd.prog) (r0 : Rd w 2 A0 n0 (pcs x0)) (l0 : n0 ≤ c0) (w0 : ∀ p ∈ x0, (Lit.int .i64 p.1).wf = true ∧ p.2.size ≤ maxLen) (m0 : n0 ≤ maxLen) :
    Calls Tryd.prog 4 #[.slice A0 n0 c0] w fun e w' => e = .returned (.bool true) ∧ Below w.heap.size w w' := by
  have hcell := tab_cell hL (by kernel_rfl) (List.Mem.tail _ (List.Mem.head _))
  have hs : ∀ x ∈ x0, x.2.size ≤ maxLen := fun x hx => (w0 x hx).2
  have HX := Lib.hid hs
  clear hs w0
  have hyl := putT_len (xs := x0) (s := folderT [])
  rw [r0.pcLen] at hyl
  have HY : ∃ ys pr bb, Hid (putT x0 (folderT []) = (ys, pr, bb)) := ⟨_, _, _, Lib.hid rfl⟩
  obtain ⟨ys, pr, bb, HY⟩ := HY
  rw [HY.out] at hyl
  dsimp only at hyl
  · go_enter Tryd.func4, Tryd.ntmps4
    go_wp2_with fail
    refine (szPieceS _ _ _ _ x0 _ r0 HX.out m0 (by omega)).mono ?_
    rintro e u0 ⟨⟨l, rfl, hl, hl1⟩, hb0⟩
    by_cases hneg : l < 0
    · go_wp2_with fail
      go_ret
      exact ⟨rfl, hb0⟩
    have htot := hl (by omega)
    have hn : n0 ≤ 1048576 := by omega
    clear hl htot
    have sz0 := hb0.size
    cases bb
    all_goals
      go_wp2_with fail
      refine (toPieceB _ _ _ x0 _ (r0.below hb0) (by omega)).mono ?_
      rintro e u1 ⟨v1, rfl, ho1, hb1, hk1⟩
      have sz2 := (hb1).size
      have hB2 := below_step hb0 hb1
      obtain ⟨A1, c1, rfl, _⟩ := own_slice ho1
      go_wp2_with fail
      refine (specEmptyRoot _ _ _ x0 _ ho1 hk1 HX.out (by omega)).mono ?_
      rintro e u3 ⟨v3, rfl, ho3, hb3, _⟩
      have sz4 := (hb3).size
      have hB4 := below_step hB2 hb3
      have own1_4 := own_below ho1 hb3
      rw [HY.out] at ho3 ⊢
      dsimp only at ho3 ⊢
      obtain ⟨A3, c3, rfl, _⟩ := own_slice ho3
      go_wp2_with fail
      refine (toPieceS _ _ _ x0 _ (r0.below hB4) (by omega)).mono ?_
      rintro e u5 ⟨v5, rfl, ho5, hb5⟩
      have sz6 := (hb5).size
      have hB6 := below_step hB4 hb5
      have own3_6 := own_below ho3 hb5
      obtain ⟨A5, c5, rfl, _⟩ := own_slice ho5
      go_wp2_with fail
      refine (implEmptyRoot _ _ _ x0 _ (Rd.own ho5) HX.out ((hB6.cell (p := ⟨5, 15, none⟩) (World.block_lt_of_cell? w _ hcell)).trans hcell) (by omega)).mono ?_
      rintro e u7 ⟨v7, rfl, ho7, hb7⟩
      have sz8 := (hb7).size
      have hB8 := below_step hB6 hb7
      have own3_8 := own_below own3_6 hb7
      have own5_8 := own_below ho5 hb7
      rw [HY.out] at ho7 ⊢
      dsimp only at ho7 ⊢
      obtain ⟨A7, c7, rfl, _⟩ := own_slice ho7
      go_wp2_with fail
      refine (eqPieceS _ _ _ _ _ _ ys ys _ (Rd.own ho7) (Rd.own own3_8) (by omega)).mono ?_
      rintro e u9 ⟨rfl, hb9⟩
      rw [decide_eq_true rfl]
      have sz10 := (hb9).size
      have hB10 := below_step hB8 hb9
      have own3_10 := own_below own3_8 hb9
      have own5_10 := own_below own5_8 hb9
      have own7_10 := own_below ho7 hb9
      go_wp2_with fail
      refine (toPieceS _ _ _ x0 _ (r0.below hB10) (by omega)).mono ?_
      rintro e u11 ⟨v11, rfl, ho11, hb11⟩
      have sz12 := (hb11).size
      have hB12 := below_step hB10 hb11
      have own3_12 := own_below own3_10 hb11
      have own5_12 := own_below own5_10 hb11
      have own7_12 := own_below own7_10 hb11
      obtain ⟨A11, c11, rfl, _⟩ := own_slice ho11
      go_wp2_with fail
      refine (eqPieceS _ _ _ _ _ _ x0 x0 _ (Rd.own own5_12) (Rd.own ho11) (by omega)).mono ?_
      rintro e u13 ⟨rfl, hb13⟩
      rw [decide_eq_true rfl]
      have sz14 := (hb13).size
      have hB14 := below_step hB12 hb13
      have own3_14 := own_below own3_12 hb13
      have own5_14 := own_below own5_12 hb13
      have own7_14 := own_below own7_12 hb13
      have own11_14 := own_below ho11 hb13
      go_wp2_with fail
      refine (markPieceS _ _ _ 1 _ _ own5_14 (by omega) (by omega)).mono ?_
      rintro e u15 ⟨rfl, hm15, hg15⟩
      have sz15 := hg15.size
      have hB15 := Below.grown hB14 hg15 hB14.size (fun k e => by have := (ho5.lt k e).1; omega)
      have own3_15 := own3_14.kept hg15 (own_ne ho3 ho5 (by omega))
      have own7_15 := own7_14.kept hg15 (own_ne_symm (own_ne ho5 ho7 (by omega)))
      go_wp2_with fail
      refine (eqPieceS _ _ _ _ _ _ ys ys _ (Rd.own own7_15) (Rd.own own3_15) (by omega)).mono ?_
      rintro e u16 ⟨rfl, hb16⟩
      rw [decide_eq_true rfl]
      have sz17 := (hb16).size
      have hB17 := below_step hB15 hb16
      have own3_17 := own_below own3_15 hb16
      have own5_17 := own_below hm15 hb16
      have own7_17 := own_below own7_15 hb16
      go_wp2_with fail
      refine (markPieceS _ _ _ 1 _ _ own7_17 (by omega) (by omega)).mono ?_
      rintro e u18 ⟨rfl, hm18, hg18⟩
      have sz18 := hg18.size
      have hB18 := Below.grown hB17 hg18 hB17.size (fun k e => by have := (ho7.lt k e).1; omega)
      have own3_18 := own3_17.kept hg18 (own_ne ho3 ho7 (by omega))
      go_wp2_with fail
      refine (heldPieceS _ _ _ 1 _ (Rd.own hm18) (by omega) (by omega)).mono ?_
      rintro e u19 ⟨rfl, hb19⟩
      have sz20 := (hb19).size
      have hB20 := below_step hB18 hb19
      have own3_20 := own_below own3_18 hb19
      have own7_20 := own_below hm18 hb19
      go_wp2_with fail
      refine (toPieceS _ _ _ x0 _ (r0.below hB20) (by omega)).mono ?_
      rintro e u21 ⟨v21, rfl, ho21, hb21⟩
      have sz22 := (hb21).size
      have hB22 := below_step hB20 hb21
      have own3_22 := own_below own3_20 hb21
      have own7_22 := own_below own7_20 hb21
      obtain ⟨A21, c21, rfl, _⟩ := own_slice ho21
      go_wp2_with fail
      refine (implEmptyRoot _ _ _ x0 _ (Rd.own ho21) HX.out ((hB22.cell (p := ⟨5, 15, none⟩) (World.block_lt_of_cell? w _ hcell)).trans hcell) (by omega)).mono ?_
      rintro e u23 ⟨v23, rfl, ho23, hb23⟩
      have sz24 := (hb23).size
      have hB24 := below_step hB22 hb23
      have own3_24 := own_below own3_22 hb23
      have own7_24 := own_below own7_22 hb23
      have own21_24 := own_below ho21 hb23
      rw [HY.out] at ho23 ⊢
      dsimp only at ho23 ⊢
      obtain ⟨A23, c23, rfl, _⟩ := own_slice ho23
      go_wp2_with fail
      refine (eqPieceS _ _ _ _ _ _ ys ys _ (Rd.own ho23) (Rd.own own3_24) (by omega)).mono ?_
      rintro e u25 ⟨rfl, hb25⟩
      rw [decide_eq_true rfl]
      have sz26 := (hb25).size
      have hB26 := below_step hB24 hb25
      have own3_26 := own_below own3_24 hb25
      have own7_26 := own_below own7_24 hb25
      have own21_26 := own_below own21_24 hb25
      have own23_26 := own_below ho23 hb25
      go_wp2_with fail
      refine (heldPieceS _ _ _ 1 _ (Rd.own own7_26) (by omega) (by omega)).mono ?_
      rintro e u27 ⟨rfl, hb27⟩
      have sz28 := (hb27).size
      have hB28 := below_step hB26 hb27
      have own3_28 := own_below own3_26 hb27
      have own7_28 := own_below own7_26 hb27
      have own21_28 := own_below own21_26 hb27
      have own23_28 := own_below own23_26 hb27
      go_wp2_with fail
      go_ret
      exact ⟨rfl, hB28⟩

section
set_option maxRecDepth 100000 in
theorem liftedFnExactEmptyRoot (os : Os) (started : os.Started) (H : Type) (enc : TypeId × Value → H) :
    ReturnsInHanded {} Tryd.checked os 4 .any (fun w args => (Rows.fnExactEmptyRootSpec.pre enc Tryd.prog Tryd.f4 Rows.fnExactEmptyRootRow.domain false w args ∧ laidMetH Tryd.prog Rows.fnExactEmptyRootRow.laid w) ∧ sizedMet enc Tryd.prog Tryd.f4 (OpenSpec.ofChange Rows.fnExactEmptyRootSpec) false w args) (Rows.fnExactEmptyRootSpec.post enc Tryd.prog Tryd.f4 false true false false) := by
  refine returnsInHanded_and_shaped (C := Tryd.checked) (X := fun w _ => laidMetH Tryd.prog Rows.fnExactEmptyRootRow.laid w) (fun _ _ _ hh h => h.of_heap hh) own_knobFnExactEmptyRoot started (by kernel_rfl) Tryd.func4
    (ChangeSpec.witness_shaped (enc := enc) (C := Tryd.checked) (os := os) (X := fun w _ => laidMetH Tryd.prog Rows.fnExactEmptyRootRow.laid w) false (World.laidAll Tryd.prog os Rows.fnExactEmptyRootRow.laid) #[.slice none 0 0] 8 (World.laidAll_os _ _ _)
      (World.shaped_of_ZipB (by kernel_rfl) (by kernel_rfl)) (by kernel_rfl) (by kernel_rfl) (by kernel_rfl)
      (by rw [MakeChecks.laidMetH_plain _ _ _ (by kernel_rfl)]; exact laidMet_laidAll _ (by kernel_rfl) (by kernel_rfl))) ?_
  intro W base args ds gs before hval0 hW hcnd _ hL hS _
  have hval : ∀ (j : Nat) t v, Tryd.f4.params[j]? = some t → args[j]? = some v → Value.okWide Tryd.prog W .any base t v := hval0
  have hW' := hW
  obtain ⟨p, q, hA0, hV, rfl, hfz, hnd⟩ := hW
  have hA : DataW.TrodAll enc Tryd.prog W 0 (fun _ => true) true Tryd.f4.params.toList args.toList ds p := hA0
  rw [Tryd.params4] at hA hval
  obtain ⟨v0, vs0, d0, ds0, p0, q0, hargs, rfl, rfl, h0, t0⟩ := trodAll_cons hA
  obtain ⟨rfl, rfl, rfl⟩ := trodAll_nil t0
  obtain rfl : args = #[v0] := by cases args; simp_all
  obtain ⟨rfl, rfl⟩ := trodVars_none hV
  obtain ⟨A0, n0, c0, rfl⟩ := okWide_slice Tryd.underlying32 (hval 0 32 v0 rfl rfl)
  have lt0 : ∀ x ∈ p0, x.block < W.heap.size := by obtain ⟨m, hm⟩ := h0; exact DataW.trod_lt m _ _ _ hm
  obtain ⟨l0, m0, x0, r0, w0⟩ := open_pcs Tryd.underlying32 Tryd.underlying61 (by kernel_rfl) rfl rfl (by kernel_rfl) (by kernel_rfl) Tryd.underlying3 Tryd.underlying9 h0
  clear hA0 hval0
  refine (walkFnExactEmptyRoot A0 n0 c0 x0 W hL hS r0 l0 w0 (Nat.le_trans l0 m0)).mono fun e W' ⟨he, bel⟩ => ?_
  subst he
  exact ⟨_, rfl, _, _, _, [], _, [], hW', trodAll_mk1 (shut_bool Tryd.underlying4 _), (trodAll_cons_mk (Below.trod laid_outFnExactEmptyRoot (by kernel_rfl) (of_decide_eq_true (by kernel_rfl)) h0 bel lt0) trodAll_mk0), rfl, bel.frame _, fun h => by cases h⟩

theorem overFnExactEmptyRoot : Rows.fnExactEmptyRootRow.holds Tryd.pinned (OpenSpec.ofChange Rows.fnExactEmptyRootSpec) :=
  OpenClaim.holds_of_wide 4 Tryd.f4 rfl rfl rfl rfl rfl rfl rfl ⟨rfl, rfl, rfl, rfl, rfl⟩ rfl rfl rfl rfl rfl (by kernel_rfl) Tryd.func4 (by kernel_rfl)
    (of_decide_eq_true (by kernel_rfl)) (by unfold Func.isWrapper; first | (rw [if_pos (by decide +kernel)]; kernel_rfl) | (rw [if_neg (by decide +kernel)]; exact ⟨rfl, rfl⟩))
    (fun os started H enc _ => liftedFnExactEmptyRoot os started H enc)

theorem provedFnExactEmptyRoot : Rows.FnExactEmptyRootCardSaid :=
  Claim7.holds_tied_plain_at .later [] [.data, .data, .data] true Rows.fnExactEmptyRootCard.stood.harness false overFnExactEmptyRoot (fun _ h => by cases h) (by kernel_rfl) (fun _ h => by cases h) fnExactEmptyRoot_row_tie rfl ⟨rfl, rfl⟩ (by kernel_rfl) rfl
    (fun f fn hf hfn => by
      obtain rfl : f = 4 := Option.some.inj ((show Tryd.prog.funcNamed Rows.fnExactEmptyRootRow.func = some 4 by kernel_rfl).symm.trans hf) |>.symm
      obtain rfl : fn = Tryd.f4 := (Option.some.inj (Tryd.func4.symm.trans hfn)).symm
      exact ⟨by kernel_rfl, fun j t ht => by
        rw [Tryd.params4] at ht
        have hm : t ∈ [32] := by simpa using Array.mem_of_getElem? ht
        have hall : ([32].all fun u => !Tryd.prog.wantsStandIn u) = true := by kernel_rfl
        exact (show Tryd.prog.wantsStandIn t = false by simpa using List.all_eq_true.1 hall t hm)⟩)
    (by kernel_rfl)
end
end Go.Proofs.YtjombaiplnebmaaDoor
