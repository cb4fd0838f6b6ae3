/- The law FnExactPutText: For every input the law returns true, and its arguments read as before. Conditions: none. -/
import Derived.Test.YtfjlocfaibbobabRows
import Derived.Test.YtfjlocfaibbobabPutTS
import Derived.Test.YtfjlocfaibbobabToPB
import Derived.Test.YtfjlocfaibbobabPcs
import Derived.Test.YtfjlocfaibbobabMarkP
import Derived.Test.YtfjlocfaibbobabOwn
import Derived.Test.YtfjlocfaibbobabOpen
open Go.RowKit Go.ChangeShapes Go.WideShapes Go.ChangeAt
open Go.ChangeMaps (open_string shut_string)
set_option linter.unusedVariables false
namespace Go.Proofs.Ytfjlocfaibbobab
theorem own_knobFnExactPutText : ownKnob Try.prog.godebug = none := by kernel_rfl
theorem laid_outFnExactPutText : laidOutB Try.prog = true := by kernel_rfl

set_option maxHeartbeats 4000000 in
theorem walkFnExactPutText (A0 : Option Addr) (n0 c0 : Nat) (x0 : List (Int × ByteArray)) (a1 : ByteArray) (w : World) (r0 : Rd w 2 A0 n0 (pcs x0)) (l0 : n0 ≤ c0) (w0 : ∀ p ∈ x0, (Lit.int .i64 p.1).wf = true ∧ p.2.size ≤ maxLen) (m0 : n0 ≤ maxLen) (w1 : a1.size ≤ maxLen) :
    Calls Try.prog 7 #[.slice A0 n0 c0, .string a1] w fun e w' => e = .returned (.bool true) ∧ Below w.heap.size w w' := by
  have hs : ∀ x ∈ x0, x.2.size ≤ maxLen := fun x hx => (w0 x hx).2
  have HX := Lib.hid hs
  clear hs w0
  have hyl := putT_len (xs := x0) (s := a1)
  rw [r0.pcLen] at hyl
  have HY : ∃ ys pr bb, Hid (putT x0 a1 = (ys, pr, bb)) := ⟨_, _, _, Lib.hid rfl⟩
  obtain ⟨ys, pr, bb, HY⟩ := HY
  rw [HY.out] at hyl
  dsimp only at hyl
  by_cases hba : a1.size ≤ 1048576
  · go_enter Try.func7, Try.ntmps7
    go_wp2_with fail
    refine (szPieceS _ _ _ _ x0 _ r0 HX.out m0 (by omega)).mono ?_
    rintro e u0 ⟨⟨l, rfl, hl, hl1⟩, hb0⟩
    by_cases hneg : l < 0
    · go_wp2_with fail
      go_ret
      exact ⟨rfl, hb0⟩
    have htot := hl (by omega)
    have hn : n0 ≤ 1048576 := by omega
    clear hl htot
    have sz0 := hb0.size
    cases bb
    all_goals
      go_wp2_with fail
      refine (toPieceB _ _ _ x0 _ (r0.below hb0) (by omega)).mono ?_
      rintro e u1 ⟨v1, rfl, ho1, hb1, hk1⟩
      have sz2 := (hb1).size
      have hB2 := below_step hb0 hb1
      obtain ⟨A1, c1, rfl, _⟩ := own_slice ho1
      go_wp2_with fail
      refine (specPutText _ _ _ a1 x0 _ ho1 hk1 HX.out w1 (by omega)).mono ?_
      rintro e u3 ⟨v3, rfl, ho3, hb3, _⟩
      have sz4 := (hb3).size
      have hB4 := below_step hB2 hb3
      have own1_4 := own_below ho1 hb3
      rw [HY.out] at ho3 ⊢
      dsimp only at ho3 ⊢
      obtain ⟨A3, c3, rfl, _⟩ := own_slice ho3
      go_wp2_with fail
      refine (toPieceS _ _ _ x0 _ (r0.below hB4) (by omega)).mono ?_
      rintro e u5 ⟨v5, rfl, ho5, hb5⟩
      have sz6 := (hb5).size
      have hB6 := below_step hB4 hb5
      have own3_6 := own_below ho3 hb5
      obtain ⟨A5, c5, rfl, _⟩ := own_slice ho5
      go_wp2_with fail
      refine (implPutText _ _ _ a1 x0 _ (Rd.own ho5) HX.out w1 (by omega)).mono ?_
      rintro e u7 ⟨v7, rfl, ho7, hb7⟩
      have sz8 := (hb7).size
      have hB8 := below_step hB6 hb7
      have own3_8 := own_below own3_6 hb7
      have own5_8 := own_below ho5 hb7
      rw [HY.out] at ho7 ⊢
      dsimp only at ho7 ⊢
      obtain ⟨A7, c7, rfl, _⟩ := own_slice ho7
      go_wp2_with fail
      refine (eqPieceS _ _ _ _ _ _ ys ys _ (Rd.own ho7) (Rd.own own3_8) (by omega)).mono ?_
      rintro e u9 ⟨rfl, hb9⟩
      rw [decide_eq_true rfl]
      have sz10 := (hb9).size
      have hB10 := below_step hB8 hb9
      have own3_10 := own_below own3_8 hb9
      have own5_10 := own_below own5_8 hb9
      have own7_10 := own_below ho7 hb9
      go_wp2_with fail
      refine (toPieceS _ _ _ x0 _ (r0.below hB10) (by omega)).mono ?_
      rintro e u11 ⟨v11, rfl, ho11, hb11⟩
      have sz12 := (hb11).size
      have hB12 := below_step hB10 hb11
      have own3_12 := own_below own3_10 hb11
      have own5_12 := own_below own5_10 hb11
      have own7_12 := own_below own7_10 hb11
      obtain ⟨A11, c11, rfl, _⟩ := own_slice ho11
      go_wp2_with fail
      refine (eqPieceS _ _ _ _ _ _ x0 x0 _ (Rd.own own5_12) (Rd.own ho11) (by omega)).mono ?_
      rintro e u13 ⟨rfl, hb13⟩
      rw [decide_eq_true rfl]
      have sz14 := (hb13).size
      have hB14 := below_step hB12 hb13
      have own3_14 := own_below own3_12 hb13
      have own5_14 := own_below own5_12 hb13
      have own7_14 := own_below own7_12 hb13
      have own11_14 := own_below ho11 hb13
      go_wp2_with fail
      refine (markPieceS _ _ _ 1 _ _ own5_14 (by omega) (by omega)).mono ?_
      rintro e u15 ⟨rfl, hm15, hg15⟩
      have sz15 := hg15.size
      have hB15 := Below.grown hB14 hg15 hB14.size (fun k e => by have := (ho5.lt k e).1; omega)
      have own3_15 := own3_14.kept hg15 (own_ne ho3 ho5 (by omega))
      have own7_15 := own7_14.kept hg15 (own_ne_symm (own_ne ho5 ho7 (by omega)))
      go_wp2_with fail
      refine (eqPieceS _ _ _ _ _ _ ys ys _ (Rd.own own7_15) (Rd.own own3_15) (by omega)).mono ?_
      rintro e u16 ⟨rfl, hb16⟩
      rw [decide_eq_true rfl]
      have sz17 := (hb16).size
      have hB17 := below_step hB15 hb16
      have own3_17 := own_below own3_15 hb16
      have own5_17 := own_below hm15 hb16
      have own7_17 := own_below own7_15 hb16
      go_wp2_with fail
      refine (markPieceS _ _ _ 1 _ _ own7_17 (by omega) (by omega)).mono ?_
      rintro e u18 ⟨rfl, hm18, hg18⟩
      have sz18 := hg18.size
      have hB18 := Below.grown hB17 hg18 hB17.size (fun k e => by have := (ho7.lt k e).1; omega)
      have own3_18 := own3_17.kept hg18 (own_ne ho3 ho7 (by omega))
      go_wp2_with fail
      refine (heldPieceS _ _ _ 1 _ (Rd.own hm18) (by omega) (by omega)).mono ?_
      rintro e u19 ⟨rfl, hb19⟩
      have sz20 := (hb19).size
      have hB20 := below_step hB18 hb19
      have own3_20 := own_below own3_18 hb19
      have own7_20 := own_below hm18 hb19
      go_wp2_with fail
      refine (toPieceS _ _ _ x0 _ (r0.below hB20) (by omega)).mono ?_
      rintro e u21 ⟨v21, rfl, ho21, hb21⟩
      have sz22 := (hb21).size
      have hB22 := below_step hB20 hb21
      have own3_22 := own_below own3_20 hb21
      have own7_22 := own_below own7_20 hb21
      obtain ⟨A21, c21, rfl, _⟩ := own_slice ho21
      go_wp2_with fail
      refine (implPutText _ _ _ a1 x0 _ (Rd.own ho21) HX.out w1 (by omega)).mono ?_
      rintro e u23 ⟨v23, rfl, ho23, hb23⟩
      have sz24 := (hb23).size
      have hB24 := below_step hB22 hb23
      have own3_24 := own_below own3_22 hb23
      have own7_24 := own_below own7_22 hb23
      have own21_24 := own_below ho21 hb23
      rw [HY.out] at ho23 ⊢
      dsimp only at ho23 ⊢
      obtain ⟨A23, c23, rfl, _⟩ := own_slice ho23
      go_wp2_with fail
      refine (eqPieceS _ _ _ _ _ _ ys ys _ (Rd.own ho23) (Rd.own own3_24) (by omega)).mono ?_
      rintro e u25 ⟨rfl, hb25⟩
      rw [decide_eq_true rfl]
      have sz26 := (hb25).size
      have hB26 := below_step hB24 hb25
      have own3_26 := own_below own3_24 hb25
      have own7_26 := own_below own7_24 hb25
      have own21_26 := own_below own21_24 hb25
      have own23_26 := own_below ho23 hb25
      go_wp2_with fail
      refine (heldPieceS _ _ _ 1 _ (Rd.own own7_26) (by omega) (by omega)).mono ?_
      rintro e u27 ⟨rfl, hb27⟩
      have sz28 := (hb27).size
      have hB28 := below_step hB26 hb27
      have own3_28 := own_below own3_26 hb27
      have own7_28 := own_below own7_26 hb27
      have own21_28 := own_below own21_26 hb27
      have own23_28 := own_below own23_26 hb27
      go_wp2_with fail
      go_ret
      exact ⟨rfl, hB28⟩
  · go_enter Try.func7, Try.ntmps7
    go_wp2
    go_ret
    exact ⟨rfl, Below.refl _ _⟩

section
set_option maxRecDepth 100000 in
theorem liftedFnExactPutText (os : Os) (started : os.Started) (H : Type) (enc : TypeId × Value → H) :
    ReturnsInHanded {} Try.checked os 7 .any (Rows.fnExactPutTextSpec.pre6 enc Try.prog Try.f7 Rows.fnExactPutTextRow.domain false) (Rows.fnExactPutTextSpec.post enc Try.prog Try.f7 false true false false) := by
  refine returnsInHanded_of_change (C := Try.checked) own_knobFnExactPutText started (by kernel_rfl) Try.func7
    (ChangeSpec.witness6 (enc := enc) (C := Try.checked) false ⟨#[], #[.slice none 0 0, .string ByteArray.empty], []⟩ 8 (by kernel_rfl) (by kernel_rfl) (by kernel_rfl) (by kernel_rfl)) ?_
  intro W base args ds gs before hval0 hW hcnd _
  have hval : ∀ (j : Nat) t v, Try.f7.params[j]? = some t → args[j]? = some v → Value.okWide Try.prog W .any base t v := hval0
  have hW' := hW
  obtain ⟨p, q, hA0, hV, rfl, hfz, hnd⟩ := hW
  have hA : DataW.TrodAll enc Try.prog W 0 (fun _ => true) true Try.f7.params.toList args.toList ds p := hA0
  rw [Try.params7] at hA hval
  obtain ⟨v0, vs0, d0, ds0, p0, q0, hargs, rfl, rfl, h0, t0⟩ := trodAll_cons hA
  obtain ⟨v1, vs1, d1, ds1, p1, q1, rfl, rfl, rfl, h1, t1⟩ := trodAll_cons t0
  obtain ⟨rfl, rfl, rfl⟩ := trodAll_nil t1
  obtain rfl : args = #[v0, v1] := by cases args; simp_all
  obtain ⟨rfl, rfl⟩ := trodVars_none hV
  obtain ⟨A0, n0, c0, rfl⟩ := okWide_slice Try.underlying53 (hval 0 53 v0 rfl rfl)
  have lt0 : ∀ x ∈ p0, x.block < W.heap.size := by obtain ⟨m, hm⟩ := h0; exact DataW.trod_lt m _ _ _ hm
  obtain ⟨l0, m0, x0, r0, w0⟩ := open_pcs Try.underlying53 Try.underlying82 (by kernel_rfl) rfl rfl (by kernel_rfl) (by kernel_rfl) Try.underlying3 Try.underlying9 h0
  obtain ⟨a1, rfl, rfl, rfl, w1⟩ := open_string Try.underlying9 (hval 1 9 v1 rfl rfl) h1
  clear hA0 hval0
  refine (walkFnExactPutText A0 n0 c0 x0 a1 W r0 l0 w0 (Nat.le_trans l0 m0) w1).mono fun e W' ⟨he, bel⟩ => ?_
  subst he
  exact ⟨_, rfl, _, _, _, [], _, [], hW', trodAll_mk1 (shut_bool Try.underlying4 _), (trodAll_cons_mk (Below.trod laid_outFnExactPutText (by kernel_rfl) (of_decide_eq_true (by kernel_rfl)) h0 bel lt0) (trodAll_cons_mk (shut_string Try.underlying9 w1) trodAll_mk0)), rfl, bel.frame _, fun h => by cases h⟩

theorem overFnExactPutText : Rows.fnExactPutTextRow.holds Try.pinned (OpenSpec.ofChange Rows.fnExactPutTextSpec) :=
  OpenClaim.holds_of_wide 7 Try.f7 rfl rfl rfl rfl rfl rfl rfl ⟨rfl, rfl, rfl, rfl, rfl⟩ rfl rfl rfl rfl rfl (by kernel_rfl) Try.func7 (by kernel_rfl)
    (of_decide_eq_true (by kernel_rfl)) (by unfold Func.isWrapper; first | (rw [if_pos (by decide +kernel)]; kernel_rfl) | (rw [if_neg (by decide +kernel)]; exact ⟨rfl, rfl⟩))
    (fun os started H enc _ => liftedFnExactPutText os started H enc)

theorem provedFnExactPutText : Rows.FnExactPutTextSaid := overFnExactPutText
end
end Go.Proofs.Ytfjlocfaibbobab
