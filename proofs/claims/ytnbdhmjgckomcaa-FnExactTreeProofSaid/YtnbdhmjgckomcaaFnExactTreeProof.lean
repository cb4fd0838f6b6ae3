/- The law FnExactTreeProof: For every input the law returns true, and its arguments read as before. Conditions: none. -/
import Derived.Test.YtnbdhmjgckomcaaRows
import Derived.Test.YtnbdhmjgckomcaaInts2
import Derived.Test.YtnbdhmjgckomcaaTree3
import Derived.Test.YtnbdhmjgckomcaaOwn
import Derived.Test.YtnbdhmjgckomcaaOpen
open Go.RowKit Go.ChangeShapes Go.WideShapes Go.ChangeAt
open Go.ChangeMaps (open_string shut_string)
set_option linter.unusedVariables false
namespace Go.Proofs.Ytnbdhmjgckomcaa
theorem own_knobFnExactTreeProof : ownKnob Try.prog.godebug = none := by kernel_rfl
theorem laid_outFnExactTreeProof : laidOutB Try.prog = true := by kernel_rfl

set_option maxHeartbeats 1000000 in
theorem walkFnExactTreeProof (A0 : Option Addr) (n0 c0 : Nat) (x0 : List Int) (a1 : Int) (w : World) (r0 : Rd w 1 A0 n0 (ints x0)) (l0 : n0 ≤ c0) (w0 : ∀ x ∈ x0, (Lit.int .i64 x).wf = true) (w1 : (Lit.int .i64 a1).wf = true) :
    Calls Try.prog 14 #[.slice A0 n0 c0, .int .i64 a1] w fun e w' => e = .returned (.bool true) ∧ Below w.heap.size w w' := by
  by_cases hb : n0 ≤ 1048576
  · go_enter Try.func14, Try.ntmps14
    go_wp2_with fail
    have hlen := treeP_length x0 a1
    refine (toIntS _ _ _ x0 _ r0 (by omega)).mono ?_
    rintro e u1 ⟨v1, rfl, ho1, hb1⟩
    have sz2 := (hb1).size
    have hB2 := hb1
    obtain ⟨A1, c1, rfl, _⟩ := own_slice ho1
    go_wp2_with fail
    refine (specTreeProof _ _ _ a1 x0 _ (Rd.own ho1) (by omega)).mono ?_
    rintro e u3 ⟨v3, rfl, ho3, hb3⟩
    have sz4 := (hb3).size
    have hB4 := below_step hB2 hb3
    have own1_4 := own_below ho1 hb3
    obtain ⟨A3, c3, rfl, _⟩ := own_slice ho3
    go_wp2_with fail
    refine (toIntS _ _ _ x0 _ (r0.below hB4) (by omega)).mono ?_
    rintro e u5 ⟨v5, rfl, ho5, hb5⟩
    have sz6 := (hb5).size
    have hB6 := below_step hB4 hb5
    have own3_6 := own_below ho3 hb5
    obtain ⟨A5, c5, rfl, _⟩ := own_slice ho5
    go_wp2_with fail
    refine (implTreeProof _ _ _ a1 x0 _ (Rd.own ho5) (by omega)).mono ?_
    rintro e u7 ⟨v7, rfl, ho7, hb7⟩
    have sz8 := (hb7).size
    have hB8 := below_step hB6 hb7
    have own3_8 := own_below own3_6 hb7
    have own5_8 := own_below ho5 hb7
    obtain ⟨A7, c7, rfl, _⟩ := own_slice ho7
    go_wp2_with fail
    refine (eqIntS _ _ _ _ _ _ (treeP x0 a1) (treeP x0 a1) _ (Rd.own ho7) (Rd.own own3_8) hlen).mono ?_
    rintro e u9 ⟨rfl, q9, hq9⟩
    have hb9 : Below (u7).heap.size u7 u9 := by rw [hq9]; exact below_drewN _ _
    clear hq9
    rw [decide_eq_true rfl]
    have sz10 := (hb9).size
    have hB10 := below_step hB8 hb9
    have own3_10 := own_below own3_8 hb9
    have own5_10 := own_below own5_8 hb9
    have own7_10 := own_below ho7 hb9
    go_wp2_with fail
    refine (toIntS _ _ _ x0 _ (r0.below hB10) (by omega)).mono ?_
    rintro e u11 ⟨v11, rfl, ho11, hb11⟩
    have sz12 := (hb11).size
    have hB12 := below_step hB10 hb11
    have own3_12 := own_below own3_10 hb11
    have own5_12 := own_below own5_10 hb11
    have own7_12 := own_below own7_10 hb11
    obtain ⟨A11, c11, rfl, _⟩ := own_slice ho11
    go_wp2_with fail
    refine (eqIntS _ _ _ _ _ _ x0 x0 _ (Rd.own own5_12) (Rd.own ho11) (by omega)).mono ?_
    rintro e u13 ⟨rfl, q13, hq13⟩
    have hb13 : Below (u11).heap.size u11 u13 := by rw [hq13]; exact below_drewN _ _
    clear hq13
    rw [decide_eq_true rfl]
    have sz14 := (hb13).size
    have hB14 := below_step hB12 hb13
    have own3_14 := own_below own3_12 hb13
    have own5_14 := own_below own5_12 hb13
    have own7_14 := own_below own7_12 hb13
    have own11_14 := own_below ho11 hb13
    go_wp2_with fail
    refine (markIntS _ _ _ 1 _ _ own5_14 (by omega) (by omega)).mono ?_
    rintro e u15 ⟨rfl, hm15, hg15⟩
    have sz15 := hg15.size
    have hB15 := Below.grown hB14 hg15 hB14.size (fun k e => by have := (ho5.lt k e).1; omega)
    have own3_15 := own3_14.kept hg15 (own_ne ho3 ho5 (by omega))
    have own7_15 := own7_14.kept hg15 (own_ne_symm (own_ne ho5 ho7 (by omega)))
    go_wp2_with fail
    refine (eqIntS _ _ _ _ _ _ (treeP x0 a1) (treeP x0 a1) _ (Rd.own own7_15) (Rd.own own3_15) hlen).mono ?_
    rintro e u16 ⟨rfl, q16, hq16⟩
    have hb16 : Below (u15).heap.size u15 u16 := by rw [hq16]; exact below_drewN _ _
    clear hq16
    rw [decide_eq_true rfl]
    have sz17 := (hb16).size
    have hB17 := below_step hB15 hb16
    have own3_17 := own_below own3_15 hb16
    have own5_17 := own_below hm15 hb16
    have own7_17 := own_below own7_15 hb16
    go_wp2_with fail
    refine (markIntS _ _ _ 1 _ _ own7_17 hlen (by omega)).mono ?_
    rintro e u18 ⟨rfl, hm18, hg18⟩
    have sz18 := hg18.size
    have hB18 := Below.grown hB17 hg18 hB17.size (fun k e => by have := (ho7.lt k e).1; omega)
    have own3_18 := own3_17.kept hg18 (own_ne ho3 ho7 (by omega))
    go_wp2_with fail
    refine (heldIntS _ _ _ 1 _ (Rd.own hm18) hlen (by omega)).mono ?_
    rintro e u19 ⟨rfl, rfl⟩
    go_wp2_with fail
    refine (toIntS _ _ _ x0 _ (r0.below hB18) (by omega)).mono ?_
    rintro e u20 ⟨v20, rfl, ho20, hb20⟩
    have sz21 := (hb20).size
    have hB21 := below_step hB18 hb20
    have own3_21 := own_below own3_18 hb20
    have own7_21 := own_below hm18 hb20
    obtain ⟨A20, c20, rfl, _⟩ := own_slice ho20
    go_wp2_with fail
    refine (implTreeProof _ _ _ a1 x0 _ (Rd.own ho20) (by omega)).mono ?_
    rintro e u22 ⟨v22, rfl, ho22, hb22⟩
    have sz23 := (hb22).size
    have hB23 := below_step hB21 hb22
    have own3_23 := own_below own3_21 hb22
    have own7_23 := own_below own7_21 hb22
    have own20_23 := own_below ho20 hb22
    obtain ⟨A22, c22, rfl, _⟩ := own_slice ho22
    go_wp2_with fail
    refine (eqIntS _ _ _ _ _ _ (treeP x0 a1) (treeP x0 a1) _ (Rd.own ho22) (Rd.own own3_23) hlen).mono ?_
    rintro e u24 ⟨rfl, q24, hq24⟩
    have hb24 : Below (u22).heap.size u22 u24 := by rw [hq24]; exact below_drewN _ _
    clear hq24
    rw [decide_eq_true rfl]
    have sz25 := (hb24).size
    have hB25 := below_step hB23 hb24
    have own3_25 := own_below own3_23 hb24
    have own7_25 := own_below own7_23 hb24
    have own20_25 := own_below own20_23 hb24
    have own22_25 := own_below ho22 hb24
    go_wp2_with fail
    refine (heldIntS _ _ _ 1 _ (Rd.own own7_25) hlen (by omega)).mono ?_
    rintro e u26 ⟨rfl, rfl⟩
    go_wp2_with fail
    go_ret
    exact ⟨rfl, hB25⟩
  · go_enter Try.func14, Try.ntmps14
    go_wp2
    all_goals (go_ret; exact ⟨rfl, Below.refl _ _⟩)

section
set_option maxRecDepth 100000 in
theorem liftedFnExactTreeProof (os : Os) (started : os.Started) (H : Type) (enc : TypeId × Value → H) :
    ReturnsInHanded {} Try.checked os 14 .any (Rows.fnExactTreeProofSpec.pre6 enc Try.prog Try.f14 Rows.fnExactTreeProofRow.domain false) (Rows.fnExactTreeProofSpec.post enc Try.prog Try.f14 false true false false) := by
  refine returnsInHanded_of_change (C := Try.checked) own_knobFnExactTreeProof started (by kernel_rfl) Try.func14
    (ChangeSpec.witness6 (enc := enc) (C := Try.checked) false ⟨#[], #[.slice none 0 0, .int .i64 0], []⟩ 8 (by kernel_rfl) (by kernel_rfl) (by kernel_rfl) (by kernel_rfl)) ?_
  intro W base args ds gs before hval0 hW hcnd _
  have hval : ∀ (j : Nat) t v, Try.f14.params[j]? = some t → args[j]? = some v → Value.okWide Try.prog W .any base t v := hval0
  have hW' := hW
  obtain ⟨p, q, hA0, hV, rfl, hfz, hnd⟩ := hW
  have hA : DataW.TrodAll enc Try.prog W 0 (fun _ => true) true Try.f14.params.toList args.toList ds p := hA0
  rw [Try.params14] at hA hval
  obtain ⟨v0, vs0, d0, ds0, p0, q0, hargs, rfl, rfl, h0, t0⟩ := trodAll_cons hA
  obtain ⟨v1, vs1, d1, ds1, p1, q1, rfl, rfl, rfl, h1, t1⟩ := trodAll_cons t0
  obtain ⟨rfl, rfl, rfl⟩ := trodAll_nil t1
  obtain rfl : args = #[v0, v1] := by cases args; simp_all
  obtain ⟨rfl, rfl⟩ := trodVars_none hV
  obtain ⟨A0, n0, c0, rfl⟩ := okWide_slice Try.underlying29 (hval 0 29 v0 rfl rfl)
  have lt0 : ∀ x ∈ p0, x.block < W.heap.size := by obtain ⟨m, hm⟩ := h0; exact DataW.trod_lt m _ _ _ hm
  obtain ⟨l0, _, x0, r0, w0⟩ := open_rd_num Try.underlying29 Try.underlying3 (by kernel_rfl) h0
  obtain ⟨a1, rfl, rfl, rfl, w1⟩ := open_int Try.underlying3 (hval 1 3 v1 rfl rfl) h1
  clear hA0 hval0
  refine (walkFnExactTreeProof A0 n0 c0 x0 a1 W r0 l0 w0 w1).mono fun e W' ⟨he, bel⟩ => ?_
  subst he
  exact ⟨_, rfl, _, _, _, [], _, [], hW', trodAll_mk1 (shut_bool Try.underlying4 _), (trodAll_cons_mk (Below.trod laid_outFnExactTreeProof (by kernel_rfl) (of_decide_eq_true (by kernel_rfl)) h0 bel lt0) (trodAll_cons_mk (shut_int Try.underlying3 w1) trodAll_mk0)), rfl, bel.frame _, fun h => by cases h⟩

theorem overFnExactTreeProof : Rows.fnExactTreeProofRow.holds Try.pinned (OpenSpec.ofChange Rows.fnExactTreeProofSpec) :=
  OpenClaim.holds_of_wide 14 Try.f14 rfl rfl rfl rfl rfl rfl rfl ⟨rfl, rfl, rfl, rfl, rfl⟩ rfl rfl rfl rfl rfl (by kernel_rfl) Try.func14 (by kernel_rfl)
    (of_decide_eq_true (by kernel_rfl)) (by unfold Func.isWrapper; first | (rw [if_pos (by decide +kernel)]; kernel_rfl) | (rw [if_neg (by decide +kernel)]; exact ⟨rfl, rfl⟩))
    (fun os started H enc _ => liftedFnExactTreeProof os started H enc)

theorem provedFnExactTreeProof : Rows.FnExactTreeProofSaid := overFnExactTreeProof
end
end Go.Proofs.Ytnbdhmjgckomcaa
