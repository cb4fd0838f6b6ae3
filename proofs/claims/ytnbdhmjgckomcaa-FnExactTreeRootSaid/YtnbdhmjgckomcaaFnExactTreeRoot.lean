/- The law FnExactTreeRoot: For every input the law returns true, and its arguments read as before. Conditions: none. -/
import Derived.Test.YtnbdhmjgckomcaaRows
import Derived.Test.YtnbdhmjgckomcaaInts2
import Derived.Test.YtnbdhmjgckomcaaTree2
import Derived.Test.YtnbdhmjgckomcaaOpen
open Go.RowKit Go.ChangeShapes Go.WideShapes Go.ChangeAt
open Go.ChangeMaps (open_string shut_string)
set_option linter.unusedVariables false
namespace Go.Proofs.Ytnbdhmjgckomcaa
theorem own_knobFnExactTreeRoot : ownKnob Try.prog.godebug = none := by kernel_rfl
theorem laid_outFnExactTreeRoot : laidOutB Try.prog = true := by kernel_rfl

set_option maxHeartbeats 1000000 in
theorem walkFnExactTreeRoot (A0 : Option Addr) (n0 c0 : Nat) (x0 : List Int) (w : World) (r0 : Rd w 1 A0 n0 (ints x0)) (l0 : n0 ≤ c0) (w0 : ∀ x ∈ x0, (Lit.int .i64 x).wf = true) :
    Calls Try.prog 8 #[.slice A0 n0 c0] w fun e w' => e = .returned (.bool true) ∧ Below w.heap.size w w' := by
  by_cases hb : n0 ≤ 1048576
  · go_enter Try.func8, Try.ntmps8
    go_wp2_with (go_at_call 31; refine (toIntS _ _ _ x0 _ r0 (by omega)).mono ?_; rintro e w1 ⟨v1, rfl, ho1, hb1⟩)
    obtain ⟨A1, c1, rfl, _⟩ := own_slice ho1
    refine (specTreeRoot _ _ _ x0 _ (Rd.own ho1) (by omega)).mono ?_
    rintro e w1' ⟨rfl, hb1'⟩
    have hB1 := below_step hb1 hb1'
    go_wp2_with fail
    refine (toIntS _ _ _ x0 _ (r0.below hB1) (by omega)).mono ?_
    rintro e w2 ⟨v2, rfl, ho2, hb2⟩
    have hB2 := below_step hB1 hb2
    obtain ⟨A2, c2, rfl, _⟩ := own_slice ho2
    go_wp2_with fail
    refine (implTreeRoot _ _ _ x0 _ (Rd.own ho2) (by omega)).mono ?_
    rintro e w2' ⟨rfl, hb2'⟩
    have hB2' := below_step hB2 hb2'
    go_wp2_with fail
    refine (toIntS _ _ _ x0 _ (r0.below hB2') (by omega)).mono ?_
    rintro e w3 ⟨v3, rfl, ho3, hb3⟩
    obtain ⟨A3, c3, rfl, _⟩ := own_slice ho3
    go_wp2_with fail
    refine (eqIntS _ _ _ _ _ _ x0 x0 _ (((Rd.own ho2).below hb2').below hb3) (Rd.own ho3) (by omega)).mono ?_
    rintro e w4 ⟨rfl, k, rfl⟩
    rw [decide_eq_true rfl]
    go_wp2_with fail
    go_ret
    exact ⟨rfl, below_step (below_step hB2' hb3) (below_drewN _ _)⟩
  · go_enter Try.func8, Try.ntmps8
    go_wp2
    go_ret
    exact ⟨rfl, Below.refl _ _⟩

section
set_option maxRecDepth 100000 in
theorem liftedFnExactTreeRoot (os : Os) (started : os.Started) (H : Type) (enc : TypeId × Value → H) :
    ReturnsInHanded {} Try.checked os 8 .any (Rows.fnExactTreeRootSpec.pre6 enc Try.prog Try.f8 Rows.fnExactTreeRootRow.domain false) (Rows.fnExactTreeRootSpec.post enc Try.prog Try.f8 false true false false) := by
  refine returnsInHanded_of_change (C := Try.checked) own_knobFnExactTreeRoot started (by kernel_rfl) Try.func8
    (ChangeSpec.witness6 (enc := enc) (C := Try.checked) false ⟨#[], #[.slice none 0 0], []⟩ 8 (by kernel_rfl) (by kernel_rfl) (by kernel_rfl) (by kernel_rfl)) ?_
  intro W base args ds gs before hval0 hW hcnd _
  have hval : ∀ (j : Nat) t v, Try.f8.params[j]? = some t → args[j]? = some v → Value.okWide Try.prog W .any base t v := hval0
  have hW' := hW
  obtain ⟨p, q, hA0, hV, rfl, hfz, hnd⟩ := hW
  have hA : DataW.TrodAll enc Try.prog W 0 (fun _ => true) true Try.f8.params.toList args.toList ds p := hA0
  rw [Try.params8] at hA hval
  obtain ⟨v0, vs0, d0, ds0, p0, q0, hargs, rfl, rfl, h0, t0⟩ := trodAll_cons hA
  obtain ⟨rfl, rfl, rfl⟩ := trodAll_nil t0
  obtain rfl : args = #[v0] := by cases args; simp_all
  obtain ⟨rfl, rfl⟩ := trodVars_none hV
  obtain ⟨A0, n0, c0, rfl⟩ := okWide_slice Try.underlying29 (hval 0 29 v0 rfl rfl)
  have lt0 : ∀ x ∈ p0, x.block < W.heap.size := by obtain ⟨m, hm⟩ := h0; exact DataW.trod_lt m _ _ _ hm
  obtain ⟨l0, _, x0, r0, w0⟩ := open_rd_num Try.underlying29 Try.underlying3 (by kernel_rfl) h0
  clear hA0 hval0
  refine (walkFnExactTreeRoot A0 n0 c0 x0 W r0 l0 w0).mono fun e W' ⟨he, bel⟩ => ?_
  subst he
  exact ⟨_, rfl, _, _, _, [], _, [], hW', trodAll_mk1 (shut_bool Try.underlying4 _), (trodAll_cons_mk (Below.trod laid_outFnExactTreeRoot (by kernel_rfl) (of_decide_eq_true (by kernel_rfl)) h0 bel lt0) trodAll_mk0), rfl, bel.frame _, fun h => by cases h⟩

theorem overFnExactTreeRoot : Rows.fnExactTreeRootRow.holds Try.pinned (OpenSpec.ofChange Rows.fnExactTreeRootSpec) :=
  OpenClaim.holds_of_wide 8 Try.f8 rfl rfl rfl rfl rfl rfl rfl ⟨rfl, rfl, rfl, rfl, rfl⟩ rfl rfl rfl rfl rfl (by kernel_rfl) Try.func8 (by kernel_rfl)
    (of_decide_eq_true (by kernel_rfl)) (by unfold Func.isWrapper; first | (rw [if_pos (by decide +kernel)]; kernel_rfl) | (rw [if_neg (by decide +kernel)]; exact ⟨rfl, rfl⟩))
    (fun os started H enc _ => liftedFnExactTreeRoot os started H enc)

theorem provedFnExactTreeRoot : Rows.FnExactTreeRootSaid := overFnExactTreeRoot
end
end Go.Proofs.Ytnbdhmjgckomcaa
