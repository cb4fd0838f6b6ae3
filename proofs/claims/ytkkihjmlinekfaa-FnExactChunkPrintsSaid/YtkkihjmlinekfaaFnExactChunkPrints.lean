/- The law FnExactChunkPrints: For every input the law returns true, and its arguments read as before. Conditions: none. -/
import Derived.Test.YtkkihjmlinekfaaRows
import Derived.Test.YtkkihjmlinekfaaInts2
import Derived.Test.YtkkihjmlinekfaaChunk3
import Derived.Test.YtkkihjmlinekfaaOwn
import Derived.Test.YtkkihjmlinekfaaOpen
open Go.RowKit Go.ChangeShapes Go.WideShapes Go.ChangeAt
open Go.ChangeMaps (open_string shut_string)
set_option linter.unusedVariables false
namespace Go.Proofs.Ytkkihjmlinekfaa
theorem own_knobFnExactChunkPrints : ownKnob Try.prog.godebug = none := by kernel_rfl
theorem laid_outFnExactChunkPrints : laidOutB Try.prog = true := by kernel_rfl

set_option maxHeartbeats 1000000 in
theorem walkFnExactChunkPrints (a0 : ByteArray) (w : World) (w0 : a0.size ≤ maxLen) :
    Calls Try.prog 6 #[.string a0] w fun e w' => e = .returned (.bool true) ∧ Below w.heap.size w w' := by
  by_cases hb : a0.size ≤ 1048576
  · go_enter Try.func6, Try.ntmps6
    go_wp2_with fail
    refine (specChunkPrints a0 _ w0).mono ?_
    rintro e u1 ⟨v1, rfl, ho1, hb1⟩
    have sz2 := (hb1).size
    have hB2 := hb1
    obtain ⟨A1, c1, rfl, _⟩ := own_slice ho1
    go_wp2_with fail
    refine (implChunkPrints a0 _ w0).mono ?_
    rintro e u3 ⟨v3, rfl, ho3, hb3⟩
    have sz4 := (hb3).size
    have hB4 := below_step hB2 hb3
    have own1_4 := own_below ho1 hb3
    obtain ⟨A3, c3, rfl, _⟩ := own_slice ho3
    go_wp2_with fail
    refine (eqIntS _ _ _ _ _ _ (chunkPr a0) (chunkPr a0) _ (Rd.own ho3) (Rd.own own1_4) (by have := chunksO_length a0; have := chunkPr_length a0; omega)).mono ?_
    rintro e u5 ⟨rfl, q5, hq5⟩
    have hb5 : Below (u3).heap.size u3 u5 := by rw [hq5]; exact below_drewN _ _
    clear hq5
    rw [decide_eq_true rfl]
    have sz6 := (hb5).size
    have hB6 := below_step hB4 hb5
    have own1_6 := own_below own1_4 hb5
    have own3_6 := own_below ho3 hb5
    go_wp2_with fail
    refine (markIntS _ _ _ 1 _ _ own3_6 (by have := chunksO_length a0; have := chunkPr_length a0; omega) (by omega)).mono ?_
    rintro e u7 ⟨rfl, hm7, hg7⟩
    have sz7 := hg7.size
    have hB7 := Below.grown hB6 hg7 hB6.size (fun k e => by have := (ho3.lt k e).1; omega)
    have own1_7 := own1_6.kept hg7 (own_ne ho1 ho3 (by omega))
    go_wp2_with fail
    refine (heldIntS _ _ _ 1 _ (Rd.own hm7) (by have := chunksO_length a0; have := chunkPr_length a0; omega) (by omega)).mono ?_
    rintro e u8 ⟨rfl, rfl⟩
    go_wp2_with fail
    refine (implChunkPrints a0 _ w0).mono ?_
    rintro e u9 ⟨v9, rfl, ho9, hb9⟩
    have sz10 := (hb9).size
    have hB10 := below_step hB7 hb9
    have own1_10 := own_below own1_7 hb9
    have own3_10 := own_below hm7 hb9
    obtain ⟨A9, c9, rfl, _⟩ := own_slice ho9
    go_wp2_with fail
    refine (eqIntS _ _ _ _ _ _ (chunkPr a0) (chunkPr a0) _ (Rd.own ho9) (Rd.own own1_10) (by have := chunksO_length a0; have := chunkPr_length a0; omega)).mono ?_
    rintro e u11 ⟨rfl, q11, hq11⟩
    have hb11 : Below (u9).heap.size u9 u11 := by rw [hq11]; exact below_drewN _ _
    clear hq11
    rw [decide_eq_true rfl]
    have sz12 := (hb11).size
    have hB12 := below_step hB10 hb11
    have own1_12 := own_below own1_10 hb11
    have own3_12 := own_below own3_10 hb11
    have own9_12 := own_below ho9 hb11
    go_wp2_with fail
    refine (heldIntS _ _ _ 1 _ (Rd.own own3_12) (by have := chunksO_length a0; have := chunkPr_length a0; omega) (by omega)).mono ?_
    rintro e u13 ⟨rfl, rfl⟩
    go_wp2_with fail
    go_ret
    exact ⟨rfl, hB12⟩
  · go_enter Try.func6, Try.ntmps6
    go_wp2
    all_goals (go_ret; exact ⟨rfl, Below.refl _ _⟩)

section
set_option maxRecDepth 100000 in
theorem liftedFnExactChunkPrints (os : Os) (started : os.Started) (H : Type) (enc : TypeId × Value → H) :
    ReturnsInHanded {} Try.checked os 6 .any (Rows.fnExactChunkPrintsSpec.pre6 enc Try.prog Try.f6 Rows.fnExactChunkPrintsRow.domain false) (Rows.fnExactChunkPrintsSpec.post enc Try.prog Try.f6 false true false false) := by
  refine returnsInHanded_of_change (C := Try.checked) own_knobFnExactChunkPrints started (by kernel_rfl) Try.func6
    (ChangeSpec.witness6 (enc := enc) (C := Try.checked) false ⟨#[], #[.string ByteArray.empty], []⟩ 8 (by kernel_rfl) (by kernel_rfl) (by kernel_rfl) (by kernel_rfl)) ?_
  intro W base args ds gs before hval0 hW hcnd _
  have hval : ∀ (j : Nat) t v, Try.f6.params[j]? = some t → args[j]? = some v → Value.okWide Try.prog W .any base t v := hval0
  have hW' := hW
  obtain ⟨p, q, hA0, hV, rfl, hfz, hnd⟩ := hW
  have hA : DataW.TrodAll enc Try.prog W 0 (fun _ => true) true Try.f6.params.toList args.toList ds p := hA0
  rw [Try.params6] at hA hval
  obtain ⟨v0, vs0, d0, ds0, p0, q0, hargs, rfl, rfl, h0, t0⟩ := trodAll_cons hA
  obtain ⟨rfl, rfl, rfl⟩ := trodAll_nil t0
  obtain rfl : args = #[v0] := by cases args; simp_all
  obtain ⟨rfl, rfl⟩ := trodVars_none hV
  obtain ⟨a0, rfl, rfl, rfl, w0⟩ := open_string Try.underlying9 (hval 0 9 v0 rfl rfl) h0
  clear hA0 hval0
  refine (walkFnExactChunkPrints a0 W w0).mono fun e W' ⟨he, bel⟩ => ?_
  subst he
  exact ⟨_, rfl, _, _, _, [], _, [], hW', trodAll_mk1 (shut_bool Try.underlying4 _), (trodAll_cons_mk (shut_string Try.underlying9 w0) trodAll_mk0), rfl, bel.frame _, fun h => by cases h⟩

theorem overFnExactChunkPrints : Rows.fnExactChunkPrintsRow.holds Try.pinned (OpenSpec.ofChange Rows.fnExactChunkPrintsSpec) :=
  OpenClaim.holds_of_wide 6 Try.f6 rfl rfl rfl rfl rfl rfl rfl ⟨rfl, rfl, rfl, rfl, rfl⟩ rfl rfl rfl rfl rfl (by kernel_rfl) Try.func6 (by kernel_rfl)
    (of_decide_eq_true (by kernel_rfl)) (by unfold Func.isWrapper; first | (rw [if_pos (by decide +kernel)]; kernel_rfl) | (rw [if_neg (by decide +kernel)]; exact ⟨rfl, rfl⟩))
    (fun os started H enc _ => liftedFnExactChunkPrints os started H enc)

theorem provedFnExactChunkPrints : Rows.FnExactChunkPrintsSaid := overFnExactChunkPrints
end
end Go.Proofs.Ytkkihjmlinekfaa
