/- The law FnExactChunksOf: For every input the law returns true, and its arguments read as before. Conditions: none. -/
import Derived.Test.YtnbdhmjgckomcaaRows
import Derived.Test.YtnbdhmjgckomcaaStrs
import Derived.Test.YtnbdhmjgckomcaaChunk2
import Derived.Test.YtnbdhmjgckomcaaOwn
import Derived.Test.YtnbdhmjgckomcaaOpen
open Go.RowKit Go.ChangeShapes Go.WideShapes Go.ChangeAt
open Go.ChangeMaps (open_string shut_string)
set_option linter.unusedVariables false
namespace Go.Proofs.Ytnbdhmjgckomcaa
theorem own_knobFnExactChunksOf : ownKnob Try.prog.godebug = none := by kernel_rfl
theorem laid_outFnExactChunksOf : laidOutB Try.prog = true := by kernel_rfl

set_option maxHeartbeats 1000000 in
theorem walkFnExactChunksOf (a0 : ByteArray) (w : World) (w0 : a0.size ≤ maxLen) :
    Calls Try.prog 9 #[.string a0] w fun e w' => e = .returned (.bool true) ∧ Below w.heap.size w w' := by
  by_cases hb : a0.size ≤ 1048576
  · go_enter Try.func9, Try.ntmps9
    go_wp2_with fail
    refine (specChunksOf a0 _ w0).mono ?_
    rintro e u1 ⟨v1, rfl, ho1, hb1⟩
    have sz2 := (hb1).size
    have hB2 := hb1
    obtain ⟨A1, c1, rfl, _⟩ := own_slice ho1
    go_wp2_with fail
    refine (implChunksOf a0 _ w0).mono ?_
    rintro e u3 ⟨v3, rfl, ho3, hb3⟩
    have sz4 := (hb3).size
    have hB4 := below_step hB2 hb3
    have own1_4 := own_below ho1 hb3
    obtain ⟨A3, c3, rfl, _⟩ := own_slice ho3
    go_wp2_with fail
    refine (eqStringS _ _ _ _ _ _ (chunksO a0) (chunksO a0) _ (Rd.own ho3) (Rd.own own1_4) (by have := chunksO_length a0; omega)).mono ?_
    rintro e u5 ⟨rfl, q5, hq5⟩
    have hb5 : Below (u3).heap.size u3 u5 := by rw [hq5]; exact below_drewN _ _
    clear hq5
    rw [decide_eq_true rfl]
    have sz6 := (hb5).size
    have hB6 := below_step hB4 hb5
    have own1_6 := own_below own1_4 hb5
    have own3_6 := own_below ho3 hb5
    go_wp2_with fail
    refine (markStringS _ _ _ 1 _ _ own3_6 (by have := chunksO_length a0; omega) (by omega)).mono ?_
    rintro e u7 ⟨rfl, hm7, hg7⟩
    have sz7 := hg7.size
    have hB7 := Below.grown hB6 hg7 hB6.size (fun k e => by have := (ho3.lt k e).1; omega)
    have own1_7 := own1_6.kept hg7 (own_ne ho1 ho3 (by omega))
    go_wp2_with fail
    refine (heldStringS _ _ _ 1 _ (Rd.own hm7) (by have := chunksO_length a0; omega) (by omega)).mono ?_
    rintro e u8 ⟨rfl, hb8⟩
    have sz9 := (hb8).size
    have hB9 := below_step hB7 hb8
    have own1_9 := own_below own1_7 hb8
    have own3_9 := own_below hm7 hb8
    go_wp2_with fail
    refine (implChunksOf a0 _ w0).mono ?_
    rintro e u10 ⟨v10, rfl, ho10, hb10⟩
    have sz11 := (hb10).size
    have hB11 := below_step hB9 hb10
    have own1_11 := own_below own1_9 hb10
    have own3_11 := own_below own3_9 hb10
    obtain ⟨A10, c10, rfl, _⟩ := own_slice ho10
    go_wp2_with fail
    refine (eqStringS _ _ _ _ _ _ (chunksO a0) (chunksO a0) _ (Rd.own ho10) (Rd.own own1_11) (by have := chunksO_length a0; omega)).mono ?_
    rintro e u12 ⟨rfl, q12, hq12⟩
    have hb12 : Below (u10).heap.size u10 u12 := by rw [hq12]; exact below_drewN _ _
    clear hq12
    rw [decide_eq_true rfl]
    have sz13 := (hb12).size
    have hB13 := below_step hB11 hb12
    have own1_13 := own_below own1_11 hb12
    have own3_13 := own_below own3_11 hb12
    have own10_13 := own_below ho10 hb12
    go_wp2_with fail
    refine (heldStringS _ _ _ 1 _ (Rd.own own3_13) (by have := chunksO_length a0; omega) (by omega)).mono ?_
    rintro e u14 ⟨rfl, hb14⟩
    have sz15 := (hb14).size
    have hB15 := below_step hB13 hb14
    have own1_15 := own_below own1_13 hb14
    have own3_15 := own_below own3_13 hb14
    have own10_15 := own_below own10_13 hb14
    go_wp2_with fail
    go_ret
    exact ⟨rfl, hB15⟩
  · go_enter Try.func9, Try.ntmps9
    go_wp2
    all_goals (go_ret; exact ⟨rfl, Below.refl _ _⟩)

section
set_option maxRecDepth 100000 in
theorem liftedFnExactChunksOf (os : Os) (started : os.Started) (H : Type) (enc : TypeId × Value → H) :
    ReturnsInHanded {} Try.checked os 9 .any (Rows.fnExactChunksOfSpec.pre6 enc Try.prog Try.f9 Rows.fnExactChunksOfRow.domain false) (Rows.fnExactChunksOfSpec.post enc Try.prog Try.f9 false true false false) := by
  refine returnsInHanded_of_change (C := Try.checked) own_knobFnExactChunksOf started (by kernel_rfl) Try.func9
    (ChangeSpec.witness6 (enc := enc) (C := Try.checked) false ⟨#[], #[.string ByteArray.empty], []⟩ 8 (by kernel_rfl) (by kernel_rfl) (by kernel_rfl) (by kernel_rfl)) ?_
  intro W base args ds gs before hval0 hW hcnd _
  have hval : ∀ (j : Nat) t v, Try.f9.params[j]? = some t → args[j]? = some v → Value.okWide Try.prog W .any base t v := hval0
  have hW' := hW
  obtain ⟨p, q, hA0, hV, rfl, hfz, hnd⟩ := hW
  have hA : DataW.TrodAll enc Try.prog W 0 (fun _ => true) true Try.f9.params.toList args.toList ds p := hA0
  rw [Try.params9] at hA hval
  obtain ⟨v0, vs0, d0, ds0, p0, q0, hargs, rfl, rfl, h0, t0⟩ := trodAll_cons hA
  obtain ⟨rfl, rfl, rfl⟩ := trodAll_nil t0
  obtain rfl : args = #[v0] := by cases args; simp_all
  obtain ⟨rfl, rfl⟩ := trodVars_none hV
  obtain ⟨a0, rfl, rfl, rfl, w0⟩ := open_string Try.underlying9 (hval 0 9 v0 rfl rfl) h0
  clear hA0 hval0
  refine (walkFnExactChunksOf a0 W w0).mono fun e W' ⟨he, bel⟩ => ?_
  subst he
  exact ⟨_, rfl, _, _, _, [], _, [], hW', trodAll_mk1 (shut_bool Try.underlying4 _), (trodAll_cons_mk (shut_string Try.underlying9 w0) trodAll_mk0), rfl, bel.frame _, fun h => by cases h⟩

theorem overFnExactChunksOf : Rows.fnExactChunksOfRow.holds Try.pinned (OpenSpec.ofChange Rows.fnExactChunksOfSpec) :=
  OpenClaim.holds_of_wide 9 Try.f9 rfl rfl rfl rfl rfl rfl rfl ⟨rfl, rfl, rfl, rfl, rfl⟩ rfl rfl rfl rfl rfl (by kernel_rfl) Try.func9 (by kernel_rfl)
    (of_decide_eq_true (by kernel_rfl)) (by unfold Func.isWrapper; first | (rw [if_pos (by decide +kernel)]; kernel_rfl) | (rw [if_neg (by decide +kernel)]; exact ⟨rfl, rfl⟩))
    (fun os started H enc _ => liftedFnExactChunksOf os started H enc)

theorem provedFnExactChunksOf : Rows.FnExactChunksOfSaid := overFnExactChunksOf
end
end Go.Proofs.Ytnbdhmjgckomcaa
