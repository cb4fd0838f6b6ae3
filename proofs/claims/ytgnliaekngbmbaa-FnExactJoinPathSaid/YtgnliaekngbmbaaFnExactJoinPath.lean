/- The law FnExactJoinPath: For every input the law returns true, and its arguments read as before. Conditions: none. -/
import Derived.Test.YtgnliaekngbmbaaRows
import Derived.Test.YtgnliaekngbmbaaStrs
import Derived.Test.YtgnliaekngbmbaaPathI
import Derived.Test.YtgnliaekngbmbaaOpen
open Go.RowKit Go.ChangeShapes Go.WideShapes Go.ChangeAt
open Go.ChangeMaps (open_string shut_string)
set_option linter.unusedVariables false
namespace Go.Proofs.Ytgnliaekngbmbaa
theorem own_knobFnExactJoinPath : ownKnob Try.prog.godebug = none := by kernel_rfl
theorem laid_outFnExactJoinPath : laidOutB Try.prog = true := by kernel_rfl

set_option maxHeartbeats 1000000 in
theorem walkFnExactJoinPath (A0 : Option Addr) (n0 c0 : Nat) (x0 : List ByteArray) (w : World) (r0 : Rd w 1 A0 n0 (strs x0)) (l0 : n0 ≤ c0) (w0 : ∀ x ∈ x0, x.size ≤ maxLen) (m0 : n0 ≤ maxLen) :
    Calls Try.prog 5 #[.slice A0 n0 c0] w fun e w' => e = .returned (.bool true) ∧ Below w.heap.size w w' := by
  have hs : ∀ x ∈ x0, x.size ≤ maxLen := fun x hx => w0 x hx
  have HX := Lib.hid hs
  clear hs w0
  obtain ⟨g, hg⟩ : ∃ g, joinP x0 = g := ⟨_, rfl⟩
  have HG := Lib.hid hg
  clear hg
  go_enter Try.func5, Try.ntmps5
  go_wp2_with fail
  refine (szStringS _ _ _ _ x0 _ r0 HX.out m0 (by omega)).mono ?_
  rintro e u0 ⟨⟨l, rfl, hl, hl1⟩, rfl⟩
  have hb0 : Below w.heap.size w w := Below.refl _ _
  by_cases hneg : l < 0
  · go_wp2_with fail
    go_ret
    exact ⟨rfl, hb0⟩
  · have htot := hl (by omega)
    have hn : n0 ≤ 1048576 := by omega
    clear hl htot
    go_wp2_with fail
    refine (toStringS _ _ _ x0 _ (r0.below hb0) (by omega)).mono ?_
    rintro e u1 ⟨v1, rfl, ho1, hb1⟩
    obtain ⟨A1, c1, rfl, hc1⟩ := own_slice ho1
    have hB1 := below_step hb0 hb1
    go_wp2_with fail
    refine (specJoinPath _ _ _ x0 _ (Rd.own ho1) HX.out (by omega)).mono ?_
    rintro e u2 ⟨rfl, rfl⟩
    rw [HG.out]
    go_wp2_with fail
    refine (toStringS _ _ _ x0 _ (r0.below hB1) (by omega)).mono ?_
    rintro e u3 ⟨v3, rfl, ho3, hb3⟩
    obtain ⟨A3, c3, rfl, hc3⟩ := own_slice ho3
    have hB3 := below_step hB1 hb3
    go_wp2_with fail
    refine (implJoinPath _ _ _ x0 _ (Rd.own ho3) hc3 HX.out (by omega)).mono ?_
    rintro e u4 ⟨rfl, hb4⟩
    have hB4 := below_step hB3 hb4
    have hr4 := (Rd.own ho3).below hb4
    rw [HG.out]
    have e0 : (g.toList != g.toList) = false := by simp
    have e1 : (g.toList == g.toList) = true := by simp
    go_wp2_with fail
    refine (toStringS _ _ _ x0 _ (r0.below hB4) (by omega)).mono ?_
    rintro e u5 ⟨v5, rfl, ho5, hb5⟩
    obtain ⟨A5, c5, rfl, _⟩ := own_slice ho5
    have hB5 := below_step hB4 hb5
    go_wp2_with fail
    refine (eqStringS _ _ _ _ _ _ x0 x0 _ (hr4.below hb5) (Rd.own ho5) (by omega)).mono ?_
    rintro e u6 ⟨rfl, k6, rfl⟩
    rw [decide_eq_true rfl]
    go_wp2_with fail
    go_ret
    exact ⟨rfl, below_to hB5 hB5.size (below_drewN _ _)⟩

section
set_option maxRecDepth 100000 in
theorem liftedFnExactJoinPath (os : Os) (started : os.Started) (H : Type) (enc : TypeId × Value → H) :
    ReturnsInHanded {} Try.checked os 5 .any (Rows.fnExactJoinPathSpec.pre6 enc Try.prog Try.f5 Rows.fnExactJoinPathRow.domain false) (Rows.fnExactJoinPathSpec.post enc Try.prog Try.f5 false true false false) := by
  refine returnsInHanded_of_change (C := Try.checked) own_knobFnExactJoinPath started (by kernel_rfl) Try.func5
    (ChangeSpec.witness6 (enc := enc) (C := Try.checked) false ⟨#[], #[.slice none 0 0], []⟩ 8 (by kernel_rfl) (by kernel_rfl) (by kernel_rfl) (by kernel_rfl)) ?_
  intro W base args ds gs before hval0 hW hcnd _
  have hval : ∀ (j : Nat) t v, Try.f5.params[j]? = some t → args[j]? = some v → Value.okWide Try.prog W .any base t v := hval0
  have hW' := hW
  obtain ⟨p, q, hA0, hV, rfl, hfz, hnd⟩ := hW
  have hA : DataW.TrodAll enc Try.prog W 0 (fun _ => true) true Try.f5.params.toList args.toList ds p := hA0
  rw [Try.params5] at hA hval
  obtain ⟨v0, vs0, d0, ds0, p0, q0, hargs, rfl, rfl, h0, t0⟩ := trodAll_cons hA
  obtain ⟨rfl, rfl, rfl⟩ := trodAll_nil t0
  obtain rfl : args = #[v0] := by cases args; simp_all
  obtain ⟨rfl, rfl⟩ := trodVars_none hV
  obtain ⟨A0, n0, c0, rfl⟩ := okWide_slice Try.underlying33 (hval 0 33 v0 rfl rfl)
  have lt0 : ∀ x ∈ p0, x.block < W.heap.size := by obtain ⟨m, hm⟩ := h0; exact DataW.trod_lt m _ _ _ hm
  obtain ⟨l0, m0, x0, r0, w0⟩ := open_rd_strs Try.underlying33 Try.underlying9 (by kernel_rfl) h0
  clear hA0 hval0
  refine (walkFnExactJoinPath A0 n0 c0 x0 W r0 l0 w0 (Nat.le_trans l0 m0)).mono fun e W' ⟨he, bel⟩ => ?_
  subst he
  exact ⟨_, rfl, _, _, _, [], _, [], hW', trodAll_mk1 (shut_bool Try.underlying4 _), (trodAll_cons_mk (Below.trod laid_outFnExactJoinPath (by kernel_rfl) (of_decide_eq_true (by kernel_rfl)) h0 bel lt0) trodAll_mk0), rfl, bel.frame _, fun h => by cases h⟩

theorem overFnExactJoinPath : Rows.fnExactJoinPathRow.holds Try.pinned (OpenSpec.ofChange Rows.fnExactJoinPathSpec) :=
  OpenClaim.holds_of_wide 5 Try.f5 rfl rfl rfl rfl rfl rfl rfl ⟨rfl, rfl, rfl, rfl, rfl⟩ rfl rfl rfl rfl rfl (by kernel_rfl) Try.func5 (by kernel_rfl)
    (of_decide_eq_true (by kernel_rfl)) (by unfold Func.isWrapper; first | (rw [if_pos (by decide +kernel)]; kernel_rfl) | (rw [if_neg (by decide +kernel)]; exact ⟨rfl, rfl⟩))
    (fun os started H enc _ => liftedFnExactJoinPath os started H enc)

theorem provedFnExactJoinPath : Rows.FnExactJoinPathSaid := overFnExactJoinPath
end
end Go.Proofs.Ytgnliaekngbmbaa
