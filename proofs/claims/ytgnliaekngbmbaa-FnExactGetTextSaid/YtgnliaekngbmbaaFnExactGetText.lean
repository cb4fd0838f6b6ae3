/- The law FnExactGetText: For every input the law returns true, and its arguments read as before. Conditions: none. -/
import Derived.Test.YtgnliaekngbmbaaRows
import Derived.Test.YtgnliaekngbmbaaPcs
import Derived.Test.YtgnliaekngbmbaaGetT
import Derived.Test.YtgnliaekngbmbaaOpen
open Go.RowKit Go.ChangeShapes Go.WideShapes Go.ChangeAt
open Go.ChangeMaps (open_string shut_string)
set_option linter.unusedVariables false
namespace Go.Proofs.Ytgnliaekngbmbaa
theorem own_knobFnExactGetText : ownKnob Try.prog.godebug = none := by kernel_rfl
theorem laid_outFnExactGetText : laidOutB Try.prog = true := by kernel_rfl

set_option maxHeartbeats 1000000 in
theorem walkFnExactGetText (A0 : Option Addr) (n0 c0 : Nat) (x0 : List (Int × ByteArray)) (a1 : Int) (w : World) (r0 : Rd w 2 A0 n0 (pcs x0)) (l0 : n0 ≤ c0) (w0 : ∀ p ∈ x0, (Lit.int .i64 p.1).wf = true ∧ p.2.size ≤ maxLen) (m0 : n0 ≤ maxLen) (w1 : (Lit.int .i64 a1).wf = true) :
    Calls Try.prog 6 #[.slice A0 n0 c0, .int .i64 a1] w fun e w' => e = .returned (.bool true) ∧ Below w.heap.size w w' := by
  have hs : ∀ x ∈ x0, x.2.size ≤ maxLen := fun x hx => (w0 x hx).2
  have HX := Lib.hid hs
  clear hs w0
  obtain ⟨g, hg⟩ : ∃ g, (getT x0 a1).1 = g := ⟨_, rfl⟩
  obtain ⟨ok, hok⟩ : ∃ ok, (getT x0 a1).2 = ok := ⟨_, rfl⟩
  have HG := Lib.hid hg
  have HO := Lib.hid hok
  clear hg hok
  go_enter Try.func6, Try.ntmps6
  go_wp2_with fail
  refine (szPieceS _ _ _ _ x0 _ r0 HX.out m0 (by omega)).mono ?_
  rintro e u0 ⟨⟨l, rfl, hl, hl1⟩, hb0⟩
  by_cases hneg : l < 0
  · go_wp2_with fail
    go_ret
    exact ⟨rfl, hb0⟩
  · have htot := hl (by omega)
    have hn : n0 ≤ 1048576 := by omega
    clear hl htot
    go_wp2_with fail
    refine (toPieceS _ _ _ x0 _ (r0.below hb0) (by omega)).mono ?_
    rintro e u1 ⟨v1, rfl, ho1, hb1⟩
    obtain ⟨A1, c1, rfl, _⟩ := own_slice ho1
    have hB1 := below_step hb0 hb1
    go_wp2_with fail
    refine (specGetText _ _ _ _ x0 _ (Rd.own ho1) HX.out (by omega)).mono ?_
    rintro e u2 ⟨rfl, hb2⟩
    have hB2 := below_step hB1 hb2
    rw [HG.out, HO.out]
    go_wp2_with fail
    refine (toPieceS _ _ _ x0 _ (r0.below hB2) (by omega)).mono ?_
    rintro e u3 ⟨v3, rfl, ho3, hb3⟩
    obtain ⟨A3, c3, rfl, _⟩ := own_slice ho3
    have hB3 := below_step hB2 hb3
    go_wp2_with fail
    refine (implGetText _ _ _ _ x0 _ (Rd.own ho3) HX.out (by omega)).mono ?_
    rintro e u4 ⟨rfl, hb4⟩
    have hB4 := below_step hB3 hb4
    have hr4 := (Rd.own ho3).below hb4
    rw [HG.out, HO.out]
    have e0 : (g.toList != g.toList) = false := by simp
    have e1 : (g.toList == g.toList) = true := by simp
    go_wp2_with fail
    refine (toPieceS _ _ _ x0 _ (r0.below hB4) (by omega)).mono ?_
    rintro e u5 ⟨v5, rfl, ho5, hb5⟩
    obtain ⟨A5, c5, rfl, _⟩ := own_slice ho5
    have hB5 := below_step hB4 hb5
    go_wp2_with fail
    refine (eqPieceS _ _ _ _ _ _ x0 x0 _ (hr4.below hb5) (Rd.own ho5) (by omega)).mono ?_
    rintro e u6 ⟨rfl, hb6⟩
    rw [decide_eq_true rfl]
    go_wp2_with fail
    go_ret
    exact ⟨rfl, below_step hB5 hb6⟩

section
set_option maxRecDepth 100000 in
theorem liftedFnExactGetText (os : Os) (started : os.Started) (H : Type) (enc : TypeId × Value → H) :
    ReturnsInHanded {} Try.checked os 6 .any (Rows.fnExactGetTextSpec.pre6 enc Try.prog Try.f6 Rows.fnExactGetTextRow.domain false) (Rows.fnExactGetTextSpec.post enc Try.prog Try.f6 false true false false) := by
  refine returnsInHanded_of_change (C := Try.checked) own_knobFnExactGetText started (by kernel_rfl) Try.func6
    (ChangeSpec.witness6 (enc := enc) (C := Try.checked) false ⟨#[], #[.slice none 0 0, .int .i64 0], []⟩ 8 (by kernel_rfl) (by kernel_rfl) (by kernel_rfl) (by kernel_rfl)) ?_
  intro W base args ds gs before hval0 hW hcnd _
  have hval : ∀ (j : Nat) t v, Try.f6.params[j]? = some t → args[j]? = some v → Value.okWide Try.prog W .any base t v := hval0
  have hW' := hW
  obtain ⟨p, q, hA0, hV, rfl, hfz, hnd⟩ := hW
  have hA : DataW.TrodAll enc Try.prog W 0 (fun _ => true) true Try.f6.params.toList args.toList ds p := hA0
  rw [Try.params6] at hA hval
  obtain ⟨v0, vs0, d0, ds0, p0, q0, hargs, rfl, rfl, h0, t0⟩ := trodAll_cons hA
  obtain ⟨v1, vs1, d1, ds1, p1, q1, rfl, rfl, rfl, h1, t1⟩ := trodAll_cons t0
  obtain ⟨rfl, rfl, rfl⟩ := trodAll_nil t1
  obtain rfl : args = #[v0, v1] := by cases args; simp_all
  obtain ⟨rfl, rfl⟩ := trodVars_none hV
  obtain ⟨A0, n0, c0, rfl⟩ := okWide_slice Try.underlying39 (hval 0 39 v0 rfl rfl)
  have lt0 : ∀ x ∈ p0, x.block < W.heap.size := by obtain ⟨m, hm⟩ := h0; exact DataW.trod_lt m _ _ _ hm
  obtain ⟨l0, m0, x0, r0, w0⟩ := open_pcs Try.underlying39 Try.underlying83 (by kernel_rfl) rfl rfl (by kernel_rfl) (by kernel_rfl) Try.underlying3 Try.underlying9 h0
  obtain ⟨a1, rfl, rfl, rfl, w1⟩ := open_int Try.underlying3 (hval 1 3 v1 rfl rfl) h1
  clear hA0 hval0
  refine (walkFnExactGetText A0 n0 c0 x0 a1 W r0 l0 w0 (Nat.le_trans l0 m0) w1).mono fun e W' ⟨he, bel⟩ => ?_
  subst he
  exact ⟨_, rfl, _, _, _, [], _, [], hW', trodAll_mk1 (shut_bool Try.underlying4 _), (trodAll_cons_mk (Below.trod laid_outFnExactGetText (by kernel_rfl) (of_decide_eq_true (by kernel_rfl)) h0 bel lt0) (trodAll_cons_mk (shut_int Try.underlying3 w1) trodAll_mk0)), rfl, bel.frame _, fun h => by cases h⟩

theorem overFnExactGetText : Rows.fnExactGetTextRow.holds Try.pinned (OpenSpec.ofChange Rows.fnExactGetTextSpec) :=
  OpenClaim.holds_of_wide 6 Try.f6 rfl rfl rfl rfl rfl rfl rfl ⟨rfl, rfl, rfl, rfl, rfl⟩ rfl rfl rfl rfl rfl (by kernel_rfl) Try.func6 (by kernel_rfl)
    (of_decide_eq_true (by kernel_rfl)) (by unfold Func.isWrapper; first | (rw [if_pos (by decide +kernel)]; kernel_rfl) | (rw [if_neg (by decide +kernel)]; exact ⟨rfl, rfl⟩))
    (fun os started H enc _ => liftedFnExactGetText os started H enc)

theorem provedFnExactGetText : Rows.FnExactGetTextSaid := overFnExactGetText
end
end Go.Proofs.Ytgnliaekngbmbaa
