/- The law FnPrintPair: For every input the law returns true, and its arguments read as before. Conditions: none. -/
import Derived.Test.YtocikejeopipaaaRows
import Derived.Test.YtocikejeopipaaaDraw2
import Derived.Test.YtocikejeopipaaaPlain
import Derived.Test.YtocikejeopipaaaOpen
open Go.RowKit Go.ChangeShapes Go.WideShapes Go.ChangeAt
open Go.ChangeMaps (open_string shut_string)
set_option linter.unusedVariables false
namespace Go.Proofs.Ytocikejeopipaaa
theorem own_knobFnPrintPair : ownKnob Try.prog.godebug = none := by kernel_rfl
theorem laid_outFnPrintPair : laidOutB Try.prog = true := by kernel_rfl

set_option maxHeartbeats 1000000 in
theorem walkFnPrintPair (A0 : Option Addr) (n0 c0 : Nat) (x0 : List Int) (w : World) (r0 : Rd w 1 A0 n0 (byts x0)) (l0 : n0 ≤ c0) (w0 : ∀ x ∈ x0, (Lit.int .u8 x).wf = true) :
    Calls Try.prog 14 #[.slice A0 n0 c0] w fun e w' => e = .returned (.bool true) ∧ Below w.heap.size w w' := by
  by_cases hb : n0 ≤ 1048576
  · go_enter Try.func14, Try.ntmps14
    go_wp2_with (go_at_call 36; refine (drawPrintPair _ _ _ x0 _ r0 l0 w0).mono ?_; rintro e w1 ⟨a, b, rfl, ⟨a0, a1⟩, ⟨b0, b1⟩, hbel⟩)
    by_cases hok : 0 ≤ pairP a b
    · by_cases hp : (0 ≤ a ∧ a ≤ 16777212) ∧ (0 ≤ b ∧ b ≤ 16777212)
      · obtain ⟨⟨p0, p1⟩, ⟨p2, p3⟩⟩ := hp
        have hle : pairP a b ≤ 16777212 := pairP_bd.2
        have h1 : ¬ pairP ((a + 1) % 16777213) b = pairP a b := fun h => by
          have := pairP_inj1 ⟨by omega, by omega⟩ ⟨p0, p1⟩ ⟨p2, p3⟩ h
          omega
        have h2 : ¬ pairP a ((b + 1) % 16777213) = pairP a b := fun h => by
          have := pairP_inj2 ⟨by omega, by omega⟩ ⟨p2, p3⟩ ⟨p0, p1⟩ h
          omega
        go_wp2_with (first | (go_at_call 17; refine (specPrintPair _ _ _).mono ?_; rintro e w' ⟨rfl, rfl⟩) | (go_at_call 18; refine (implPrintPair _ _ _).mono ?_; rintro e w' ⟨rfl, rfl⟩))
        go_ret
        exact ⟨ret_bool (show (pairP ((a + 1) % 16777213) b != pairP a b && pairP a ((b + 1) % 16777213) != pairP a b) = true by simp [h1, h2]), hbel⟩
      · exact absurd hok (by rw [pairP_no hp]; omega)
    · have hn : pairP a b = -1 := by have := @pairP_bd a b; omega
      have HN := Lib.hid hn
      clear hn hok
      go_wp2_with (first | (go_at_call 17; refine (specPrintPair _ _ _).mono ?_; rintro e w' ⟨rfl, rfl⟩; rw [HN.out]) | (go_at_call 18; refine (implPrintPair _ _ _).mono ?_; rintro e w' ⟨rfl, rfl⟩; rw [HN.out]) | (go_at_call 30; refine (alive _).mono ?_; rintro e w' ⟨rfl, rfl⟩))
      go_ret
      exact ⟨rfl, hbel⟩
  · go_enter Try.func14, Try.ntmps14
    go_wp2
    go_ret
    exact ⟨rfl, Below.refl _ _⟩

section
set_option maxRecDepth 100000 in
theorem liftedFnPrintPair (os : Os) (started : os.Started) (H : Type) (enc : TypeId × Value → H) :
    ReturnsInHanded {} Try.checked os 14 .any (Rows.fnPrintPairSpec.pre6 enc Try.prog Try.f14 Rows.fnPrintPairRow.domain false) (Rows.fnPrintPairSpec.post enc Try.prog Try.f14 false true false false) := by
  refine returnsInHanded_of_change (C := Try.checked) own_knobFnPrintPair started (by kernel_rfl) Try.func14
    (ChangeSpec.witness6 (enc := enc) (C := Try.checked) false ⟨#[], #[.slice none 0 0], []⟩ 8 (by kernel_rfl) (by kernel_rfl) (by kernel_rfl) (by kernel_rfl)) ?_
  intro W base args ds gs before hval0 hW hcnd _
  have hval : ∀ (j : Nat) t v, Try.f14.params[j]? = some t → args[j]? = some v → Value.okWide Try.prog W .any base t v := hval0
  have hW' := hW
  obtain ⟨p, q, hA0, hV, rfl, hfz, hnd⟩ := hW
  have hA : DataW.TrodAll enc Try.prog W 0 (fun _ => true) true Try.f14.params.toList args.toList ds p := hA0
  rw [Try.params14] at hA hval
  obtain ⟨v0, vs0, d0, ds0, p0, q0, hargs, rfl, rfl, h0, t0⟩ := trodAll_cons hA
  obtain ⟨rfl, rfl, rfl⟩ := trodAll_nil t0
  obtain rfl : args = #[v0] := by cases args; simp_all
  obtain ⟨rfl, rfl⟩ := trodVars_none hV
  obtain ⟨A0, n0, c0, rfl⟩ := okWide_slice Try.underlying30 (hval 0 30 v0 rfl rfl)
  have lt0 : ∀ x ∈ p0, x.block < W.heap.size := by obtain ⟨m, hm⟩ := h0; exact DataW.trod_lt m _ _ _ hm
  obtain ⟨l0, _, x0, r0, w0⟩ := open_rd_num Try.underlying30 Try.underlying5 (by kernel_rfl) h0
  clear hA0 hval0
  refine (walkFnPrintPair A0 n0 c0 x0 W r0 l0 w0).mono fun e W' ⟨he, bel⟩ => ?_
  subst he
  exact ⟨_, rfl, _, _, _, [], _, [], hW', trodAll_mk1 (shut_bool Try.underlying4 _), (trodAll_cons_mk (Below.trod laid_outFnPrintPair (by kernel_rfl) (of_decide_eq_true (by kernel_rfl)) h0 bel lt0) trodAll_mk0), rfl, bel.frame _, fun h => by cases h⟩

theorem overFnPrintPair : Rows.fnPrintPairRow.holds Try.pinned (OpenSpec.ofChange Rows.fnPrintPairSpec) :=
  OpenClaim.holds_of_wide 14 Try.f14 rfl rfl rfl rfl rfl rfl rfl ⟨rfl, rfl, rfl, rfl, rfl⟩ rfl rfl rfl rfl rfl (by kernel_rfl) Try.func14 (by kernel_rfl)
    (of_decide_eq_true (by kernel_rfl)) (by unfold Func.isWrapper; first | (rw [if_pos (by decide +kernel)]; kernel_rfl) | (rw [if_neg (by decide +kernel)]; exact ⟨rfl, rfl⟩))
    (fun os started H enc _ => liftedFnPrintPair os started H enc)

theorem provedFnPrintPair : Rows.FnPrintPairSaid := overFnPrintPair
end
end Go.Proofs.Ytocikejeopipaaa
