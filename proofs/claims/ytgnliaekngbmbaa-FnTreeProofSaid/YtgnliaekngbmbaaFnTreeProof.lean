/- The law FnTreeProof: For every input the law returns true, and its arguments read as before. Conditions: none. -/
import Derived.Test.YtgnliaekngbmbaaRows
import Derived.Test.YtgnliaekngbmbaaDrawTree
import Derived.Test.YtgnliaekngbmbaaTree2
import Derived.Test.YtgnliaekngbmbaaTree3
import Derived.Test.YtgnliaekngbmbaaTree4
import Derived.Test.YtgnliaekngbmbaaProofL
import Derived.Test.YtgnliaekngbmbaaInts2
import Derived.Test.YtgnliaekngbmbaaOpen
import Derived.Test.YtgnliaekngbmbaaCut
open Go.RowKit Go.ChangeShapes Go.WideShapes Go.ChangeAt
open Go.ChangeMaps (open_string shut_string)
set_option linter.unusedVariables false
namespace Go.Proofs.Ytgnliaekngbmbaa
theorem own_knobFnTreeProof : ownKnob Try.prog.godebug = none := by kernel_rfl
theorem laid_outFnTreeProof : laidOutB Try.prog = true := by kernel_rfl

set_option maxHeartbeats 1000000 in
theorem walkFnTreeProof (A0 : Option Addr) (n0 c0 : Nat) (x0 : List Int) (w : World) (r0 : Rd w 1 A0 n0 (byts x0)) (l0 : n0 ≤ c0) (w0 : ∀ x ∈ x0, (Lit.int .u8 x).wf = true) :
    Calls Try.prog 8 #[.slice A0 n0 c0] w fun e w' => e = .returned (.bool true) ∧ Below w.heap.size w w' := by
  by_cases hb : n0 ≤ 1048576
  · go_enter Try.func8, Try.ntmps8
    go_wp2_with fail
    refine (drawTreeProof _ _ _ x0 _ r0 l0 w0).mono ?_
    rintro e w1 ⟨v, k, ys, m, rfl, hk, ⟨hm0, hm1⟩, hown, hbel⟩
    obtain ⟨A, c, rfl, _⟩ := own_slice hown
    have hr := Rd.own hown
    have HY := Lib.hid hr.intLen
    go_wp2_with fail
    refine (implTreeProof _ _ _ m ys _ hr (by omega)).mono ?_
    rintro e w2 ⟨v2, rfl, hown2, hb2⟩
    obtain ⟨A2, c2, rfl, _⟩ := own_slice hown2
    go_wp2_with fail
    refine (specTreeProof _ _ _ m ys _ (hr.below hb2) (by omega)).mono ?_
    rintro e w3 ⟨v3, rfl, hown3, hb3⟩
    obtain ⟨A3, c3, rfl, _⟩ := own_slice hown3
    have hlen := treeP_length ys m
    go_wp2_with fail
    refine (sameInts _ _ _ _ _ _ _ _ _ ((Rd.own hown2).below hb3) (Rd.own hown3) hlen).mono ?_
    rintro e w4 ⟨rfl, q, rfl⟩
    rw [decide_eq_true rfl]
    have hB3 := below_step hb2 hb3
    have hB4 : Below w1.heap.size w1 (w3.drewN q) := below_to hB3 hB3.size (below_drewN _ q)
    have HP := Lib.hid (((Rd.own hown2).below hb3).drewN q)
    clear hown3 hown2 hb3 hb2 hB3
    generalize w3.drewN q = w4 at *
    go_wp2_with fail
    refine (implTreeRoot _ _ _ ys _ (hr.below hB4) (by omega)).mono ?_
    rintro e w5 ⟨rfl, hb5⟩
    have hB5 := below_step hB4 hb5
    have HP5 := Lib.hid (HP.out.below hb5)
    clear HP hB4 hb5
    by_cases hbad : treeR ys < 0 ∨ m < 0 ∨ (k : Int) ≤ m
    · have hno : treeP ys m = [] := treeP_no (by
        rintro ⟨hv, h0, h1⟩
        rw [HY.out] at h1
        rcases hbad with h | h | h
        · have := printB_bd (treeR_bd hv); omega
        · omega
        · omega)
      have hz : (((treeP ys m).length : Int) == 0) = true := by rw [hno]; rfl
      have hz' : ((treeP ys m).length == 0) = true := by rw [hno]; rfl
      clear hno
      generalize treeR ys = p at *
      generalize (treeP ys m).length = z at *
      go_wp2_with (go_at_call 16; refine (alive _).mono ?_; rintro e w' ⟨rfl, rfl⟩)
      all_goals first
        | (go_ret; exact ⟨rfl, below_step hbel hB5⟩)
        | (exfalso; omega)
    · obtain ⟨mm, rfl⟩ := Int.eq_ofNat_of_zero_le (show 0 ≤ m by omega)
      have hmk : mm < k := by omega
      obtain ⟨bb, off, x, rfl, hbb, hx, hc⟩ := (hr.below hB5).intAt hmk
      have hv := treeR_leaves (xs := ys) (by omega)
      have h1 := proof_proves hv hx
      obtain ⟨hxe, y0, y1⟩ := next_other x
      have h2 := proof_other (n := (mm : Int)) (many := (ys.length : Int)) (proof := treeP ys mm) hxe ⟨y0, y1⟩ (by rw [h1]; omega)
      rw [h1] at h2
      rw [HY.out] at h1 h2
      have hxp := printB_bd (all_at (leavesV_parts hv).2 hx)
      have hx0 := hxp.1
      have hx1 := hxp.2
      have hd1 : decide (treeR ys < 0) = false := decide_eq_false (by omega)
      have HP1 := Lib.hid h1
      obtain ⟨q2, hq2⟩ : ∃ q2, proofR ((x + 1) % 16777213) mm k (treeP ys mm) = q2 := ⟨_, rfl⟩
      rw [hq2] at h2
      have HQ2 := Lib.hid hq2
      generalize treeR ys = p at *
      have hqp : (q2 != p) = true := by simpa using h2
      have hqp' : (q2 == p) = false := by simpa using h2
      have hd2 : decide (k ≤ mm) = false := decide_eq_false (by omega)
      have HU1 : Calls Try.prog 31 #[.int .i64 x, .int .i64 (mm : Int), .int .i64 (k : Int), .slice A2 (treeP ys mm).length c2] w5 fun e w' => e = .returned (.int .i64 p) ∧ w' = w5 := by
        refine (implProofRoot A2 _ c2 x mm k (treeP ys mm) _ HP5.out hlen).mono ?_
        rintro e w' ⟨rfl, rfl⟩
        exact ⟨by rw [HP1.out], rfl⟩
      have HU2 : Calls Try.prog 31 #[.int .i64 ((x + 1) % 16777213), .int .i64 (mm : Int), .int .i64 (k : Int), .slice A2 (treeP ys mm).length c2] w5 fun e w' => e = .returned (.int .i64 q2) ∧ w' = w5 := by
        refine (implProofRoot A2 _ c2 ((x + 1) % 16777213) mm k (treeP ys mm) _ HP5.out hlen).mono ?_
        rintro e w' ⟨rfl, rfl⟩
        exact ⟨by rw [HQ2.out], rfl⟩
      have HV1 := Lib.hid HU1
      have HV2 := Lib.hid HU2
      clear hxp hx hv hxe hbad h1 h2 hq2 HU1 HU2 HP1 HQ2 HP5
      generalize (treeP ys mm).length = z at *
      go_wp2_with (first | (go_at_call_of 31 (Value.int .i64 x); refine HV1.out.mono ?_; rintro e w' ⟨rfl, rfl⟩) | (go_at_call 31; refine HV2.out.mono ?_; rintro e w' ⟨rfl, rfl⟩))
      go_ret
      exact ⟨rfl, below_step hbel hB5⟩
  · go_enter Try.func8, Try.ntmps8
    go_wp2
    go_ret
    exact ⟨rfl, Below.refl _ _⟩

section
set_option maxRecDepth 100000 in
theorem liftedFnTreeProof (os : Os) (started : os.Started) (H : Type) (enc : TypeId × Value → H) :
    ReturnsInHanded {} Try.checked os 8 .any (Rows.fnTreeProofSpec.pre6 enc Try.prog Try.f8 Rows.fnTreeProofRow.domain false) (Rows.fnTreeProofSpec.post enc Try.prog Try.f8 false true false false) := by
  refine returnsInHanded_of_change (C := Try.checked) own_knobFnTreeProof started (by kernel_rfl) Try.func8
    (ChangeSpec.witness6 (enc := enc) (C := Try.checked) false ⟨#[], #[.slice none 0 0], []⟩ 8 (by kernel_rfl) (by kernel_rfl) (by kernel_rfl) (by kernel_rfl)) ?_
  intro W base args ds gs before hval0 hW hcnd _
  have hval : ∀ (j : Nat) t v, Try.f8.params[j]? = some t → args[j]? = some v → Value.okWide Try.prog W .any base t v := hval0
  have hW' := hW
  obtain ⟨p, q, hA0, hV, rfl, hfz, hnd⟩ := hW
  have hA : DataW.TrodAll enc Try.prog W 0 (fun _ => true) true Try.f8.params.toList args.toList ds p := hA0
  rw [Try.params8] at hA hval
  obtain ⟨v0, vs0, d0, ds0, p0, q0, hargs, rfl, rfl, h0, t0⟩ := trodAll_cons hA
  obtain ⟨rfl, rfl, rfl⟩ := trodAll_nil t0
  obtain rfl : args = #[v0] := by cases args; simp_all
  obtain ⟨rfl, rfl⟩ := trodVars_none hV
  obtain ⟨A0, n0, c0, rfl⟩ := okWide_slice Try.underlying22 (hval 0 22 v0 rfl rfl)
  have lt0 : ∀ x ∈ p0, x.block < W.heap.size := by obtain ⟨m, hm⟩ := h0; exact DataW.trod_lt m _ _ _ hm
  obtain ⟨l0, _, x0, r0, w0⟩ := open_rd_num Try.underlying22 Try.underlying5 (by kernel_rfl) h0
  clear hA0 hval0
  refine (walkFnTreeProof A0 n0 c0 x0 W r0 l0 w0).mono fun e W' ⟨he, bel⟩ => ?_
  subst he
  exact ⟨_, rfl, _, _, _, [], _, [], hW', trodAll_mk1 (shut_bool Try.underlying4 _), (trodAll_cons_mk (Below.trod laid_outFnTreeProof (by kernel_rfl) (of_decide_eq_true (by kernel_rfl)) h0 bel lt0) trodAll_mk0), rfl, bel.frame _, fun h => by cases h⟩

theorem overFnTreeProof : Rows.fnTreeProofRow.holds Try.pinned (OpenSpec.ofChange Rows.fnTreeProofSpec) :=
  OpenClaim.holds_of_wide 8 Try.f8 rfl rfl rfl rfl rfl rfl rfl ⟨rfl, rfl, rfl, rfl, rfl⟩ rfl rfl rfl rfl rfl (by kernel_rfl) Try.func8 (by kernel_rfl)
    (of_decide_eq_true (by kernel_rfl)) (by unfold Func.isWrapper; first | (rw [if_pos (by decide +kernel)]; kernel_rfl) | (rw [if_neg (by decide +kernel)]; exact ⟨rfl, rfl⟩))
    (fun os started H enc _ => liftedFnTreeProof os started H enc)

theorem provedFnTreeProof : Rows.FnTreeProofSaid := overFnTreeProof
end
end Go.Proofs.Ytgnliaekngbmbaa
