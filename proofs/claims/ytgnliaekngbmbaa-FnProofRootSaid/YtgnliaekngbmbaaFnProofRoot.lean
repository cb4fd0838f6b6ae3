/- The law FnProofRoot: For every input the law returns true, and its arguments read as before. Conditions: none. -/
import Derived.Test.YtgnliaekngbmbaaRows
import Derived.Test.YtgnliaekngbmbaaDrawPr
import Derived.Test.YtgnliaekngbmbaaTree4
import Derived.Test.YtgnliaekngbmbaaProofL
import Derived.Test.YtgnliaekngbmbaaAppendG
import Derived.Test.YtgnliaekngbmbaaOpen
open Go.RowKit Go.ChangeShapes Go.WideShapes Go.ChangeAt
open Go.ChangeMaps (open_string shut_string)
set_option linter.unusedVariables false
namespace Go.Proofs.Ytgnliaekngbmbaa
theorem own_knobFnProofRoot : ownKnob Try.prog.godebug = none := by kernel_rfl
theorem laid_outFnProofRoot : laidOutB Try.prog = true := by kernel_rfl
theorem rd_new1 (w : World) (x : Int) : Rd (w.alloc (.cells #[.int .i64 x] 3)) 1 (some ⟨w.heap.size, 0, none⟩) 1 (ints [x]) :=
  Rd.own (own_ints1 w w.heap.size x (Nat.le_refl _))
set_option maxHeartbeats 1000000 in
theorem walkFnProofRoot (A0 : Option Addr) (n0 c0 : Nat) (x0 : List Int) (w : World) (r0 : Rd w 1 A0 n0 (byts x0)) (l0 : n0 ≤ c0) (w0 : ∀ x ∈ x0, (Lit.int .u8 x).wf = true) :
    Calls Try.prog 7 #[.slice A0 n0 c0] w fun e w' => e = .returned (.bool true) ∧ Below w.heap.size w w' := by
  by_cases hb : n0 ≤ 1048576
  · go_enter Try.func7, Try.ntmps7
    go_wp2_with fail
    refine (drawProofRoot _ _ _ x0 _ r0 l0 w0).mono ?_
    rintro e w1 ⟨a, b, d, v, k, ys, rfl, hk, hown, hbel⟩
    obtain ⟨A, c, rfl, _⟩ := own_slice hown
    have hr := Rd.own hown
    go_wp2_with fail
    refine (implProofRoot _ _ _ a b d ys _ hr (by omega)).mono ?_
    rintro e w2 ⟨rfl, rfl⟩
    go_wp2_with fail
    refine (specProofRoot _ _ _ a b d ys _ hr (by omega)).mono ?_
    rintro e w2 ⟨rfl, rfl⟩
    by_cases hneg : proofR a b d ys < 0
    · have hge := proofR_ge a b d ys
      have hm : proofR a b d ys = -1 := by omega
      rw [hm]
      clear hm hge hneg
      go_wp2_with (go_at_call 16; refine (alive _).mono ?_; rintro e w' ⟨rfl, rfl⟩)
      go_ret
      exact ⟨rfl, hbel⟩
    · obtain ⟨ha0, ha1⟩ := proofR_in (p := a) (n := b) (many := d) (proof := ys) (by omega)
      obtain ⟨hxe, y0, y1⟩ := next_other a
      have h2 := proof_other (n := b) (many := d) (proof := ys) hxe ⟨y0, y1⟩ (by omega)
      have h3 := proof_more (p := a) (n := b) (many := d) (x := 5) (proof := ys) (by omega)
      have HM := Lib.hid h3
      obtain ⟨q2, hq2⟩ : ∃ q2, proofR ((a + 1) % 16777213) b d ys = q2 := ⟨_, rfl⟩
      rw [hq2] at h2
      have HQ2 := Lib.hid hq2
      generalize hp : proofR a b d ys = p at *
      have HP := Lib.hid hp
      have hqp : (q2 != p) = true := by simpa using h2
      have hqp' : (q2 == p) = false := by simpa using h2
      have hd : decide (p < 0) = false := decide_eq_false hneg
      clear hxe h2 h3 hq2 hp hneg
      go_wp2_with (first | (go_at_call_of 31 A3; refine (implProofRoot _ _ _ a b d (ys ++ [5]) _ (Rd.own hown3) (by omega)).mono ?_; rintro e w' ⟨rfl, rfl⟩; rw [HM.out]) | (go_at_call_of 31 A; refine (implProofRoot _ _ _ _ b d ys _ hr (by omega)).mono ?_; rintro e w' ⟨rfl, rfl⟩; rw [HQ2.out]) | (at_builtin; refine wpList_appG _ (by rfl) (.tmp 52) (.tmp 53) _ rfl w1.heap.size 3 1 8 (.int .i64 0) Try.underlying30 int_info rfl (by omega) (by omega) _ 0 _ rfl (own_empty w1 3 1) A k c (ints ys) rfl (hr.alloc _) (ints_one _) (by omega) (by simp) ?_; intro v2 w2 hown2 hg2 _; have hb2 : Below w1.heap.size w1 w2 := below_app ((Below.refl _ _).alloc (Nat.le_refl _) _) (own_empty w1 3 1) hg2 (by simp); rw [List.nil_append, Nat.zero_add] at hown2) | (at_builtin; refine wpList_appG _ (by rfl) (.tmp 54) (.tmp 55) _ rfl w1.heap.size 3 1 8 (.int .i64 0) Try.underlying30 int_info rfl (by omega) (by omega) _ k _ rfl (hown2.alloc _) (some ⟨w2.heap.size, 0, none⟩) 1 1 (ints [5]) rfl (rd_new1 w2 5) (ints_one _) (by omega) (Nat.le_trans hb2.size (by simp)) ?_; intro v3 w3 hown3 hg3 _; have hb3 : Below w1.heap.size w1 w3 := below_app (hb2.alloc hb2.size (.cells #[.int .i64 5] 3)) (hown2.alloc (.cells #[.int .i64 5] 3)) hg3 (Nat.le_trans hb2.size (by simp)); rw [← ints_append] at hown3; obtain ⟨A3, c3, rfl, _⟩ := own_slice hown3))
      go_ret
      exact ⟨rfl, below_step hbel hb3⟩
  · go_enter Try.func7, Try.ntmps7
    go_wp2
    go_ret
    exact ⟨rfl, Below.refl _ _⟩

section
set_option maxRecDepth 100000 in
theorem liftedFnProofRoot (os : Os) (started : os.Started) (H : Type) (enc : TypeId × Value → H) :
    ReturnsInHanded {} Try.checked os 7 .any (Rows.fnProofRootSpec.pre6 enc Try.prog Try.f7 Rows.fnProofRootRow.domain false) (Rows.fnProofRootSpec.post enc Try.prog Try.f7 false true false false) := by
  refine returnsInHanded_of_change (C := Try.checked) own_knobFnProofRoot started (by kernel_rfl) Try.func7
    (ChangeSpec.witness6 (enc := enc) (C := Try.checked) false ⟨#[], #[.slice none 0 0], []⟩ 8 (by kernel_rfl) (by kernel_rfl) (by kernel_rfl) (by kernel_rfl)) ?_
  intro W base args ds gs before hval0 hW hcnd _
  have hval : ∀ (j : Nat) t v, Try.f7.params[j]? = some t → args[j]? = some v → Value.okWide Try.prog W .any base t v := hval0
  have hW' := hW
  obtain ⟨p, q, hA0, hV, rfl, hfz, hnd⟩ := hW
  have hA : DataW.TrodAll enc Try.prog W 0 (fun _ => true) true Try.f7.params.toList args.toList ds p := hA0
  rw [Try.params7] at hA hval
  obtain ⟨v0, vs0, d0, ds0, p0, q0, hargs, rfl, rfl, h0, t0⟩ := trodAll_cons hA
  obtain ⟨rfl, rfl, rfl⟩ := trodAll_nil t0
  obtain rfl : args = #[v0] := by cases args; simp_all
  obtain ⟨rfl, rfl⟩ := trodVars_none hV
  obtain ⟨A0, n0, c0, rfl⟩ := okWide_slice Try.underlying22 (hval 0 22 v0 rfl rfl)
  have lt0 : ∀ x ∈ p0, x.block < W.heap.size := by obtain ⟨m, hm⟩ := h0; exact DataW.trod_lt m _ _ _ hm
  obtain ⟨l0, _, x0, r0, w0⟩ := open_rd_num Try.underlying22 Try.underlying5 (by kernel_rfl) h0
  clear hA0 hval0
  refine (walkFnProofRoot A0 n0 c0 x0 W r0 l0 w0).mono fun e W' ⟨he, bel⟩ => ?_
  subst he
  exact ⟨_, rfl, _, _, _, [], _, [], hW', trodAll_mk1 (shut_bool Try.underlying4 _), (trodAll_cons_mk (Below.trod laid_outFnProofRoot (by kernel_rfl) (of_decide_eq_true (by kernel_rfl)) h0 bel lt0) trodAll_mk0), rfl, bel.frame _, fun h => by cases h⟩

theorem overFnProofRoot : Rows.fnProofRootRow.holds Try.pinned (OpenSpec.ofChange Rows.fnProofRootSpec) :=
  OpenClaim.holds_of_wide 7 Try.f7 rfl rfl rfl rfl rfl rfl rfl ⟨rfl, rfl, rfl, rfl, rfl⟩ rfl rfl rfl rfl rfl (by kernel_rfl) Try.func7 (by kernel_rfl)
    (of_decide_eq_true (by kernel_rfl)) (by unfold Func.isWrapper; first | (rw [if_pos (by decide +kernel)]; kernel_rfl) | (rw [if_neg (by decide +kernel)]; exact ⟨rfl, rfl⟩))
    (fun os started H enc _ => liftedFnProofRoot os started H enc)

theorem provedFnProofRoot : Rows.FnProofRootSaid := overFnProofRoot
end
end Go.Proofs.Ytgnliaekngbmbaa
