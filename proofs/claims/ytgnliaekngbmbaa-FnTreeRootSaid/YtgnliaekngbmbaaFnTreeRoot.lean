/- The law FnTreeRoot: For every input the law returns true, and its arguments read as before. Conditions: none. -/
import Derived.Test.YtgnliaekngbmbaaRows
import Derived.Test.YtgnliaekngbmbaaDrawTree
import Derived.Test.YtgnliaekngbmbaaTree2
import Derived.Test.YtgnliaekngbmbaaProofL
import Derived.Test.YtgnliaekngbmbaaAppend2
import Derived.Test.YtgnliaekngbmbaaOpen
import Derived.Test.YtgnliaekngbmbaaCut
import Derived.Deep.RegionHeld
open Go.RowKit Go.ChangeShapes Go.WideShapes Go.ChangeAt
open Go.ChangeMaps (open_string shut_string)
set_option linter.unusedVariables false
namespace Go.Proofs.Ytgnliaekngbmbaa
theorem own_knobFnTreeRoot : ownKnob Try.prog.godebug = none := by kernel_rfl
theorem laid_outFnTreeRoot : laidOutB Try.prog = true := by kernel_rfl
/-- What holds while the two roots are made. -/
def RtS (w1 : World) (g bb o k : Nat) (zs : List Int) (x : Int) (W : World) : Prop := Below w1.heap.size w1 W ∧ Rd W 1 (some ⟨g, 0, none⟩) k (ints zs) ∧ Rd W 1 (some ⟨bb, o, none⟩) 1 (ints [x])
theorem RtS.step {w1 W W' : World} {g bb o k : Nat} {zs : List Int} {x : Int} (h : RtS w1 g bb o k zs x W) (hb : Below W.heap.size W W') : RtS w1 g bb o k zs x W' := ⟨below_step h.1 hb, h.2.1.below hb, h.2.2.below hb⟩
theorem RtS.drew {w1 W : World} {g bb o k : Nat} {zs : List Int} {x : Int} (h : RtS w1 g bb o k zs x W) : RtS w1 g bb o k zs x W.drew := h.step (below_drewN W 1)
theorem RtS.cell {w1 W : World} {g bb o k : Nat} {zs : List Int} {x : Int} (h : RtS w1 g bb o k zs x W) : W.cell? ⟨bb, o, none⟩ = some (.int .i64 x) := by
  obtain ⟨b', o', e, _, hc⟩ := h.2.2.2 (by omega)
  injection e with e
  injection e with e1 e2
  subst e1 e2
  exact hc 0 _ rfl
set_option maxHeartbeats 1000000 in
theorem walkFnTreeRoot (A0 : Option Addr) (n0 c0 : Nat) (x0 : List Int) (w : World) (r0 : Rd w 1 A0 n0 (byts x0)) (l0 : n0 ≤ c0) (w0 : ∀ x ∈ x0, (Lit.int .u8 x).wf = true) :
    Calls Try.prog 4 #[.slice A0 n0 c0] w fun e w' => e = .returned (.bool true) ∧ Below w.heap.size w w' := by
  by_cases hb : n0 ≤ 1048576
  · go_enter Try.func4, Try.ntmps4
    go_wp2_with fail
    refine (drawTreeRoot _ _ _ x0 _ r0 l0 w0).mono ?_
    rintro e w1 ⟨v, k, ys, rfl, hk, hown, hbel⟩
    obtain ⟨A, c, rfl, hkc⟩ := own_slice hown
    have hr := Rd.own hown
    have HY := Lib.hid hr.intLen
    go_wp2_with fail
    refine (implTreeRoot _ _ _ ys _ hr (by omega)).mono ?_
    rintro e w2 ⟨rfl, hb2⟩
    go_wp2_with fail
    refine (specTreeRoot _ _ _ ys _ (hr.below hb2) (by omega)).mono ?_
    rintro e w3 ⟨rfl, hb3⟩
    have hB3 := below_step hb2 hb3
    by_cases hneg : treeR ys < 0
    · obtain ⟨_, hm⟩ := treeR_neg hneg
      rw [hm]
      clear hm hneg
      go_wp2_with (go_at_call 16; refine (alive _).mono ?_; rintro e w' ⟨rfl, rfl⟩)
      go_ret
      exact ⟨rfl, below_step hbel hB3⟩
    · have HV := Lib.hid (treeR_leaves (xs := ys) (by omega))
      have hbd := printB_bd (treeR_bd HV.out)
      have hp0 := hbd.1
      have hp1 := hbd.2
      clear hbd
      generalize hp : treeR ys = p at *
      have HP := Lib.hid hp
      clear hp hneg
      go_wp2_with fail
      go_loopw [5, 6] (fun i _ wr => ∃ j : Nat, j ≤ k ∧ i = .int .i64 (j : Int) ∧ Below w1.heap.size w1 wr) (fun i _ _ => k - (intOf i).toNat)
      case atStart => exact ⟨0, Nat.zero_le _, rfl, hB3⟩
      case round =>
        obtain ⟨j, hj, rfl, hbr⟩ := hrel
        have hrr := hr.below hbr
        by_cases hlt : j < k
        · obtain ⟨bb, off, x, rfl, hbb, hx, hc⟩ := hrr.intAt hlt
          obtain ⟨hxe, y0, y1⟩ := next_other x
          have hxp := printB_bd (all_at (leavesV_parts HV.out).2 hx)
          have hx0 := hxp.1
          have hx1 := hxp.2
          have HNE := Lib.hid (show treeR (ys.set j ((x + 1) % 16777213)) ≠ p from fun e => treeR_set HV.out (printB_yes y0 y1) hx hxe (e.trans HP.out.symm))
          have HONE := Lib.hid (treeR_one (printB_yes hx0 hx1))
          have hcut := hrr.intCut j 1 (by omega)
          rw [one_of hx] at hcut
          have HC := Lib.hid hcut
          clear hxp hx hcut hxe
          go_wp2_with (at_builtin; refine wpList_appS _ rfl (.tmp 31) (.tmp 32) _ rfl wr.heap.size 3 1 8 (.int .i64 0) Try.underlying30 int_info rfl (by omega) (by omega) _ 0 _ rfl (own_empty wr 3 1) (some ⟨bb, off, none⟩) k c (ints ys) rfl (hrr.alloc _) (ints_one _) (by omega) (by simp) ?_; intro v2 w2 hown2 hg2 _; have hb2 : Below wr.heap.size wr w2 := below_app ((Below.refl _ _).alloc (Nat.le_refl _) _) (own_empty wr 3 1) hg2 (by simp); rw [List.nil_append, Nat.zero_add] at hown2; obtain ⟨g, cap, cur, rfl, hgb⟩ : ∃ g cap cur, v2 = .slice (some ⟨g, 0, none⟩) k cap ∧ cur = g ∧ wr.heap.size ≤ g := own_at hown2 (by omega); have hc2 := (hb2.cell (show bb < wr.heap.size from hbb)).trans hc; have hfz := hown2.frozenAt j; obtain ⟨u, hu⟩ : ∃ u, w2.cell? ⟨g, j, none⟩ = some u := by { rw [hown2.cellAt j (by omega)]; exact ⟨_, List.getElem?_eq_getElem (by rw [ints_length, HY.out]; exact hlt)⟩ }; have hst := hown2.stored j (.int .i64 ((x + 1) % 16777213)); rw [ints_set] at hst; have HST := Lib.hid hst.1; have HB3 := Lib.hid (hb2.grown hst.2 hb2.size (fun q e => by injection e with e; omega)); clear hst)
          have ho3 := HST.out
          have hb3 := HB3.out
          generalize hw3 : World.setCell w2 _ _ = w3 at ho3 hb3 ⊢
          clear hw3 HST HB3 hu hfz hc2 hg2 hown2 hb2
          obtain ⟨q, hq⟩ : ∃ q, treeR (ys.set j ((x + 1) % 16777213)) = q := ⟨_, rfl⟩
          have hqp : (q == p) = false := by rw [← hq]; exact beq_false_of_ne HNE.out
          have HQ := Lib.hid hq
          clear hq HNE
          have hc3 := (hb3.cell (show bb < wr.heap.size from hbb)).trans hc
          have HR3 := Lib.hid (Rd.own ho3)
          have HC3 := Lib.hid (HC.out.below hb3)
          have hbb3 : bb < w3.heap.size := by have := hb3.size; omega
          have h3 : RtS w1 g bb (off + j) k (ys.set j ((x + 1) % 16777213)) x w3 := ⟨below_step hbr hb3, HR3.out, HC3.out⟩
          have HA : Hid (∀ (W : World), RtS w1 g bb (off + j) k (ys.set j ((x + 1) % 16777213)) x W → Calls Try.prog 18 #[.slice (some ⟨g, 0, none⟩) k cap] W fun e W' => e = .returned (.int .i64 q) ∧ W'.cell? ⟨bb, off + j, none⟩ = some (.int .i64 x) ∧ RtS w1 g bb (off + j) k (ys.set j ((x + 1) % 16777213)) x W') := Lib.hid (fun W hW => by
            refine (implTreeRoot (some ⟨g, 0, none⟩) k cap (ys.set j ((x + 1) % 16777213)) W hW.2.1 (by omega)).mono ?_
            rintro e w4 ⟨rfl, hb4⟩
            exact ⟨by rw [HQ.out], (hW.step hb4).cell, hW.step hb4⟩)
          have HB : Hid (∀ (W : World) (m c' : Nat), m = 1 → RtS w1 g bb (off + j) k (ys.set j ((x + 1) % 16777213)) x W → Calls Try.prog 18 #[.slice (some ⟨bb, off + j, none⟩) m c'] W fun e W' => e = .returned (.int .i64 x) ∧ W'.cell? ⟨bb, off + j, none⟩ = some (.int .i64 x) ∧ RtS w1 g bb (off + j) k (ys.set j ((x + 1) % 16777213)) x W') := Lib.hid (fun W m c' hm hW => by
            subst hm
            refine (implTreeRoot _ _ c' [x] W hW.2.2 (by omega)).mono ?_
            rintro e w5 ⟨rfl, hb5⟩
            exact ⟨by rw [HONE.out], (hW.step hb5).cell, hW.step hb5⟩)
          clear ho3 hb3 hc hrr HR3 HC3 HC HONE HQ hbr
          have hs2 : (j : Int) + 1 ≤ (c : Int) := by omega
          have hs4 : IntKind.i64.wrap ((j : Int) + 1) = (j : Int) + 1 := IntWalk.i64_in _ (by omega)
          have hs5 : j + 1 ≤ c := by omega
          have hs0 : (0 : Int) ≤ (j : Int) := Int.natCast_nonneg _
          have hs3 : (j : Int) < (k : Int) := by omega
          go_region_held (fun W => W.cell? ⟨bb, off + j, none⟩ = some (.int .i64 x) ∧ RtS w1 g bb (off + j) k (ys.set j ((x + 1) % 16777213)) x W) (first | exact ⟨hc3, h3⟩ | exact ⟨hc3, h3.drew⟩ | exact ⟨hc4, h4⟩ | exact ⟨hc5, h5⟩) (first | (go_at_call_of 18 g; refine (HA.out _ (by first | exact h3 | exact h3.drew)).mono ?_; rintro e w4 ⟨rfl, hc4, h4⟩) | (go_at_call_of 18 bb; refine (HB.out _ _ _ (by omega) (by first | exact h4 | exact h4.drew)).mono ?_; rintro e w5 ⟨rfl, hc5, h5⟩))
          go_wp2
          go_roundw
          case rel => exact ⟨j + 1, by omega, by go_num, h5.1⟩
          case measure => simp [intOf]; omega
        · obtain rfl : j = k := by omega
          have hp2 : decide (p ≤ 16777212) = true := decide_eq_true hp1
          go_wp2
          go_ret
          exact ⟨rfl, below_step hbel hbr⟩
  · go_enter Try.func4, Try.ntmps4
    go_wp2
    go_ret
    exact ⟨rfl, Below.refl _ _⟩

section
set_option maxRecDepth 100000 in
theorem liftedFnTreeRoot (os : Os) (started : os.Started) (H : Type) (enc : TypeId × Value → H) :
    ReturnsInHanded {} Try.checked os 4 .any (Rows.fnTreeRootSpec.pre6 enc Try.prog Try.f4 Rows.fnTreeRootRow.domain false) (Rows.fnTreeRootSpec.post enc Try.prog Try.f4 false true false false) := by
  refine returnsInHanded_of_change (C := Try.checked) own_knobFnTreeRoot started (by kernel_rfl) Try.func4
    (ChangeSpec.witness6 (enc := enc) (C := Try.checked) false ⟨#[], #[.slice none 0 0], []⟩ 8 (by kernel_rfl) (by kernel_rfl) (by kernel_rfl) (by kernel_rfl)) ?_
  intro W base args ds gs before hval0 hW hcnd _
  have hval : ∀ (j : Nat) t v, Try.f4.params[j]? = some t → args[j]? = some v → Value.okWide Try.prog W .any base t v := hval0
  have hW' := hW
  obtain ⟨p, q, hA0, hV, rfl, hfz, hnd⟩ := hW
  have hA : DataW.TrodAll enc Try.prog W 0 (fun _ => true) true Try.f4.params.toList args.toList ds p := hA0
  rw [Try.params4] at hA hval
  obtain ⟨v0, vs0, d0, ds0, p0, q0, hargs, rfl, rfl, h0, t0⟩ := trodAll_cons hA
  obtain ⟨rfl, rfl, rfl⟩ := trodAll_nil t0
  obtain rfl : args = #[v0] := by cases args; simp_all
  obtain ⟨rfl, rfl⟩ := trodVars_none hV
  obtain ⟨A0, n0, c0, rfl⟩ := okWide_slice Try.underlying22 (hval 0 22 v0 rfl rfl)
  have lt0 : ∀ x ∈ p0, x.block < W.heap.size := by obtain ⟨m, hm⟩ := h0; exact DataW.trod_lt m _ _ _ hm
  obtain ⟨l0, _, x0, r0, w0⟩ := open_rd_num Try.underlying22 Try.underlying5 (by kernel_rfl) h0
  clear hA0 hval0
  refine (walkFnTreeRoot A0 n0 c0 x0 W r0 l0 w0).mono fun e W' ⟨he, bel⟩ => ?_
  subst he
  exact ⟨_, rfl, _, _, _, [], _, [], hW', trodAll_mk1 (shut_bool Try.underlying4 _), (trodAll_cons_mk (Below.trod laid_outFnTreeRoot (by kernel_rfl) (of_decide_eq_true (by kernel_rfl)) h0 bel lt0) trodAll_mk0), rfl, bel.frame _, fun h => by cases h⟩

theorem overFnTreeRoot : Rows.fnTreeRootRow.holds Try.pinned (OpenSpec.ofChange Rows.fnTreeRootSpec) :=
  OpenClaim.holds_of_wide 4 Try.f4 rfl rfl rfl rfl rfl rfl rfl ⟨rfl, rfl, rfl, rfl, rfl⟩ rfl rfl rfl rfl rfl (by kernel_rfl) Try.func4 (by kernel_rfl)
    (of_decide_eq_true (by kernel_rfl)) (by unfold Func.isWrapper; first | (rw [if_pos (by decide +kernel)]; kernel_rfl) | (rw [if_neg (by decide +kernel)]; exact ⟨rfl, rfl⟩))
    (fun os started H enc _ => liftedFnTreeRoot os started H enc)

theorem provedFnTreeRoot : Rows.FnTreeRootSaid := overFnTreeRoot
end
end Go.Proofs.Ytgnliaekngbmbaa
