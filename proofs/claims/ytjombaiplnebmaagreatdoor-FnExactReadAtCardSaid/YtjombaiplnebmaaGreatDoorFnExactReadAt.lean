/- The law FnExactReadAt: For every input the law returns true, and its arguments read as before. Conditions: none. -/
import Derived.Test.YtjombaiplnebmaaGreatDoorRows
import Derived.Test.YtjombaiplnebmaaGreatDoorReadAt
import Derived.Test.YtjombaiplnebmaaGreatDoorPcs
import Derived.Test.YtjombaiplnebmaaGreatDoorMdo
import Derived.Test.YtjombaiplnebmaaGreatDoorMow
import Derived.Test.YtjombaiplnebmaaGreatDoorOpen
import Derived.Shelf.Vars
import Derived.Test.YtjombaiplnebmaaGreatDoorCards
import Derived.Test.YtjombaiplnebmaaGreatDoorTie
import Derived.ProofKit
import Derived.OpenShut
import Derived.LaidMore
import Derived.Lay
import Derived.SevenTiedAt
import Derived.Stop.Joined
open Go.RowKit Go.ChangeShapes Go.WideShapes Go.ChangeAt
open Go.ChangeMaps (open_string shut_string)
set_option linter.unusedVariables false
namespace Go.Proofs.YtjombaiplnebmaaGreatDoor
theorem own_knobFnExactReadAt : ownKnob Tryz.prog.godebug = none := by kernel_rfl
theorem laid_outFnExactReadAt : laidOutB Tryz.prog = true := by kernel_rfl

set_option maxHeartbeats 4000000 in
theorem walkFnExactReadAt (A0 : Option Addr) (n0 c0 : Nat) (x0 : List (Int × ByteArray)) (a1 : Int) (a2 : ByteArray) (w : World) (hL : laidMetH Tryz.prog Rows.fnExactReadAtRow.laid w) (hS : w.ShapedOpen Tryz.prog) (r0 : Rd w 2 A0 n0 (pcs x0)) (l0 : n0 ≤ c0) (w0 : ∀ p ∈ x0, (Lit.int .i64 p.1).wf = true ∧ p.2.size ≤ maxLen) (m0 : n0 ≤ maxLen) (w1 : (Lit.int .i64 a1).wf = true) (w2 : a2.size ≤ maxLen) :
    Calls Tryz.prog 3 #[.slice A0 n0 c0, .int .i64 a1, .string a2] w fun e w' => e = .returned (.bool true) ∧ Below w.heap.size w w' := by
  have hcell := tab_cell hL (by kernel_rfl) (List.Mem.tail _ (List.Mem.head _))
  obtain ⟨mm, hm⟩ := cell_of_shapedOpen_int (P := Tryz.prog) (g := 0) (t := 3) (zero := #[.int .i64 0]) (k := .i64) hS (of_decide_eq_true (by kernel_rfl)) (by kernel_rfl) rfl (by kernel_rfl) (by kernel_rfl) Tryz.underlying3
  have HX : Hid (∀ x ∈ x0, x.2.size ≤ maxLen) := Lib.hid (fun x hx => (w0 x hx).2)
  clear w0
  by_cases hba : a2.size ≤ 1048576
  · go_enter Tryz.func3, Tryz.ntmps3
    go_wp2_with fail
    refine (szPieceS _ _ _ _ x0 _ r0 HX.out m0 (by omega)).mono ?_
    rintro e u0 ⟨⟨l, rfl, hl, hl1⟩, hb0⟩
    by_cases hneg : l < 0
    · go_wp2_with fail
      go_ret
      exact ⟨rfl, hb0⟩
    have htot := hl (by omega)
    have hn : n0 ≤ 1048576 := by omega
    have HZ : Hid (∀ x ∈ x0, x.2.size ≤ 1048576) := Lib.hid (fun x hx => by have := totP_mem hx; omega)
    clear hl htot
    go_wp2_with fail
    refine (toPieceS _ _ _ x0 _ (r0.below hb0) (by omega)).mono ?_
    rintro e u1 ⟨v1, rfl, ho1, hb1⟩
    have hB1 := below_step hb0 hb1
    obtain ⟨A1, c1, rfl, _⟩ := own_slice ho1
    go_wp2_with fail
    refine (specReadAt _ _ _ a1 a2 x0 _ (Rd.own ho1) HZ.out hn hba).mono ?_
    rintro e u2 ⟨q, b, rfl, hq, hb2⟩
    have hB2 := below_step hB1 hb2
    have hse : (q.toList == q.toList) = true := by simp
    have hsn : (q.toList != q.toList) = false := by simp
    cases b
    all_goals
      go_wp2_with fail
      refine (toPieceS _ _ _ x0 _ (r0.below hB2) (by omega)).mono ?_
      rintro e u3 ⟨v3, rfl, ho3, hb3⟩
      have hB3 := below_step hB2 hb3
      obtain ⟨A3, c3, rfl, _⟩ := own_slice ho3
      have hm3 := (hB3.cell (p := ⟨0, 0, none⟩) (World.block_lt_of_cell? w _ hm)).trans hm
      have hcell3 := (hB3.cell (p := ⟨5, 15, none⟩) (World.block_lt_of_cell? w _ hcell)).trans hcell
      go_wp2_with fail
      refine (implReadAt _ _ _ a1 a2 x0 mm _ (Rd.own ho3) HZ.out hn hba hm3 hcell3).mono ?_
      rintro e u4 ⟨q4, b4, rfl, hq4, hb4⟩
      obtain ⟨hqq, hbb⟩ := hq4.same hq
      subst hqq hbb
      have hB4 := below_step hB3 hb4
      have own3_4 := own_below ho3 hb4
      go_wp2_with fail
      refine (toPieceS _ _ _ x0 _ (r0.below hB4) (by omega)).mono ?_
      rintro e u5 ⟨v5, rfl, ho5, hb5⟩
      have hB5 := below_step hB4 hb5
      have own3_5 := own_below own3_4 hb5
      obtain ⟨A5, c5, rfl, _⟩ := own_slice ho5
      go_wp2_with fail
      refine (eqPieceS _ _ _ _ _ _ x0 x0 _ (Rd.own own3_5) (Rd.own ho5) (by omega)).mono ?_
      rintro e u6 ⟨rfl, hb6⟩
      rw [decide_eq_true (show x0 = x0 from rfl)]
      go_wp2_with fail
      go_ret
      exact ⟨rfl, below_step hB5 hb6⟩
  · go_enter Tryz.func3, Tryz.ntmps3
    go_wp2
    go_ret
    exact ⟨rfl, Below.refl _ _⟩

section
set_option maxRecDepth 100000 in
theorem liftedFnExactReadAt (os : Os) (started : os.Started) (H : Type) (enc : TypeId × Value → H) :
    ReturnsInHanded {} Tryz.checked os 3 .any (fun w args => (Rows.fnExactReadAtSpec.pre enc Tryz.prog Tryz.f3 Rows.fnExactReadAtRow.domain false w args ∧ laidMetH Tryz.prog Rows.fnExactReadAtRow.laid w) ∧ sizedMet enc Tryz.prog Tryz.f3 (OpenSpec.ofChange Rows.fnExactReadAtSpec) false w args) (Rows.fnExactReadAtSpec.post enc Tryz.prog Tryz.f3 false true false false) := by
  refine returnsInHanded_and_shaped (C := Tryz.checked) (X := fun w _ => laidMetH Tryz.prog Rows.fnExactReadAtRow.laid w) (fun _ _ _ hh h => h.of_heap hh) own_knobFnExactReadAt started (by kernel_rfl) Tryz.func3
    (ChangeSpec.witness_shaped (enc := enc) (C := Tryz.checked) (os := os) (X := fun w _ => laidMetH Tryz.prog Rows.fnExactReadAtRow.laid w) false (World.laidAll Tryz.prog os Rows.fnExactReadAtRow.laid) #[.slice none 0 0, .int .i64 0, .string ByteArray.empty] 8 (World.laidAll_os _ _ _)
      (World.shaped_of_ZipB (by kernel_rfl) (by kernel_rfl)) (by kernel_rfl) (by kernel_rfl) (by kernel_rfl)
      (by rw [MakeChecks.laidMetH_plain _ _ _ (by kernel_rfl)]; exact laidMet_laidAll _ (by kernel_rfl) (by kernel_rfl))) ?_
  intro W base args ds gs before hval0 hW hcnd _ hL hS _
  have hval : ∀ (j : Nat) t v, Tryz.f3.params[j]? = some t → args[j]? = some v → Value.okWide Tryz.prog W .any base t v := hval0
  have hW' := hW
  obtain ⟨p, q, hA0, hV, rfl, hfz, hnd⟩ := hW
  have hA : DataW.TrodAll enc Tryz.prog W 0 (fun _ => true) true Tryz.f3.params.toList args.toList ds p := hA0
  rw [Tryz.params3] at hA hval
  obtain ⟨v0, vs0, d0, ds0, p0, q0, hargs, rfl, rfl, h0, t0⟩ := trodAll_cons hA
  obtain ⟨v1, vs1, d1, ds1, p1, q1, rfl, rfl, rfl, h1, t1⟩ := trodAll_cons t0
  obtain ⟨v2, vs2, d2, ds2, p2, q2, rfl, rfl, rfl, h2, t2⟩ := trodAll_cons t1
  obtain ⟨rfl, rfl, rfl⟩ := trodAll_nil t2
  obtain rfl : args = #[v0, v1, v2] := by cases args; simp_all
  obtain ⟨rfl, rfl⟩ := trodVars_none hV
  obtain ⟨A0, n0, c0, rfl⟩ := okWide_slice Tryz.underlying22 (hval 0 22 v0 rfl rfl)
  have lt0 : ∀ x ∈ p0, x.block < W.heap.size := by obtain ⟨m, hm⟩ := h0; exact DataW.trod_lt m _ _ _ hm
  obtain ⟨l0, m0, x0, r0, w0⟩ := open_pcs Tryz.underlying22 Tryz.underlying38 (by kernel_rfl) rfl rfl (by kernel_rfl) (by kernel_rfl) Tryz.underlying3 Tryz.underlying9 h0
  obtain ⟨a1, rfl, rfl, rfl, w1⟩ := open_int Tryz.underlying3 (hval 1 3 v1 rfl rfl) h1
  obtain ⟨a2, rfl, rfl, rfl, w2⟩ := open_string Tryz.underlying9 (hval 2 9 v2 rfl rfl) h2
  clear hA0 hval0
  refine (walkFnExactReadAt A0 n0 c0 x0 a1 a2 W hL hS r0 l0 w0 (Nat.le_trans l0 m0) w1 w2).mono fun e W' ⟨he, bel⟩ => ?_
  subst he
  exact ⟨_, rfl, _, _, _, [], _, [], hW', trodAll_mk1 (shut_bool Tryz.underlying4 _), (trodAll_cons_mk (Below.trod laid_outFnExactReadAt (by kernel_rfl) (of_decide_eq_true (by kernel_rfl)) h0 bel lt0) (trodAll_cons_mk (shut_int Tryz.underlying3 w1) (trodAll_cons_mk (shut_string Tryz.underlying9 w2) trodAll_mk0))), rfl, bel.frame _, fun h => by cases h⟩

theorem overFnExactReadAt : Rows.fnExactReadAtRow.holds Tryz.pinned (OpenSpec.ofChange Rows.fnExactReadAtSpec) :=
  OpenClaim.holds_of_wide 3 Tryz.f3 rfl rfl rfl rfl rfl rfl rfl ⟨rfl, rfl, rfl, rfl, rfl⟩ rfl rfl rfl rfl rfl (by kernel_rfl) Tryz.func3 (by kernel_rfl)
    (of_decide_eq_true (by kernel_rfl)) (by unfold Func.isWrapper; first | (rw [if_pos (by decide +kernel)]; kernel_rfl) | (rw [if_neg (by decide +kernel)]; exact ⟨rfl, rfl⟩))
    (fun os started H enc _ => liftedFnExactReadAt os started H enc)

theorem provedFnExactReadAt : Rows.FnExactReadAtCardSaid :=
  Claim7.holds_tied_plain_at .later [] [.data, .data, .data, .data, .pinned] true Rows.fnExactReadAtCard.stood.harness false overFnExactReadAt (fun _ h => by cases h) (by kernel_rfl) (fun _ h => by cases h) fnExactReadAt_row_tie rfl ⟨rfl, rfl⟩ (by kernel_rfl) rfl
    (fun f fn hf hfn => by
      obtain rfl : f = 3 := Option.some.inj ((show Tryz.prog.funcNamed Rows.fnExactReadAtRow.func = some 3 by kernel_rfl).symm.trans hf) |>.symm
      obtain rfl : fn = Tryz.f3 := (Option.some.inj (Tryz.func3.symm.trans hfn)).symm
      exact ⟨by kernel_rfl, fun j t ht => by
        rw [Tryz.params3] at ht
        have hm : t ∈ [22, 3, 9] := by simpa using Array.mem_of_getElem? ht
        have hall : ([22, 3, 9].all fun u => !Tryz.prog.wantsStandIn u) = true := by kernel_rfl
        exact (show Tryz.prog.wantsStandIn t = false by simpa using List.all_eq_true.1 hall t hm)⟩)
    (by kernel_rfl)
end
end Go.Proofs.YtjombaiplnebmaaGreatDoor
