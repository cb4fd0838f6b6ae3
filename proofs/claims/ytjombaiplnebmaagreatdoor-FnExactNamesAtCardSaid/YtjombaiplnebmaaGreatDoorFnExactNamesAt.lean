/- The law FnExactNamesAt: For every input the law returns true, and its arguments read as before. Conditions: none. -/
import Derived.Test.YtjombaiplnebmaaGreatDoorRows
import Derived.Test.YtjombaiplnebmaaGreatDoorNamesAt
import Derived.Test.YtjombaiplnebmaaGreatDoorPcs
import Derived.Test.YtjombaiplnebmaaGreatDoorMdo
import Derived.Test.YtjombaiplnebmaaGreatDoorMkk
import Derived.Test.YtjombaiplnebmaaGreatDoorMow
import Derived.Test.YtjombaiplnebmaaGreatDoorOpen
import Derived.Test.YtjombaiplnebmaaGreatDoorStrs
import Derived.Shelf.Vars
import Derived.Test.YtjombaiplnebmaaGreatDoorCards
import Derived.Test.YtjombaiplnebmaaGreatDoorTie
import Derived.ProofKit
import Derived.OpenShut
import Derived.LaidMore
import Derived.Lay
import Derived.SevenTiedAt
import Derived.Stop.Joined
open Go.RowKit Go.ChangeShapes Go.WideShapes Go.ChangeAt
open Go.ChangeMaps (open_string shut_string)
set_option linter.unusedVariables false
namespace Go.Proofs.YtjombaiplnebmaaGreatDoor
theorem own_knobFnExactNamesAt : ownKnob Tryz.prog.godebug = none := by kernel_rfl
theorem laid_outFnExactNamesAt : laidOutB Tryz.prog = true := by kernel_rfl

set_option maxHeartbeats 8000000 in
theorem walkFnExactNamesAt (A0 : Option Addr) (n0 c0 : Nat) (x0 : List (Int × ByteArray)) (a1 : Int) (a2 : ByteArray) (w : World) (hL : laidMetH Tryz.prog Rows.fnExactNamesAtRow.laid w) (hS : w.ShapedOpen Tryz.prog) (r0 : Rd w 2 A0 n0 (pcs x0)) (l0 : n0 ≤ c0) (w0 : ∀ p ∈ x0, (Lit.int .i64 p.1).wf = true ∧ p.2.size ≤ maxLen) (m0 : n0 ≤ maxLen) (w1 : (Lit.int .i64 a1).wf = true) (w2 : a2.size ≤ maxLen) :
    Calls Tryz.prog 4 #[.slice A0 n0 c0, .int .i64 a1, .string a2] w fun e w' => e = .returned (.bool true) ∧ Below w.heap.size w w' := by
  have hcell := tab_cell hL (by kernel_rfl) (List.Mem.tail _ (List.Mem.head _))
  obtain ⟨mm, hm⟩ := cell_of_shapedOpen_int (P := Tryz.prog) (g := 0) (t := 3) (zero := #[.int .i64 0]) (k := .i64) hS (of_decide_eq_true (by kernel_rfl)) (by kernel_rfl) rfl (by kernel_rfl) (by kernel_rfl) Tryz.underlying3
  have HX : Hid (∀ x ∈ x0, x.2.size ≤ maxLen) := Lib.hid (fun x hx => (w0 x hx).2)
  clear w0
  by_cases hba : a2.size ≤ 1048576
  · go_enter Tryz.func4, Tryz.ntmps4
    go_wp2_with fail
    refine (szPieceS _ _ _ _ x0 _ r0 HX.out m0 (by omega)).mono ?_
    rintro e u0 ⟨⟨l, rfl, hl, hl1⟩, hb0⟩
    by_cases hneg : l < 0
    · go_wp2_with fail
      go_ret
      exact ⟨rfl, hb0⟩
    have htot := hl (by omega)
    have hn : n0 ≤ 1048576 := by omega
    have HZ : Hid (∀ x ∈ x0, x.2.size ≤ 1048576) := Lib.hid (fun x hx => by have := totP_mem hx; omega)
    clear hl htot
    have sz0 := hb0.size
    go_wp2_with fail
    refine (toPieceS _ _ _ x0 _ (r0.below hb0) (by omega)).mono ?_
    rintro e u1 ⟨v1, rfl, ho1, hb1⟩
    have sz2 := (hb1).size
    have hB2 := below_step hb0 hb1
    obtain ⟨A1, c1, rfl, _⟩ := own_slice ho1
    go_wp2_with fail
    refine (specNamesAt _ _ _ a1 a2 x0 _ (Rd.own ho1) HZ.out hn hba).mono ?_
    rintro e u3 ⟨v3, ns, ok, rfl, hq, ho3, hb3⟩
    have hnl := hq.len
    have HQ := Lib.hid hq
    clear hq
    have sz4 := (hb3).size
    have hB4 := below_step hB2 hb3
    have own1_4 := own_below ho1 hb3
    obtain ⟨A3, c3, rfl, _⟩ := own_slice ho3
    cases ok
    all_goals
      go_wp2_with fail
      refine (toPieceS _ _ _ x0 _ (r0.below hB4) (by omega)).mono ?_
      rintro e u5 ⟨v5, rfl, ho5, hb5⟩
      have sz6 := (hb5).size
      have hB6 := below_step hB4 hb5
      have own3_6 := own_below ho3 hb5
      obtain ⟨A5, c5, rfl, _⟩ := own_slice ho5
      go_wp2_with fail
      have hm7 := (hB6.cell (p := ⟨0, 0, none⟩) (World.block_lt_of_cell? w _ hm)).trans hm
      have hcell7 := (hB6.cell (p := ⟨5, 15, none⟩) (World.block_lt_of_cell? w _ hcell)).trans hcell
      refine (implNamesAt _ _ _ a1 a2 x0 mm _ (Rd.own ho5) HZ.out hn hba hm7 hcell7).mono ?_
      rintro e u7 ⟨v7, ns7, ok7, rfl, hq7, ho7, hb7⟩
      obtain ⟨e7a, e7b⟩ := HQ.out.same hq7
      subst e7a e7b
      have sz8 := (hb7).size
      have hB8 := below_step hB6 hb7
      have own3_8 := own_below own3_6 hb7
      have own5_8 := own_below ho5 hb7
      obtain ⟨A7, c7, rfl, _⟩ := own_slice ho7
      go_wp2_with fail
      refine (eqStringS _ _ _ _ _ _ ns ns _ (Rd.own ho7) (Rd.own own3_8) (by omega)).mono ?_
      rintro e u9 ⟨rfl, q9, hq9⟩
      have hb9 : Below (u7).heap.size u7 u9 := by rw [hq9]; exact below_drewN _ _
      clear hq9
      rw [decide_eq_true rfl]
      have sz10 := (hb9).size
      have hB10 := below_step hB8 hb9
      have own3_10 := own_below own3_8 hb9
      have own5_10 := own_below own5_8 hb9
      have own7_10 := own_below ho7 hb9
      go_wp2_with fail
      refine (toPieceS _ _ _ x0 _ (r0.below hB10) (by omega)).mono ?_
      rintro e u11 ⟨v11, rfl, ho11, hb11⟩
      have sz12 := (hb11).size
      have hB12 := below_step hB10 hb11
      have own3_12 := own_below own3_10 hb11
      have own5_12 := own_below own5_10 hb11
      have own7_12 := own_below own7_10 hb11
      obtain ⟨A11, c11, rfl, _⟩ := own_slice ho11
      go_wp2_with fail
      refine (eqPieceS _ _ _ _ _ _ x0 x0 _ (Rd.own own5_12) (Rd.own ho11) (by omega)).mono ?_
      rintro e u13 ⟨rfl, hb13⟩
      rw [decide_eq_true rfl]
      have sz14 := (hb13).size
      have hB14 := below_step hB12 hb13
      have own3_14 := own_below own3_12 hb13
      have own5_14 := own_below own5_12 hb13
      have own7_14 := own_below own7_12 hb13
      have own11_14 := own_below ho11 hb13
      go_wp2_with fail
      refine (markPieceS _ _ _ 1 _ _ own5_14 (by omega) (by omega)).mono ?_
      rintro e u15 ⟨rfl, hmk15, hg15⟩
      have sz15 := hg15.size
      have hB15 := Below.grown hB14 hg15 hB14.size (fun k e => by have := (ho5.lt k e).1; omega)
      have own3_15 := own3_14.kept hg15 (own_ne ho3 ho5 (by omega))
      have own7_15 := own7_14.kept hg15 (own_ne_symm (own_ne ho5 ho7 (by omega)))
      go_wp2_with fail
      refine (eqStringS _ _ _ _ _ _ ns ns _ (Rd.own own7_15) (Rd.own own3_15) (by omega)).mono ?_
      rintro e u16 ⟨rfl, q16, hq16⟩
      have hb16 : Below (u15).heap.size u15 u16 := by rw [hq16]; exact below_drewN _ _
      clear hq16
      rw [decide_eq_true rfl]
      have sz17 := (hb16).size
      have hB17 := below_step hB15 hb16
      have own3_17 := own_below own3_15 hb16
      have own5_17 := own_below hmk15 hb16
      have own7_17 := own_below own7_15 hb16
      go_wp2_with fail
      refine (markStringS _ _ _ 1 _ _ own7_17 (by omega) (by omega)).mono ?_
      rintro e u18 ⟨rfl, hmk18, hg18⟩
      have sz18 := hg18.size
      have hB18 := Below.grown hB17 hg18 hB17.size (fun k e => by have := (ho7.lt k e).1; omega)
      have own3_18 := own3_17.kept hg18 (own_ne ho3 ho7 (by omega))
      go_wp2_with fail
      refine (heldStringS _ _ _ 1 _ (Rd.own hmk18) (by omega) (by omega)).mono ?_
      rintro e u19 ⟨rfl, hb19⟩
      have sz20 := (hb19).size
      have hB20 := below_step hB18 hb19
      have own3_20 := own_below own3_18 hb19
      have own7_20 := own_below hmk18 hb19
      go_wp2_with fail
      refine (toPieceS _ _ _ x0 _ (r0.below hB20) (by omega)).mono ?_
      rintro e u21 ⟨v21, rfl, ho21, hb21⟩
      have sz22 := (hb21).size
      have hB22 := below_step hB20 hb21
      have own3_22 := own_below own3_20 hb21
      have own7_22 := own_below own7_20 hb21
      obtain ⟨A21, c21, rfl, _⟩ := own_slice ho21
      go_wp2_with fail
      have hm23 := (hB22.cell (p := ⟨0, 0, none⟩) (World.block_lt_of_cell? w _ hm)).trans hm
      have hcell23 := (hB22.cell (p := ⟨5, 15, none⟩) (World.block_lt_of_cell? w _ hcell)).trans hcell
      refine (implNamesAt _ _ _ a1 a2 x0 mm _ (Rd.own ho21) HZ.out hn hba hm23 hcell23).mono ?_
      rintro e u23 ⟨v23, ns23, ok23, rfl, hq23, ho23, hb23⟩
      obtain ⟨e23a, e23b⟩ := HQ.out.same hq23
      subst e23a e23b
      have sz24 := (hb23).size
      have hB24 := below_step hB22 hb23
      have own3_24 := own_below own3_22 hb23
      have own7_24 := own_below own7_22 hb23
      have own21_24 := own_below ho21 hb23
      obtain ⟨A23, c23, rfl, _⟩ := own_slice ho23
      go_wp2_with fail
      refine (eqStringS _ _ _ _ _ _ ns ns _ (Rd.own ho23) (Rd.own own3_24) (by omega)).mono ?_
      rintro e u25 ⟨rfl, q25, hq25⟩
      have hb25 : Below (u23).heap.size u23 u25 := by rw [hq25]; exact below_drewN _ _
      clear hq25
      rw [decide_eq_true rfl]
      have sz26 := (hb25).size
      have hB26 := below_step hB24 hb25
      have own3_26 := own_below own3_24 hb25
      have own7_26 := own_below own7_24 hb25
      have own21_26 := own_below own21_24 hb25
      have own23_26 := own_below ho23 hb25
      go_wp2_with fail
      refine (heldStringS _ _ _ 1 _ (Rd.own own7_26) (by omega) (by omega)).mono ?_
      rintro e u27 ⟨rfl, hb27⟩
      have sz28 := (hb27).size
      have hB28 := below_step hB26 hb27
      have own3_28 := own_below own3_26 hb27
      have own7_28 := own_below own7_26 hb27
      have own21_28 := own_below own21_26 hb27
      have own23_28 := own_below own23_26 hb27
      go_wp2_with fail
      go_ret
      exact ⟨rfl, hB28⟩
  · go_enter Tryz.func4, Tryz.ntmps4
    go_wp2
    go_ret
    exact ⟨rfl, Below.refl _ _⟩

section
set_option maxRecDepth 100000 in
theorem liftedFnExactNamesAt (os : Os) (started : os.Started) (H : Type) (enc : TypeId × Value → H) :
    ReturnsInHanded {} Tryz.checked os 4 .any (fun w args => (Rows.fnExactNamesAtSpec.pre enc Tryz.prog Tryz.f4 Rows.fnExactNamesAtRow.domain false w args ∧ laidMetH Tryz.prog Rows.fnExactNamesAtRow.laid w) ∧ sizedMet enc Tryz.prog Tryz.f4 (OpenSpec.ofChange Rows.fnExactNamesAtSpec) false w args) (Rows.fnExactNamesAtSpec.post enc Tryz.prog Tryz.f4 false true false false) := by
  refine returnsInHanded_and_shaped (C := Tryz.checked) (X := fun w _ => laidMetH Tryz.prog Rows.fnExactNamesAtRow.laid w) (fun _ _ _ hh h => h.of_heap hh) own_knobFnExactNamesAt started (by kernel_rfl) Tryz.func4
    (ChangeSpec.witness_shaped (enc := enc) (C := Tryz.checked) (os := os) (X := fun w _ => laidMetH Tryz.prog Rows.fnExactNamesAtRow.laid w) false (World.laidAll Tryz.prog os Rows.fnExactNamesAtRow.laid) #[.slice none 0 0, .int .i64 0, .string ByteArray.empty] 8 (World.laidAll_os _ _ _)
      (World.shaped_of_ZipB (by kernel_rfl) (by kernel_rfl)) (by kernel_rfl) (by kernel_rfl) (by kernel_rfl)
      (by rw [MakeChecks.laidMetH_plain _ _ _ (by kernel_rfl)]; exact laidMet_laidAll _ (by kernel_rfl) (by kernel_rfl))) ?_
  intro W base args ds gs before hval0 hW hcnd _ hL hS _
  have hval : ∀ (j : Nat) t v, Tryz.f4.params[j]? = some t → args[j]? = some v → Value.okWide Tryz.prog W .any base t v := hval0
  have hW' := hW
  obtain ⟨p, q, hA0, hV, rfl, hfz, hnd⟩ := hW
  have hA : DataW.TrodAll enc Tryz.prog W 0 (fun _ => true) true Tryz.f4.params.toList args.toList ds p := hA0
  rw [Tryz.params4] at hA hval
  obtain ⟨v0, vs0, d0, ds0, p0, q0, hargs, rfl, rfl, h0, t0⟩ := trodAll_cons hA
  obtain ⟨v1, vs1, d1, ds1, p1, q1, rfl, rfl, rfl, h1, t1⟩ := trodAll_cons t0
  obtain ⟨v2, vs2, d2, ds2, p2, q2, rfl, rfl, rfl, h2, t2⟩ := trodAll_cons t1
  obtain ⟨rfl, rfl, rfl⟩ := trodAll_nil t2
  obtain rfl : args = #[v0, v1, v2] := by cases args; simp_all
  obtain ⟨rfl, rfl⟩ := trodVars_none hV
  obtain ⟨A0, n0, c0, rfl⟩ := okWide_slice Tryz.underlying22 (hval 0 22 v0 rfl rfl)
  have lt0 : ∀ x ∈ p0, x.block < W.heap.size := by obtain ⟨m, hm⟩ := h0; exact DataW.trod_lt m _ _ _ hm
  obtain ⟨l0, m0, x0, r0, w0⟩ := open_pcs Tryz.underlying22 Tryz.underlying38 (by kernel_rfl) rfl rfl (by kernel_rfl) (by kernel_rfl) Tryz.underlying3 Tryz.underlying9 h0
  obtain ⟨a1, rfl, rfl, rfl, w1⟩ := open_int Tryz.underlying3 (hval 1 3 v1 rfl rfl) h1
  obtain ⟨a2, rfl, rfl, rfl, w2⟩ := open_string Tryz.underlying9 (hval 2 9 v2 rfl rfl) h2
  clear hA0 hval0
  refine (walkFnExactNamesAt A0 n0 c0 x0 a1 a2 W hL hS r0 l0 w0 (Nat.le_trans l0 m0) w1 w2).mono fun e W' ⟨he, bel⟩ => ?_
  subst he
  exact ⟨_, rfl, _, _, _, [], _, [], hW', trodAll_mk1 (shut_bool Tryz.underlying4 _), (trodAll_cons_mk (Below.trod laid_outFnExactNamesAt (by kernel_rfl) (of_decide_eq_true (by kernel_rfl)) h0 bel lt0) (trodAll_cons_mk (shut_int Tryz.underlying3 w1) (trodAll_cons_mk (shut_string Tryz.underlying9 w2) trodAll_mk0))), rfl, bel.frame _, fun h => by cases h⟩

theorem overFnExactNamesAt : Rows.fnExactNamesAtRow.holds Tryz.pinned (OpenSpec.ofChange Rows.fnExactNamesAtSpec) :=
  OpenClaim.holds_of_wide 4 Tryz.f4 rfl rfl rfl rfl rfl rfl rfl ⟨rfl, rfl, rfl, rfl, rfl⟩ rfl rfl rfl rfl rfl (by kernel_rfl) Tryz.func4 (by kernel_rfl)
    (of_decide_eq_true (by kernel_rfl)) (by unfold Func.isWrapper; first | (rw [if_pos (by decide +kernel)]; kernel_rfl) | (rw [if_neg (by decide +kernel)]; exact ⟨rfl, rfl⟩))
    (fun os started H enc _ => liftedFnExactNamesAt os started H enc)

theorem provedFnExactNamesAt : Rows.FnExactNamesAtCardSaid :=
  Claim7.holds_tied_plain_at .later [] [.data, .data, .data, .data, .pinned] true Rows.fnExactNamesAtCard.stood.harness false overFnExactNamesAt (fun _ h => by cases h) (by kernel_rfl) (fun _ h => by cases h) fnExactNamesAt_row_tie rfl ⟨rfl, rfl⟩ (by kernel_rfl) rfl
    (fun f fn hf hfn => by
      obtain rfl : f = 4 := Option.some.inj ((show Tryz.prog.funcNamed Rows.fnExactNamesAtRow.func = some 4 by kernel_rfl).symm.trans hf) |>.symm
      obtain rfl : fn = Tryz.f4 := (Option.some.inj (Tryz.func4.symm.trans hfn)).symm
      exact ⟨by kernel_rfl, fun j t ht => by
        rw [Tryz.params4] at ht
        have hm : t ∈ [22, 3, 9] := by simpa using Array.mem_of_getElem? ht
        have hall : ([22, 3, 9].all fun u => !Tryz.prog.wantsStandIn u) = true := by kernel_rfl
        exact (show Tryz.prog.wantsStandIn t = false by simpa using List.all_eq_true.1 hall t hm)⟩)
    (by kernel_rfl)
end
end Go.Proofs.YtjombaiplnebmaaGreatDoor
