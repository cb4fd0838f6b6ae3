/- The law FnExactJoinStores: For every input the law returns true, and its arguments read as before. Conditions: none. -/
import Derived.Test.YtfjlocfaibbobabRows
import Derived.Test.YtfjlocfaibbobabJoinT
import Derived.Test.YtfjlocfaibbobabPcs
import Derived.Test.YtfjlocfaibbobabMarkP
import Derived.Test.YtfjlocfaibbobabOwn
import Derived.Test.YtfjlocfaibbobabOpen
open Go.RowKit Go.ChangeShapes Go.WideShapes Go.ChangeAt
open Go.ChangeMaps (open_string shut_string)
set_option linter.unusedVariables false
namespace Go.Proofs.Ytfjlocfaibbobab
theorem own_knobFnExactJoinStores : ownKnob Try.prog.godebug = none := by kernel_rfl
theorem laid_outFnExactJoinStores : laidOutB Try.prog = true := by kernel_rfl

set_option maxHeartbeats 8000000 in
theorem walkFnExactJoinStores (A0 : Option Addr) (n0 c0 : Nat) (x0 : List (Int × ByteArray)) (A1 : Option Addr) (n1 c1 : Nat) (x1 : List (Int × ByteArray)) (w : World) (r0 : Rd w 2 A0 n0 (pcs x0)) (l0 : n0 ≤ c0) (w0 : ∀ p ∈ x0, (Lit.int .i64 p.1).wf = true ∧ p.2.size ≤ maxLen) (m0 : n0 ≤ maxLen) (r1 : Rd w 2 A1 n1 (pcs x1)) (l1 : n1 ≤ c1) (w1 : ∀ p ∈ x1, (Lit.int .i64 p.1).wf = true ∧ p.2.size ≤ maxLen) (m1 : n1 ≤ maxLen) :
    Calls Try.prog 8 #[.slice A0 n0 c0, .slice A1 n1 c1] w fun e w' => e = .returned (.bool true) ∧ Below w.heap.size w w' := by
  have HX0 : Hid (∀ x ∈ x0, x.2.size ≤ maxLen) := Lib.hid (fun x hx => (w0 x hx).2)
  have HX1 : Hid (∀ x ∈ x1, x.2.size ≤ maxLen) := Lib.hid (fun x hx => (w1 x hx).2)
  clear w0 w1
  have hyl := joinT_len x0 x1
  rw [r0.pcLen, r1.pcLen] at hyl
  have HY : ∃ ys bb, Hid (joinT x0 x1 = (ys, bb)) := ⟨_, _, Lib.hid rfl⟩
  obtain ⟨ys, bb, HY⟩ := HY
  rw [HY.out] at hyl
  dsimp only at hyl
  go_enter Try.func8, Try.ntmps8
  go_wp2_with fail
  refine (szPieceS _ _ _ _ x0 _ r0 HX0.out m0 (by omega)).mono ?_
  rintro e u0 ⟨⟨l, rfl, hl, hl1⟩, hb0⟩
  by_cases hneg : l < 0
  · go_wp2_with fail
    go_ret
    exact ⟨rfl, hb0⟩
  have htot := hl (by omega)
  have hn : n0 ≤ 1048576 := by omega
  have hlb : 0 ≤ l ∧ l ≤ 2097152 := by omega
  have hln : (n0 : Int) + l ≤ 1048576 := by omega
  clear hl htot
  have sz0 := hb0.size
  go_wp2_with fail
  refine (szPieceS _ _ _ l x1 _ (r1.below hb0) HX1.out m1 hlb).mono ?_
  rintro e u00 ⟨⟨l', rfl, hl', hl1'⟩, hb00'⟩
  have hb00 := below_step hb0 hb00'
  by_cases hneg1 : l' < 0
  · go_wp2_with fail
    go_ret
    exact ⟨rfl, hb00⟩
  have htot' := hl' (by omega)
  have hn1 : n1 ≤ 2097152 := by omega
  have hn2 : n1 ≤ 1048576 := by omega
  clear hl' htot'
  have sz00 := hb00'.size
  cases bb
  all_goals
    go_wp2_with fail
    refine (toPieceS _ _ _ x0 _ (r0.below hb00) (by omega)).mono ?_
    rintro e u1 ⟨v1, rfl, ho1, hb1⟩
    have sz2 := (hb1).size
    have hB2 := below_step hb00 hb1
    obtain ⟨A1, c1, rfl, _⟩ := own_slice ho1
    go_wp2_with fail
    refine (toPieceS _ _ _ x1 _ (r1.below hB2) (by omega)).mono ?_
    rintro e u3 ⟨v3, rfl, ho3, hb3⟩
    have sz4 := (hb3).size
    have hB4 := below_step hB2 hb3
    have own1_4 := own_below ho1 hb3
    obtain ⟨A3, c3, rfl, _⟩ := own_slice ho3
    go_wp2_with fail
    refine (specJoinStores _ _ _ _ _ _ x0 x1 _ (Rd.own own1_4) (Rd.own ho3) HX0.out HX1.out (by omega) (by omega)).mono ?_
    rintro e u5 ⟨v5, rfl, ho5, hb5⟩
    have sz6 := (hb5).size
    have hB6 := below_step hB4 hb5
    have own1_6 := own_below own1_4 hb5
    have own3_6 := own_below ho3 hb5
    rw [HY.out] at ho5 ⊢
    dsimp only at ho5 ⊢
    obtain ⟨A5, c5, rfl, _⟩ := own_slice ho5
    go_wp2_with fail
    refine (toPieceS _ _ _ x0 _ (r0.below hB6) (by omega)).mono ?_
    rintro e u7 ⟨v7, rfl, ho7, hb7⟩
    have sz8 := (hb7).size
    have hB8 := below_step hB6 hb7
    have own5_8 := own_below ho5 hb7
    obtain ⟨A7, c7, rfl, _⟩ := own_slice ho7
    go_wp2_with fail
    refine (toPieceS _ _ _ x1 _ (r1.below hB8) (by omega)).mono ?_
    rintro e u9 ⟨v9, rfl, ho9, hb9⟩
    have sz10 := (hb9).size
    have hB10 := below_step hB8 hb9
    have own5_10 := own_below own5_8 hb9
    have own7_10 := own_below ho7 hb9
    obtain ⟨A9, c9, rfl, _⟩ := own_slice ho9
    go_wp2_with fail
    refine (implJoinStores _ _ _ _ _ _ x0 x1 _ (Rd.own own7_10) (Rd.own ho9) HX0.out HX1.out (by omega) (by omega)).mono ?_
    rintro e u11 ⟨v11, rfl, ho11, hb11⟩
    have sz12 := (hb11).size
    have hB12 := below_step hB10 hb11
    have own5_12 := own_below own5_10 hb11
    have own7_12 := own_below own7_10 hb11
    have own9_12 := own_below ho9 hb11
    rw [HY.out] at ho11 ⊢
    dsimp only at ho11 ⊢
    obtain ⟨A11, c11, rfl, _⟩ := own_slice ho11
    go_wp2_with fail
    refine (eqPieceS _ _ _ _ _ _ ys ys _ (Rd.own ho11) (Rd.own own5_12) (by omega)).mono ?_
    rintro e u13 ⟨rfl, hb13⟩
    rw [decide_eq_true rfl]
    have sz14 := (hb13).size
    have hB14 := below_step hB12 hb13
    have own5_14 := own_below own5_12 hb13
    have own7_14 := own_below own7_12 hb13
    have own9_14 := own_below own9_12 hb13
    have own11_14 := own_below ho11 hb13
    go_wp2_with fail
    refine (toPieceS _ _ _ x0 _ (r0.below hB14) (by omega)).mono ?_
    rintro e u15 ⟨v15, rfl, ho15, hb15⟩
    have sz16 := (hb15).size
    have hB16 := below_step hB14 hb15
    have own5_16 := own_below own5_14 hb15
    have own7_16 := own_below own7_14 hb15
    have own9_16 := own_below own9_14 hb15
    have own11_16 := own_below own11_14 hb15
    obtain ⟨A15, c15, rfl, _⟩ := own_slice ho15
    go_wp2_with fail
    refine (eqPieceS _ _ _ _ _ _ x0 x0 _ (Rd.own own7_16) (Rd.own ho15) (by omega)).mono ?_
    rintro e u17 ⟨rfl, hb17⟩
    rw [decide_eq_true rfl]
    have sz18 := (hb17).size
    have hB18 := below_step hB16 hb17
    have own5_18 := own_below own5_16 hb17
    have own7_18 := own_below own7_16 hb17
    have own9_18 := own_below own9_16 hb17
    have own11_18 := own_below own11_16 hb17
    have own15_18 := own_below ho15 hb17
    go_wp2_with fail
    refine (toPieceS _ _ _ x1 _ (r1.below hB18) (by omega)).mono ?_
    rintro e u19 ⟨v19, rfl, ho19, hb19⟩
    have sz20 := (hb19).size
    have hB20 := below_step hB18 hb19
    have own5_20 := own_below own5_18 hb19
    have own7_20 := own_below own7_18 hb19
    have own9_20 := own_below own9_18 hb19
    have own11_20 := own_below own11_18 hb19
    obtain ⟨A19, c19, rfl, _⟩ := own_slice ho19
    go_wp2_with fail
    refine (eqPieceS _ _ _ _ _ _ x1 x1 _ (Rd.own own9_20) (Rd.own ho19) (by omega)).mono ?_
    rintro e u21 ⟨rfl, hb21⟩
    rw [decide_eq_true rfl]
    have sz22 := (hb21).size
    have hB22 := below_step hB20 hb21
    have own5_22 := own_below own5_20 hb21
    have own7_22 := own_below own7_20 hb21
    have own9_22 := own_below own9_20 hb21
    have own11_22 := own_below own11_20 hb21
    have own19_22 := own_below ho19 hb21
    go_wp2_with fail
    refine (markPieceS _ _ _ (1) _ _ own7_22 (by omega) (by omega)).mono ?_
    rintro e u23 ⟨rfl, hm23, hg23⟩
    have sz23 := hg23.size
    have hB23 := Below.grown hB22 hg23 hB22.size (fun k e => by have := (ho7.lt k e).1; omega)
    have own5_23 := own5_22.kept hg23 (own_ne ho5 ho7 (by omega))
    have own9_23 := own9_22.kept hg23 (own_ne_symm (own_ne ho7 ho9 (by omega)))
    have own11_23 := own11_22.kept hg23 (own_ne_symm (own_ne ho7 ho11 (by omega)))
    go_wp2_with fail
    refine (markPieceS _ _ _ (1 + 2 * n0) _ _ own9_23 (by omega) (by omega)).mono ?_
    rintro e u24 ⟨rfl, hm24, hg24⟩
    have sz24 := hg24.size
    have hB24 := Below.grown hB23 hg24 hB23.size (fun k e => by have := (ho9.lt k e).1; omega)
    have own5_24 := own5_23.kept hg24 (own_ne ho5 ho9 (by omega))
    have own7_24 := hm23.kept hg24 (own_ne ho7 ho9 (by omega))
    have own11_24 := own11_23.kept hg24 (own_ne_symm (own_ne ho9 ho11 (by omega)))
    go_wp2_with fail
    refine (eqPieceS _ _ _ _ _ _ ys ys _ (Rd.own own11_24) (Rd.own own5_24) (by omega)).mono ?_
    rintro e u25 ⟨rfl, hb25⟩
    rw [decide_eq_true rfl]
    have sz26 := (hb25).size
    have hB26 := below_step hB24 hb25
    have own5_26 := own_below own5_24 hb25
    have own7_26 := own_below own7_24 hb25
    have own9_26 := own_below hm24 hb25
    have own11_26 := own_below own11_24 hb25
    go_wp2_with fail
    refine (markPieceS _ _ _ (1) _ _ own11_26 (by omega) (by omega)).mono ?_
    rintro e u27 ⟨rfl, hm27, hg27⟩
    have sz27 := hg27.size
    have hB27 := Below.grown hB26 hg27 hB26.size (fun k e => by have := (ho11.lt k e).1; omega)
    have own5_27 := own5_26.kept hg27 (own_ne ho5 ho11 (by omega))
    go_wp2_with fail
    refine (heldPieceS _ _ _ 1 _ (Rd.own hm27) (by omega) (by omega)).mono ?_
    rintro e u28 ⟨rfl, hb28⟩
    have sz29 := (hb28).size
    have hB29 := below_step hB27 hb28
    have own5_29 := own_below own5_27 hb28
    have own11_29 := own_below hm27 hb28
    go_wp2_with fail
    refine (toPieceS _ _ _ x0 _ (r0.below hB29) (by omega)).mono ?_
    rintro e u30 ⟨v30, rfl, ho30, hb30⟩
    have sz31 := (hb30).size
    have hB31 := below_step hB29 hb30
    have own5_31 := own_below own5_29 hb30
    have own11_31 := own_below own11_29 hb30
    obtain ⟨A30, c30, rfl, _⟩ := own_slice ho30
    go_wp2_with fail
    refine (toPieceS _ _ _ x1 _ (r1.below hB31) (by omega)).mono ?_
    rintro e u32 ⟨v32, rfl, ho32, hb32⟩
    have sz33 := (hb32).size
    have hB33 := below_step hB31 hb32
    have own5_33 := own_below own5_31 hb32
    have own11_33 := own_below own11_31 hb32
    have own30_33 := own_below ho30 hb32
    obtain ⟨A32, c32, rfl, _⟩ := own_slice ho32
    go_wp2_with fail
    refine (implJoinStores _ _ _ _ _ _ x0 x1 _ (Rd.own own30_33) (Rd.own ho32) HX0.out HX1.out (by omega) (by omega)).mono ?_
    rintro e u34 ⟨v34, rfl, ho34, hb34⟩
    have sz35 := (hb34).size
    have hB35 := below_step hB33 hb34
    have own5_35 := own_below own5_33 hb34
    have own11_35 := own_below own11_33 hb34
    have own30_35 := own_below own30_33 hb34
    have own32_35 := own_below ho32 hb34
    rw [HY.out] at ho34 ⊢
    dsimp only at ho34 ⊢
    obtain ⟨A34, c34, rfl, _⟩ := own_slice ho34
    go_wp2_with fail
    refine (eqPieceS _ _ _ _ _ _ ys ys _ (Rd.own ho34) (Rd.own own5_35) (by omega)).mono ?_
    rintro e u36 ⟨rfl, hb36⟩
    rw [decide_eq_true rfl]
    have sz37 := (hb36).size
    have hB37 := below_step hB35 hb36
    have own5_37 := own_below own5_35 hb36
    have own11_37 := own_below own11_35 hb36
    have own30_37 := own_below own30_35 hb36
    have own32_37 := own_below own32_35 hb36
    have own34_37 := own_below ho34 hb36
    go_wp2_with fail
    refine (heldPieceS _ _ _ 1 _ (Rd.own own11_37) (by omega) (by omega)).mono ?_
    rintro e u38 ⟨rfl, hb38⟩
    have sz39 := (hb38).size
    have hB39 := below_step hB37 hb38
    have own5_39 := own_below own5_37 hb38
    have own11_39 := own_below own11_37 hb38
    have own30_39 := own_below own30_37 hb38
    have own32_39 := own_below own32_37 hb38
    have own34_39 := own_below own34_37 hb38
    go_wp2_with fail
    go_ret
    exact ⟨rfl, hB39⟩

section
set_option maxRecDepth 100000 in
theorem liftedFnExactJoinStores (os : Os) (started : os.Started) (H : Type) (enc : TypeId × Value → H) :
    ReturnsInHanded {} Try.checked os 8 .any (Rows.fnExactJoinStoresSpec.pre6 enc Try.prog Try.f8 Rows.fnExactJoinStoresRow.domain false) (Rows.fnExactJoinStoresSpec.post enc Try.prog Try.f8 false true false false) := by
  refine returnsInHanded_of_change (C := Try.checked) own_knobFnExactJoinStores started (by kernel_rfl) Try.func8
    (ChangeSpec.witness6 (enc := enc) (C := Try.checked) false ⟨#[], #[.slice none 0 0, .slice none 0 0], []⟩ 8 (by kernel_rfl) (by kernel_rfl) (by kernel_rfl) (by kernel_rfl)) ?_
  intro W base args ds gs before hval0 hW hcnd _
  have hval : ∀ (j : Nat) t v, Try.f8.params[j]? = some t → args[j]? = some v → Value.okWide Try.prog W .any base t v := hval0
  have hW' := hW
  obtain ⟨p, q, hA0, hV, rfl, hfz, hnd⟩ := hW
  have hA : DataW.TrodAll enc Try.prog W 0 (fun _ => true) true Try.f8.params.toList args.toList ds p := hA0
  rw [Try.params8] at hA hval
  obtain ⟨v0, vs0, d0, ds0, p0, q0, hargs, rfl, rfl, h0, t0⟩ := trodAll_cons hA
  obtain ⟨v1, vs1, d1, ds1, p1, q1, rfl, rfl, rfl, h1, t1⟩ := trodAll_cons t0
  obtain ⟨rfl, rfl, rfl⟩ := trodAll_nil t1
  obtain rfl : args = #[v0, v1] := by cases args; simp_all
  obtain ⟨rfl, rfl⟩ := trodVars_none hV
  obtain ⟨A0, n0, c0, rfl⟩ := okWide_slice Try.underlying53 (hval 0 53 v0 rfl rfl)
  have lt0 : ∀ x ∈ p0, x.block < W.heap.size := by obtain ⟨m, hm⟩ := h0; exact DataW.trod_lt m _ _ _ hm
  obtain ⟨l0, m0, x0, r0, w0⟩ := open_pcs Try.underlying53 Try.underlying82 (by kernel_rfl) rfl rfl (by kernel_rfl) (by kernel_rfl) Try.underlying3 Try.underlying9 h0
  obtain ⟨A1, n1, c1, rfl⟩ := okWide_slice Try.underlying53 (hval 1 53 v1 rfl rfl)
  have lt1 : ∀ x ∈ p1, x.block < W.heap.size := by obtain ⟨m, hm⟩ := h1; exact DataW.trod_lt m _ _ _ hm
  obtain ⟨l1, m1, x1, r1, w1⟩ := open_pcs Try.underlying53 Try.underlying82 (by kernel_rfl) rfl rfl (by kernel_rfl) (by kernel_rfl) Try.underlying3 Try.underlying9 h1
  clear hA0 hval0
  refine (walkFnExactJoinStores A0 n0 c0 x0 A1 n1 c1 x1 W r0 l0 w0 (Nat.le_trans l0 m0) r1 l1 w1 (Nat.le_trans l1 m1)).mono fun e W' ⟨he, bel⟩ => ?_
  subst he
  exact ⟨_, rfl, _, _, _, [], _, [], hW', trodAll_mk1 (shut_bool Try.underlying4 _), (trodAll_cons_mk (Below.trod laid_outFnExactJoinStores (by kernel_rfl) (of_decide_eq_true (by kernel_rfl)) h0 bel lt0) (trodAll_cons_mk (Below.trod laid_outFnExactJoinStores (by kernel_rfl) (of_decide_eq_true (by kernel_rfl)) h1 bel lt1) trodAll_mk0)), rfl, bel.frame _, fun h => by cases h⟩

theorem overFnExactJoinStores : Rows.fnExactJoinStoresRow.holds Try.pinned (OpenSpec.ofChange Rows.fnExactJoinStoresSpec) :=
  OpenClaim.holds_of_wide 8 Try.f8 rfl rfl rfl rfl rfl rfl rfl ⟨rfl, rfl, rfl, rfl, rfl⟩ rfl rfl rfl rfl rfl (by kernel_rfl) Try.func8 (by kernel_rfl)
    (of_decide_eq_true (by kernel_rfl)) (by unfold Func.isWrapper; first | (rw [if_pos (by decide +kernel)]; kernel_rfl) | (rw [if_neg (by decide +kernel)]; exact ⟨rfl, rfl⟩))
    (fun os started H enc _ => liftedFnExactJoinStores os started H enc)

theorem provedFnExactJoinStores : Rows.FnExactJoinStoresSaid := overFnExactJoinStores
end
end Go.Proofs.Ytfjlocfaibbobab
