/- The law FnExactPutEntry: For every input the law returns true, and its arguments read as before. Conditions: none. -/
import Derived.Test.YtfjlocfaibbobabRows
import Derived.Test.YtfjlocfaibbobabPutE
import Derived.Test.YtfjlocfaibbobabPutI
import Derived.Test.YtfjlocfaibbobabToB
import Derived.Test.YtfjlocfaibbobabL20E
import Derived.Test.YtfjlocfaibbobabEnts
import Derived.Test.YtfjlocfaibbobabMarkE
import Derived.Test.YtfjlocfaibbobabOwn
import Derived.Test.YtfjlocfaibbobabOpen
import Derived.Deep.RegionHeld
import Derived.Lib.SmallJoins
open Go.RowKit Go.ChangeShapes Go.WideShapes Go.ChangeAt
open Go.ChangeMaps (open_string shut_string)
set_option linter.unusedVariables false
namespace Go.Proofs.Ytfjlocfaibbobab
theorem own_knobFnExactPutEntry : ownKnob Try.prog.godebug = none := by kernel_rfl
theorem laid_outFnExactPutEntry : laidOutB Try.prog = true := by kernel_rfl

set_option maxHeartbeats 4000000 in
theorem walkFnExactPutEntry (A0 : Option Addr) (n0 c0 : Nat) (x0 : List (ByteArray × Int)) (a1 : ByteArray) (b1 : Int) (w : World) (r0 : Rd w 2 A0 n0 (ens x0)) (l0 : n0 ≤ c0) (w0 : ∀ p ∈ x0, p.1.size ≤ maxLen ∧ (Lit.int .i64 p.2).wf = true) (m0 : n0 ≤ maxLen) (w1 : a1.size ≤ maxLen) (v1 : (Lit.int .i64 b1).wf = true) :
    Calls Try.prog 3 #[.slice A0 n0 c0, .agg #[.string a1, .int .i64 b1]] w fun e w' => e = .returned (.bool true) ∧ Below w.heap.size w w' := by
  have hs : ∀ x ∈ x0, x.1.size ≤ maxLen := fun x hx => (w0 x hx).1
  have HX := Lib.hid hs
  clear hs w0 v1
  have hyl := putE_len (xs := x0) (t := a1) (p := b1)
  rw [r0.enLen] at hyl
  have HY : ∃ ys bb, Hid (putE x0 a1 b1 = (ys, bb)) := ⟨_, _, Lib.hid rfl⟩
  obtain ⟨ys, bb, HY⟩ := HY
  rw [HY.out] at hyl
  dsimp only at hyl
  go_enter Try.func3, Try.ntmps3
  go_wp2_with fail
  have hba := (Below.refl w.heap.size w).alloc (Nat.le_refl _) (.cells #[.string a1, .int .i64 b1] 24)
  refine (szEntryS _ _ _ _ x0 _ (r0.below hba) HX.out m0 (by omega)).mono ?_
  rintro e u0 ⟨⟨l, rfl, hl, hl1⟩, hb0'⟩
  have hb0 := below_step hba hb0'
  have sz0 : w.heap.size + 1 ≤ u0.heap.size := by have := hb0'.size; simp at this; omega
  have d0_0 : u0.cell? ⟨w.heap.size, 0, none⟩ = some (.string a1) := (hb0'.cell (by simp)).trans (cell_of_row _ _ 0 _ 24 (0, 0) (heap_alloc_new w _))
  have d1_0 : u0.cell? ⟨w.heap.size, 1, none⟩ = some (.int .i64 b1) := (hb0'.cell (by simp)).trans (cell_of_row _ _ 1 _ 24 (0, 0) (heap_alloc_new w _))
  clear hba hb0'
  by_cases hneg : l < 0
  · go_wp2_with fail
    go_ret
    exact ⟨rfl, hb0⟩
  have htot := hl (by omega)
  have hn : n0 ≤ 1048576 := by omega
  have hlb : 0 ≤ l ∧ l ≤ 2097152 := by omega
  clear hl htot
  go_wp2_with fail
  refine (szEntry a1 b1 l u0 w1 hlb).mono ?_
  rintro e u00 ⟨rfl, hb00'⟩
  have hb00 := below_step hb0 hb00'
  have sz00 := hb00'.size
  have d0_00 := (hb00'.cell (p := ⟨w.heap.size, 0, none⟩) (World.block_lt_of_cell? _ _ d0_0)).trans d0_0
  have d1_00 := (hb00'.cell (p := ⟨w.heap.size, 1, none⟩) (World.block_lt_of_cell? _ _ d1_0)).trans d1_0
  by_cases hneg1 : (a1.size : Int) ≤ l
  · rw [if_pos hneg1]
    have hl2 : 0 ≤ l - (a1.size : Int) := by omega
    cases bb
    all_goals
      go_wp2_with fail
      go_region_held (fun W => W.cell? ⟨w.heap.size, 0, none⟩ = some (.string a1) ∧ W.cell? ⟨w.heap.size, 1, none⟩ = some (.int .i64 b1)) (first | exact ⟨d0_00, d1_00⟩ | exact ⟨d0_2, d1_2⟩ | exact ⟨d0_4, d1_4⟩ | exact ⟨d0_6, d1_6⟩) (first | (go_at_call 12; refine (toEntryB _ _ _ x0 _ (rd_dr (r0.below hb00)) (by omega)).mono ?_; rintro e u1 ⟨v1, rfl, ho1, hb1, hk1⟩; replace hb1 := below_dr hb1; replace ho1 := own_dr ho1; have sz2 := (hb1).size; have hB2 := below_step hb00 hb1; have d0_2 := (hb1.cell (p := ⟨w.heap.size, 0, none⟩) (World.block_lt_of_cell? _ _ d0_00)).trans d0_00; have d1_2 := (hb1.cell (p := ⟨w.heap.size, 1, none⟩) (World.block_lt_of_cell? _ _ d1_00)).trans d1_00; obtain ⟨A1, c1, rfl, _⟩ := own_slice ho1) | (go_at_call 13; refine (toEntry a1 b1 _).mono ?_; rintro e u3 ⟨rfl, hb3⟩; have sz4 := (hb3).size; have hB4 := below_step hB2 hb3; have own1_4 := own_below ho1 hb3; have d0_4 := (hb3.cell (p := ⟨w.heap.size, 0, none⟩) (World.block_lt_of_cell? _ _ d0_2)).trans d0_2; have d1_4 := (hb3.cell (p := ⟨w.heap.size, 1, none⟩) (World.block_lt_of_cell? _ _ d1_2)).trans d1_2) | (go_at_call 11; refine (specPutEntry _ _ _ a1 b1 x0 _ own1_4 hk1 HX.out w1 (by omega)).mono ?_; rintro e u5 ⟨v5, rfl, ho5, hb5, _⟩; have sz6 := (hb5).size; have hB6 := below_step hB4 hb5; have own1_6 := own_below own1_4 hb5; have d0_6 := (hb5.cell (p := ⟨w.heap.size, 0, none⟩) (World.block_lt_of_cell? _ _ d0_4)).trans d0_4; have d1_6 := (hb5.cell (p := ⟨w.heap.size, 1, none⟩) (World.block_lt_of_cell? _ _ d1_4)).trans d1_4; rw [HY.out] at ho5 ⊢; dsimp only at ho5 ⊢; obtain ⟨A5, c5, rfl, _⟩ := own_slice ho5))
      go_wp2_with fail
      refine (toEntryS _ _ _ x0 _ (r0.below hB6) (by omega)).mono ?_
      rintro e u7 ⟨v7, rfl, ho7, hb7⟩
      have sz8 := (hb7).size
      have hB8 := below_step hB6 hb7
      have own5_8 := own_below ho5 hb7
      have d0_8 := (hb7.cell (p := ⟨w.heap.size, 0, none⟩) (World.block_lt_of_cell? _ _ d0_6)).trans d0_6
      have d1_8 := (hb7.cell (p := ⟨w.heap.size, 1, none⟩) (World.block_lt_of_cell? _ _ d1_6)).trans d1_6
      obtain ⟨A7, c7, rfl, _⟩ := own_slice ho7
      go_wp2_with fail
      refine (toEntry a1 b1 _).mono ?_
      rintro e u9 ⟨rfl, hb9⟩
      have sz10 := (hb9).size
      have hB10 := below_step hB8 hb9
      have own5_10 := own_below own5_8 hb9
      have own7_10 := own_below ho7 hb9
      have d0_10 := (hb9.cell (p := ⟨w.heap.size, 0, none⟩) (World.block_lt_of_cell? _ _ d0_8)).trans d0_8
      have d1_10 := (hb9.cell (p := ⟨w.heap.size, 1, none⟩) (World.block_lt_of_cell? _ _ d1_8)).trans d1_8
      go_wp2_with fail
      refine (implPutEntry _ _ _ a1 b1 x0 _ (Rd.own own7_10) HX.out w1 (by omega)).mono ?_
      rintro e u11 ⟨v11, rfl, ho11, hb11⟩
      have sz12 := (hb11).size
      have hB12 := below_step hB10 hb11
      have own5_12 := own_below own5_10 hb11
      have own7_12 := own_below own7_10 hb11
      have d0_12 := (hb11.cell (p := ⟨w.heap.size, 0, none⟩) (World.block_lt_of_cell? _ _ d0_10)).trans d0_10
      have d1_12 := (hb11.cell (p := ⟨w.heap.size, 1, none⟩) (World.block_lt_of_cell? _ _ d1_10)).trans d1_10
      rw [HY.out] at ho11 ⊢
      dsimp only at ho11 ⊢
      obtain ⟨A11, c11, rfl, _⟩ := own_slice ho11
      go_wp2_with fail
      refine (eqEntryS _ _ _ _ _ _ ys ys _ (Rd.own ho11) (Rd.own own5_12) (by omega)).mono ?_
      rintro e u13 ⟨rfl, hb13⟩
      rw [decide_eq_true rfl]
      have sz14 := (hb13).size
      have hB14 := below_step hB12 hb13
      have own5_14 := own_below own5_12 hb13
      have own7_14 := own_below own7_12 hb13
      have own11_14 := own_below ho11 hb13
      have d0_14 := (hb13.cell (p := ⟨w.heap.size, 0, none⟩) (World.block_lt_of_cell? _ _ d0_12)).trans d0_12
      have d1_14 := (hb13.cell (p := ⟨w.heap.size, 1, none⟩) (World.block_lt_of_cell? _ _ d1_12)).trans d1_12
      go_wp2_with fail
      refine (toEntryS _ _ _ x0 _ (r0.below hB14) (by omega)).mono ?_
      rintro e u15 ⟨v15, rfl, ho15, hb15⟩
      have sz16 := (hb15).size
      have hB16 := below_step hB14 hb15
      have own5_16 := own_below own5_14 hb15
      have own7_16 := own_below own7_14 hb15
      have own11_16 := own_below own11_14 hb15
      have d0_16 := (hb15.cell (p := ⟨w.heap.size, 0, none⟩) (World.block_lt_of_cell? _ _ d0_14)).trans d0_14
      have d1_16 := (hb15.cell (p := ⟨w.heap.size, 1, none⟩) (World.block_lt_of_cell? _ _ d1_14)).trans d1_14
      obtain ⟨A15, c15, rfl, _⟩ := own_slice ho15
      go_wp2_with fail
      refine (eqEntryS _ _ _ _ _ _ x0 x0 _ (Rd.own own7_16) (Rd.own ho15) (by omega)).mono ?_
      rintro e u17 ⟨rfl, hb17⟩
      rw [decide_eq_true rfl]
      have sz18 := (hb17).size
      have hB18 := below_step hB16 hb17
      have own5_18 := own_below own5_16 hb17
      have own7_18 := own_below own7_16 hb17
      have own11_18 := own_below own11_16 hb17
      have own15_18 := own_below ho15 hb17
      have d0_18 := (hb17.cell (p := ⟨w.heap.size, 0, none⟩) (World.block_lt_of_cell? _ _ d0_16)).trans d0_16
      have d1_18 := (hb17.cell (p := ⟨w.heap.size, 1, none⟩) (World.block_lt_of_cell? _ _ d1_16)).trans d1_16
      go_wp2_with fail
      refine (markEntryS _ _ _ 1 _ _ own7_18 (by omega) (by omega)).mono ?_
      rintro e u19 ⟨rfl, hm19, hg19⟩
      have sz19 := hg19.size
      have hB19 := Below.grown hB18 hg19 hB18.size (fun k e => by have := (ho7.lt k e).1; omega)
      have d0_19 := hg19.cell d0_18 (fun e => by have h9 : _ ≤ w.heap.size := (ho7.lt _ e.symm).1; omega)
      have d1_19 := hg19.cell d1_18 (fun e => by have h9 : _ ≤ w.heap.size := (ho7.lt _ e.symm).1; omega)
      have own5_19 := own5_18.kept hg19 (own_ne ho5 ho7 (by omega))
      have own11_19 := own11_18.kept hg19 (own_ne_symm (own_ne ho7 ho11 (by omega)))
      go_wp2_with fail
      refine (eqEntryS _ _ _ _ _ _ ys ys _ (Rd.own own11_19) (Rd.own own5_19) (by omega)).mono ?_
      rintro e u20 ⟨rfl, hb20⟩
      rw [decide_eq_true rfl]
      have sz21 := (hb20).size
      have hB21 := below_step hB19 hb20
      have own5_21 := own_below own5_19 hb20
      have own7_21 := own_below hm19 hb20
      have own11_21 := own_below own11_19 hb20
      have d0_21 := (hb20.cell (p := ⟨w.heap.size, 0, none⟩) (World.block_lt_of_cell? _ _ d0_19)).trans d0_19
      have d1_21 := (hb20.cell (p := ⟨w.heap.size, 1, none⟩) (World.block_lt_of_cell? _ _ d1_19)).trans d1_19
      go_wp2_with fail
      refine (markEntryS _ _ _ 1 _ _ own11_21 (by omega) (by omega)).mono ?_
      rintro e u22 ⟨rfl, hm22, hg22⟩
      have sz22 := hg22.size
      have hB22 := Below.grown hB21 hg22 hB21.size (fun k e => by have := (ho11.lt k e).1; omega)
      have d0_22 := hg22.cell d0_21 (fun e => by have h9 : _ ≤ w.heap.size := (ho11.lt _ e.symm).1; omega)
      have d1_22 := hg22.cell d1_21 (fun e => by have h9 : _ ≤ w.heap.size := (ho11.lt _ e.symm).1; omega)
      have own5_22 := own5_21.kept hg22 (own_ne ho5 ho11 (by omega))
      go_wp2_with fail
      refine (heldEntryS _ _ _ 1 _ (Rd.own hm22) (by omega) (by omega)).mono ?_
      rintro e u23 ⟨rfl, hb23⟩
      have sz24 := (hb23).size
      have hB24 := below_step hB22 hb23
      have own5_24 := own_below own5_22 hb23
      have own11_24 := own_below hm22 hb23
      have d0_24 := (hb23.cell (p := ⟨w.heap.size, 0, none⟩) (World.block_lt_of_cell? _ _ d0_22)).trans d0_22
      have d1_24 := (hb23.cell (p := ⟨w.heap.size, 1, none⟩) (World.block_lt_of_cell? _ _ d1_22)).trans d1_22
      go_wp2_with fail
      go_region_held (fun W => W.cell? ⟨w.heap.size, 0, none⟩ = some (.string a1) ∧ W.cell? ⟨w.heap.size, 1, none⟩ = some (.int .i64 b1)) (first | exact ⟨d0_24, d1_24⟩ | exact ⟨d0_26, d1_26⟩ | exact ⟨d0_28, d1_28⟩ | exact ⟨d0_30, d1_30⟩) (first | (go_at_call 12; refine (toEntryS _ _ _ x0 _ (rd_dr (r0.below hB24)) (by omega)).mono ?_; rintro e u25 ⟨v25, rfl, ho25, hb25⟩; replace hb25 := below_dr hb25; replace ho25 := own_dr ho25; have sz26 := (hb25).size; have hB26 := below_step hB24 hb25; have own5_26 := own_below own5_24 hb25; have own11_26 := own_below own11_24 hb25; have d0_26 := (hb25.cell (p := ⟨w.heap.size, 0, none⟩) (World.block_lt_of_cell? _ _ d0_24)).trans d0_24; have d1_26 := (hb25.cell (p := ⟨w.heap.size, 1, none⟩) (World.block_lt_of_cell? _ _ d1_24)).trans d1_24; obtain ⟨A25, c25, rfl, _⟩ := own_slice ho25) | (go_at_call 13; refine (toEntry a1 b1 _).mono ?_; rintro e u27 ⟨rfl, hb27⟩; have sz28 := (hb27).size; have hB28 := below_step hB26 hb27; have own5_28 := own_below own5_26 hb27; have own11_28 := own_below own11_26 hb27; have own25_28 := own_below ho25 hb27; have d0_28 := (hb27.cell (p := ⟨w.heap.size, 0, none⟩) (World.block_lt_of_cell? _ _ d0_26)).trans d0_26; have d1_28 := (hb27.cell (p := ⟨w.heap.size, 1, none⟩) (World.block_lt_of_cell? _ _ d1_26)).trans d1_26) | (go_at_call 14; refine (implPutEntry _ _ _ a1 b1 x0 _ (Rd.own own25_28) HX.out w1 (by omega)).mono ?_; rintro e u29 ⟨v29, rfl, ho29, hb29⟩; have sz30 := (hb29).size; have hB30 := below_step hB28 hb29; have own5_30 := own_below own5_28 hb29; have own11_30 := own_below own11_28 hb29; have own25_30 := own_below own25_28 hb29; have d0_30 := (hb29.cell (p := ⟨w.heap.size, 0, none⟩) (World.block_lt_of_cell? _ _ d0_28)).trans d0_28; have d1_30 := (hb29.cell (p := ⟨w.heap.size, 1, none⟩) (World.block_lt_of_cell? _ _ d1_28)).trans d1_28; rw [HY.out] at ho29 ⊢; dsimp only at ho29 ⊢; obtain ⟨A29, c29, rfl, _⟩ := own_slice ho29))
      go_wp2_with fail
      refine (eqEntryS _ _ _ _ _ _ ys ys _ (Rd.own ho29) (Rd.own own5_30) (by omega)).mono ?_
      rintro e u31 ⟨rfl, hb31⟩
      rw [decide_eq_true rfl]
      have sz32 := (hb31).size
      have hB32 := below_step hB30 hb31
      have own5_32 := own_below own5_30 hb31
      have own11_32 := own_below own11_30 hb31
      have own29_32 := own_below ho29 hb31
      have d0_32 := (hb31.cell (p := ⟨w.heap.size, 0, none⟩) (World.block_lt_of_cell? _ _ d0_30)).trans d0_30
      have d1_32 := (hb31.cell (p := ⟨w.heap.size, 1, none⟩) (World.block_lt_of_cell? _ _ d1_30)).trans d1_30
      go_wp2_with fail
      refine (heldEntryS _ _ _ 1 _ (Rd.own own11_32) (by omega) (by omega)).mono ?_
      rintro e u33 ⟨rfl, hb33⟩
      have sz34 := (hb33).size
      have hB34 := below_step hB32 hb33
      have own5_34 := own_below own5_32 hb33
      have own11_34 := own_below own11_32 hb33
      have own29_34 := own_below own29_32 hb33
      have d0_34 := (hb33.cell (p := ⟨w.heap.size, 0, none⟩) (World.block_lt_of_cell? _ _ d0_32)).trans d0_32
      have d1_34 := (hb33.cell (p := ⟨w.heap.size, 1, none⟩) (World.block_lt_of_cell? _ _ d1_32)).trans d1_32
      go_wp2_with fail
      go_ret
      exact ⟨rfl, hB34⟩
  · rw [if_neg hneg1]
    go_wp2_with fail
    go_ret
    exact ⟨rfl, hb00⟩

section
set_option maxRecDepth 100000 in
theorem liftedFnExactPutEntry (os : Os) (started : os.Started) (H : Type) (enc : TypeId × Value → H) :
    ReturnsInHanded {} Try.checked os 3 .any (Rows.fnExactPutEntrySpec.pre6 enc Try.prog Try.f3 Rows.fnExactPutEntryRow.domain false) (Rows.fnExactPutEntrySpec.post enc Try.prog Try.f3 false true false false) := by
  refine returnsInHanded_of_change (C := Try.checked) own_knobFnExactPutEntry started (by kernel_rfl) Try.func3
    (ChangeSpec.witness6 (enc := enc) (C := Try.checked) false ⟨#[], #[.slice none 0 0, .agg #[.string ByteArray.empty, .int .i64 0]], []⟩ 8 (by kernel_rfl) (by kernel_rfl) (by kernel_rfl) (by kernel_rfl)) ?_
  intro W base args ds gs before hval0 hW hcnd _
  have hval : ∀ (j : Nat) t v, Try.f3.params[j]? = some t → args[j]? = some v → Value.okWide Try.prog W .any base t v := hval0
  have hW' := hW
  obtain ⟨p, q, hA0, hV, rfl, hfz, hnd⟩ := hW
  have hA : DataW.TrodAll enc Try.prog W 0 (fun _ => true) true Try.f3.params.toList args.toList ds p := hA0
  rw [Try.params3] at hA hval
  obtain ⟨v0, vs0, d0, ds0, p0, q0, hargs, rfl, rfl, h0, t0⟩ := trodAll_cons hA
  obtain ⟨v1, vs1, d1, ds1, p1, q1, rfl, rfl, rfl, h1, t1⟩ := trodAll_cons t0
  obtain ⟨rfl, rfl, rfl⟩ := trodAll_nil t1
  obtain rfl : args = #[v0, v1] := by cases args; simp_all
  obtain ⟨rfl, rfl⟩ := trodVars_none hV
  obtain ⟨A0, n0, c0, rfl⟩ := okWide_slice Try.underlying22 (hval 0 22 v0 rfl rfl)
  have lt0 : ∀ x ∈ p0, x.block < W.heap.size := by obtain ⟨m, hm⟩ := h0; exact DataW.trod_lt m _ _ _ hm
  obtain ⟨l0, m0, x0, r0, w0⟩ := open_ens Try.underlying22 Try.underlying24 (by kernel_rfl) rfl rfl (by kernel_rfl) (by kernel_rfl) Try.underlying9 Try.underlying3 h0
  have k1 := h1
  have lt1 : ∀ x ∈ p1, x.block < W.heap.size := by obtain ⟨m, hm⟩ := k1; exact DataW.trod_lt m _ _ _ hm
  obtain ⟨c01, c11, y01, y11, m1, rfl, _, _, hy01, hy11⟩ := Go.Joins.open_agg2 Try.underlying24 (by kernel_rfl) (by kernel_rfl) (hval 1 24 v1 rfl rfl) h1
  obtain ⟨a1, e01, _, w1⟩ := DataW.trod_string Try.underlying9 hy01
  obtain ⟨b1, e11, _, u1⟩ := DataW.trod_int Try.underlying3 hy11
  simp at e01 e11
  subst e01 e11
  clear hA0 hval0
  refine (walkFnExactPutEntry A0 n0 c0 x0 a1 b1 W r0 l0 w0 (Nat.le_trans l0 m0) w1 u1).mono fun e W' ⟨he, bel⟩ => ?_
  subst he
  exact ⟨_, rfl, _, _, _, [], _, [], hW', trodAll_mk1 (shut_bool Try.underlying4 _), (trodAll_cons_mk (Below.trod laid_outFnExactPutEntry (by kernel_rfl) (of_decide_eq_true (by kernel_rfl)) h0 bel lt0) (trodAll_cons_mk (Below.trod laid_outFnExactPutEntry (by kernel_rfl) (of_decide_eq_true (by kernel_rfl)) k1 bel lt1) trodAll_mk0)), rfl, bel.frame _, fun h => by cases h⟩

theorem overFnExactPutEntry : Rows.fnExactPutEntryRow.holds Try.pinned (OpenSpec.ofChange Rows.fnExactPutEntrySpec) :=
  OpenClaim.holds_of_wide 3 Try.f3 rfl rfl rfl rfl rfl rfl rfl ⟨rfl, rfl, rfl, rfl, rfl⟩ rfl rfl rfl rfl rfl (by kernel_rfl) Try.func3 (by kernel_rfl)
    (of_decide_eq_true (by kernel_rfl)) (by unfold Func.isWrapper; first | (rw [if_pos (by decide +kernel)]; kernel_rfl) | (rw [if_neg (by decide +kernel)]; exact ⟨rfl, rfl⟩))
    (fun os started H enc _ => liftedFnExactPutEntry os started H enc)

theorem provedFnExactPutEntry : Rows.FnExactPutEntrySaid := overFnExactPutEntry
end
end Go.Proofs.Ytfjlocfaibbobab
