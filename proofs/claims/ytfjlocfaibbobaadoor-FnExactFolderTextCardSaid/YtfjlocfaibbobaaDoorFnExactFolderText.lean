/- The law FnExactFolderText: For every input the law returns true, and its arguments read as before. Conditions: none. -/
import Derived.Test.YtfjlocfaibbobaaDoorRows
import Derived.Test.YtfjlocfaibbobaaDoorEnts
import Derived.Test.YtfjlocfaibbobaaDoorFolder
import Derived.Test.YtfjlocfaibbobaaDoorTabK
import Derived.Test.YtfjlocfaibbobaaDoorOpen
import Derived.Test.YtfjlocfaibbobaaDoorCards
import Derived.Test.YtfjlocfaibbobaaDoorTie
import Derived.Test.YtfjlocfaibbobaaDoorDoorKit
import Derived.ProofKit
import Derived.OpenShut
import Derived.LaidMore
import Derived.Lay
import Derived.SevenTiedAt
import Derived.Stop.Joined
open Go.RowKit Go.ChangeShapes Go.WideShapes Go.ChangeAt
open Go.ChangeMaps (open_string shut_string)
set_option linter.unusedVariables false
namespace Go.Proofs.YtfjlocfaibbobaaDoor
theorem own_knobFnExactFolderText : ownKnob Tryd.prog.godebug = none := by kernel_rfl
theorem laid_outFnExactFolderText : laidOutB Tryd.prog = true := by kernel_rfl

set_option maxHeartbeats 1000000 in
theorem walkFnExactFolderText (A0 : Option Addr) (n0 c0 : Nat) (x0 : List (ByteArray × Int)) (w : World) (hL : laidMetH Tryd.prog Rows.fnExactFolderTextRow.laid w) (hS : w.ShapedOpen Tryd.prog) (r0 : Rd w 2 A0 n0 (ens x0)) (l0 : n0 ≤ c0) (w0 : ∀ p ∈ x0, p.1.size ≤ maxLen ∧ (Lit.int .i64 p.2).wf = true) (m0 : n0 ≤ maxLen) :
    Calls Tryd.prog 10 #[.slice A0 n0 c0] w fun e w' => e = .returned (.bool true) ∧ Below w.heap.size w w' := by
  have hcell := tab_cell hL (by kernel_rfl) (List.Mem.tail _ (List.Mem.head _))
  have hs : ∀ x ∈ x0, x.1.size ≤ maxLen := fun x hx => (w0 x hx).1
  have HX := Lib.hid hs
  clear hs w0
  generalize hg : folderT x0 = r
  have HG := Lib.hid hg
  clear hg
  go_enter Tryd.func10, Tryd.ntmps10
  go_wp2_with fail
  refine (szEntryS _ _ _ _ x0 _ r0 HX.out m0 (by omega)).mono ?_
  rintro e u0 ⟨⟨l, rfl, hl, hl1⟩, hb0⟩
  by_cases hneg : l < 0
  · go_wp2_with fail
    go_ret
    exact ⟨rfl, hb0⟩
  · have htot := hl (by omega)
    have hn : n0 ≤ 1048576 := by omega
    clear hl htot
    go_wp2_with fail
    refine (toEntryS _ _ _ x0 _ (r0.below hb0) (by omega)).mono ?_
    rintro e u1 ⟨v1, rfl, ho1, hb1⟩
    obtain ⟨A1, c1, rfl, _⟩ := own_slice ho1
    have hB1 := below_step hb0 hb1
    go_wp2_with fail
    refine (specFolderText _ _ _ x0 _ (Rd.own ho1) HX.out (by omega)).mono ?_
    rintro e u2 ⟨rfl, q2, hq2⟩
    have hb2 : Below u1.heap.size u1 u2 := by rw [hq2]; exact below_drewN _ _
    have hB2 := below_step hB1 hb2
    clear hq2
    rw [HG.out]
    go_wp2_with fail
    refine (toEntryS _ _ _ x0 _ (r0.below hB2) (by omega)).mono ?_
    rintro e u3 ⟨v3, rfl, ho3, hb3⟩
    obtain ⟨A3, c3, rfl, _⟩ := own_slice ho3
    have hB3 := below_step hB2 hb3
    go_wp2_with fail
    refine (implFolderText _ _ _ x0 _ (Rd.own ho3) HX.out ((hB3.cell (p := ⟨5, 15, none⟩) (World.block_lt_of_cell? w _ hcell)).trans hcell)).mono ?_
    rintro e u4 ⟨rfl, hb4⟩
    have hB4 := below_step hB3 hb4
    have hr4 := (Rd.own ho3).below hb4
    rw [HG.out]
    go_wp2_with fail
    refine (toEntryS _ _ _ x0 _ (r0.below hB4) (by omega)).mono ?_
    rintro e u5 ⟨v5, rfl, ho5, hb5⟩
    obtain ⟨A5, c5, rfl, _⟩ := own_slice ho5
    have hB5 := below_step hB4 hb5
    go_wp2_with fail
    refine (eqEntryS _ _ _ _ _ _ x0 x0 _ (hr4.below hb5) (Rd.own ho5) (by omega)).mono ?_
    rintro e u6 ⟨rfl, hb6⟩
    rw [decide_eq_true rfl]
    go_wp2_with fail
    go_ret
    exact ⟨rfl, below_step hB5 hb6⟩

section
set_option maxRecDepth 100000 in
theorem liftedFnExactFolderText (os : Os) (started : os.Started) (H : Type) (enc : TypeId × Value → H) :
    ReturnsInHanded {} Tryd.checked os 10 .any (fun w args => (Rows.fnExactFolderTextSpec.pre enc Tryd.prog Tryd.f10 Rows.fnExactFolderTextRow.domain false w args ∧ laidMetH Tryd.prog Rows.fnExactFolderTextRow.laid w) ∧ sizedMet enc Tryd.prog Tryd.f10 (OpenSpec.ofChange Rows.fnExactFolderTextSpec) false w args) (Rows.fnExactFolderTextSpec.post enc Tryd.prog Tryd.f10 false true false false) := by
  refine returnsInHanded_and_shaped (C := Tryd.checked) (X := fun w _ => laidMetH Tryd.prog Rows.fnExactFolderTextRow.laid w) (fun _ _ _ hh h => h.of_heap hh) own_knobFnExactFolderText started (by kernel_rfl) Tryd.func10
    (ChangeSpec.witness_shaped (enc := enc) (C := Tryd.checked) (os := os) (X := fun w _ => laidMetH Tryd.prog Rows.fnExactFolderTextRow.laid w) false (World.laidAll Tryd.prog os Rows.fnExactFolderTextRow.laid) #[.slice none 0 0] 8 (World.laidAll_os _ _ _)
      (World.shaped_of_ZipB (by kernel_rfl) (by kernel_rfl)) (by kernel_rfl) (by kernel_rfl) (by kernel_rfl)
      (by rw [MakeChecks.laidMetH_plain _ _ _ (by kernel_rfl)]; exact laidMet_laidAll _ (by kernel_rfl) (by kernel_rfl))) ?_
  intro W base args ds gs before hval0 hW hcnd _ hL hS _
  have hval : ∀ (j : Nat) t v, Tryd.f10.params[j]? = some t → args[j]? = some v → Value.okWide Tryd.prog W .any base t v := hval0
  have hW' := hW
  obtain ⟨p, q, hA0, hV, rfl, hfz, hnd⟩ := hW
  have hA : DataW.TrodAll enc Tryd.prog W 0 (fun _ => true) true Tryd.f10.params.toList args.toList ds p := hA0
  rw [Tryd.params10] at hA hval
  obtain ⟨v0, vs0, d0, ds0, p0, q0, hargs, rfl, rfl, h0, t0⟩ := trodAll_cons hA
  obtain ⟨rfl, rfl, rfl⟩ := trodAll_nil t0
  obtain rfl : args = #[v0] := by cases args; simp_all
  obtain ⟨rfl, rfl⟩ := trodVars_none hV
  obtain ⟨A0, n0, c0, rfl⟩ := okWide_slice Tryd.underlying40 (hval 0 40 v0 rfl rfl)
  have lt0 : ∀ x ∈ p0, x.block < W.heap.size := by obtain ⟨m, hm⟩ := h0; exact DataW.trod_lt m _ _ _ hm
  obtain ⟨l0, m0, x0, r0, w0⟩ := open_ens Tryd.underlying40 Tryd.underlying66 (by kernel_rfl) rfl rfl (by kernel_rfl) (by kernel_rfl) Tryd.underlying9 Tryd.underlying3 h0
  clear hA0 hval0
  refine (walkFnExactFolderText A0 n0 c0 x0 W hL hS r0 l0 w0 (Nat.le_trans l0 m0)).mono fun e W' ⟨he, bel⟩ => ?_
  subst he
  exact ⟨_, rfl, _, _, _, [], _, [], hW', trodAll_mk1 (shut_bool Tryd.underlying4 _), (trodAll_cons_mk (Below.trod laid_outFnExactFolderText (by kernel_rfl) (of_decide_eq_true (by kernel_rfl)) h0 bel lt0) trodAll_mk0), rfl, bel.frame _, fun h => by cases h⟩

theorem overFnExactFolderText : Rows.fnExactFolderTextRow.holds Tryd.pinned (OpenSpec.ofChange Rows.fnExactFolderTextSpec) :=
  OpenClaim.holds_of_wide 10 Tryd.f10 rfl rfl rfl rfl rfl rfl rfl ⟨rfl, rfl, rfl, rfl, rfl⟩ rfl rfl rfl rfl rfl (by kernel_rfl) Tryd.func10 (by kernel_rfl)
    (of_decide_eq_true (by kernel_rfl)) (by unfold Func.isWrapper; first | (rw [if_pos (by decide +kernel)]; kernel_rfl) | (rw [if_neg (by decide +kernel)]; exact ⟨rfl, rfl⟩))
    (fun os started H enc _ => liftedFnExactFolderText os started H enc)

theorem provedFnExactFolderText : Rows.FnExactFolderTextCardSaid :=
  Claim7.holds_tied_plain_at .later [] [.data, .data, .data] true Rows.fnExactFolderTextCard.stood.harness false overFnExactFolderText (fun _ h => by cases h) (by kernel_rfl) (fun _ h => by cases h) fnExactFolderText_row_tie rfl ⟨rfl, rfl⟩ (by kernel_rfl) rfl
    (fun f fn hf hfn => by
      obtain rfl : f = 10 := Option.some.inj ((show Tryd.prog.funcNamed Rows.fnExactFolderTextRow.func = some 10 by kernel_rfl).symm.trans hf) |>.symm
      obtain rfl : fn = Tryd.f10 := (Option.some.inj (Tryd.func10.symm.trans hfn)).symm
      exact ⟨by kernel_rfl, fun j t ht => by
        rw [Tryd.params10] at ht
        have hm : t ∈ [40] := by simpa using Array.mem_of_getElem? ht
        have hall : ([40].all fun u => !Tryd.prog.wantsStandIn u) = true := by kernel_rfl
        exact (show Tryd.prog.wantsStandIn t = false by simpa using List.all_eq_true.1 hall t hm)⟩)
    (by kernel_rfl)
end
end Go.Proofs.YtfjlocfaibbobaaDoor
