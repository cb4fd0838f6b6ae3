/- The law FnJoinPath: For every input the law returns true, and its arguments read as before. Conditions: none. -/
import Derived.Test.YtfjlocfaibbobaaDoorRows
import Derived.Test.YtfjlocfaibbobaaDoorDrawJoinP
import Derived.Test.YtfjlocfaibbobaaDoorStrs
import Derived.Test.YtfjlocfaibbobaaDoorOpen
import Derived.Test.YtfjlocfaibbobaaDoorWords
import Derived.Shelf.Vars
import Derived.Test.YtfjlocfaibbobaaDoorCards
import Derived.Test.YtfjlocfaibbobaaDoorTie
import Derived.Test.YtfjlocfaibbobaaDoorDoorKit
import Derived.ProofKit
import Derived.OpenShut
import Derived.LaidMore
import Derived.Lay
import Derived.SevenTiedAt
import Derived.Stop.Joined
open Go.RowKit Go.ChangeShapes Go.WideShapes Go.ChangeAt
open Go.ChangeMaps (open_string shut_string)
set_option linter.unusedVariables false
namespace Go.Proofs.YtfjlocfaibbobaaDoor
theorem own_knobFnJoinPath : ownKnob Tryd.prog.godebug = none := by kernel_rfl
theorem laid_outFnJoinPath : laidOutB Tryd.prog = true := by kernel_rfl

set_option maxHeartbeats 1000000 in
theorem walkFnJoinPath (A0 : Option Addr) (n0 c0 : Nat) (x0 : List Int) (w : World) (hL : laidMetH Tryd.prog Rows.fnJoinPathRow.laid w) (hS : w.ShapedOpen Tryd.prog) (r0 : Rd w 1 A0 n0 (byts x0)) (l0 : n0 ≤ c0) (w0 : ∀ x ∈ x0, (Lit.int .u8 x).wf = true) :
    Calls Tryd.prog 5 #[.slice A0 n0 c0] w fun e w' => e = .returned (.bool true) ∧ Below w.heap.size w w' := by
  obtain ⟨mm, hm⟩ := cell_of_shapedOpen_int (P := Tryd.prog) (g := 1) (t := 3) (zero := #[.int .i64 0]) (k := .i64) hS (of_decide_eq_true (by kernel_rfl)) (by kernel_rfl) rfl (by kernel_rfl) (by kernel_rfl) Tryd.underlying3
  by_cases hb : n0 ≤ 1048576
  · go_enter Tryd.func5, Tryd.ntmps5
    go_wp2_with fail
    refine (drawJoinPath _ _ _ x0 _ r0 l0 w0).mono ?_
    rintro e w1 ⟨v1, k, ys, rfl, hk, hys, hown1, hbel⟩
    have hm1 := (hbel.cell (p := ⟨1, 0, none⟩) (World.block_lt_of_cell? w _ hm)).trans hm
    obtain ⟨A1, c1, rfl, hc1⟩ := own_slice hown1
    have hr1 := Rd.own hown1
    have HX : Hid (∀ y ∈ ys, y.size ≤ maxLen) := Lib.hid fun y hy => Nat.le_trans (hys y hy) (by unfold maxLen; omega)
    have hsz := joinP_short hys
    clear hys hown1
    go_wp2_with fail
    refine (implJoinPath _ _ _ ys _ hr1 hc1 HX.out (by omega)).mono ?_
    rintro e w2 ⟨rfl, hb2⟩
    have hr2 := hr1.below hb2
    have hm2 := (hb2.cell (p := ⟨1, 0, none⟩) (World.block_lt_of_cell? w1 _ hm1)).trans hm1
    have hB2 := below_step hbel hb2
    clear hr1 hb2 hbel hm1 hm
    go_wp2_with fail
    refine (specJoinPath _ _ _ ys _ hr2 HX.out (by omega)).mono ?_
    rintro e w3 ⟨rfl, rfl⟩
    have HJ : Hid (joinP ys ≠ ⟨#[]⟩ → partsP (joinP ys) = (ys, true)) := Lib.hid partsP_of_join
    generalize joinP ys = s at *
    by_cases hs : s = ⟨#[]⟩
    · subst hs
      go_wp2_with (go_at_call 19; refine (alive _).mono ?_; rintro e w' ⟨rfl, rfl⟩)
      go_ret
      exact ⟨rfl, hB2⟩
    · have HP := Lib.hid (HJ.out hs)
      have hne : (s.toList == s.toList) = true := by simp
      have hem : s.toList.isEmpty = false := by
        rw [Lib.toList_data]
        cases hq : s.data.toList with
        | nil => exact absurd (ByteArray.ext (Array.toList_inj.1 hq)) hs
        | cons c t => rfl
      clear hs HJ
      go_wp2_with fail
      refine (implPathParts s mm _ (by omega) hm2).mono ?_
      rintro e w4 ⟨v4, rfl, hown4, hb4⟩
      rw [HP.out] at hown4 ⊢
      obtain ⟨A4, c4, rfl, _⟩ := own_slice hown4
      dsimp only at hown4 ⊢
      have hl := hr2.strLen
      go_wp2_with fail
      have q5 := sameTexts _ _ _ _ c4 c1 ys ys _ (Rd.own hown4) (hr2.below hb4) (by omega)
      rw [hl] at q5
      refine q5.mono ?_
      rintro e w5 ⟨rfl, k5, rfl⟩
      rw [decide_eq_true (show ys = ys from rfl)]
      go_wp2_with fail
      go_ret
      exact ⟨rfl, below_to (below_step hB2 hb4) (below_step hB2 hb4).size (below_drewN _ _)⟩
  · go_enter Tryd.func5, Tryd.ntmps5
    go_wp2
    go_ret
    exact ⟨rfl, Below.refl _ _⟩

section
set_option maxRecDepth 100000 in
theorem liftedFnJoinPath (os : Os) (started : os.Started) (H : Type) (enc : TypeId × Value → H) :
    ReturnsInHanded {} Tryd.checked os 5 .any (fun w args => (Rows.fnJoinPathSpec.pre enc Tryd.prog Tryd.f5 Rows.fnJoinPathRow.domain false w args ∧ laidMetH Tryd.prog Rows.fnJoinPathRow.laid w) ∧ sizedMet enc Tryd.prog Tryd.f5 (OpenSpec.ofChange Rows.fnJoinPathSpec) false w args) (Rows.fnJoinPathSpec.post enc Tryd.prog Tryd.f5 false true false false) := by
  refine returnsInHanded_and_shaped (C := Tryd.checked) (X := fun w _ => laidMetH Tryd.prog Rows.fnJoinPathRow.laid w) (fun _ _ _ hh h => h.of_heap hh) own_knobFnJoinPath started (by kernel_rfl) Tryd.func5
    (ChangeSpec.witness_shaped (enc := enc) (C := Tryd.checked) (os := os) (X := fun w _ => laidMetH Tryd.prog Rows.fnJoinPathRow.laid w) false (World.laidAll Tryd.prog os Rows.fnJoinPathRow.laid) #[.slice none 0 0] 8 (World.laidAll_os _ _ _)
      (World.shaped_of_ZipB (by kernel_rfl) (by kernel_rfl)) (by kernel_rfl) (by kernel_rfl) (by kernel_rfl)
      (by rw [MakeChecks.laidMetH_plain _ _ _ (by kernel_rfl)]; exact laidMet_laidAll _ (by kernel_rfl) (by kernel_rfl))) ?_
  intro W base args ds gs before hval0 hW hcnd _ hL hS _
  have hval : ∀ (j : Nat) t v, Tryd.f5.params[j]? = some t → args[j]? = some v → Value.okWide Tryd.prog W .any base t v := hval0
  have hW' := hW
  obtain ⟨p, q, hA0, hV, rfl, hfz, hnd⟩ := hW
  have hA : DataW.TrodAll enc Tryd.prog W 0 (fun _ => true) true Tryd.f5.params.toList args.toList ds p := hA0
  rw [Tryd.params5] at hA hval
  obtain ⟨v0, vs0, d0, ds0, p0, q0, hargs, rfl, rfl, h0, t0⟩ := trodAll_cons hA
  obtain ⟨rfl, rfl, rfl⟩ := trodAll_nil t0
  obtain rfl : args = #[v0] := by cases args; simp_all
  obtain ⟨rfl, rfl⟩ := trodVars_none hV
  obtain ⟨A0, n0, c0, rfl⟩ := okWide_slice Tryd.underlying23 (hval 0 23 v0 rfl rfl)
  have lt0 : ∀ x ∈ p0, x.block < W.heap.size := by obtain ⟨m, hm⟩ := h0; exact DataW.trod_lt m _ _ _ hm
  obtain ⟨l0, _, x0, r0, w0⟩ := open_rd_num Tryd.underlying23 Tryd.underlying5 (by kernel_rfl) h0
  clear hA0 hval0
  refine (walkFnJoinPath A0 n0 c0 x0 W hL hS r0 l0 w0).mono fun e W' ⟨he, bel⟩ => ?_
  subst he
  exact ⟨_, rfl, _, _, _, [], _, [], hW', trodAll_mk1 (shut_bool Tryd.underlying4 _), (trodAll_cons_mk (Below.trod laid_outFnJoinPath (by kernel_rfl) (of_decide_eq_true (by kernel_rfl)) h0 bel lt0) trodAll_mk0), rfl, bel.frame _, fun h => by cases h⟩

theorem overFnJoinPath : Rows.fnJoinPathRow.holds Tryd.pinned (OpenSpec.ofChange Rows.fnJoinPathSpec) :=
  OpenClaim.holds_of_wide 5 Tryd.f5 rfl rfl rfl rfl rfl rfl rfl ⟨rfl, rfl, rfl, rfl, rfl⟩ rfl rfl rfl rfl rfl (by kernel_rfl) Tryd.func5 (by kernel_rfl)
    (of_decide_eq_true (by kernel_rfl)) (by unfold Func.isWrapper; first | (rw [if_pos (by decide +kernel)]; kernel_rfl) | (rw [if_neg (by decide +kernel)]; exact ⟨rfl, rfl⟩))
    (fun os started H enc _ => liftedFnJoinPath os started H enc)

theorem provedFnJoinPath : Rows.FnJoinPathCardSaid :=
  Claim7.holds_tied_plain_at .later [] [.data, .pinned] true Rows.fnJoinPathCard.stood.harness false overFnJoinPath (fun _ h => by cases h) (by kernel_rfl) (fun _ h => by cases h) fnJoinPath_row_tie rfl ⟨rfl, rfl⟩ (by kernel_rfl) rfl
    (fun f fn hf hfn => by
      obtain rfl : f = 5 := Option.some.inj ((show Tryd.prog.funcNamed Rows.fnJoinPathRow.func = some 5 by kernel_rfl).symm.trans hf) |>.symm
      obtain rfl : fn = Tryd.f5 := (Option.some.inj (Tryd.func5.symm.trans hfn)).symm
      exact ⟨by kernel_rfl, fun j t ht => by
        rw [Tryd.params5] at ht
        have hm : t ∈ [23] := by simpa using Array.mem_of_getElem? ht
        have hall : ([23].all fun u => !Tryd.prog.wantsStandIn u) = true := by kernel_rfl
        exact (show Tryd.prog.wantsStandIn t = false by simpa using List.all_eq_true.1 hall t hm)⟩)
    (by kernel_rfl)
end
end Go.Proofs.YtfjlocfaibbobaaDoor
