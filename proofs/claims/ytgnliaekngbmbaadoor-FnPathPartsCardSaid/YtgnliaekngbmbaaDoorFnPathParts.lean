/- The law FnPathParts: For every input the law returns true, and its arguments read as before. Conditions: none. -/
import Derived.Test.YtgnliaekngbmbaaDoorRows
import Derived.Test.YtgnliaekngbmbaaDoorPartsS
import Derived.Test.YtgnliaekngbmbaaDoorStrs
import Derived.Test.YtgnliaekngbmbaaDoorDrawPath
import Derived.Test.YtgnliaekngbmbaaDoorOpen
import Derived.Shelf.Vars
import Derived.Test.YtgnliaekngbmbaaDoorCards
import Derived.Test.YtgnliaekngbmbaaDoorTie
import Derived.Test.YtgnliaekngbmbaaDoorDoorKit
import Derived.ProofKit
import Derived.OpenShut
import Derived.LaidMore
import Derived.Lay
import Derived.SevenTiedAt
import Derived.Stop.Joined
open Go.RowKit Go.ChangeShapes Go.WideShapes Go.ChangeAt
open Go.ChangeMaps (open_string shut_string)
set_option linter.unusedVariables false
namespace Go.Proofs.YtgnliaekngbmbaaDoor
theorem own_knobFnPathParts : ownKnob Tryd.prog.godebug = none := by kernel_rfl
theorem laid_outFnPathParts : laidOutB Tryd.prog = true := by kernel_rfl

set_option maxHeartbeats 1000000 in
theorem walkFnPathParts (A0 : Option Addr) (n0 c0 : Nat) (x0 : List Int) (w : World) (hL : laidMetH Tryd.prog Rows.fnPathPartsRow.laid w) (hS : w.ShapedOpen Tryd.prog) (r0 : Rd w 1 A0 n0 (byts x0)) (l0 : n0 ≤ c0) (w0 : ∀ x ∈ x0, (Lit.int .u8 x).wf = true) :
    Calls Tryd.prog 4 #[.slice A0 n0 c0] w fun e w' => e = .returned (.bool true) ∧ Below w.heap.size w w' := by
  obtain ⟨mm, hm⟩ := cell_of_shapedOpen_int (P := Tryd.prog) (g := 0) (t := 3) (zero := #[.int .i64 0]) (k := .i64) hS (of_decide_eq_true (by kernel_rfl)) (by kernel_rfl) rfl (by kernel_rfl) (by kernel_rfl) Tryd.underlying3
  by_cases hb : n0 ≤ 1048576
  · go_enter Tryd.func4, Tryd.ntmps4
    go_wp2_with fail
    refine (drawPathParts _ _ _ x0 _ r0 l0 w0).mono ?_
    rintro e w1 ⟨s, rfl, hs9, hbel⟩
    have hm1 := (hbel.cell (p := ⟨0, 0, none⟩) (World.block_lt_of_cell? w _ hm)).trans hm
    have hlen := partsP_len s
    have HX := Lib.hid (partsP_sizes (path := s))
    go_wp2_with fail
    refine (implPathParts s mm _ (by omega) hm1).mono ?_
    rintro e w2 ⟨v2, rfl, hown2, hb2⟩
    obtain ⟨A2, c2, rfl, hc2⟩ := own_slice hown2
    go_wp2_with fail
    refine (specPathParts s _ (by omega)).mono ?_
    rintro e w3 ⟨v3, rfl, hown3, hb3⟩
    obtain ⟨A3, c3, rfl, _⟩ := own_slice hown3
    have hB3 := below_step hb2 hb3
    have hr2 := (Rd.own hown2).below hb3
    go_wp2_with fail
    refine (sameTexts _ _ _ _ _ _ (partsP s).1 (partsP s).1 _ hr2 (Rd.own hown3) (by omega)).mono ?_
    rintro e w4 ⟨rfl, k4, rfl⟩
    rw [decide_eq_true rfl]
    have hB4 : Below w1.heap.size w1 (w3.drewN k4) := below_to hB3 hB3.size (below_drewN _ k4)
    have HR4 := Lib.hid (hr2.drewN k4)
    generalize w3.drewN k4 = w4 at *
    have hm4 := (hB4.cell (p := ⟨0, 0, none⟩) (World.block_lt_of_cell? w1 _ hm1)).trans hm1
    cases hd : (partsP s).2
    · have hz : (partsP s).1.length = 0 := by rw [partsP_false hd]; rfl
      clear hd
      generalize (partsP s).1.length = z at *
      subst hz
      go_wp2_with (go_at_call 12; refine (alive _).mono ?_; rintro e w' ⟨rfl, rfl⟩)
      go_ret
      exact ⟨rfl, below_step hbel hB4⟩
    · have hj := partsP_join hd
      have HSL := Lib.hid (partsP_slash (partsP_size hd))
      have hsz : (s ++ (⟨#[47]⟩ : ByteArray)).size ≤ 1048576 := by rw [ByteArray.size_append]; show s.size + 1 ≤ 1048576; omega
      have HJ := Lib.hid hj
      have hjs : (s.toList == s.toList) = true := by simp
      clear hd hj
      go_wp2_with fail
      have q := implPathParts (s ++ (⟨#[47]⟩ : ByteArray)) mm w4 hsz hm4
      refine q.mono ?_
      rintro e w5 ⟨v5, rfl, hown5, hb5⟩
      rw [HSL.out]
      generalize (partsP (s ++ (⟨#[47]⟩ : ByteArray))).1 = ys at *
      generalize (partsP s).1 = xs at *
      go_wp2_with fail
      refine (implJoinPath _ _ _ xs _ (HR4.out.below hb5) hc2 HX.out (by omega)).mono ?_
      rintro e w6 ⟨rfl, hb6⟩
      rw [HJ.out]
      go_wp2_with fail
      go_ret
      exact ⟨rfl, below_step hbel (below_step hB4 (below_step hb5 hb6))⟩
  · go_enter Tryd.func4, Tryd.ntmps4
    go_wp2
    go_ret
    exact ⟨rfl, Below.refl _ _⟩

section
set_option maxRecDepth 100000 in
theorem liftedFnPathParts (os : Os) (started : os.Started) (H : Type) (enc : TypeId × Value → H) :
    ReturnsInHanded {} Tryd.checked os 4 .any (fun w args => (Rows.fnPathPartsSpec.pre enc Tryd.prog Tryd.f4 Rows.fnPathPartsRow.domain false w args ∧ laidMetH Tryd.prog Rows.fnPathPartsRow.laid w) ∧ sizedMet enc Tryd.prog Tryd.f4 (OpenSpec.ofChange Rows.fnPathPartsSpec) false w args) (Rows.fnPathPartsSpec.post enc Tryd.prog Tryd.f4 false true false false) := by
  refine returnsInHanded_and_shaped (C := Tryd.checked) (X := fun w _ => laidMetH Tryd.prog Rows.fnPathPartsRow.laid w) (fun _ _ _ hh h => h.of_heap hh) own_knobFnPathParts started (by kernel_rfl) Tryd.func4
    (ChangeSpec.witness_shaped (enc := enc) (C := Tryd.checked) (os := os) (X := fun w _ => laidMetH Tryd.prog Rows.fnPathPartsRow.laid w) false (World.laidAll Tryd.prog os Rows.fnPathPartsRow.laid) #[.slice none 0 0] 8 (World.laidAll_os _ _ _)
      (World.shaped_of_ZipB (by kernel_rfl) (by kernel_rfl)) (by kernel_rfl) (by kernel_rfl) (by kernel_rfl)
      (by rw [MakeChecks.laidMetH_plain _ _ _ (by kernel_rfl)]; exact laidMet_laidAll _ (by kernel_rfl) (by kernel_rfl))) ?_
  intro W base args ds gs before hval0 hW hcnd _ hL hS _
  have hval : ∀ (j : Nat) t v, Tryd.f4.params[j]? = some t → args[j]? = some v → Value.okWide Tryd.prog W .any base t v := hval0
  have hW' := hW
  obtain ⟨p, q, hA0, hV, rfl, hfz, hnd⟩ := hW
  have hA : DataW.TrodAll enc Tryd.prog W 0 (fun _ => true) true Tryd.f4.params.toList args.toList ds p := hA0
  rw [Tryd.params4] at hA hval
  obtain ⟨v0, vs0, d0, ds0, p0, q0, hargs, rfl, rfl, h0, t0⟩ := trodAll_cons hA
  obtain ⟨rfl, rfl, rfl⟩ := trodAll_nil t0
  obtain rfl : args = #[v0] := by cases args; simp_all
  obtain ⟨rfl, rfl⟩ := trodVars_none hV
  obtain ⟨A0, n0, c0, rfl⟩ := okWide_slice Tryd.underlying28 (hval 0 28 v0 rfl rfl)
  have lt0 : ∀ x ∈ p0, x.block < W.heap.size := by obtain ⟨m, hm⟩ := h0; exact DataW.trod_lt m _ _ _ hm
  obtain ⟨l0, _, x0, r0, w0⟩ := open_rd_num Tryd.underlying28 Tryd.underlying5 (by kernel_rfl) h0
  clear hA0 hval0
  refine (walkFnPathParts A0 n0 c0 x0 W hL hS r0 l0 w0).mono fun e W' ⟨he, bel⟩ => ?_
  subst he
  exact ⟨_, rfl, _, _, _, [], _, [], hW', trodAll_mk1 (shut_bool Tryd.underlying4 _), (trodAll_cons_mk (Below.trod laid_outFnPathParts (by kernel_rfl) (of_decide_eq_true (by kernel_rfl)) h0 bel lt0) trodAll_mk0), rfl, bel.frame _, fun h => by cases h⟩

theorem overFnPathParts : Rows.fnPathPartsRow.holds Tryd.pinned (OpenSpec.ofChange Rows.fnPathPartsSpec) :=
  OpenClaim.holds_of_wide 4 Tryd.f4 rfl rfl rfl rfl rfl rfl rfl ⟨rfl, rfl, rfl, rfl, rfl⟩ rfl rfl rfl rfl rfl (by kernel_rfl) Tryd.func4 (by kernel_rfl)
    (of_decide_eq_true (by kernel_rfl)) (by unfold Func.isWrapper; first | (rw [if_pos (by decide +kernel)]; kernel_rfl) | (rw [if_neg (by decide +kernel)]; exact ⟨rfl, rfl⟩))
    (fun os started H enc _ => liftedFnPathParts os started H enc)

theorem provedFnPathParts : Rows.FnPathPartsCardSaid :=
  Claim7.holds_tied_plain_at .later [] [.data, .pinned] true Rows.fnPathPartsCard.stood.harness false overFnPathParts (fun _ h => by cases h) (by kernel_rfl) (fun _ h => by cases h) fnPathParts_row_tie rfl ⟨rfl, rfl⟩ (by kernel_rfl) rfl
    (fun f fn hf hfn => by
      obtain rfl : f = 4 := Option.some.inj ((show Tryd.prog.funcNamed Rows.fnPathPartsRow.func = some 4 by kernel_rfl).symm.trans hf) |>.symm
      obtain rfl : fn = Tryd.f4 := (Option.some.inj (Tryd.func4.symm.trans hfn)).symm
      exact ⟨by kernel_rfl, fun j t ht => by
        rw [Tryd.params4] at ht
        have hm : t ∈ [28] := by simpa using Array.mem_of_getElem? ht
        have hall : ([28].all fun u => !Tryd.prog.wantsStandIn u) = true := by kernel_rfl
        exact (show Tryd.prog.wantsStandIn t = false by simpa using List.all_eq_true.1 hall t hm)⟩)
    (by kernel_rfl)
end
end Go.Proofs.YtgnliaekngbmbaaDoor
