/- The law FnReadHex: For every input the law returns true, and its arguments read as before. Conditions: none. -/
import Derived.Test.YtfjlocfaibbobaaDoorRows
import Derived.Test.YtfjlocfaibbobaaDoorReadHex
import Derived.Test.YtfjlocfaibbobaaDoorDrawHex
import Derived.Test.YtfjlocfaibbobaaDoorTabK
import Derived.Test.YtfjlocfaibbobaaDoorOpen
import Derived.Test.YtfjlocfaibbobaaDoorCards
import Derived.Test.YtfjlocfaibbobaaDoorTie
import Derived.Test.YtfjlocfaibbobaaDoorDoorKit
import Derived.ProofKit
import Derived.OpenShut
import Derived.LaidMore
import Derived.Lay
import Derived.SevenTiedAt
import Derived.Stop.Joined
open Go.RowKit Go.ChangeShapes Go.WideShapes Go.ChangeAt
open Go.ChangeMaps (open_string shut_string)
set_option linter.unusedVariables false
namespace Go.Proofs.YtfjlocfaibbobaaDoor
theorem own_knobFnReadHex : ownKnob Tryd.prog.godebug = none := by kernel_rfl
theorem laid_outFnReadHex : laidOutB Tryd.prog = true := by kernel_rfl

set_option maxHeartbeats 1000000 in
theorem walkFnReadHex (A0 : Option Addr) (n0 c0 : Nat) (x0 : List Int) (w : World) (hL : laidMetH Tryd.prog Rows.fnReadHexRow.laid w) (hS : w.ShapedOpen Tryd.prog) (r0 : Rd w 1 A0 n0 (byts x0)) (l0 : n0 ≤ c0) (w0 : ∀ x ∈ x0, (Lit.int .u8 x).wf = true) :
    Calls Tryd.prog 9 #[.slice A0 n0 c0] w fun e w' => e = .returned (.bool true) ∧ Below w.heap.size w w' := by
  have hcell := tab_cell hL (by kernel_rfl) (List.Mem.tail _ (List.Mem.head _))
  by_cases hb : n0 ≤ 1048576
  · go_enter Tryd.func9, Tryd.ntmps9
    go_wp2_with fail
    refine (drawReadHex _ _ _ x0 _ r0 l0 w0).mono ?_
    rintro e w1 ⟨s, rfl, hs7, hbel⟩
    have hcell1 := (hbel.cell (p := ⟨5, 15, none⟩) (World.block_lt_of_cell? w _ hcell)).trans hcell
    go_wp2_with fail
    refine (implReadHex s _ (by unfold maxLen; omega) hcell1).mono ?_
    rintro e w2 ⟨rfl, hb2⟩
    have hcell2 := (hb2.cell (p := ⟨5, 15, none⟩) (World.block_lt_of_cell? w1 _ hcell1)).trans hcell1
    have hB2 := below_step hbel hb2
    go_wp2_with fail
    refine (specReadHex s _ (by unfold maxLen; omega)).mono ?_
    rintro e w3 ⟨rfl, rfl⟩
    by_cases hn : 0 ≤ readH s
    · have HT := Lib.hid (hexT_readH hn)
      have HZ := Lib.hid (readH_zero hn)
      have hss : (s.toList == s.toList) = true := by simp
      have hsz : ((⟨#[48]⟩ : ByteArray) ++ s).size ≤ maxLen := by rw [ByteArray.size_append]; show 1 + s.size ≤ maxLen; unfold maxLen; omega
      generalize hR : readH s = v at *
      clear hR
      go_wp2_with fail
      refine (implHexText v _ hcell2).mono ?_
      rintro e w4 ⟨rfl, hb4⟩
      have hcell4 := (hb4.cell (p := ⟨5, 15, none⟩) (World.block_lt_of_cell? w2 _ hcell2)).trans hcell2
      have hB4 := below_step hB2 hb4
      rw [HT.out]
      go_wp2_with fail
      have q := implReadHex ((⟨#[48]⟩ : ByteArray) ++ s) _ hsz hcell4
      refine q.mono ?_
      rintro e w5 ⟨rfl, hb5⟩
      rw [HZ.out]
      go_wp2_with fail
      go_ret
      exact ⟨rfl, below_step hB4 hb5⟩
    · have hm : readH s = -1 := by have := readH_ge s; omega
      rw [hm]
      go_wp2_with (go_at_call 19; refine (alive _).mono ?_; rintro e w' ⟨rfl, rfl⟩)
      go_ret
      exact ⟨rfl, hB2⟩
  · go_enter Tryd.func9, Tryd.ntmps9
    go_wp2
    go_ret
    exact ⟨rfl, Below.refl _ _⟩

section
set_option maxRecDepth 100000 in
theorem liftedFnReadHex (os : Os) (started : os.Started) (H : Type) (enc : TypeId × Value → H) :
    ReturnsInHanded {} Tryd.checked os 9 .any (fun w args => (Rows.fnReadHexSpec.pre enc Tryd.prog Tryd.f9 Rows.fnReadHexRow.domain false w args ∧ laidMetH Tryd.prog Rows.fnReadHexRow.laid w) ∧ sizedMet enc Tryd.prog Tryd.f9 (OpenSpec.ofChange Rows.fnReadHexSpec) false w args) (Rows.fnReadHexSpec.post enc Tryd.prog Tryd.f9 false true false false) := by
  refine returnsInHanded_and_shaped (C := Tryd.checked) (X := fun w _ => laidMetH Tryd.prog Rows.fnReadHexRow.laid w) (fun _ _ _ hh h => h.of_heap hh) own_knobFnReadHex started (by kernel_rfl) Tryd.func9
    (ChangeSpec.witness_shaped (enc := enc) (C := Tryd.checked) (os := os) (X := fun w _ => laidMetH Tryd.prog Rows.fnReadHexRow.laid w) false (World.laidAll Tryd.prog os Rows.fnReadHexRow.laid) #[.slice none 0 0] 8 (World.laidAll_os _ _ _)
      (World.shaped_of_ZipB (by kernel_rfl) (by kernel_rfl)) (by kernel_rfl) (by kernel_rfl) (by kernel_rfl)
      (by rw [MakeChecks.laidMetH_plain _ _ _ (by kernel_rfl)]; exact laidMet_laidAll _ (by kernel_rfl) (by kernel_rfl))) ?_
  intro W base args ds gs before hval0 hW hcnd _ hL hS _
  have hval : ∀ (j : Nat) t v, Tryd.f9.params[j]? = some t → args[j]? = some v → Value.okWide Tryd.prog W .any base t v := hval0
  have hW' := hW
  obtain ⟨p, q, hA0, hV, rfl, hfz, hnd⟩ := hW
  have hA : DataW.TrodAll enc Tryd.prog W 0 (fun _ => true) true Tryd.f9.params.toList args.toList ds p := hA0
  rw [Tryd.params9] at hA hval
  obtain ⟨v0, vs0, d0, ds0, p0, q0, hargs, rfl, rfl, h0, t0⟩ := trodAll_cons hA
  obtain ⟨rfl, rfl, rfl⟩ := trodAll_nil t0
  obtain rfl : args = #[v0] := by cases args; simp_all
  obtain ⟨rfl, rfl⟩ := trodVars_none hV
  obtain ⟨A0, n0, c0, rfl⟩ := okWide_slice Tryd.underlying23 (hval 0 23 v0 rfl rfl)
  have lt0 : ∀ x ∈ p0, x.block < W.heap.size := by obtain ⟨m, hm⟩ := h0; exact DataW.trod_lt m _ _ _ hm
  obtain ⟨l0, _, x0, r0, w0⟩ := open_rd_num Tryd.underlying23 Tryd.underlying5 (by kernel_rfl) h0
  clear hA0 hval0
  refine (walkFnReadHex A0 n0 c0 x0 W hL hS r0 l0 w0).mono fun e W' ⟨he, bel⟩ => ?_
  subst he
  exact ⟨_, rfl, _, _, _, [], _, [], hW', trodAll_mk1 (shut_bool Tryd.underlying4 _), (trodAll_cons_mk (Below.trod laid_outFnReadHex (by kernel_rfl) (of_decide_eq_true (by kernel_rfl)) h0 bel lt0) trodAll_mk0), rfl, bel.frame _, fun h => by cases h⟩

theorem overFnReadHex : Rows.fnReadHexRow.holds Tryd.pinned (OpenSpec.ofChange Rows.fnReadHexSpec) :=
  OpenClaim.holds_of_wide 9 Tryd.f9 rfl rfl rfl rfl rfl rfl rfl ⟨rfl, rfl, rfl, rfl, rfl⟩ rfl rfl rfl rfl rfl (by kernel_rfl) Tryd.func9 (by kernel_rfl)
    (of_decide_eq_true (by kernel_rfl)) (by unfold Func.isWrapper; first | (rw [if_pos (by decide +kernel)]; kernel_rfl) | (rw [if_neg (by decide +kernel)]; exact ⟨rfl, rfl⟩))
    (fun os started H enc _ => liftedFnReadHex os started H enc)

theorem provedFnReadHex : Rows.FnReadHexCardSaid :=
  Claim7.holds_tied_plain_at .later [] [.data, .data, .data] true Rows.fnReadHexCard.stood.harness false overFnReadHex (fun _ h => by cases h) (by kernel_rfl) (fun _ h => by cases h) fnReadHex_row_tie rfl ⟨rfl, rfl⟩ (by kernel_rfl) rfl
    (fun f fn hf hfn => by
      obtain rfl : f = 9 := Option.some.inj ((show Tryd.prog.funcNamed Rows.fnReadHexRow.func = some 9 by kernel_rfl).symm.trans hf) |>.symm
      obtain rfl : fn = Tryd.f9 := (Option.some.inj (Tryd.func9.symm.trans hfn)).symm
      exact ⟨by kernel_rfl, fun j t ht => by
        rw [Tryd.params9] at ht
        have hm : t ∈ [23] := by simpa using Array.mem_of_getElem? ht
        have hall : ([23].all fun u => !Tryd.prog.wantsStandIn u) = true := by kernel_rfl
        exact (show Tryd.prog.wantsStandIn t = false by simpa using List.all_eq_true.1 hall t hm)⟩)
    (by kernel_rfl)
end
end Go.Proofs.YtfjlocfaibbobaaDoor
