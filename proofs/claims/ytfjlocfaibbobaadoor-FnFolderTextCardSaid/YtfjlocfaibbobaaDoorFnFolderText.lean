/- The law FnFolderText: For every input the law returns true, and its arguments read as before. Conditions: none. -/
import Derived.Test.YtfjlocfaibbobaaDoorRows
import Derived.Test.YtfjlocfaibbobaaDoorDrawFo
import Derived.Test.YtfjlocfaibbobaaDoorReadFi
import Derived.Test.YtfjlocfaibbobaaDoorSameE
import Derived.Test.YtfjlocfaibbobaaDoorTabK
import Derived.Test.YtfjlocfaibbobaaDoorWords
import Derived.Test.YtfjlocfaibbobaaDoorOpen
import Derived.Shelf.Vars
import Derived.Test.YtfjlocfaibbobaaDoorCards
import Derived.Test.YtfjlocfaibbobaaDoorTie
import Derived.Test.YtfjlocfaibbobaaDoorDoorKit
import Derived.ProofKit
import Derived.OpenShut
import Derived.LaidMore
import Derived.Lay
import Derived.SevenTiedAt
import Derived.Stop.Joined
open Go.RowKit Go.ChangeShapes Go.WideShapes Go.ChangeAt
open Go.ChangeMaps (open_string shut_string)
set_option linter.unusedVariables false
namespace Go.Proofs.YtfjlocfaibbobaaDoor
theorem own_knobFnFolderText : ownKnob Tryd.prog.godebug = none := by kernel_rfl
theorem laid_outFnFolderText : laidOutB Tryd.prog = true := by kernel_rfl

set_option maxHeartbeats 2000000 in
theorem walkFnFolderText (A0 : Option Addr) (n0 c0 : Nat) (x0 : List Int) (w : World) (hL : laidMetH Tryd.prog Rows.fnFolderTextRow.laid w) (hS : w.ShapedOpen Tryd.prog) (r0 : Rd w 1 A0 n0 (byts x0)) (l0 : n0 ≤ c0) (w0 : ∀ x ∈ x0, (Lit.int .u8 x).wf = true) :
    Calls Tryd.prog 11 #[.slice A0 n0 c0] w fun e w' => e = .returned (.bool true) ∧ Below w.heap.size w w' := by
  have hcell := tab_cell hL (by kernel_rfl) (List.Mem.tail _ (List.Mem.head _))
  obtain ⟨mm, hm⟩ := cell_of_shapedOpen_int (P := Tryd.prog) (g := 1) (t := 3) (zero := #[.int .i64 0]) (k := .i64) hS (of_decide_eq_true (by kernel_rfl)) (by kernel_rfl) rfl (by kernel_rfl) (by kernel_rfl) Tryd.underlying3
  by_cases hb : n0 ≤ 1048576
  · go_enter Tryd.func11, Tryd.ntmps11
    go_wp2_with fail
    refine (drawFolderText _ _ _ x0 _ r0 l0 w0).mono ?_
    rintro e w1 ⟨v1, k, es, rfl, hk, hs, hown1, hbel⟩
    have hm1 := (hbel.cell (p := ⟨1, 0, none⟩) (World.block_lt_of_cell? w _ hm)).trans hm
    have hcell1 := (hbel.cell (p := ⟨5, 15, none⟩) (World.block_lt_of_cell? w _ hcell)).trans hcell
    obtain ⟨A1, c1, rfl, _⟩ := own_slice hown1
    have hr1 := Rd.own hown1
    have HX : Hid (∀ x ∈ es, x.1.size ≤ maxLen) := Lib.hid (fun x hx => Nat.le_trans (hs x hx) (by unfold maxLen; omega))
    clear hs hown1 hm hcell
    have hs60 := folderT_size es
    go_wp2_with fail
    refine (implFolderText _ _ _ es _ hr1 HX.out hcell1).mono ?_
    rintro e w2 ⟨rfl, hb2⟩
    have hr2 := hr1.below hb2
    go_wp2_with fail
    refine (specFolderText _ _ _ es _ hr2 HX.out (by omega)).mono ?_
    rintro e w3 ⟨rfl, k3, hw3⟩
    have hb3 : Below w2.heap.size w2 w3 := by rw [hw3]; exact below_drewN _ _
    clear hw3
    have hr3 := hr2.below hb3
    have hB3 := below_step hb2 hb3
    cases hv : entriesV es
    · have HT := Lib.hid (folderT_out hv)
      have HV := Lib.hid hv
      clear hv
      rw [HT.out]
      go_wp2_with fail
      refine (specEntriesValid _ _ _ es _ hr3 HX.out (by omega)).mono ?_
      rintro e w4 ⟨rfl, k4, rfl⟩
      rw [HV.out]
      go_wp2_with (go_at_call 19; refine (alive _).mono ?_; rintro e w' ⟨rfl, rfl⟩)
      go_ret
      exact ⟨rfl, below_step hbel (below_to hB3 hB3.size (below_drewN _ _))⟩
    · have HT : Hid (textV (bts (folderT es)) = true) := Lib.hid (folderT_text hv)
      have HR : Hid (ReadF (folderT es) es true) := Lib.hid ⟨fun _ => ⟨hv, rfl⟩, fun e => (by cases e)⟩
      have HV := Lib.hid hv
      clear hv
      generalize folderT es = s at *
      have hss : (s.toList == s.toList) = true := by simp
      go_wp2_with fail
      refine (specEntriesValid _ _ _ es _ hr3 HX.out (by omega)).mono ?_
      rintro e w4 ⟨rfl, k4, hw4⟩
      have hb4 : Below w3.heap.size w3 w4 := by rw [hw4]; exact below_drewN _ _
      clear hw4
      rw [HV.out]
      have hB4 := below_step hB3 hb4
      have hm4 := (hB4.cell (p := ⟨1, 0, none⟩) (World.block_lt_of_cell? w1 _ hm1)).trans hm1
      have hcell4 := (hB4.cell (p := ⟨5, 15, none⟩) (World.block_lt_of_cell? w1 _ hcell1)).trans hcell1
      go_wp2_with fail
      refine (implReadFolder s mm _ (by omega) hm4 hcell4).mono ?_
      rintro e w5 ⟨v5, ys, ok, rfl, hR5, hown5, hb5⟩
      obtain ⟨hy, hk5⟩ := hR5.same HR.out
      subst hk5
      have HY := Lib.hid hy
      clear hy
      obtain ⟨A5, c5, rfl, _⟩ := own_slice hown5
      have hl5 := hR5.len
      have hB5 := below_step hB4 hb5
      have hr5 := (hr3.below hb4).below hb5
      go_wp2_with fail
      refine (sameEntries _ _ _ _ _ _ ys es _ (Rd.own hown5) hr5 (by omega)).mono ?_
      rintro e w6 ⟨rfl, hb6⟩
      rw [decide_eq_true HY.out]
      have hB6 := below_step hB5 hb6
      go_wp2_with (go_at_call 39; refine (implTextValid s _ (by unfold maxLen; omega)).mono ?_; rintro e w' ⟨rfl, rfl⟩; rw [HT.out])
      go_ret
      exact ⟨rfl, below_step hbel hB6⟩
  · go_enter Tryd.func11, Tryd.ntmps11
    go_wp2
    go_ret
    exact ⟨rfl, Below.refl _ _⟩

section
set_option maxRecDepth 100000 in
theorem liftedFnFolderText (os : Os) (started : os.Started) (H : Type) (enc : TypeId × Value → H) :
    ReturnsInHanded {} Tryd.checked os 11 .any (fun w args => (Rows.fnFolderTextSpec.pre enc Tryd.prog Tryd.f11 Rows.fnFolderTextRow.domain false w args ∧ laidMetH Tryd.prog Rows.fnFolderTextRow.laid w) ∧ sizedMet enc Tryd.prog Tryd.f11 (OpenSpec.ofChange Rows.fnFolderTextSpec) false w args) (Rows.fnFolderTextSpec.post enc Tryd.prog Tryd.f11 false true false false) := by
  refine returnsInHanded_and_shaped (C := Tryd.checked) (X := fun w _ => laidMetH Tryd.prog Rows.fnFolderTextRow.laid w) (fun _ _ _ hh h => h.of_heap hh) own_knobFnFolderText started (by kernel_rfl) Tryd.func11
    (ChangeSpec.witness_shaped (enc := enc) (C := Tryd.checked) (os := os) (X := fun w _ => laidMetH Tryd.prog Rows.fnFolderTextRow.laid w) false (World.laidAll Tryd.prog os Rows.fnFolderTextRow.laid) #[.slice none 0 0] 8 (World.laidAll_os _ _ _)
      (World.shaped_of_ZipB (by kernel_rfl) (by kernel_rfl)) (by kernel_rfl) (by kernel_rfl) (by kernel_rfl)
      (by rw [MakeChecks.laidMetH_plain _ _ _ (by kernel_rfl)]; exact laidMet_laidAll _ (by kernel_rfl) (by kernel_rfl))) ?_
  intro W base args ds gs before hval0 hW hcnd _ hL hS _
  have hval : ∀ (j : Nat) t v, Tryd.f11.params[j]? = some t → args[j]? = some v → Value.okWide Tryd.prog W .any base t v := hval0
  have hW' := hW
  obtain ⟨p, q, hA0, hV, rfl, hfz, hnd⟩ := hW
  have hA : DataW.TrodAll enc Tryd.prog W 0 (fun _ => true) true Tryd.f11.params.toList args.toList ds p := hA0
  rw [Tryd.params11] at hA hval
  obtain ⟨v0, vs0, d0, ds0, p0, q0, hargs, rfl, rfl, h0, t0⟩ := trodAll_cons hA
  obtain ⟨rfl, rfl, rfl⟩ := trodAll_nil t0
  obtain rfl : args = #[v0] := by cases args; simp_all
  obtain ⟨rfl, rfl⟩ := trodVars_none hV
  obtain ⟨A0, n0, c0, rfl⟩ := okWide_slice Tryd.underlying23 (hval 0 23 v0 rfl rfl)
  have lt0 : ∀ x ∈ p0, x.block < W.heap.size := by obtain ⟨m, hm⟩ := h0; exact DataW.trod_lt m _ _ _ hm
  obtain ⟨l0, _, x0, r0, w0⟩ := open_rd_num Tryd.underlying23 Tryd.underlying5 (by kernel_rfl) h0
  clear hA0 hval0
  refine (walkFnFolderText A0 n0 c0 x0 W hL hS r0 l0 w0).mono fun e W' ⟨he, bel⟩ => ?_
  subst he
  exact ⟨_, rfl, _, _, _, [], _, [], hW', trodAll_mk1 (shut_bool Tryd.underlying4 _), (trodAll_cons_mk (Below.trod laid_outFnFolderText (by kernel_rfl) (of_decide_eq_true (by kernel_rfl)) h0 bel lt0) trodAll_mk0), rfl, bel.frame _, fun h => by cases h⟩

theorem overFnFolderText : Rows.fnFolderTextRow.holds Tryd.pinned (OpenSpec.ofChange Rows.fnFolderTextSpec) :=
  OpenClaim.holds_of_wide 11 Tryd.f11 rfl rfl rfl rfl rfl rfl rfl ⟨rfl, rfl, rfl, rfl, rfl⟩ rfl rfl rfl rfl rfl (by kernel_rfl) Tryd.func11 (by kernel_rfl)
    (of_decide_eq_true (by kernel_rfl)) (by unfold Func.isWrapper; first | (rw [if_pos (by decide +kernel)]; kernel_rfl) | (rw [if_neg (by decide +kernel)]; exact ⟨rfl, rfl⟩))
    (fun os started H enc _ => liftedFnFolderText os started H enc)

theorem provedFnFolderText : Rows.FnFolderTextCardSaid :=
  Claim7.holds_tied_plain_at .later [] [.data, .data, .data] true Rows.fnFolderTextCard.stood.harness false overFnFolderText (fun _ h => by cases h) (by kernel_rfl) (fun _ h => by cases h) fnFolderText_row_tie rfl ⟨rfl, rfl⟩ (by kernel_rfl) rfl
    (fun f fn hf hfn => by
      obtain rfl : f = 11 := Option.some.inj ((show Tryd.prog.funcNamed Rows.fnFolderTextRow.func = some 11 by kernel_rfl).symm.trans hf) |>.symm
      obtain rfl : fn = Tryd.f11 := (Option.some.inj (Tryd.func11.symm.trans hfn)).symm
      exact ⟨by kernel_rfl, fun j t ht => by
        rw [Tryd.params11] at ht
        have hm : t ∈ [23] := by simpa using Array.mem_of_getElem? ht
        have hall : ([23].all fun u => !Tryd.prog.wantsStandIn u) = true := by kernel_rfl
        exact (show Tryd.prog.wantsStandIn t = false by simpa using List.all_eq_true.1 hall t hm)⟩)
    (by kernel_rfl)
end
end Go.Proofs.YtfjlocfaibbobaaDoor
