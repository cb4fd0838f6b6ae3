/- The law FnReadFolder: For every input the law returns true, and its arguments read as before. Conditions: none. -/
import Derived.Test.YtfjlocfaibbobaaDoorRows
import Derived.Test.YtfjlocfaibbobaaDoorDrawFo
import Derived.Test.YtfjlocfaibbobaaDoorReadFi
import Derived.Test.YtfjlocfaibbobaaDoorSameE
import Derived.Test.YtfjlocfaibbobaaDoorTabK
import Derived.Test.YtfjlocfaibbobaaDoorWords
import Derived.Test.YtfjlocfaibbobaaDoorOpen
import Derived.Shelf.Vars
import Derived.Test.YtfjlocfaibbobaaDoorCards
import Derived.Test.YtfjlocfaibbobaaDoorTie
import Derived.Test.YtfjlocfaibbobaaDoorDoorKit
import Derived.ProofKit
import Derived.OpenShut
import Derived.LaidMore
import Derived.Lay
import Derived.SevenTiedAt
import Derived.Stop.Joined
open Go.RowKit Go.ChangeShapes Go.WideShapes Go.ChangeAt
open Go.ChangeMaps (open_string shut_string)
set_option linter.unusedVariables false
namespace Go.Proofs.YtfjlocfaibbobaaDoor
theorem own_knobFnReadFolder : ownKnob Tryd.prog.godebug = none := by kernel_rfl
theorem laid_outFnReadFolder : laidOutB Tryd.prog = true := by kernel_rfl

set_option maxHeartbeats 2000000 in
theorem walkFnReadFolder (A0 : Option Addr) (n0 c0 : Nat) (x0 : List Int) (w : World) (hL : laidMetH Tryd.prog Rows.fnReadFolderRow.laid w) (hS : w.ShapedOpen Tryd.prog) (r0 : Rd w 1 A0 n0 (byts x0)) (l0 : n0 ≤ c0) (w0 : ∀ x ∈ x0, (Lit.int .u8 x).wf = true) :
    Calls Tryd.prog 13 #[.slice A0 n0 c0] w fun e w' => e = .returned (.bool true) ∧ Below w.heap.size w w' := by
  have hcell := tab_cell hL (by kernel_rfl) (List.Mem.tail _ (List.Mem.head _))
  obtain ⟨mm, hm⟩ := cell_of_shapedOpen_int (P := Tryd.prog) (g := 1) (t := 3) (zero := #[.int .i64 0]) (k := .i64) hS (of_decide_eq_true (by kernel_rfl)) (by kernel_rfl) rfl (by kernel_rfl) (by kernel_rfl) Tryd.underlying3
  by_cases hb : n0 ≤ 1048576
  · go_enter Tryd.func13, Tryd.ntmps13
    go_wp2_with fail
    refine (drawReadFolder _ _ _ x0 _ r0 l0 w0).mono ?_
    rintro e w1 ⟨s, rfl, hs61, hbel⟩
    have hm1 := (hbel.cell (p := ⟨1, 0, none⟩) (World.block_lt_of_cell? w _ hm)).trans hm
    have hcell1 := (hbel.cell (p := ⟨5, 15, none⟩) (World.block_lt_of_cell? w _ hcell)).trans hcell
    clear hm hcell
    go_wp2_with fail
    refine (implReadFolder s mm _ (by omega) hm1 hcell1).mono ?_
    rintro e w2 ⟨v2, ys, ok, rfl, hR2, hown2, hb2⟩
    have hm2 := (hb2.cell (p := ⟨1, 0, none⟩) (World.block_lt_of_cell? w1 _ hm1)).trans hm1
    have hcell2 := (hb2.cell (p := ⟨5, 15, none⟩) (World.block_lt_of_cell? w1 _ hcell1)).trans hcell1
    obtain ⟨A2, c2, rfl, _⟩ := own_slice hown2
    have hl2 := hR2.len
    go_wp2_with fail
    refine (specReadFolder s _ (by omega)).mono ?_
    rintro e w3 ⟨v3, zs, ok3, rfl, hR3, hown3, hb3⟩
    obtain ⟨hz, hk3⟩ := hR3.same hR2
    subst hz hk3
    obtain ⟨A3, c3, rfl, _⟩ := own_slice hown3
    have hB3 := below_step hb2 hb3
    have hr2 := (Rd.own hown2).below hb3
    go_wp2_with fail
    refine (sameEntries _ _ _ _ _ _ zs zs _ hr2 (Rd.own hown3) (by omega)).mono ?_
    rintro e w4 ⟨rfl, hb4⟩
    rw [decide_eq_true (show zs = zs from rfl)]
    have hB4 := below_step hB3 hb4
    have hr4 := hr2.below hb4
    have hm4 := (hB4.cell (p := ⟨1, 0, none⟩) (World.block_lt_of_cell? w1 _ hm1)).trans hm1
    have hcell4 := (hB4.cell (p := ⟨5, 15, none⟩) (World.block_lt_of_cell? w1 _ hcell1)).trans hcell1
    cases ok3
    · have hz0 : zs.length = 0 := by rw [(hR3.no rfl).1]; rfl
      generalize zs.length = z at *
      subst hz0
      go_wp2_with (go_at_call 19; refine (alive _).mono ?_; rintro e w' ⟨rfl, rfl⟩)
      go_ret
      exact ⟨rfl, below_step hbel hB4⟩
    · obtain ⟨hv, hf⟩ := hR3.yes rfl
      have HF := Lib.hid hf
      have HV := Lib.hid hv
      have hsz : (s ++ (⟨#[59]⟩ : ByteArray)).size ≤ 1048576 := by rw [ByteArray.size_append]; show s.size + 1 ≤ 1048576; omega
      have HNO : ∀ qs o, ReadF (s ++ (⟨#[59]⟩ : ByteArray)) qs o → o = false := fun qs o hq => by
        cases o
        · rfl
        · obtain ⟨h1, h2⟩ := hq.yes rfl
          rw [← HF.out] at h2
          exact absurd h2.symm (folderT_semi HV.out h1)
      have HNH := Lib.hid HNO
      have HX : Hid (∀ x ∈ zs, x.1.size ≤ maxLen) := Lib.hid (fun x hx => by
        have := (entriesV_ok HV.out x hx).word
        unfold wordV at this
        rw [Bool.and_eq_true] at this
        have h2 := (of_decide_eq_true this.1).2
        rw [bts_length] at h2
        exact Nat.le_trans h2 (by unfold maxLen; omega))
      have hss : (s.toList == s.toList) = true := by simp
      clear hv hf HNO
      go_wp2_with fail
      have q5 := implReadFolder (s ++ (⟨#[59]⟩ : ByteArray)) mm w4 hsz hm4 hcell4
      refine q5.mono ?_
      rintro e w5 ⟨v5, qs, o5, rfl, hR5, hown5, hb5⟩
      have ho5 := HNH.out _ _ hR5
      subst ho5
      have hcell5 := (hb5.cell (p := ⟨5, 15, none⟩) (World.block_lt_of_cell? w4 _ hcell4)).trans hcell4
      have hB5 := below_step hB4 hb5
      clear q5
      go_wp2_with fail
      refine (implFolderText _ _ _ zs _ (hr4.below hb5) HX.out hcell5).mono ?_
      rintro e w6 ⟨rfl, hb6⟩
      rw [HF.out]
      go_wp2_with fail
      go_ret
      exact ⟨rfl, below_step hbel (below_step hB5 hb6)⟩
  · go_enter Tryd.func13, Tryd.ntmps13
    go_wp2
    go_ret
    exact ⟨rfl, Below.refl _ _⟩

section
set_option maxRecDepth 100000 in
theorem liftedFnReadFolder (os : Os) (started : os.Started) (H : Type) (enc : TypeId × Value → H) :
    ReturnsInHanded {} Tryd.checked os 13 .any (fun w args => (Rows.fnReadFolderSpec.pre enc Tryd.prog Tryd.f13 Rows.fnReadFolderRow.domain false w args ∧ laidMetH Tryd.prog Rows.fnReadFolderRow.laid w) ∧ sizedMet enc Tryd.prog Tryd.f13 (OpenSpec.ofChange Rows.fnReadFolderSpec) false w args) (Rows.fnReadFolderSpec.post enc Tryd.prog Tryd.f13 false true false false) := by
  refine returnsInHanded_and_shaped (C := Tryd.checked) (X := fun w _ => laidMetH Tryd.prog Rows.fnReadFolderRow.laid w) (fun _ _ _ hh h => h.of_heap hh) own_knobFnReadFolder started (by kernel_rfl) Tryd.func13
    (ChangeSpec.witness_shaped (enc := enc) (C := Tryd.checked) (os := os) (X := fun w _ => laidMetH Tryd.prog Rows.fnReadFolderRow.laid w) false (World.laidAll Tryd.prog os Rows.fnReadFolderRow.laid) #[.slice none 0 0] 8 (World.laidAll_os _ _ _)
      (World.shaped_of_ZipB (by kernel_rfl) (by kernel_rfl)) (by kernel_rfl) (by kernel_rfl) (by kernel_rfl)
      (by rw [MakeChecks.laidMetH_plain _ _ _ (by kernel_rfl)]; exact laidMet_laidAll _ (by kernel_rfl) (by kernel_rfl))) ?_
  intro W base args ds gs before hval0 hW hcnd _ hL hS _
  have hval : ∀ (j : Nat) t v, Tryd.f13.params[j]? = some t → args[j]? = some v → Value.okWide Tryd.prog W .any base t v := hval0
  have hW' := hW
  obtain ⟨p, q, hA0, hV, rfl, hfz, hnd⟩ := hW
  have hA : DataW.TrodAll enc Tryd.prog W 0 (fun _ => true) true Tryd.f13.params.toList args.toList ds p := hA0
  rw [Tryd.params13] at hA hval
  obtain ⟨v0, vs0, d0, ds0, p0, q0, hargs, rfl, rfl, h0, t0⟩ := trodAll_cons hA
  obtain ⟨rfl, rfl, rfl⟩ := trodAll_nil t0
  obtain rfl : args = #[v0] := by cases args; simp_all
  obtain ⟨rfl, rfl⟩ := trodVars_none hV
  obtain ⟨A0, n0, c0, rfl⟩ := okWide_slice Tryd.underlying23 (hval 0 23 v0 rfl rfl)
  have lt0 : ∀ x ∈ p0, x.block < W.heap.size := by obtain ⟨m, hm⟩ := h0; exact DataW.trod_lt m _ _ _ hm
  obtain ⟨l0, _, x0, r0, w0⟩ := open_rd_num Tryd.underlying23 Tryd.underlying5 (by kernel_rfl) h0
  clear hA0 hval0
  refine (walkFnReadFolder A0 n0 c0 x0 W hL hS r0 l0 w0).mono fun e W' ⟨he, bel⟩ => ?_
  subst he
  exact ⟨_, rfl, _, _, _, [], _, [], hW', trodAll_mk1 (shut_bool Tryd.underlying4 _), (trodAll_cons_mk (Below.trod laid_outFnReadFolder (by kernel_rfl) (of_decide_eq_true (by kernel_rfl)) h0 bel lt0) trodAll_mk0), rfl, bel.frame _, fun h => by cases h⟩

theorem overFnReadFolder : Rows.fnReadFolderRow.holds Tryd.pinned (OpenSpec.ofChange Rows.fnReadFolderSpec) :=
  OpenClaim.holds_of_wide 13 Tryd.f13 rfl rfl rfl rfl rfl rfl rfl ⟨rfl, rfl, rfl, rfl, rfl⟩ rfl rfl rfl rfl rfl (by kernel_rfl) Tryd.func13 (by kernel_rfl)
    (of_decide_eq_true (by kernel_rfl)) (by unfold Func.isWrapper; first | (rw [if_pos (by decide +kernel)]; kernel_rfl) | (rw [if_neg (by decide +kernel)]; exact ⟨rfl, rfl⟩))
    (fun os started H enc _ => liftedFnReadFolder os started H enc)

theorem provedFnReadFolder : Rows.FnReadFolderCardSaid :=
  Claim7.holds_tied_plain_at .later [] [.data, .data, .data] true Rows.fnReadFolderCard.stood.harness false overFnReadFolder (fun _ h => by cases h) (by kernel_rfl) (fun _ h => by cases h) fnReadFolder_row_tie rfl ⟨rfl, rfl⟩ (by kernel_rfl) rfl
    (fun f fn hf hfn => by
      obtain rfl : f = 13 := Option.some.inj ((show Tryd.prog.funcNamed Rows.fnReadFolderRow.func = some 13 by kernel_rfl).symm.trans hf) |>.symm
      obtain rfl : fn = Tryd.f13 := (Option.some.inj (Tryd.func13.symm.trans hfn)).symm
      exact ⟨by kernel_rfl, fun j t ht => by
        rw [Tryd.params13] at ht
        have hm : t ∈ [23] := by simpa using Array.mem_of_getElem? ht
        have hall : ([23].all fun u => !Tryd.prog.wantsStandIn u) = true := by kernel_rfl
        exact (show Tryd.prog.wantsStandIn t = false by simpa using List.all_eq_true.1 hall t hm)⟩)
    (by kernel_rfl)
end
end Go.Proofs.YtfjlocfaibbobaaDoor
