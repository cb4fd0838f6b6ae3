/- The law FnTextKind: For every input the law returns true, and its arguments read as before. Conditions: none. -/
import Derived.Test.YtjombaiplnebmaaDoorRows
import Derived.Test.YtjombaiplnebmaaDoorDrawK
import Derived.Test.YtjombaiplnebmaaDoorKind
import Derived.Test.YtjombaiplnebmaaDoorTabK
import Derived.Test.YtjombaiplnebmaaDoorFiles
import Derived.Test.YtjombaiplnebmaaDoorOpen
import Derived.Shelf.Vars
import Derived.Test.YtjombaiplnebmaaDoorCards
import Derived.Test.YtjombaiplnebmaaDoorTie
import Derived.Test.YtjombaiplnebmaaDoorDoorKit
import Derived.ProofKit
import Derived.OpenShut
import Derived.LaidMore
import Derived.Lay
import Derived.SevenTiedAt
import Derived.Stop.Joined
open Go.RowKit Go.ChangeShapes Go.WideShapes Go.ChangeAt
open Go.ChangeMaps (open_string shut_string)
set_option linter.unusedVariables false
namespace Go.Proofs.YtjombaiplnebmaaDoor
theorem own_knobFnTextKind : ownKnob Tryd.prog.godebug = none := by kernel_rfl
theorem laid_outFnTextKind : laidOutB Tryd.prog = true := by kernel_rfl
theorem kind_apart {s : ByteArray} {ys : List (ByteArray × Int)} (h : ReadF s ys true) : (readF s).2 = false := by
  obtain ⟨h1, h2⟩ := h.yes rfl
  have h3 := folderT_list h1 h2
  have h4 : head1 s 102 = false := by
    unfold head1 bts
    rw [h3]
    rfl
  rw [readF_no (by rw [h4]; rfl)]
set_option maxHeartbeats 2000000 in
theorem walkFnTextKind (A0 : Option Addr) (n0 c0 : Nat) (x0 : List Int) (w : World) (hL : laidMetH Tryd.prog Rows.fnTextKindRow.laid w) (hS : w.ShapedOpen Tryd.prog) (r0 : Rd w 1 A0 n0 (byts x0)) (l0 : n0 ≤ c0) (w0 : ∀ x ∈ x0, (Lit.int .u8 x).wf = true) :
    Calls Tryd.prog 3 #[.slice A0 n0 c0] w fun e w' => e = .returned (.bool true) ∧ Below w.heap.size w w' := by
  have hcell := tab_cell hL (by kernel_rfl) (List.Mem.tail _ (List.Mem.head _))
  obtain ⟨mm, hm⟩ := cell_of_shapedOpen_int (P := Tryd.prog) (g := 0) (t := 3) (zero := #[.int .i64 0]) (k := .i64) hS (of_decide_eq_true (by kernel_rfl)) (by kernel_rfl) rfl (by kernel_rfl) (by kernel_rfl) Tryd.underlying3
  by_cases hb : n0 ≤ 1048576
  · go_enter Tryd.func3, Tryd.ntmps3
    go_wp2_with fail
    refine (drawTextKind _ _ _ x0 _ r0 l0 w0).mono ?_
    rintro e w1 ⟨s, rfl, hs, hbel⟩
    have hm1 := (hbel.cell (p := ⟨0, 0, none⟩) (World.block_lt_of_cell? w _ hm)).trans hm
    have hcell1 := (hbel.cell (p := ⟨5, 15, none⟩) (World.block_lt_of_cell? w _ hcell)).trans hcell
    clear hm hcell
    go_wp2_with fail
    refine (implTextKind s mm _ (by omega) hm1 hcell1).mono ?_
    rintro e w2 ⟨n2, rfl, hk2, hb2⟩
    go_wp2_with fail
    refine (specTextKind s _ (by omega)).mono ?_
    rintro e w3 ⟨n3, rfl, hk3, hb3⟩
    obtain rfl := hk3.same hk2
    have hB3 := below_step hb2 hb3
    have hm3 := (hB3.cell (p := ⟨0, 0, none⟩) (World.block_lt_of_cell? w1 _ hm1)).trans hm1
    have hcell3 := (hB3.cell (p := ⟨5, 15, none⟩) (World.block_lt_of_cell? w1 _ hcell1)).trans hcell1
    have HK := Lib.hid hk2
    clear hk2 hk3
    go_wp2_with (go_at_call 9; refine (implReadFile s _ (by unfold maxLen; omega)).mono ?_; rintro e w' ⟨rfl, rfl⟩)
    refine (implReadFolder s mm _ (by omega) hm3 hcell3).mono ?_
    rintro e w4 ⟨v4, ys, ok, rfl, hR, hown, hb4⟩
    have hB4 := below_step hbel (below_step hB3 hb4)
    have HR := Lib.hid hR
    clear hR hown
    cases hf : (readF s).2
    · have HF := Lib.hid hf
      clear hf
      cases ok
      · have hn := KindF.same HK.out (.inr ⟨HF.out, ys, false, HR.out, rfl⟩ : KindF s 0)
        subst hn
        go_wp2_with (go_at_call 11; refine (alive _).mono ?_; rintro e w' ⟨rfl, rfl⟩)
        go_ret
        exact ⟨rfl, hB4⟩
      · have hn := KindF.same HK.out (.inr ⟨HF.out, ys, true, HR.out, rfl⟩ : KindF s 2)
        subst hn
        go_wp2_with (go_at_call 11; refine (alive _).mono ?_; rintro e w' ⟨rfl, rfl⟩)
        go_ret
        exact ⟨rfl, hB4⟩
    · have HF := Lib.hid hf
      cases ok
      · clear hf
        have hn := KindF.same HK.out (.inl ⟨HF.out, rfl⟩ : KindF s 1)
        subst hn
        go_wp2_with (go_at_call 11; refine (alive _).mono ?_; rintro e w' ⟨rfl, rfl⟩)
        go_ret
        exact ⟨rfl, hB4⟩
      · have := kind_apart HR.out
        rw [hf] at this
        cases this
  · go_enter Tryd.func3, Tryd.ntmps3
    go_wp2
    go_ret
    exact ⟨rfl, Below.refl _ _⟩

section
set_option maxRecDepth 100000 in
theorem liftedFnTextKind (os : Os) (started : os.Started) (H : Type) (enc : TypeId × Value → H) :
    ReturnsInHanded {} Tryd.checked os 3 .any (fun w args => (Rows.fnTextKindSpec.pre enc Tryd.prog Tryd.f3 Rows.fnTextKindRow.domain false w args ∧ laidMetH Tryd.prog Rows.fnTextKindRow.laid w) ∧ sizedMet enc Tryd.prog Tryd.f3 (OpenSpec.ofChange Rows.fnTextKindSpec) false w args) (Rows.fnTextKindSpec.post enc Tryd.prog Tryd.f3 false true false false) := by
  refine returnsInHanded_and_shaped (C := Tryd.checked) (X := fun w _ => laidMetH Tryd.prog Rows.fnTextKindRow.laid w) (fun _ _ _ hh h => h.of_heap hh) own_knobFnTextKind started (by kernel_rfl) Tryd.func3
    (ChangeSpec.witness_shaped (enc := enc) (C := Tryd.checked) (os := os) (X := fun w _ => laidMetH Tryd.prog Rows.fnTextKindRow.laid w) false (World.laidAll Tryd.prog os Rows.fnTextKindRow.laid) #[.slice none 0 0] 8 (World.laidAll_os _ _ _)
      (World.shaped_of_ZipB (by kernel_rfl) (by kernel_rfl)) (by kernel_rfl) (by kernel_rfl) (by kernel_rfl)
      (by rw [MakeChecks.laidMetH_plain _ _ _ (by kernel_rfl)]; exact laidMet_laidAll _ (by kernel_rfl) (by kernel_rfl))) ?_
  intro W base args ds gs before hval0 hW hcnd _ hL hS _
  have hval : ∀ (j : Nat) t v, Tryd.f3.params[j]? = some t → args[j]? = some v → Value.okWide Tryd.prog W .any base t v := hval0
  have hW' := hW
  obtain ⟨p, q, hA0, hV, rfl, hfz, hnd⟩ := hW
  have hA : DataW.TrodAll enc Tryd.prog W 0 (fun _ => true) true Tryd.f3.params.toList args.toList ds p := hA0
  rw [Tryd.params3] at hA hval
  obtain ⟨v0, vs0, d0, ds0, p0, q0, hargs, rfl, rfl, h0, t0⟩ := trodAll_cons hA
  obtain ⟨rfl, rfl, rfl⟩ := trodAll_nil t0
  obtain rfl : args = #[v0] := by cases args; simp_all
  obtain ⟨rfl, rfl⟩ := trodVars_none hV
  obtain ⟨A0, n0, c0, rfl⟩ := okWide_slice Tryd.underlying22 (hval 0 22 v0 rfl rfl)
  have lt0 : ∀ x ∈ p0, x.block < W.heap.size := by obtain ⟨m, hm⟩ := h0; exact DataW.trod_lt m _ _ _ hm
  obtain ⟨l0, _, x0, r0, w0⟩ := open_rd_num Tryd.underlying22 Tryd.underlying5 (by kernel_rfl) h0
  clear hA0 hval0
  refine (walkFnTextKind A0 n0 c0 x0 W hL hS r0 l0 w0).mono fun e W' ⟨he, bel⟩ => ?_
  subst he
  exact ⟨_, rfl, _, _, _, [], _, [], hW', trodAll_mk1 (shut_bool Tryd.underlying4 _), (trodAll_cons_mk (Below.trod laid_outFnTextKind (by kernel_rfl) (of_decide_eq_true (by kernel_rfl)) h0 bel lt0) trodAll_mk0), rfl, bel.frame _, fun h => by cases h⟩

theorem overFnTextKind : Rows.fnTextKindRow.holds Tryd.pinned (OpenSpec.ofChange Rows.fnTextKindSpec) :=
  OpenClaim.holds_of_wide 3 Tryd.f3 rfl rfl rfl rfl rfl rfl rfl ⟨rfl, rfl, rfl, rfl, rfl⟩ rfl rfl rfl rfl rfl (by kernel_rfl) Tryd.func3 (by kernel_rfl)
    (of_decide_eq_true (by kernel_rfl)) (by unfold Func.isWrapper; first | (rw [if_pos (by decide +kernel)]; kernel_rfl) | (rw [if_neg (by decide +kernel)]; exact ⟨rfl, rfl⟩))
    (fun os started H enc _ => liftedFnTextKind os started H enc)

theorem provedFnTextKind : Rows.FnTextKindCardSaid :=
  Claim7.holds_tied_plain_at .later [] [.data, .data, .data] true Rows.fnTextKindCard.stood.harness false overFnTextKind (fun _ h => by cases h) (by kernel_rfl) (fun _ h => by cases h) fnTextKind_row_tie rfl ⟨rfl, rfl⟩ (by kernel_rfl) rfl
    (fun f fn hf hfn => by
      obtain rfl : f = 3 := Option.some.inj ((show Tryd.prog.funcNamed Rows.fnTextKindRow.func = some 3 by kernel_rfl).symm.trans hf) |>.symm
      obtain rfl : fn = Tryd.f3 := (Option.some.inj (Tryd.func3.symm.trans hfn)).symm
      exact ⟨by kernel_rfl, fun j t ht => by
        rw [Tryd.params3] at ht
        have hm : t ∈ [22] := by simpa using Array.mem_of_getElem? ht
        have hall : ([22].all fun u => !Tryd.prog.wantsStandIn u) = true := by kernel_rfl
        exact (show Tryd.prog.wantsStandIn t = false by simpa using List.all_eq_true.1 hall t hm)⟩)
    (by kernel_rfl)
end
end Go.Proofs.YtjombaiplnebmaaDoor
