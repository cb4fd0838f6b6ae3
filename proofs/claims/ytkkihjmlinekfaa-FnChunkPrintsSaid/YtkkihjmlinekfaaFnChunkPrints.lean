/- The law FnChunkPrints: For every input the law returns true, and its arguments read as before. Conditions: none. -/
import Derived.Test.YtkkihjmlinekfaaRows
import Derived.Test.YtkkihjmlinekfaaChunk3
import Derived.Test.YtkkihjmlinekfaaInts2
import Derived.Test.YtkkihjmlinekfaaOpen
open Go.RowKit Go.ChangeShapes Go.WideShapes Go.ChangeAt
open Go.ChangeMaps (open_string shut_string)
set_option linter.unusedVariables false
namespace Go.Proofs.Ytkkihjmlinekfaa
theorem own_knobFnChunkPrints : ownKnob Try.prog.godebug = none := by kernel_rfl
theorem laid_outFnChunkPrints : laidOutB Try.prog = true := by kernel_rfl

set_option maxHeartbeats 1000000 in
theorem walkFnChunkPrints (A0 : Option Addr) (n0 c0 : Nat) (x0 : List Int) (w : World) (r0 : Rd w 1 A0 n0 (byts x0)) (l0 : n0 ≤ c0) (w0 : ∀ x ∈ x0, (Lit.int .u8 x).wf = true) :
    Calls Try.prog 10 #[.slice A0 n0 c0] w fun e w' => e = .returned (.bool true) ∧ Below w.heap.size w w' := by
  by_cases hb : n0 ≤ 1048576
  · go_enter Try.func10, Try.ntmps10
    go_wp2_with fail
    refine (drawChunkPrints _ _ _ x0 _ r0 l0 w0).mono ?_
    rintro e u1 ⟨s, rfl, hs, hb1⟩
    have hsm : s.size ≤ maxLen := by unfold maxLen; omega
    have hlen := chunksO_length s
    have hlp := chunkPr_length s
    have hmem : Hid (∀ x ∈ chunksO s, x.size ≤ maxLen) := Lib.hid fun x hx => Nat.le_trans (chunksO_mem hx) hsm
    have hdef : Hid (chunkPr s = (chunksO s).map printP) := Lib.hid rfl
    go_wp2_with fail
    refine (implChunkPrints s _ hsm).mono ?_
    rintro e u2 ⟨v2, rfl, ho2, hb2⟩
    rw [hlp] at ho2
    obtain ⟨A2, c2, rfl, _⟩ := own_slice ho2
    have hB2 := below_step hb1 hb2
    go_wp2_with fail
    refine (specChunkPrints s _ hsm).mono ?_
    rintro e u3 ⟨v3, rfl, ho3, hb3⟩
    rw [hlp] at ho3
    obtain ⟨A3, c3, rfl, _⟩ := own_slice ho3
    have hB3 := below_step hB2 hb3
    have hr3 := (Rd.own ho2).below hb3
    go_wp2_with fail
    refine (sameInts _ _ _ _ _ _ (chunkPr s) (chunkPr s) _ hr3 (Rd.own ho3) (by omega)).mono ?_
    rintro e u4 ⟨rfl, q4, rfl⟩
    rw [decide_eq_true rfl]
    have hB4 := below_step hB3 (below_drewN u3 q4)
    have hr4 := hr3.drewN q4
    clear hr3 ho3 ho2 hb3 hb2 hb1 hB3 hB2
    generalize u3.drewN q4 = u4 at *
    go_wp2_with fail
    refine (implChunksOf s _ hsm).mono ?_
    rintro e u5 ⟨v5, rfl, ho5, hb5⟩
    obtain ⟨A5, c5, rfl, _⟩ := own_slice ho5
    have hr2 := hr4.below hb5
    have hr5 := Rd.own ho5
    have hB5 := below_step hB4 hb5
    clear ho5 hb5 hB4 hr4
    generalize chunkPr s = P at *
    generalize chunksO s = C at *
    generalize C.length = n at *
    go_wp2_with fail
    go_loopw [6] (fun i wr => ∃ k : Nat, k ≤ n ∧ i = .int .i64 (k : Int) ∧ Below w.heap.size w wr ∧ Rd wr 1 A2 n (ints P) ∧ Rd wr 1 A5 n (strs C)) (fun i _ => n - (intOf i).toNat)
    case atStart => exact ⟨0, Nat.zero_le _, rfl, hB5, hr2, hr5⟩
    case round =>
      obtain ⟨k, hk, rfl, hB, hri, hrs⟩ := hrel
      by_cases hlt : k < n
      · have hri' := hri
        have hrs' := hrs
        obtain ⟨b1, o1, y, rfl, _, hy, hc1⟩ := hri.intAt hlt
        obtain ⟨b2, o2, x, rfl, _, hx, hc2⟩ := hrs.strAt hlt
        have hxm := hmem.out x (List.mem_of_getElem? hx)
        have hyx : y = printP x := by
          rw [hdef.out, List.getElem?_map, hx] at hy
          injection hy with hy
          exact hy.symm
        subst hyx
        have HRI := Lib.hid hri'
        have HRS := Lib.hid hrs'
        clear hx hy hri hrs hri' hrs' hr2 hr5 hB5
        go_wp2
        go_region_law (go_simp; go_at_call 45; refine (implPrintOf _ _ hxm).mono ?_; rintro e w' ⟨rfl, rfl⟩)
        all_goals
          go_wp2
          go_roundw
          case rel => exact ⟨k + 1, by omega, by go_num, below_to hB hB.size (below_drewN _ 1), HRI.out.drewN 1, HRS.out.drewN 1⟩
          case measure => simp [intOf]; omega
      · have hkn : k = n := by omega
        subst hkn
        go_wp2_with (go_at_call 26; refine (alive _).mono ?_; rintro e w' ⟨rfl, rfl⟩)
        go_ret
        exact ⟨rfl, hB⟩
  · go_enter Try.func10, Try.ntmps10
    go_wp2
    go_ret
    exact ⟨rfl, Below.refl _ _⟩

section
set_option maxRecDepth 100000 in
theorem liftedFnChunkPrints (os : Os) (started : os.Started) (H : Type) (enc : TypeId × Value → H) :
    ReturnsInHanded {} Try.checked os 10 .any (Rows.fnChunkPrintsSpec.pre6 enc Try.prog Try.f10 Rows.fnChunkPrintsRow.domain false) (Rows.fnChunkPrintsSpec.post enc Try.prog Try.f10 false true false false) := by
  refine returnsInHanded_of_change (C := Try.checked) own_knobFnChunkPrints started (by kernel_rfl) Try.func10
    (ChangeSpec.witness6 (enc := enc) (C := Try.checked) false ⟨#[], #[.slice none 0 0], []⟩ 8 (by kernel_rfl) (by kernel_rfl) (by kernel_rfl) (by kernel_rfl)) ?_
  intro W base args ds gs before hval0 hW hcnd _
  have hval : ∀ (j : Nat) t v, Try.f10.params[j]? = some t → args[j]? = some v → Value.okWide Try.prog W .any base t v := hval0
  have hW' := hW
  obtain ⟨p, q, hA0, hV, rfl, hfz, hnd⟩ := hW
  have hA : DataW.TrodAll enc Try.prog W 0 (fun _ => true) true Try.f10.params.toList args.toList ds p := hA0
  rw [Try.params10] at hA hval
  obtain ⟨v0, vs0, d0, ds0, p0, q0, hargs, rfl, rfl, h0, t0⟩ := trodAll_cons hA
  obtain ⟨rfl, rfl, rfl⟩ := trodAll_nil t0
  obtain rfl : args = #[v0] := by cases args; simp_all
  obtain ⟨rfl, rfl⟩ := trodVars_none hV
  obtain ⟨A0, n0, c0, rfl⟩ := okWide_slice Try.underlying36 (hval 0 36 v0 rfl rfl)
  have lt0 : ∀ x ∈ p0, x.block < W.heap.size := by obtain ⟨m, hm⟩ := h0; exact DataW.trod_lt m _ _ _ hm
  obtain ⟨l0, _, x0, r0, w0⟩ := open_rd_num Try.underlying36 Try.underlying5 (by kernel_rfl) h0
  clear hA0 hval0
  refine (walkFnChunkPrints A0 n0 c0 x0 W r0 l0 w0).mono fun e W' ⟨he, bel⟩ => ?_
  subst he
  exact ⟨_, rfl, _, _, _, [], _, [], hW', trodAll_mk1 (shut_bool Try.underlying4 _), (trodAll_cons_mk (Below.trod laid_outFnChunkPrints (by kernel_rfl) (of_decide_eq_true (by kernel_rfl)) h0 bel lt0) trodAll_mk0), rfl, bel.frame _, fun h => by cases h⟩

theorem overFnChunkPrints : Rows.fnChunkPrintsRow.holds Try.pinned (OpenSpec.ofChange Rows.fnChunkPrintsSpec) :=
  OpenClaim.holds_of_wide 10 Try.f10 rfl rfl rfl rfl rfl rfl rfl ⟨rfl, rfl, rfl, rfl, rfl⟩ rfl rfl rfl rfl rfl (by kernel_rfl) Try.func10 (by kernel_rfl)
    (of_decide_eq_true (by kernel_rfl)) (by unfold Func.isWrapper; first | (rw [if_pos (by decide +kernel)]; kernel_rfl) | (rw [if_neg (by decide +kernel)]; exact ⟨rfl, rfl⟩))
    (fun os started H enc _ => liftedFnChunkPrints os started H enc)

theorem provedFnChunkPrints : Rows.FnChunkPrintsSaid := overFnChunkPrints
end
end Go.Proofs.Ytkkihjmlinekfaa
