/- The law FnExactJoinChunks: For every input the law returns true, and its arguments read as before. Conditions: none. -/
import Derived.Test.YtnbdhmjgckomcaaRows
import Derived.Test.YtnbdhmjgckomcaaStrs
import Derived.Test.YtnbdhmjgckomcaaChunk2
import Derived.Test.YtnbdhmjgckomcaaOpen
open Go.RowKit Go.ChangeShapes Go.WideShapes Go.ChangeAt
open Go.ChangeMaps (open_string shut_string)
set_option linter.unusedVariables false
namespace Go.Proofs.Ytnbdhmjgckomcaa
theorem own_knobFnExactJoinChunks : ownKnob Try.prog.godebug = none := by kernel_rfl
theorem laid_outFnExactJoinChunks : laidOutB Try.prog = true := by kernel_rfl

set_option maxHeartbeats 1000000 in
theorem walkFnExactJoinChunks (A0 : Option Addr) (n0 c0 : Nat) (x0 : List ByteArray) (w : World) (r0 : Rd w 1 A0 n0 (strs x0)) (l0 : n0 ≤ c0) (w0 : ∀ x ∈ x0, x.size ≤ maxLen) (m0 : n0 ≤ maxLen) :
    Calls Try.prog 3 #[.slice A0 n0 c0] w fun e w' => e = .returned (.bool true) ∧ Below w.heap.size w w' := by
  generalize hg : joinC x0 = r
  obtain ⟨r1, r2⟩ := r
  have HG := Lib.hid hg
  clear hg
  go_enter Try.func3, Try.ntmps3
  go_wp2_with fail
  refine (szStringS _ _ _ _ x0 _ r0 w0 m0 (by omega)).mono ?_
  rintro e w' ⟨⟨l, rfl, hl, hl1⟩, rfl⟩
  by_cases hneg : l < 0
  · go_wp2_with fail
    go_ret
    exact ⟨rfl, Below.refl _ _⟩
  · have htot := hl (by omega)
    have hn : n0 ≤ 1048576 := by omega
    have hts : (x0.map ByteArray.size).sum ≤ 4194304 := by show totS x0 ≤ _; omega
    have HTS := Lib.hid hts
    have HW := Lib.hid w0
    clear hl htot hts w0
    go_wp2_with fail
    refine (toStringS _ _ _ x0 _ r0 (by omega)).mono ?_
    rintro e w1 ⟨v1, rfl, ho1, hb1⟩
    obtain ⟨A1, c1, rfl, _⟩ := own_slice ho1
    go_wp2_with fail
    refine (specJoinChunks _ _ _ x0 _ (Rd.own ho1) (by omega) HTS.out).mono ?_
    rintro e w' ⟨rfl, rfl⟩
    rw [HG.out]
    go_wp2_with fail
    refine (toStringS _ _ _ x0 _ (r0.below hb1) (by omega)).mono ?_
    rintro e w2 ⟨v2, rfl, ho2, hb2⟩
    obtain ⟨A2, c2, rfl, _⟩ := own_slice ho2
    go_wp2_with fail
    refine (implJoinChunks _ _ _ x0 _ (Rd.own ho2) (by omega) HW.out).mono ?_
    rintro e w' ⟨rfl, rfl⟩
    rw [HG.out]
    have hb12 := below_step hb1 hb2
    go_wp2_with fail
    refine (toStringS _ _ _ x0 _ (r0.below hb12) (by omega)).mono ?_
    rintro e w3 ⟨v3, rfl, ho3, hb3⟩
    obtain ⟨A3, c3, rfl, _⟩ := own_slice ho3
    go_wp2_with fail
    refine (eqStringS _ _ _ _ _ _ x0 x0 _ ((Rd.own ho2).below hb3) (Rd.own ho3) (by omega)).mono ?_
    rintro e w4 ⟨rfl, k, rfl⟩
    rw [decide_eq_true rfl]
    go_wp2_with fail
    go_ret
    exact ⟨rfl, below_step (below_step hb12 hb3) (below_drewN _ _)⟩

section
set_option maxRecDepth 100000 in
theorem liftedFnExactJoinChunks (os : Os) (started : os.Started) (H : Type) (enc : TypeId × Value → H) :
    ReturnsInHanded {} Try.checked os 3 .any (Rows.fnExactJoinChunksSpec.pre6 enc Try.prog Try.f3 Rows.fnExactJoinChunksRow.domain false) (Rows.fnExactJoinChunksSpec.post enc Try.prog Try.f3 false true false false) := by
  refine returnsInHanded_of_change (C := Try.checked) own_knobFnExactJoinChunks started (by kernel_rfl) Try.func3
    (ChangeSpec.witness6 (enc := enc) (C := Try.checked) false ⟨#[], #[.slice none 0 0], []⟩ 8 (by kernel_rfl) (by kernel_rfl) (by kernel_rfl) (by kernel_rfl)) ?_
  intro W base args ds gs before hval0 hW hcnd _
  have hval : ∀ (j : Nat) t v, Try.f3.params[j]? = some t → args[j]? = some v → Value.okWide Try.prog W .any base t v := hval0
  have hW' := hW
  obtain ⟨p, q, hA0, hV, rfl, hfz, hnd⟩ := hW
  have hA : DataW.TrodAll enc Try.prog W 0 (fun _ => true) true Try.f3.params.toList args.toList ds p := hA0
  rw [Try.params3] at hA hval
  obtain ⟨v0, vs0, d0, ds0, p0, q0, hargs, rfl, rfl, h0, t0⟩ := trodAll_cons hA
  obtain ⟨rfl, rfl, rfl⟩ := trodAll_nil t0
  obtain rfl : args = #[v0] := by cases args; simp_all
  obtain ⟨rfl, rfl⟩ := trodVars_none hV
  obtain ⟨A0, n0, c0, rfl⟩ := okWide_slice Try.underlying22 (hval 0 22 v0 rfl rfl)
  have lt0 : ∀ x ∈ p0, x.block < W.heap.size := by obtain ⟨m, hm⟩ := h0; exact DataW.trod_lt m _ _ _ hm
  obtain ⟨l0, m0, x0, r0, w0⟩ := open_rd_strs Try.underlying22 Try.underlying9 (by kernel_rfl) h0
  clear hA0 hval0
  refine (walkFnExactJoinChunks A0 n0 c0 x0 W r0 l0 w0 (Nat.le_trans l0 m0)).mono fun e W' ⟨he, bel⟩ => ?_
  subst he
  exact ⟨_, rfl, _, _, _, [], _, [], hW', trodAll_mk1 (shut_bool Try.underlying4 _), (trodAll_cons_mk (Below.trod laid_outFnExactJoinChunks (by kernel_rfl) (of_decide_eq_true (by kernel_rfl)) h0 bel lt0) trodAll_mk0), rfl, bel.frame _, fun h => by cases h⟩

theorem overFnExactJoinChunks : Rows.fnExactJoinChunksRow.holds Try.pinned (OpenSpec.ofChange Rows.fnExactJoinChunksSpec) :=
  OpenClaim.holds_of_wide 3 Try.f3 rfl rfl rfl rfl rfl rfl rfl ⟨rfl, rfl, rfl, rfl, rfl⟩ rfl rfl rfl rfl rfl (by kernel_rfl) Try.func3 (by kernel_rfl)
    (of_decide_eq_true (by kernel_rfl)) (by unfold Func.isWrapper; first | (rw [if_pos (by decide +kernel)]; kernel_rfl) | (rw [if_neg (by decide +kernel)]; exact ⟨rfl, rfl⟩))
    (fun os started H enc _ => liftedFnExactJoinChunks os started H enc)

theorem provedFnExactJoinChunks : Rows.FnExactJoinChunksSaid := overFnExactJoinChunks
end
end Go.Proofs.Ytnbdhmjgckomcaa
