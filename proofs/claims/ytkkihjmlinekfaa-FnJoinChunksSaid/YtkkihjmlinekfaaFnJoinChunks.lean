/- The law FnJoinChunks: For every input the law returns true, and its arguments read as before. Conditions: none. -/
import Derived.Test.YtkkihjmlinekfaaRows
import Derived.Test.YtkkihjmlinekfaaChunk4
import Derived.Test.YtkkihjmlinekfaaChunkG
import Derived.Test.YtkkihjmlinekfaaOpen
open Go.RowKit Go.ChangeShapes Go.WideShapes Go.ChangeAt
open Go.ChangeMaps (open_string shut_string)
set_option linter.unusedVariables false
namespace Go.Proofs.Ytkkihjmlinekfaa
theorem own_knobFnJoinChunks : ownKnob Try.prog.godebug = none := by kernel_rfl
theorem laid_outFnJoinChunks : laidOutB Try.prog = true := by kernel_rfl
theorem sum_le61 : ∀ {ys : List ByteArray}, (∀ y ∈ ys, y.size ≤ 61) → (ys.map ByteArray.size).sum ≤ 61 * ys.length
  | [], _ => Nat.le_refl _
  | y :: ys, h => by
    have h1 := h y List.mem_cons_self
    have h2 := sum_le61 (ys := ys) (fun z hz => h z (List.mem_cons_of_mem _ hz))
    rw [List.map_cons, List.sum_cons, List.length_cons]
    omega
set_option maxHeartbeats 1000000 in
theorem walkFnJoinChunks (A0 : Option Addr) (n0 c0 : Nat) (x0 : List Int) (w : World) (r0 : Rd w 1 A0 n0 (byts x0)) (l0 : n0 ≤ c0) (w0 : ∀ x ∈ x0, (Lit.int .u8 x).wf = true) :
    Calls Try.prog 9 #[.slice A0 n0 c0] w fun e w' => e = .returned (.bool true) ∧ Below w.heap.size w w' := by
  by_cases hb : n0 ≤ 1048576
  · go_enter Try.func9, Try.ntmps9
    go_wp2_with fail
    refine (drawJoinChunks _ _ _ x0 _ r0 l0 w0).mono ?_
    rintro e w1 ⟨v, k, ys, rfl, hk, hys, hown, hbel⟩
    obtain ⟨A, c, rfl, _⟩ := own_slice hown
    have hr := Rd.own hown
    have hmax : Hid (∀ x ∈ ys, x.size ≤ maxLen) := Lib.hid fun x hx => by have := hys x hx; unfold maxLen; omega
    have hsum : (ys.map ByteArray.size).sum ≤ 4194304 := by have h1 := sum_le61 hys; rw [hr.strLen] at h1; omega
    have HS := Lib.hid hsum
    clear hsum hys hown
    cases ht : textV (bts (joinB ys))
    · have HJ := Lib.hid (joinC_no ht)
      clear ht
      go_wp2_with (first | (go_at_call 26; refine (alive _).mono ?_; rintro e w' ⟨rfl, rfl⟩) | (go_at_call 42; refine (specJoinChunks _ _ _ ys _ hr (by omega) HS.out).mono ?_; rintro e w' ⟨rfl, rfl⟩; rw [HJ.out]) | (go_at_call 40; refine (implJoinChunks _ _ _ ys _ hr (by omega) hmax.out).mono ?_; rintro e w' ⟨rfl, rfl⟩; rw [HJ.out]))
      go_ret
      exact ⟨rfl, hbel⟩
    · have HJ := Lib.hid (joinC_yes ht)
      have HC := Lib.hid (joinC_chunks ht)
      generalize joinB ys = s at *
      have hsm : s.size ≤ 60 := by
        rcases Nat.lt_or_ge 60 s.size with h | h
        · rw [text_big h] at ht; cases ht
        · exact h
      have hsm' : s.size ≤ maxLen := by unfold maxLen; omega
      have hlen := chunksO_length s
      have hmem : Hid (∀ x ∈ chunksO s, x.size ≤ maxLen) := Lib.hid fun x hx => Nat.le_trans (chunksO_mem hx) hsm'
      clear ht
      go_wp2_with fail
      refine (implJoinChunks _ _ _ ys _ hr (by omega) hmax.out).mono ?_
      rintro e w' ⟨rfl, rfl⟩
      rw [HJ.out]
      go_wp2_with fail
      refine (specJoinChunks _ _ _ ys _ hr (by omega) HS.out).mono ?_
      rintro e w' ⟨rfl, rfl⟩
      rw [HJ.out]
      go_wp2_with fail
      refine (implChunksOf s _ hsm').mono ?_
      rintro e w2 ⟨v2, rfl, ho2, hb2⟩
      obtain ⟨A2, c2, rfl, _⟩ := own_slice ho2
      go_wp2_with fail
      refine (implJoinChunks _ _ _ (chunksO s) _ (Rd.own ho2) (by omega) hmem.out).mono ?_
      rintro e w' ⟨rfl, rfl⟩
      rw [HC.out]
      go_wp2_with fail
      go_ret
      exact ⟨rfl, below_step hbel hb2⟩
  · go_enter Try.func9, Try.ntmps9
    go_wp2
    go_ret
    exact ⟨rfl, Below.refl _ _⟩

section
set_option maxRecDepth 100000 in
theorem liftedFnJoinChunks (os : Os) (started : os.Started) (H : Type) (enc : TypeId × Value → H) :
    ReturnsInHanded {} Try.checked os 9 .any (Rows.fnJoinChunksSpec.pre6 enc Try.prog Try.f9 Rows.fnJoinChunksRow.domain false) (Rows.fnJoinChunksSpec.post enc Try.prog Try.f9 false true false false) := by
  refine returnsInHanded_of_change (C := Try.checked) own_knobFnJoinChunks started (by kernel_rfl) Try.func9
    (ChangeSpec.witness6 (enc := enc) (C := Try.checked) false ⟨#[], #[.slice none 0 0], []⟩ 8 (by kernel_rfl) (by kernel_rfl) (by kernel_rfl) (by kernel_rfl)) ?_
  intro W base args ds gs before hval0 hW hcnd _
  have hval : ∀ (j : Nat) t v, Try.f9.params[j]? = some t → args[j]? = some v → Value.okWide Try.prog W .any base t v := hval0
  have hW' := hW
  obtain ⟨p, q, hA0, hV, rfl, hfz, hnd⟩ := hW
  have hA : DataW.TrodAll enc Try.prog W 0 (fun _ => true) true Try.f9.params.toList args.toList ds p := hA0
  rw [Try.params9] at hA hval
  obtain ⟨v0, vs0, d0, ds0, p0, q0, hargs, rfl, rfl, h0, t0⟩ := trodAll_cons hA
  obtain ⟨rfl, rfl, rfl⟩ := trodAll_nil t0
  obtain rfl : args = #[v0] := by cases args; simp_all
  obtain ⟨rfl, rfl⟩ := trodVars_none hV
  obtain ⟨A0, n0, c0, rfl⟩ := okWide_slice Try.underlying36 (hval 0 36 v0 rfl rfl)
  have lt0 : ∀ x ∈ p0, x.block < W.heap.size := by obtain ⟨m, hm⟩ := h0; exact DataW.trod_lt m _ _ _ hm
  obtain ⟨l0, _, x0, r0, w0⟩ := open_rd_num Try.underlying36 Try.underlying5 (by kernel_rfl) h0
  clear hA0 hval0
  refine (walkFnJoinChunks A0 n0 c0 x0 W r0 l0 w0).mono fun e W' ⟨he, bel⟩ => ?_
  subst he
  exact ⟨_, rfl, _, _, _, [], _, [], hW', trodAll_mk1 (shut_bool Try.underlying4 _), (trodAll_cons_mk (Below.trod laid_outFnJoinChunks (by kernel_rfl) (of_decide_eq_true (by kernel_rfl)) h0 bel lt0) trodAll_mk0), rfl, bel.frame _, fun h => by cases h⟩

theorem overFnJoinChunks : Rows.fnJoinChunksRow.holds Try.pinned (OpenSpec.ofChange Rows.fnJoinChunksSpec) :=
  OpenClaim.holds_of_wide 9 Try.f9 rfl rfl rfl rfl rfl rfl rfl ⟨rfl, rfl, rfl, rfl, rfl⟩ rfl rfl rfl rfl rfl (by kernel_rfl) Try.func9 (by kernel_rfl)
    (of_decide_eq_true (by kernel_rfl)) (by unfold Func.isWrapper; first | (rw [if_pos (by decide +kernel)]; kernel_rfl) | (rw [if_neg (by decide +kernel)]; exact ⟨rfl, rfl⟩))
    (fun os started H enc _ => liftedFnJoinChunks os started H enc)

theorem provedFnJoinChunks : Rows.FnJoinChunksSaid := overFnJoinChunks
end
end Go.Proofs.Ytkkihjmlinekfaa
