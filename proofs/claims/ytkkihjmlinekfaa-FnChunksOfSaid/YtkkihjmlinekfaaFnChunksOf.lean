/- The law FnChunksOf: For every input the law returns true, and its arguments read as before. Conditions: none. -/
import Derived.Test.YtkkihjmlinekfaaRows
import Derived.Test.YtkkihjmlinekfaaChunk4
import Derived.Test.YtkkihjmlinekfaaChunkG
import Derived.Test.YtkkihjmlinekfaaOpen
open Go.RowKit Go.ChangeShapes Go.WideShapes Go.ChangeAt
open Go.ChangeMaps (open_string shut_string)
set_option linter.unusedVariables false
namespace Go.Proofs.Ytkkihjmlinekfaa
theorem own_knobFnChunksOf : ownKnob Try.prog.godebug = none := by kernel_rfl
theorem laid_outFnChunksOf : laidOutB Try.prog = true := by kernel_rfl
theorem text_bad {s : ByteArray} (h : textV (bts s) = true) (hl : s.size + 3 ≤ 60) : textV (bts (s ++ ⟨#[98, 97, 100]⟩)) = true := by
  have hd : bts (s ++ ⟨#[98, 97, 100]⟩) = bts s ++ [98, 97, 100] := by
    unfold bts
    rw [ByteArray.data_append, Array.toList_append]
  rw [hd]
  unfold textV at h ⊢
  rw [Bool.and_eq_true] at h ⊢
  refine ⟨?_, decide_eq_true (by rw [List.length_append, bts_length]; exact hl)⟩
  rw [List.all_append, h.1]
  rfl
set_option maxHeartbeats 1000000 in
theorem walkFnChunksOf (A0 : Option Addr) (n0 c0 : Nat) (x0 : List Int) (w : World) (r0 : Rd w 1 A0 n0 (byts x0)) (l0 : n0 ≤ c0) (w0 : ∀ x ∈ x0, (Lit.int .u8 x).wf = true) :
    Calls Try.prog 8 #[.slice A0 n0 c0] w fun e w' => e = .returned (.bool true) ∧ Below w.heap.size w w' := by
  by_cases hb : n0 ≤ 1048576
  · go_enter Try.func8, Try.ntmps8
    go_wp2_with fail
    refine (drawChunksOf _ _ _ x0 _ r0 l0 w0).mono ?_
    rintro e u1 ⟨s, rfl, hs, hb1⟩
    have hsm : s.size ≤ maxLen := by unfold maxLen; omega
    have hlen := chunksO_length s
    have hmem : Hid (∀ x ∈ chunksO s, x.size ≤ maxLen) := Lib.hid fun x hx => Nat.le_trans (chunksO_mem hx) hsm
    go_wp2_with fail
    refine (implChunksOf s _ hsm).mono ?_
    rintro e u2 ⟨v2, rfl, ho2, hb2⟩
    obtain ⟨A2, c2, rfl, hnc2⟩ := own_slice ho2
    have hB2 := below_step hb1 hb2
    go_wp2_with fail
    refine (specChunksOf s _ hsm).mono ?_
    rintro e u3 ⟨v3, rfl, ho3, hb3⟩
    obtain ⟨A3, c3, rfl, _⟩ := own_slice ho3
    have hB3 := below_step hB2 hb3
    have hr3 := (Rd.own ho2).below hb3
    go_wp2_with fail
    refine (sameTexts _ _ _ _ _ _ (chunksO s) (chunksO s) _ hr3 (Rd.own ho3) (by omega)).mono ?_
    rintro e u4 ⟨rfl, q4, rfl⟩
    rw [decide_eq_true rfl]
    have hB4 := below_step hB3 (below_drewN u3 q4)
    have hr4 := hr3.drewN q4
    clear hr3 ho3 ho2 hb3 hb2 hb1 hB3 hB2
    generalize u3.drewN q4 = u4 at *
    cases ht : textV (bts s)
    · have HT := Lib.hid ht
      have h0 : (chunksO s).length = 0 := by rw [chunksO_no ht]; rfl
      clear ht hmem
      generalize (chunksO s).length = n at *
      subst h0
      go_wp2_with (first | (go_at_call 26; refine (alive _).mono ?_; rintro e w' ⟨rfl, rfl⟩) | (go_at_call 39; refine (implTextValid _ _ hsm).mono ?_; rintro e w' ⟨rfl, rfl⟩; rw [HT.out]))
      go_ret
      exact ⟨rfl, hB4⟩
    · have HT := Lib.hid ht
      have HJ := Lib.hid (joinC_chunks ht)
      by_cases hsmall : s.size + 3 ≤ 60 ∧ 0 < (chunksO s).length
      · obtain ⟨hs3, hn0⟩ := hsmall
        have hbad := text_bad ht hs3
        have hs0 : 0 < s.size := by
          rcases Nat.eq_zero_or_pos s.size with h | h
          · have h1 : chunkE s = [] := by rw [chunkE_yes ht, show bts s = [] from List.eq_nil_of_length_eq_zero (by rw [bts_length]; exact h)]; rfl
            unfold chunksO at hn0
            rw [h1] at hn0
            simp [chunksF] at hn0
          · exact h
        obtain ⟨hm1, hm2⟩ := chunksO_more (x := ⟨#[98, 97, 100]⟩) ht hbad hs0 (by decide)
        have HM := Lib.hid hm2
        have hxm : (s ++ ⟨#[98, 97, 100]⟩ : ByteArray).size ≤ maxLen := by rw [ByteArray.size_append]; unfold maxLen; show s.size + 3 ≤ _; omega
        have hlen2 := chunksO_length (s ++ ⟨#[98, 97, 100]⟩)
        have HC1 := Lib.hid (fun w' => implChunksOf (s ++ ⟨#[98, 97, 100]⟩) w' hxm)
        have hnb : decide (60 < (s.size : Int) + 3) = false := decide_eq_false (by omega)
        clear ht hbad hm2
        generalize hC : chunksO s = C at *
        generalize hn : C.length = n at *
        clear hC hn
        have hne0 : ((n : Int) == 0) = false := by simp; omega
        go_wp2_with (first | (go_at_call 39; refine (implTextValid _ _ hsm).mono ?_; rintro e w' ⟨rfl, rfl⟩; rw [HT.out]))
        refine (implJoinChunks _ _ _ C _ hr4 (by omega) hmem.out).mono ?_
        rintro e w' ⟨rfl, rfl⟩
        rw [HJ.out]
        go_wp2_with fail
        refine (HC1.out _).mono ?_
        rintro e u5 ⟨v5, rfl, ho5, hb5⟩
        obtain ⟨A5, c5, rfl, hnc5⟩ := own_slice ho5
        have hr5 := Rd.own ho5
        have hB5 := below_step hB4 hb5
        have hr6 := hr4.below hb5
        generalize chunksO (s ++ (⟨#[98, 97, 100]⟩ : ByteArray)) = D at *
        generalize D.length = m at *
        have hge : decide ((m : Int) < (n : Int)) = false := decide_eq_false (by omega)
        obtain ⟨n', rfl⟩ : ∃ n', n = n' + 1 := ⟨n - 1, by omega⟩
        have hsub : IntKind.i64.wrap ((n' : Int) + 1 - 1) = (n' : Int) := by
          rw [show ((n' : Int) + 1 - 1) = (n' : Int) from by omega]
          exact IntWalk.i64_in _ (by omega)
        have hq5 := hr5.shortS (m := n') (by omega)
        have hq6 := hr6.shortS (m := n') (by omega)
        have HT' := Lib.hid (show D.take n' = C.take n' from HM.out)
        have hge2 : decide ((n' : Int) + 1 ≤ (m : Int)) = true := decide_eq_true (by omega)
        have hnl2 : (n' : Int) ≤ (c5 : Int) := by omega
        have hnl3 : (n' : Int) ≤ (c2 : Int) := by omega
        have hnn4 : n' ≤ 4194304 := by omega
        clear hr6 hr5 ho5 hr4 hge hlen hlen2 hm1 hs3 hne0 hnb
        have HQ : ∀ j, Calls Try.prog 37 #[.slice A5 n' c5, .slice A2 n' c2] (u5.drewN j) fun e w' => e = .returned (.bool true) ∧ ∃ k, w' = (u5.drewN j).drewN k := fun j => by
          have h := sameTexts A5 A2 n' n' c5 c2 (D.take n') (C.take n') (u5.drewN j) (hq5.drewN j) (hq6.drewN j) hnn4
          rw [decide_eq_true HT'.out] at h
          exact h
        clear hq5 hq6
        go_wp2
        go_quiet ((go_at_call 37; exact Calls.quiet_of (HQ _)))
        go_wp2
        all_goals
          go_ret
          exact ⟨rfl, below_to hB5 hB5.size (below_drewN _ _)⟩
      · have hne : decide (60 < (s.size : Int) + 3) = true ∨ (chunksO s).length = 0 := by
          rcases Nat.lt_or_ge 60 (s.size + 3) with h | h
          · exact .inl (decide_eq_true (by omega))
          · exact .inr (by omega)
        clear ht hsmall
        generalize chunksO s = C at *
        generalize C.length = n at *
        rcases hne with hbig | rfl
        · go_wp2_with (first | (go_at_call 26; refine (alive _).mono ?_; rintro e w' ⟨rfl, rfl⟩) | (go_at_call 39; refine (implTextValid _ _ hsm).mono ?_; rintro e w' ⟨rfl, rfl⟩; rw [HT.out]) | (go_at_call 40; refine (implJoinChunks _ _ _ C _ hr4 (by omega) hmem.out).mono ?_; rintro e w' ⟨rfl, rfl⟩; rw [HJ.out]))
          all_goals
            go_ret
            exact ⟨rfl, hB4⟩
        · go_wp2_with (first | (go_at_call 26; refine (alive _).mono ?_; rintro e w' ⟨rfl, rfl⟩) | (go_at_call 39; refine (implTextValid _ _ hsm).mono ?_; rintro e w' ⟨rfl, rfl⟩; rw [HT.out]) | (go_at_call 40; refine (implJoinChunks _ _ _ C _ hr4 (by omega) hmem.out).mono ?_; rintro e w' ⟨rfl, rfl⟩; rw [HJ.out]))
          all_goals
            go_ret
            exact ⟨rfl, hB4⟩
  · go_enter Try.func8, Try.ntmps8
    go_wp2
    go_ret
    exact ⟨rfl, Below.refl _ _⟩

section
set_option maxRecDepth 100000 in
theorem liftedFnChunksOf (os : Os) (started : os.Started) (H : Type) (enc : TypeId × Value → H) :
    ReturnsInHanded {} Try.checked os 8 .any (Rows.fnChunksOfSpec.pre6 enc Try.prog Try.f8 Rows.fnChunksOfRow.domain false) (Rows.fnChunksOfSpec.post enc Try.prog Try.f8 false true false false) := by
  refine returnsInHanded_of_change (C := Try.checked) own_knobFnChunksOf started (by kernel_rfl) Try.func8
    (ChangeSpec.witness6 (enc := enc) (C := Try.checked) false ⟨#[], #[.slice none 0 0], []⟩ 8 (by kernel_rfl) (by kernel_rfl) (by kernel_rfl) (by kernel_rfl)) ?_
  intro W base args ds gs before hval0 hW hcnd _
  have hval : ∀ (j : Nat) t v, Try.f8.params[j]? = some t → args[j]? = some v → Value.okWide Try.prog W .any base t v := hval0
  have hW' := hW
  obtain ⟨p, q, hA0, hV, rfl, hfz, hnd⟩ := hW
  have hA : DataW.TrodAll enc Try.prog W 0 (fun _ => true) true Try.f8.params.toList args.toList ds p := hA0
  rw [Try.params8] at hA hval
  obtain ⟨v0, vs0, d0, ds0, p0, q0, hargs, rfl, rfl, h0, t0⟩ := trodAll_cons hA
  obtain ⟨rfl, rfl, rfl⟩ := trodAll_nil t0
  obtain rfl : args = #[v0] := by cases args; simp_all
  obtain ⟨rfl, rfl⟩ := trodVars_none hV
  obtain ⟨A0, n0, c0, rfl⟩ := okWide_slice Try.underlying36 (hval 0 36 v0 rfl rfl)
  have lt0 : ∀ x ∈ p0, x.block < W.heap.size := by obtain ⟨m, hm⟩ := h0; exact DataW.trod_lt m _ _ _ hm
  obtain ⟨l0, _, x0, r0, w0⟩ := open_rd_num Try.underlying36 Try.underlying5 (by kernel_rfl) h0
  clear hA0 hval0
  refine (walkFnChunksOf A0 n0 c0 x0 W r0 l0 w0).mono fun e W' ⟨he, bel⟩ => ?_
  subst he
  exact ⟨_, rfl, _, _, _, [], _, [], hW', trodAll_mk1 (shut_bool Try.underlying4 _), (trodAll_cons_mk (Below.trod laid_outFnChunksOf (by kernel_rfl) (of_decide_eq_true (by kernel_rfl)) h0 bel lt0) trodAll_mk0), rfl, bel.frame _, fun h => by cases h⟩

theorem overFnChunksOf : Rows.fnChunksOfRow.holds Try.pinned (OpenSpec.ofChange Rows.fnChunksOfSpec) :=
  OpenClaim.holds_of_wide 8 Try.f8 rfl rfl rfl rfl rfl rfl rfl ⟨rfl, rfl, rfl, rfl, rfl⟩ rfl rfl rfl rfl rfl (by kernel_rfl) Try.func8 (by kernel_rfl)
    (of_decide_eq_true (by kernel_rfl)) (by unfold Func.isWrapper; first | (rw [if_pos (by decide +kernel)]; kernel_rfl) | (rw [if_neg (by decide +kernel)]; exact ⟨rfl, rfl⟩))
    (fun os started H enc _ => liftedFnChunksOf os started H enc)

theorem provedFnChunksOf : Rows.FnChunksOfSaid := overFnChunksOf
end
end Go.Proofs.Ytkkihjmlinekfaa
