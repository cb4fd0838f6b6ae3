/- The law FnContentValid: For every input the law returns true, and its arguments read as before. Conditions: none. -/
import Derived.Test.YtnbdhmjgckomcaaRows
import Derived.Test.YtnbdhmjgckomcaaDraw4
import Derived.Test.YtnbdhmjgckomcaaOpen
open Go.RowKit Go.ChangeShapes Go.WideShapes Go.ChangeAt
open Go.ChangeMaps (open_string shut_string)
set_option linter.unusedVariables false
namespace Go.Proofs.Ytnbdhmjgckomcaa
theorem own_knobFnContentValid : ownKnob Try.prog.godebug = none := by kernel_rfl
theorem laid_outFnContentValid : laidOutB Try.prog = true := by kernel_rfl
theorem text_take {s : ByteArray} (n : Nat) (h : textV (bts s) = true) : textV (bts (s.extract 0 n)) = true := by
  have hd : bts (s.extract 0 n) = (bts s).take n := by unfold bts; rw [Lib.extract_data]; simp
  rw [hd]
  unfold textV at h ⊢
  rw [Bool.and_eq_true] at h ⊢
  refine ⟨?_, ?_⟩
  · rw [List.all_eq_true] at h ⊢
    exact fun x hx => h.1 x (List.mem_of_mem_take hx)
  · have := of_decide_eq_true h.2
    exact decide_eq_true (by rw [List.length_take]; omega)
theorem content_text {s : ByteArray} (h : contentV (bts s) = true) : textV (bts s) = true := by
  unfold contentV at h
  rw [Bool.and_eq_true] at h
  exact h.1
theorem content_take {s : ByteArray} (n : Nat) (h : contentV (bts s) = true) : contentV (bts (s.extract 0 n)) = true := by
  have h40 := contentV_size h
  unfold contentV
  rw [text_take n (content_text h), Bool.true_and, bts_length, ByteArray.size_extract]
  exact decide_eq_true (by omega)
set_option maxHeartbeats 1000000 in
theorem walkFnContentValid (A0 : Option Addr) (n0 c0 : Nat) (x0 : List Int) (w : World) (r0 : Rd w 1 A0 n0 (byts x0)) (l0 : n0 ≤ c0) (w0 : ∀ x ∈ x0, (Lit.int .u8 x).wf = true) :
    Calls Try.prog 5 #[.slice A0 n0 c0] w fun e w' => e = .returned (.bool true) ∧ Below w.heap.size w w' := by
  by_cases hb : n0 ≤ 1048576
  · go_enter Try.func5, Try.ntmps5
    go_wp2_with (go_at_call 25; refine (drawContentValid _ _ _ x0 _ r0 l0 w0).mono ?_; rintro e w1 ⟨s, rfl, hs, hbel⟩)
    have hsm : s.size ≤ maxLen := by unfold maxLen; omega
    have hex : (s.extract 0 (s.size / 2)).size ≤ maxLen := by rw [ByteArray.size_extract]; unfold maxLen; omega
    cases hw : contentV (bts s)
    · have HW := Lib.hid hw
      clear hw
      go_wp2_with (first | (go_at_call 29; refine (alive _).mono ?_; rintro e w' ⟨rfl, rfl⟩) | (go_at_call 27; refine (specContentValid _ _ hsm).mono ?_; rintro e w' ⟨rfl, rfl⟩; rw [HW.out]) | (go_at_call 26; refine (implContentValid _ _ hsm).mono ?_; rintro e w' ⟨rfl, rfl⟩; rw [HW.out]))
      go_ret
      exact ⟨rfl, hbel⟩
    · have HT := Lib.hid (content_text hw)
      have HF := Lib.hid (content_take (s.size / 2) hw)
      have HW := Lib.hid hw
      clear hw
      go_wp2_with (first | (go_at_call 29; refine (alive _).mono ?_; rintro e w' ⟨rfl, rfl⟩) | (go_at_call 27; refine (specContentValid _ _ hsm).mono ?_; rintro e w' ⟨rfl, rfl⟩; rw [HW.out]) | (go_at_call 28; refine (implTextValid _ _ hsm).mono ?_; rintro e w' ⟨rfl, rfl⟩; rw [HT.out]) | (go_at_call 26; refine (implContentValid _ _ (by first | exact hsm | exact hex)).mono ?_; rintro e w' ⟨rfl, rfl⟩; first | rw [HF.out] | rw [HW.out]))
      go_ret
      exact ⟨rfl, hbel⟩
  · go_enter Try.func5, Try.ntmps5
    go_wp2
    go_ret
    exact ⟨rfl, Below.refl _ _⟩

section
set_option maxRecDepth 100000 in
theorem liftedFnContentValid (os : Os) (started : os.Started) (H : Type) (enc : TypeId × Value → H) :
    ReturnsInHanded {} Try.checked os 5 .any (Rows.fnContentValidSpec.pre6 enc Try.prog Try.f5 Rows.fnContentValidRow.domain false) (Rows.fnContentValidSpec.post enc Try.prog Try.f5 false true false false) := by
  refine returnsInHanded_of_change (C := Try.checked) own_knobFnContentValid started (by kernel_rfl) Try.func5
    (ChangeSpec.witness6 (enc := enc) (C := Try.checked) false ⟨#[], #[.slice none 0 0], []⟩ 8 (by kernel_rfl) (by kernel_rfl) (by kernel_rfl) (by kernel_rfl)) ?_
  intro W base args ds gs before hval0 hW hcnd _
  have hval : ∀ (j : Nat) t v, Try.f5.params[j]? = some t → args[j]? = some v → Value.okWide Try.prog W .any base t v := hval0
  have hW' := hW
  obtain ⟨p, q, hA0, hV, rfl, hfz, hnd⟩ := hW
  have hA : DataW.TrodAll enc Try.prog W 0 (fun _ => true) true Try.f5.params.toList args.toList ds p := hA0
  rw [Try.params5] at hA hval
  obtain ⟨v0, vs0, d0, ds0, p0, q0, hargs, rfl, rfl, h0, t0⟩ := trodAll_cons hA
  obtain ⟨rfl, rfl, rfl⟩ := trodAll_nil t0
  obtain rfl : args = #[v0] := by cases args; simp_all
  obtain ⟨rfl, rfl⟩ := trodVars_none hV
  obtain ⟨A0, n0, c0, rfl⟩ := okWide_slice Try.underlying34 (hval 0 34 v0 rfl rfl)
  have lt0 : ∀ x ∈ p0, x.block < W.heap.size := by obtain ⟨m, hm⟩ := h0; exact DataW.trod_lt m _ _ _ hm
  obtain ⟨l0, _, x0, r0, w0⟩ := open_rd_num Try.underlying34 Try.underlying5 (by kernel_rfl) h0
  clear hA0 hval0
  refine (walkFnContentValid A0 n0 c0 x0 W r0 l0 w0).mono fun e W' ⟨he, bel⟩ => ?_
  subst he
  exact ⟨_, rfl, _, _, _, [], _, [], hW', trodAll_mk1 (shut_bool Try.underlying4 _), (trodAll_cons_mk (Below.trod laid_outFnContentValid (by kernel_rfl) (of_decide_eq_true (by kernel_rfl)) h0 bel lt0) trodAll_mk0), rfl, bel.frame _, fun h => by cases h⟩

theorem overFnContentValid : Rows.fnContentValidRow.holds Try.pinned (OpenSpec.ofChange Rows.fnContentValidSpec) :=
  OpenClaim.holds_of_wide 5 Try.f5 rfl rfl rfl rfl rfl rfl rfl ⟨rfl, rfl, rfl, rfl, rfl⟩ rfl rfl rfl rfl rfl (by kernel_rfl) Try.func5 (by kernel_rfl)
    (of_decide_eq_true (by kernel_rfl)) (by unfold Func.isWrapper; first | (rw [if_pos (by decide +kernel)]; kernel_rfl) | (rw [if_neg (by decide +kernel)]; exact ⟨rfl, rfl⟩))
    (fun os started H enc _ => liftedFnContentValid os started H enc)

theorem provedFnContentValid : Rows.FnContentValidSaid := overFnContentValid
end
end Go.Proofs.Ytnbdhmjgckomcaa
