/- The law FnWordValid: For every input the law returns true, and its arguments read as before. Conditions: none. -/
import Derived.Test.YtocikejeopipaaaRows
import Derived.Test.YtocikejeopipaaaDraw2
import Derived.Test.YtocikejeopipaaaOpen
open Go.RowKit Go.ChangeShapes Go.WideShapes Go.ChangeAt
open Go.ChangeMaps (open_string shut_string)
set_option linter.unusedVariables false
namespace Go.Proofs.Ytocikejeopipaaa
theorem own_knobFnWordValid : ownKnob Try.prog.godebug = none := by kernel_rfl
theorem laid_outFnWordValid : laidOutB Try.prog = true := by kernel_rfl
theorem word_space (s : ByteArray) : wordV (bts (s ++ ⟨#[32]⟩)) = false := by
  unfold wordV bts
  rw [ByteArray.data_append, Array.toList_append, List.all_append]
  have h : ([32] : List UInt8).all wordB = false := by rfl
  rw [show (⟨#[32]⟩ : ByteArray).data.toList = [32] from rfl, h, Bool.and_false, Bool.and_false, Bool.and_false]
theorem word_first {s : ByteArray} (h : wordV (bts s) = true) : wordV (bts (s.extract 0 1)) = true := by
  have hd : bts (s.extract 0 1) = (bts s).take 1 := by unfold bts; rw [Lib.extract_data]; rfl
  rw [hd]
  unfold wordV at h ⊢
  cases hb : bts s with
  | nil => rw [hb] at h; simp at h
  | cons c l =>
    rw [hb] at h
    simp only [List.headD_cons, List.all_cons, Bool.and_eq_true] at h
    simp [h.2.1, h.2.2.1]
theorem word_pos {s : ByteArray} (h : wordV (bts s) = true) : 1 ≤ s.size := by
  unfold wordV at h
  rw [Bool.and_eq_true, bts_length] at h
  exact (of_decide_eq_true h.1).1
set_option maxHeartbeats 1000000 in
theorem walkFnWordValid (A0 : Option Addr) (n0 c0 : Nat) (x0 : List Int) (w : World) (r0 : Rd w 1 A0 n0 (byts x0)) (l0 : n0 ≤ c0) (w0 : ∀ x ∈ x0, (Lit.int .u8 x).wf = true) :
    Calls Try.prog 11 #[.slice A0 n0 c0] w fun e w' => e = .returned (.bool true) ∧ Below w.heap.size w w' := by
  by_cases hb : n0 ≤ 1048576
  · go_enter Try.func11, Try.ntmps11
    go_wp2_with (go_at_call 29; refine (drawWordValid _ _ _ x0 _ r0 l0 w0).mono ?_; rintro e w1 ⟨s, rfl, hs, hbel⟩)
    have hsm : s.size ≤ maxLen := by unfold maxLen; omega
    have hsp : (s ++ ⟨#[32]⟩).size ≤ maxLen := by rw [ByteArray.size_append]; unfold maxLen; show s.size + 1 ≤ _; omega
    have hex : (s.extract 0 1).size ≤ maxLen := by rw [ByteArray.size_extract]; unfold maxLen; omega
    have HS := Lib.hid (word_space s)
    cases hw : wordV (bts s)
    · have HW := Lib.hid hw
      clear hw
      go_wp2_with (first | (go_at_call 30; refine (alive _).mono ?_; rintro e w' ⟨rfl, rfl⟩) | (go_at_call 21; refine (specWordValid _ _ hsm).mono ?_; rintro e w' ⟨rfl, rfl⟩; rw [HW.out]) | (go_at_call 22; refine (implWordValid _ _ (by first | exact hsp | exact hsm | exact hex)).mono ?_; rintro e w' ⟨rfl, rfl⟩; first | rw [HS.out] | rw [HW.out]))
      go_ret
      exact ⟨rfl, hbel⟩
    · have h1 := word_pos hw
      have HF := Lib.hid (word_first hw)
      have HW := Lib.hid hw
      clear hw
      go_wp2_with (first | (go_at_call 30; refine (alive _).mono ?_; rintro e w' ⟨rfl, rfl⟩) | (go_at_call 21; refine (specWordValid _ _ hsm).mono ?_; rintro e w' ⟨rfl, rfl⟩; rw [HW.out]) | (go_at_call 22; refine (implWordValid _ _ (by first | exact hsp | exact hsm | exact hex)).mono ?_; rintro e w' ⟨rfl, rfl⟩; first | rw [HS.out] | rw [HF.out] | rw [HW.out]))
      go_ret
      exact ⟨rfl, hbel⟩
  · go_enter Try.func11, Try.ntmps11
    go_wp2
    go_ret
    exact ⟨rfl, Below.refl _ _⟩

section
set_option maxRecDepth 100000 in
theorem liftedFnWordValid (os : Os) (started : os.Started) (H : Type) (enc : TypeId × Value → H) :
    ReturnsInHanded {} Try.checked os 11 .any (Rows.fnWordValidSpec.pre6 enc Try.prog Try.f11 Rows.fnWordValidRow.domain false) (Rows.fnWordValidSpec.post enc Try.prog Try.f11 false true false false) := by
  refine returnsInHanded_of_change (C := Try.checked) own_knobFnWordValid started (by kernel_rfl) Try.func11
    (ChangeSpec.witness6 (enc := enc) (C := Try.checked) false ⟨#[], #[.slice none 0 0], []⟩ 8 (by kernel_rfl) (by kernel_rfl) (by kernel_rfl) (by kernel_rfl)) ?_
  intro W base args ds gs before hval0 hW hcnd _
  have hval : ∀ (j : Nat) t v, Try.f11.params[j]? = some t → args[j]? = some v → Value.okWide Try.prog W .any base t v := hval0
  have hW' := hW
  obtain ⟨p, q, hA0, hV, rfl, hfz, hnd⟩ := hW
  have hA : DataW.TrodAll enc Try.prog W 0 (fun _ => true) true Try.f11.params.toList args.toList ds p := hA0
  rw [Try.params11] at hA hval
  obtain ⟨v0, vs0, d0, ds0, p0, q0, hargs, rfl, rfl, h0, t0⟩ := trodAll_cons hA
  obtain ⟨rfl, rfl, rfl⟩ := trodAll_nil t0
  obtain rfl : args = #[v0] := by cases args; simp_all
  obtain ⟨rfl, rfl⟩ := trodVars_none hV
  obtain ⟨A0, n0, c0, rfl⟩ := okWide_slice Try.underlying30 (hval 0 30 v0 rfl rfl)
  have lt0 : ∀ x ∈ p0, x.block < W.heap.size := by obtain ⟨m, hm⟩ := h0; exact DataW.trod_lt m _ _ _ hm
  obtain ⟨l0, _, x0, r0, w0⟩ := open_rd_num Try.underlying30 Try.underlying5 (by kernel_rfl) h0
  clear hA0 hval0
  refine (walkFnWordValid A0 n0 c0 x0 W r0 l0 w0).mono fun e W' ⟨he, bel⟩ => ?_
  subst he
  exact ⟨_, rfl, _, _, _, [], _, [], hW', trodAll_mk1 (shut_bool Try.underlying4 _), (trodAll_cons_mk (Below.trod laid_outFnWordValid (by kernel_rfl) (of_decide_eq_true (by kernel_rfl)) h0 bel lt0) trodAll_mk0), rfl, bel.frame _, fun h => by cases h⟩

theorem overFnWordValid : Rows.fnWordValidRow.holds Try.pinned (OpenSpec.ofChange Rows.fnWordValidSpec) :=
  OpenClaim.holds_of_wide 11 Try.f11 rfl rfl rfl rfl rfl rfl rfl ⟨rfl, rfl, rfl, rfl, rfl⟩ rfl rfl rfl rfl rfl (by kernel_rfl) Try.func11 (by kernel_rfl)
    (of_decide_eq_true (by kernel_rfl)) (by unfold Func.isWrapper; first | (rw [if_pos (by decide +kernel)]; kernel_rfl) | (rw [if_neg (by decide +kernel)]; exact ⟨rfl, rfl⟩))
    (fun os started H enc _ => liftedFnWordValid os started H enc)

theorem provedFnWordValid : Rows.FnWordValidSaid := overFnWordValid
end
end Go.Proofs.Ytocikejeopipaaa
