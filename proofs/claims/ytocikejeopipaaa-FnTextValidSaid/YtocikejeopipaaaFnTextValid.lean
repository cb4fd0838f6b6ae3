/- The law FnTextValid: For every input the law returns true, and its arguments read as before. Conditions: none. -/
import Derived.Test.YtocikejeopipaaaRows
import Derived.Test.YtocikejeopipaaaDraw4
import Derived.Test.YtocikejeopipaaaOpen
open Go.RowKit Go.ChangeShapes Go.WideShapes Go.ChangeAt
open Go.ChangeMaps (open_string shut_string)
set_option linter.unusedVariables false
namespace Go.Proofs.Ytocikejeopipaaa
theorem own_knobFnTextValid : ownKnob Try.prog.godebug = none := by kernel_rfl
theorem laid_outFnTextValid : laidOutB Try.prog = true := by kernel_rfl
theorem text_line (s : ByteArray) : textV (bts (s ++ ⟨#[10]⟩)) = false := by
  unfold textV bts
  rw [ByteArray.data_append, Array.toList_append, List.all_append]
  have h : ([10] : List UInt8).all textB = false := by rfl
  rw [show (⟨#[10]⟩ : ByteArray).data.toList = [10] from rfl, h, Bool.and_false, Bool.false_and]
theorem text_take {s : ByteArray} (n : Nat) (h : textV (bts s) = true) : textV (bts (s.extract 0 n)) = true := by
  have hd : bts (s.extract 0 n) = (bts s).take n := by unfold bts; rw [Lib.extract_data]; simp
  rw [hd]
  unfold textV at h ⊢
  rw [Bool.and_eq_true] at h ⊢
  refine ⟨?_, ?_⟩
  · rw [List.all_eq_true] at h ⊢
    exact fun x hx => h.1 x (List.mem_of_mem_take hx)
  · have := of_decide_eq_true h.2
    exact decide_eq_true (by rw [List.length_take]; omega)
set_option maxHeartbeats 1000000 in
theorem walkFnTextValid (A0 : Option Addr) (n0 c0 : Nat) (x0 : List Int) (w : World) (r0 : Rd w 1 A0 n0 (byts x0)) (l0 : n0 ≤ c0) (w0 : ∀ x ∈ x0, (Lit.int .u8 x).wf = true) :
    Calls Try.prog 13 #[.slice A0 n0 c0] w fun e w' => e = .returned (.bool true) ∧ Below w.heap.size w w' := by
  by_cases hb : n0 ≤ 1048576
  · go_enter Try.func13, Try.ntmps13
    go_wp2_with (go_at_call 35; refine (drawTextValid _ _ _ x0 _ r0 l0 w0).mono ?_; rintro e w1 ⟨s, rfl, hs, hbel⟩)
    have hsm : s.size ≤ maxLen := by unfold maxLen; omega
    have hsp : (s ++ ⟨#[10]⟩).size ≤ maxLen := by rw [ByteArray.size_append]; unfold maxLen; show s.size + 1 ≤ _; omega
    have hex : (s.extract 0 (s.size / 2)).size ≤ maxLen := by rw [ByteArray.size_extract]; unfold maxLen; omega
    have HS := Lib.hid (text_line s)
    cases hw : textV (bts s)
    · have HW := Lib.hid hw
      clear hw
      go_wp2_with (first | (go_at_call 30; refine (alive _).mono ?_; rintro e w' ⟨rfl, rfl⟩) | (go_at_call 15; refine (specTextValid _ _ hsm).mono ?_; rintro e w' ⟨rfl, rfl⟩; rw [HW.out]) | (go_at_call 16; refine (implTextValid _ _ (by first | exact hsp | exact hsm | exact hex)).mono ?_; rintro e w' ⟨rfl, rfl⟩; first | rw [HS.out] | rw [HW.out]))
      go_ret
      exact ⟨rfl, hbel⟩
    · have HF := Lib.hid (text_take (s.size / 2) hw)
      have HW := Lib.hid hw
      clear hw
      go_wp2_with (first | (go_at_call 30; refine (alive _).mono ?_; rintro e w' ⟨rfl, rfl⟩) | (go_at_call 15; refine (specTextValid _ _ hsm).mono ?_; rintro e w' ⟨rfl, rfl⟩; rw [HW.out]) | (go_at_call 16; refine (implTextValid _ _ (by first | exact hsp | exact hsm | exact hex)).mono ?_; rintro e w' ⟨rfl, rfl⟩; first | rw [HS.out] | rw [HF.out] | rw [HW.out]))
      go_ret
      exact ⟨rfl, hbel⟩
  · go_enter Try.func13, Try.ntmps13
    go_wp2
    go_ret
    exact ⟨rfl, Below.refl _ _⟩

section
set_option maxRecDepth 100000 in
theorem liftedFnTextValid (os : Os) (started : os.Started) (H : Type) (enc : TypeId × Value → H) :
    ReturnsInHanded {} Try.checked os 13 .any (Rows.fnTextValidSpec.pre6 enc Try.prog Try.f13 Rows.fnTextValidRow.domain false) (Rows.fnTextValidSpec.post enc Try.prog Try.f13 false true false false) := by
  refine returnsInHanded_of_change (C := Try.checked) own_knobFnTextValid started (by kernel_rfl) Try.func13
    (ChangeSpec.witness6 (enc := enc) (C := Try.checked) false ⟨#[], #[.slice none 0 0], []⟩ 8 (by kernel_rfl) (by kernel_rfl) (by kernel_rfl) (by kernel_rfl)) ?_
  intro W base args ds gs before hval0 hW hcnd _
  have hval : ∀ (j : Nat) t v, Try.f13.params[j]? = some t → args[j]? = some v → Value.okWide Try.prog W .any base t v := hval0
  have hW' := hW
  obtain ⟨p, q, hA0, hV, rfl, hfz, hnd⟩ := hW
  have hA : DataW.TrodAll enc Try.prog W 0 (fun _ => true) true Try.f13.params.toList args.toList ds p := hA0
  rw [Try.params13] at hA hval
  obtain ⟨v0, vs0, d0, ds0, p0, q0, hargs, rfl, rfl, h0, t0⟩ := trodAll_cons hA
  obtain ⟨rfl, rfl, rfl⟩ := trodAll_nil t0
  obtain rfl : args = #[v0] := by cases args; simp_all
  obtain ⟨rfl, rfl⟩ := trodVars_none hV
  obtain ⟨A0, n0, c0, rfl⟩ := okWide_slice Try.underlying30 (hval 0 30 v0 rfl rfl)
  have lt0 : ∀ x ∈ p0, x.block < W.heap.size := by obtain ⟨m, hm⟩ := h0; exact DataW.trod_lt m _ _ _ hm
  obtain ⟨l0, _, x0, r0, w0⟩ := open_rd_num Try.underlying30 Try.underlying5 (by kernel_rfl) h0
  clear hA0 hval0
  refine (walkFnTextValid A0 n0 c0 x0 W r0 l0 w0).mono fun e W' ⟨he, bel⟩ => ?_
  subst he
  exact ⟨_, rfl, _, _, _, [], _, [], hW', trodAll_mk1 (shut_bool Try.underlying4 _), (trodAll_cons_mk (Below.trod laid_outFnTextValid (by kernel_rfl) (of_decide_eq_true (by kernel_rfl)) h0 bel lt0) trodAll_mk0), rfl, bel.frame _, fun h => by cases h⟩

theorem overFnTextValid : Rows.fnTextValidRow.holds Try.pinned (OpenSpec.ofChange Rows.fnTextValidSpec) :=
  OpenClaim.holds_of_wide 13 Try.f13 rfl rfl rfl rfl rfl rfl rfl ⟨rfl, rfl, rfl, rfl, rfl⟩ rfl rfl rfl rfl rfl (by kernel_rfl) Try.func13 (by kernel_rfl)
    (of_decide_eq_true (by kernel_rfl)) (by unfold Func.isWrapper; first | (rw [if_pos (by decide +kernel)]; kernel_rfl) | (rw [if_neg (by decide +kernel)]; exact ⟨rfl, rfl⟩))
    (fun os started H enc _ => liftedFnTextValid os started H enc)

theorem provedFnTextValid : Rows.FnTextValidSaid := overFnTextValid
end
end Go.Proofs.Ytocikejeopipaaa
