/- The law FnFileText: For every input the law returns true, and its arguments read as before. Conditions: none. -/
import Derived.Test.YtnbdhmjgckomcaaRows
import Derived.Test.YtnbdhmjgckomcaaDraw4
import Derived.Test.YtnbdhmjgckomcaaFiles
import Derived.Test.YtnbdhmjgckomcaaOpen
open Go.RowKit Go.ChangeShapes Go.WideShapes Go.ChangeAt
open Go.ChangeMaps (open_string shut_string)
set_option linter.unusedVariables false
namespace Go.Proofs.Ytnbdhmjgckomcaa
theorem own_knobFnFileText : ownKnob Try.prog.godebug = none := by kernel_rfl
theorem laid_outFnFileText : laidOutB Try.prog = true := by kernel_rfl
theorem file_back {s : ByteArray} (h : contentV (bts s) = true) : readF (⟨#[102]⟩ ++ s) = (s, true) ∧ textV (bts (⟨#[102]⟩ ++ s)) = true := by
  have hb : bts (⟨#[102]⟩ ++ s) = 102 :: bts s := by unfold bts; rw [ByteArray.data_append, Array.toList_append]; rfl
  have h1 : head1 (⟨#[102]⟩ ++ s) 102 = true := by unfold head1; rw [hb]; rfl
  have hs : (⟨#[102]⟩ ++ s : ByteArray).size = 1 + s.size := by rw [ByteArray.size_append]; rfl
  have hc : cut1 (⟨#[102]⟩ ++ s) 102 = s := by
    rw [cut1_yes h1]
    apply ByteArray.ext
    apply Array.toList_inj.1
    have e := bts_extract (⟨#[102]⟩ ++ s) 1 (⟨#[102]⟩ ++ s : ByteArray).size
    unfold bts at e hb
    rw [e, hb, hs, List.drop_succ_cons, List.drop_zero]
    exact List.take_of_length_le (by have := bts_length s; unfold bts at this; omega)
  refine ⟨by rw [readF_yes h1 (by rw [hc]; exact h), hc], ?_⟩
  unfold contentV textV at h
  unfold textV
  rw [Bool.and_eq_true, Bool.and_eq_true] at h
  have h40 := of_decide_eq_true h.2
  rw [hb, List.all_cons, h.1.1, List.length_cons]
  simp
  exact ⟨by rfl, by omega⟩
set_option maxHeartbeats 1000000 in
theorem walkFnFileText (A0 : Option Addr) (n0 c0 : Nat) (x0 : List Int) (w : World) (r0 : Rd w 1 A0 n0 (byts x0)) (l0 : n0 ≤ c0) (w0 : ∀ x ∈ x0, (Lit.int .u8 x).wf = true) :
    Calls Try.prog 10 #[.slice A0 n0 c0] w fun e w' => e = .returned (.bool true) ∧ Below w.heap.size w w' := by
  by_cases hb : n0 ≤ 1048576
  · go_enter Try.func10, Try.ntmps10
    go_wp2_with (go_at_call 42; refine (drawFileText _ _ _ x0 _ r0 l0 w0).mono ?_; rintro e w1 ⟨s, rfl, hs, hbel⟩)
    have hsm : s.size ≤ maxLen := by unfold maxLen; omega
    cases hw : contentV (bts s)
    · have HW := Lib.hid hw
      have HT := Lib.hid (fileT_no hw)
      clear hw
      go_wp2_with (first | (go_at_call 29; refine (alive _).mono ?_; rintro e w' ⟨rfl, rfl⟩) | (go_at_call 44; refine (specFileText _ _ hsm).mono ?_; rintro e w' ⟨rfl, rfl⟩; rw [HT.out]) | (go_at_call 43; refine (implFileText _ _ hsm).mono ?_; rintro e w' ⟨rfl, rfl⟩; rw [HT.out]) | (go_at_call 27; refine (specContentValid _ _ hsm).mono ?_; rintro e w' ⟨rfl, rfl⟩; rw [HW.out]))
      go_ret
      exact ⟨rfl, hbel⟩
    · have HR := Lib.hid (file_back hw)
      have hfm : (⟨#[102]⟩ ++ s : ByteArray).size ≤ maxLen := by rw [ByteArray.size_append]; unfold maxLen; show 1 + s.size ≤ _; omega
      have HW := Lib.hid hw
      have HT := Lib.hid (fileT_yes hw)
      clear hw
      go_wp2_with (first | (go_at_call 44; refine (specFileText _ _ hsm).mono ?_; rintro e w' ⟨rfl, rfl⟩; rw [HT.out]) | (go_at_call 43; refine (implFileText _ _ hsm).mono ?_; rintro e w' ⟨rfl, rfl⟩; rw [HT.out]) | (go_at_call 27; refine (specContentValid _ _ hsm).mono ?_; rintro e w' ⟨rfl, rfl⟩; rw [HW.out]) | (go_at_call 45; refine (implReadFile _ _ hfm).mono ?_; rintro e w' ⟨rfl, rfl⟩; rw [HR.out.1]) | (go_at_call 28; refine (implTextValid _ _ hfm).mono ?_; rintro e w' ⟨rfl, rfl⟩; rw [HR.out.2]))
      go_ret
      exact ⟨rfl, hbel⟩
  · go_enter Try.func10, Try.ntmps10
    go_wp2
    go_ret
    exact ⟨rfl, Below.refl _ _⟩

section
set_option maxRecDepth 100000 in
theorem liftedFnFileText (os : Os) (started : os.Started) (H : Type) (enc : TypeId × Value → H) :
    ReturnsInHanded {} Try.checked os 10 .any (Rows.fnFileTextSpec.pre6 enc Try.prog Try.f10 Rows.fnFileTextRow.domain false) (Rows.fnFileTextSpec.post enc Try.prog Try.f10 false true false false) := by
  refine returnsInHanded_of_change (C := Try.checked) own_knobFnFileText started (by kernel_rfl) Try.func10
    (ChangeSpec.witness6 (enc := enc) (C := Try.checked) false ⟨#[], #[.slice none 0 0], []⟩ 8 (by kernel_rfl) (by kernel_rfl) (by kernel_rfl) (by kernel_rfl)) ?_
  intro W base args ds gs before hval0 hW hcnd _
  have hval : ∀ (j : Nat) t v, Try.f10.params[j]? = some t → args[j]? = some v → Value.okWide Try.prog W .any base t v := hval0
  have hW' := hW
  obtain ⟨p, q, hA0, hV, rfl, hfz, hnd⟩ := hW
  have hA : DataW.TrodAll enc Try.prog W 0 (fun _ => true) true Try.f10.params.toList args.toList ds p := hA0
  rw [Try.params10] at hA hval
  obtain ⟨v0, vs0, d0, ds0, p0, q0, hargs, rfl, rfl, h0, t0⟩ := trodAll_cons hA
  obtain ⟨rfl, rfl, rfl⟩ := trodAll_nil t0
  obtain rfl : args = #[v0] := by cases args; simp_all
  obtain ⟨rfl, rfl⟩ := trodVars_none hV
  obtain ⟨A0, n0, c0, rfl⟩ := okWide_slice Try.underlying34 (hval 0 34 v0 rfl rfl)
  have lt0 : ∀ x ∈ p0, x.block < W.heap.size := by obtain ⟨m, hm⟩ := h0; exact DataW.trod_lt m _ _ _ hm
  obtain ⟨l0, _, x0, r0, w0⟩ := open_rd_num Try.underlying34 Try.underlying5 (by kernel_rfl) h0
  clear hA0 hval0
  refine (walkFnFileText A0 n0 c0 x0 W r0 l0 w0).mono fun e W' ⟨he, bel⟩ => ?_
  subst he
  exact ⟨_, rfl, _, _, _, [], _, [], hW', trodAll_mk1 (shut_bool Try.underlying4 _), (trodAll_cons_mk (Below.trod laid_outFnFileText (by kernel_rfl) (of_decide_eq_true (by kernel_rfl)) h0 bel lt0) trodAll_mk0), rfl, bel.frame _, fun h => by cases h⟩

theorem overFnFileText : Rows.fnFileTextRow.holds Try.pinned (OpenSpec.ofChange Rows.fnFileTextSpec) :=
  OpenClaim.holds_of_wide 10 Try.f10 rfl rfl rfl rfl rfl rfl rfl ⟨rfl, rfl, rfl, rfl, rfl⟩ rfl rfl rfl rfl rfl (by kernel_rfl) Try.func10 (by kernel_rfl)
    (of_decide_eq_true (by kernel_rfl)) (by unfold Func.isWrapper; first | (rw [if_pos (by decide +kernel)]; kernel_rfl) | (rw [if_neg (by decide +kernel)]; exact ⟨rfl, rfl⟩))
    (fun os started H enc _ => liftedFnFileText os started H enc)

theorem provedFnFileText : Rows.FnFileTextSaid := overFnFileText
end
end Go.Proofs.Ytnbdhmjgckomcaa
