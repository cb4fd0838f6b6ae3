/- The law FnReadFile: For every input the law returns true, and its arguments read as before. Conditions: none. -/
import Derived.Test.YtnbdhmjgckomcaaRows
import Derived.Test.YtnbdhmjgckomcaaDraw5
import Derived.Test.YtnbdhmjgckomcaaFiles
import Derived.Test.YtnbdhmjgckomcaaOpen
open Go.RowKit Go.ChangeShapes Go.WideShapes Go.ChangeAt
open Go.ChangeMaps (open_string shut_string)
set_option linter.unusedVariables false
namespace Go.Proofs.Ytnbdhmjgckomcaa
theorem own_knobFnReadFile : ownKnob Try.prog.godebug = none := by kernel_rfl
theorem laid_outFnReadFile : laidOutB Try.prog = true := by kernel_rfl
theorem readF_back {s : ByteArray} (h : (head1 s 102 && contentV (bts (cut1 s 102))) = true) : readF s = (cut1 s 102, true) ∧ fileT (cut1 s 102) = s ∧ contentV (bts (cut1 s 102)) = true := by
  rw [Bool.and_eq_true] at h
  refine ⟨readF_yes h.1 h.2, ?_, h.2⟩
  rw [fileT_yes h.2, cut1_yes h.1]
  have hh := h.1
  unfold head1 at hh
  have hh' := of_decide_eq_true hh
  refine ByteArray.ext (Array.toList_inj.1 ?_)
  rw [ByteArray.data_append, Array.toList_append]
  show [102] ++ bts (s.extract 1 s.size) = bts s
  rw [bts_extract]
  have hl := bts_length s
  cases hb : bts s with
  | nil => rw [hb] at hh'; cases hh'
  | cons x l =>
    rw [hb] at hh' hl
    injection hh' with hx
    subst hx
    rw [List.length_cons] at hl
    rw [List.drop_succ_cons, List.drop_zero, List.take_of_length_le (by omega)]
    rfl
set_option maxHeartbeats 1000000 in
theorem walkFnReadFile (A0 : Option Addr) (n0 c0 : Nat) (x0 : List Int) (w : World) (r0 : Rd w 1 A0 n0 (byts x0)) (l0 : n0 ≤ c0) (w0 : ∀ x ∈ x0, (Lit.int .u8 x).wf = true) :
    Calls Try.prog 11 #[.slice A0 n0 c0] w fun e w' => e = .returned (.bool true) ∧ Below w.heap.size w w' := by
  by_cases hb : n0 ≤ 1048576
  · go_enter Try.func11, Try.ntmps11
    go_wp2_with (go_at_call 46; refine (drawReadFile _ _ _ x0 _ r0 l0 w0).mono ?_; rintro e w1 ⟨s, rfl, hs, hbel⟩)
    have hsm : s.size ≤ maxLen := by unfold maxLen; omega
    have hxm : (cut1 s 102).size ≤ maxLen := Nat.le_trans (cut1_size s 102) hsm
    cases hw : (head1 s 102 && contentV (bts (cut1 s 102)))
    · have HR := Lib.hid (readF_no hw)
      clear hw hxm
      go_wp2_with (first | (go_at_call 29; refine (alive _).mono ?_; rintro e w' ⟨rfl, rfl⟩) | (go_at_call 47; refine (specReadFile _ _ hsm).mono ?_; rintro e w' ⟨rfl, rfl⟩; rw [HR.out]) | (go_at_call 45; refine (implReadFile _ _ hsm).mono ?_; rintro e w' ⟨rfl, rfl⟩; rw [HR.out]))
      go_ret
      exact ⟨rfl, hbel⟩
    · have HR := Lib.hid (readF_back hw)
      clear hw
      generalize cut1 s 102 = x at *
      go_wp2_with (first | (go_at_call 47; refine (specReadFile _ _ hsm).mono ?_; rintro e w' ⟨rfl, rfl⟩; rw [HR.out.1]) | (go_at_call 45; refine (implReadFile _ _ hsm).mono ?_; rintro e w' ⟨rfl, rfl⟩; rw [HR.out.1]) | (go_at_call 43; refine (implFileText _ _ hxm).mono ?_; rintro e w' ⟨rfl, rfl⟩; rw [HR.out.2.1]) | (go_at_call 26; refine (implContentValid _ _ hxm).mono ?_; rintro e w' ⟨rfl, rfl⟩; rw [HR.out.2.2]))
      go_ret
      exact ⟨rfl, hbel⟩
  · go_enter Try.func11, Try.ntmps11
    go_wp2
    go_ret
    exact ⟨rfl, Below.refl _ _⟩

section
set_option maxRecDepth 100000 in
theorem liftedFnReadFile (os : Os) (started : os.Started) (H : Type) (enc : TypeId × Value → H) :
    ReturnsInHanded {} Try.checked os 11 .any (Rows.fnReadFileSpec.pre6 enc Try.prog Try.f11 Rows.fnReadFileRow.domain false) (Rows.fnReadFileSpec.post enc Try.prog Try.f11 false true false false) := by
  refine returnsInHanded_of_change (C := Try.checked) own_knobFnReadFile started (by kernel_rfl) Try.func11
    (ChangeSpec.witness6 (enc := enc) (C := Try.checked) false ⟨#[], #[.slice none 0 0], []⟩ 8 (by kernel_rfl) (by kernel_rfl) (by kernel_rfl) (by kernel_rfl)) ?_
  intro W base args ds gs before hval0 hW hcnd _
  have hval : ∀ (j : Nat) t v, Try.f11.params[j]? = some t → args[j]? = some v → Value.okWide Try.prog W .any base t v := hval0
  have hW' := hW
  obtain ⟨p, q, hA0, hV, rfl, hfz, hnd⟩ := hW
  have hA : DataW.TrodAll enc Try.prog W 0 (fun _ => true) true Try.f11.params.toList args.toList ds p := hA0
  rw [Try.params11] at hA hval
  obtain ⟨v0, vs0, d0, ds0, p0, q0, hargs, rfl, rfl, h0, t0⟩ := trodAll_cons hA
  obtain ⟨rfl, rfl, rfl⟩ := trodAll_nil t0
  obtain rfl : args = #[v0] := by cases args; simp_all
  obtain ⟨rfl, rfl⟩ := trodVars_none hV
  obtain ⟨A0, n0, c0, rfl⟩ := okWide_slice Try.underlying34 (hval 0 34 v0 rfl rfl)
  have lt0 : ∀ x ∈ p0, x.block < W.heap.size := by obtain ⟨m, hm⟩ := h0; exact DataW.trod_lt m _ _ _ hm
  obtain ⟨l0, _, x0, r0, w0⟩ := open_rd_num Try.underlying34 Try.underlying5 (by kernel_rfl) h0
  clear hA0 hval0
  refine (walkFnReadFile A0 n0 c0 x0 W r0 l0 w0).mono fun e W' ⟨he, bel⟩ => ?_
  subst he
  exact ⟨_, rfl, _, _, _, [], _, [], hW', trodAll_mk1 (shut_bool Try.underlying4 _), (trodAll_cons_mk (Below.trod laid_outFnReadFile (by kernel_rfl) (of_decide_eq_true (by kernel_rfl)) h0 bel lt0) trodAll_mk0), rfl, bel.frame _, fun h => by cases h⟩

theorem overFnReadFile : Rows.fnReadFileRow.holds Try.pinned (OpenSpec.ofChange Rows.fnReadFileSpec) :=
  OpenClaim.holds_of_wide 11 Try.f11 rfl rfl rfl rfl rfl rfl rfl ⟨rfl, rfl, rfl, rfl, rfl⟩ rfl rfl rfl rfl rfl (by kernel_rfl) Try.func11 (by kernel_rfl)
    (of_decide_eq_true (by kernel_rfl)) (by unfold Func.isWrapper; first | (rw [if_pos (by decide +kernel)]; kernel_rfl) | (rw [if_neg (by decide +kernel)]; exact ⟨rfl, rfl⟩))
    (fun os started H enc _ => liftedFnReadFile os started H enc)

theorem provedFnReadFile : Rows.FnReadFileSaid := overFnReadFile
end
end Go.Proofs.Ytnbdhmjgckomcaa
