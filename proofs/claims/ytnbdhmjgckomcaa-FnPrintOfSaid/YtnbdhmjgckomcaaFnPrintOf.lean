/- The law FnPrintOf: For every input the law returns true, and its arguments read as before. Conditions: none. -/
import Derived.Test.YtnbdhmjgckomcaaRows
import Derived.Test.YtnbdhmjgckomcaaDraw4
import Derived.Test.YtnbdhmjgckomcaaPlain
import Derived.Test.YtnbdhmjgckomcaaOpen
open Go.RowKit Go.ChangeShapes Go.WideShapes Go.ChangeAt
open Go.ChangeMaps (open_string shut_string)
set_option linter.unusedVariables false
namespace Go.Proofs.Ytnbdhmjgckomcaa
theorem own_knobFnPrintOf : ownKnob Try.prog.godebug = none := by kernel_rfl
theorem laid_outFnPrintOf : laidOutB Try.prog = true := by kernel_rfl
theorem print_snoc (s : ByteArray) (c : UInt8) : printTo (bts (s ++ ⟨#[c]⟩)) = (printTo (bts s) * 257 + (c.toNat : Int)) % 16777213 := by
  rw [← printTo_append]
  unfold bts
  rw [ByteArray.data_append, Array.toList_append]
theorem text_snoc {s : ByteArray} {c : UInt8} (hc : textB c = true) (h : textV (bts s) = true) (hl : s.size < 60) : textV (bts (s ++ ⟨#[c]⟩)) = true := by
  unfold textV at h ⊢
  have hb : bts (s ++ ⟨#[c]⟩) = bts s ++ [c] := by unfold bts; rw [ByteArray.data_append, Array.toList_append]
  rw [Bool.and_eq_true] at h
  rw [hb, List.all_append, h.1, List.length_append, bts_length]
  simp [hc]
  omega
theorem print_differ {s : ByteArray} (h : textV (bts s) = true) (hl : s.size < 60) : ¬ printP (s ++ ⟨#[97]⟩) = printP (s ++ ⟨#[98]⟩) := by
  rw [printP_yes (text_snoc (by rfl) h hl), printP_yes (text_snoc (by rfl) h hl), print_snoc, print_snoc]
  intro e
  have h1 : (((97 : UInt8).toNat : Int)) = 97 := rfl
  have h2 : (((98 : UInt8).toNat : Int)) = 98 := rfl
  rw [h1, h2, Int.add_comm _ 97, Int.add_comm _ 98] at e
  have := add_cancel_mod e
  omega
theorem printP_bd (s : ByteArray) : -1 ≤ printP s ∧ printP s ≤ 16777212 := by
  unfold printP
  have := printTo_bd (bts s)
  split <;> omega
theorem printP_text {s : ByteArray} (h : 0 ≤ printP s) : textV (bts s) = true := by
  cases ht : textV (bts s)
  · rw [printP_no ht] at h; omega
  · rfl
theorem text_le {s : ByteArray} (h : textV (bts s) = true) : s.size ≤ 60 := by
  unfold textV at h
  rw [Bool.and_eq_true, bts_length] at h
  exact of_decide_eq_true h.2
set_option maxHeartbeats 1000000 in
theorem walkFnPrintOf (A0 : Option Addr) (n0 c0 : Nat) (x0 : List Int) (w : World) (r0 : Rd w 1 A0 n0 (byts x0)) (l0 : n0 ≤ c0) (w0 : ∀ x ∈ x0, (Lit.int .u8 x).wf = true) :
    Calls Try.prog 7 #[.slice A0 n0 c0] w fun e w' => e = .returned (.bool true) ∧ Below w.heap.size w w' := by
  by_cases hb : n0 ≤ 1048576
  · go_enter Try.func7, Try.ntmps7
    go_wp2_with (go_at_call 33; refine (drawPrintOf _ _ _ x0 _ r0 l0 w0).mono ?_; rintro e w1 ⟨s, rfl, hs, hbel⟩)
    have hsm : s.size ≤ maxLen := by unfold maxLen; omega
    have hsa : (s ++ ⟨#[97]⟩).size ≤ maxLen := by rw [ByteArray.size_append]; unfold maxLen; show s.size + 1 ≤ _; omega
    have hsb : (s ++ ⟨#[98]⟩).size ≤ maxLen := by rw [ByteArray.size_append]; unfold maxLen; show s.size + 1 ≤ _; omega
    obtain ⟨p0, p1⟩ := printP_bd s
    by_cases hneg : printP s < 0
    · generalize hp : printP s = p at *
      have HP := Lib.hid hp
      clear hp
      go_wp2_with (first | (go_at_call 29; refine (alive _).mono ?_; rintro e w' ⟨rfl, rfl⟩) | (go_at_call 35; refine (specPrintOf _ _ hsm).mono ?_; rintro e w' ⟨rfl, rfl⟩; rw [HP.out]) | (go_at_call 34; refine (implPrintOf _ _ hsm).mono ?_; rintro e w' ⟨rfl, rfl⟩; rw [HP.out]))
      all_goals
        go_ret
        exact ⟨rfl, hbel⟩
    · have ht := printP_text (show 0 ≤ printP s by omega)
      have h60 := text_le ht
      by_cases hl : s.size = 60
      · generalize hp : printP s = p at *
        have HP := Lib.hid hp
        have hl' : ((s.size : Int) == 60) = true := by simp; omega
        clear hp ht
        go_wp2_with (first | (go_at_call 29; refine (alive _).mono ?_; rintro e w' ⟨rfl, rfl⟩) | (go_at_call 35; refine (specPrintOf _ _ hsm).mono ?_; rintro e w' ⟨rfl, rfl⟩; rw [HP.out]) | (go_at_call 34; refine (implPrintOf _ _ hsm).mono ?_; rintro e w' ⟨rfl, rfl⟩; rw [HP.out]))
        all_goals
          go_ret
          exact ⟨rfl, hbel⟩
      · have hl' : ((s.size : Int) == 60) = false := by simp; omega
        have hd := print_differ ht (by omega)
        generalize hp : printP s = p at *
        generalize hqa : printP (s ++ ⟨#[97]⟩) = qa at *
        generalize hqb : printP (s ++ ⟨#[98]⟩) = qb at *
        have HP := Lib.hid hp
        have HA := Lib.hid hqa
        have HB := Lib.hid hqb
        clear hp ht hqa hqb
        go_wp2_with (first | (go_at_call 29; refine (alive _).mono ?_; rintro e w' ⟨rfl, rfl⟩) | (go_at_call 35; refine (specPrintOf _ _ hsm).mono ?_; rintro e w' ⟨rfl, rfl⟩; rw [HP.out]) | (go_at_call 34; refine (implPrintOf _ _ (by first | exact hsa | exact hsb | exact hsm)).mono ?_; rintro e w' ⟨rfl, rfl⟩; first | rw [HA.out] | rw [HB.out] | rw [HP.out]))
        all_goals
          go_ret
          exact ⟨ret_bool (by simp [hd]), hbel⟩
  · go_enter Try.func7, Try.ntmps7
    go_wp2
    go_ret
    exact ⟨rfl, Below.refl _ _⟩

section
set_option maxRecDepth 100000 in
theorem liftedFnPrintOf (os : Os) (started : os.Started) (H : Type) (enc : TypeId × Value → H) :
    ReturnsInHanded {} Try.checked os 7 .any (Rows.fnPrintOfSpec.pre6 enc Try.prog Try.f7 Rows.fnPrintOfRow.domain false) (Rows.fnPrintOfSpec.post enc Try.prog Try.f7 false true false false) := by
  refine returnsInHanded_of_change (C := Try.checked) own_knobFnPrintOf started (by kernel_rfl) Try.func7
    (ChangeSpec.witness6 (enc := enc) (C := Try.checked) false ⟨#[], #[.slice none 0 0], []⟩ 8 (by kernel_rfl) (by kernel_rfl) (by kernel_rfl) (by kernel_rfl)) ?_
  intro W base args ds gs before hval0 hW hcnd _
  have hval : ∀ (j : Nat) t v, Try.f7.params[j]? = some t → args[j]? = some v → Value.okWide Try.prog W .any base t v := hval0
  have hW' := hW
  obtain ⟨p, q, hA0, hV, rfl, hfz, hnd⟩ := hW
  have hA : DataW.TrodAll enc Try.prog W 0 (fun _ => true) true Try.f7.params.toList args.toList ds p := hA0
  rw [Try.params7] at hA hval
  obtain ⟨v0, vs0, d0, ds0, p0, q0, hargs, rfl, rfl, h0, t0⟩ := trodAll_cons hA
  obtain ⟨rfl, rfl, rfl⟩ := trodAll_nil t0
  obtain rfl : args = #[v0] := by cases args; simp_all
  obtain ⟨rfl, rfl⟩ := trodVars_none hV
  obtain ⟨A0, n0, c0, rfl⟩ := okWide_slice Try.underlying34 (hval 0 34 v0 rfl rfl)
  have lt0 : ∀ x ∈ p0, x.block < W.heap.size := by obtain ⟨m, hm⟩ := h0; exact DataW.trod_lt m _ _ _ hm
  obtain ⟨l0, _, x0, r0, w0⟩ := open_rd_num Try.underlying34 Try.underlying5 (by kernel_rfl) h0
  clear hA0 hval0
  refine (walkFnPrintOf A0 n0 c0 x0 W r0 l0 w0).mono fun e W' ⟨he, bel⟩ => ?_
  subst he
  exact ⟨_, rfl, _, _, _, [], _, [], hW', trodAll_mk1 (shut_bool Try.underlying4 _), (trodAll_cons_mk (Below.trod laid_outFnPrintOf (by kernel_rfl) (of_decide_eq_true (by kernel_rfl)) h0 bel lt0) trodAll_mk0), rfl, bel.frame _, fun h => by cases h⟩

theorem overFnPrintOf : Rows.fnPrintOfRow.holds Try.pinned (OpenSpec.ofChange Rows.fnPrintOfSpec) :=
  OpenClaim.holds_of_wide 7 Try.f7 rfl rfl rfl rfl rfl rfl rfl ⟨rfl, rfl, rfl, rfl, rfl⟩ rfl rfl rfl rfl rfl (by kernel_rfl) Try.func7 (by kernel_rfl)
    (of_decide_eq_true (by kernel_rfl)) (by unfold Func.isWrapper; first | (rw [if_pos (by decide +kernel)]; kernel_rfl) | (rw [if_neg (by decide +kernel)]; exact ⟨rfl, rfl⟩))
    (fun os started H enc _ => liftedFnPrintOf os started H enc)

theorem provedFnPrintOf : Rows.FnPrintOfSaid := overFnPrintOf
end
end Go.Proofs.Ytnbdhmjgckomcaa
