/- The law FnPrintList: For every input the law returns true, and its arguments read as before. Conditions: none. -/
import Derived.Test.YtnbdhmjgckomcaaRows
import Derived.Test.YtnbdhmjgckomcaaPrints
import Derived.Test.YtnbdhmjgckomcaaAppend2
import Derived.Test.YtnbdhmjgckomcaaOpen
open Go.RowKit Go.ChangeShapes Go.WideShapes Go.ChangeAt
open Go.ChangeMaps (open_string shut_string)
set_option linter.unusedVariables false
namespace Go.Proofs.Ytnbdhmjgckomcaa
theorem own_knobFnPrintList : ownKnob Try.prog.godebug = none := by kernel_rfl
theorem laid_outFnPrintList : laidOutB Try.prog = true := by kernel_rfl
theorem listP_bd (xs : List Int) : -1 ≤ listP xs ∧ listP xs ≤ 16777212 := by
  unfold listP
  split
  · omega
  · cases h : xs.all printB
    · rw [pairTo_bad h]; omega
    · have := pairTo_ok h; omega
theorem listP_more {xs : List Int} (h : 0 ≤ listP xs) (hl : ¬ xs.length = 20) : listP (xs ++ [7]) = pairP (listP xs) 7 := by
  have h20 : ¬ 20 < xs.length := fun h' => by rw [listP_big h'] at h; omega
  rw [listP_small h20, ← pairTo_snoc, listP_small (by rw [List.length_append]; simp; omega)]
set_option maxHeartbeats 1000000 in
theorem walkFnPrintList (A0 : Option Addr) (n0 c0 : Nat) (x0 : List Int) (w : World) (r0 : Rd w 1 A0 n0 (byts x0)) (l0 : n0 ≤ c0) (w0 : ∀ x ∈ x0, (Lit.int .u8 x).wf = true) :
    Calls Try.prog 12 #[.slice A0 n0 c0] w fun e w' => e = .returned (.bool true) ∧ Below w.heap.size w w' := by
  by_cases hb : n0 ≤ 1048576
  · go_enter Try.func12, Try.ntmps12
    go_wp2_with fail
    refine (drawPrintList _ _ _ x0 _ r0 l0 w0).mono ?_
    rintro e w1 ⟨v, k, ys, rfl, hk, hown, hbel⟩
    obtain ⟨A, c, rfl, _⟩ := own_slice hown
    have hr := Rd.own hown
    have HY := Lib.hid hr.intLen
    obtain ⟨p0, p1⟩ := listP_bd ys
    by_cases hneg : listP ys < 0
    · generalize hp : listP ys = p at *
      have HP := Lib.hid hp
      clear hp
      go_wp2_with (first | (go_at_call 29; refine (alive _).mono ?_; rintro e w' ⟨rfl, rfl⟩) | (go_at_call 50; refine (specPrintList _ _ _ ys _ hr (by omega)).mono ?_; rintro e w' ⟨rfl, rfl⟩; rw [HP.out]) | (go_at_call 49; refine (implPrintList _ _ _ ys _ hr (by omega)).mono ?_; rintro e w' ⟨rfl, rfl⟩; rw [HP.out]))
      all_goals
        go_ret
        exact ⟨rfl, hbel⟩
    · by_cases h20 : k = 20
      · have h20' : ((k : Int) == 20) = true := by simp; omega
        generalize hp : listP ys = p at *
        have HP := Lib.hid hp
        clear hp h20
        go_wp2_with (first | (go_at_call 29; refine (alive _).mono ?_; rintro e w' ⟨rfl, rfl⟩) | (go_at_call 50; refine (specPrintList _ _ _ ys _ hr (by omega)).mono ?_; rintro e w' ⟨rfl, rfl⟩; rw [HP.out]) | (go_at_call 49; refine (implPrintList _ _ _ ys _ hr (by omega)).mono ?_; rintro e w' ⟨rfl, rfl⟩; rw [HP.out]))
        all_goals
          go_ret
          exact ⟨rfl, hbel⟩
      · have h20' : ((k : Int) == 20) = false := by simp; omega
        have HM := Lib.hid (listP_more (xs := ys) (by omega) (by rw [HY.out]; exact h20))
        generalize hp : listP ys = p at *
        have HP := Lib.hid hp
        clear hp h20
        have hsz := hbel.size
        go_wp2_with (first | (go_at_call 50; refine (specPrintList _ _ _ ys _ hr (by omega)).mono ?_; rintro e w' ⟨rfl, rfl⟩; rw [HP.out]) | (go_at_call_of 49 A; refine (implPrintList _ _ _ ys _ hr (by omega)).mono ?_; rintro e w' ⟨rfl, rfl⟩; rw [HP.out]) | (go_at_call_of 49 A3; refine (implPrintList _ _ _ (ys ++ [7]) _ (Rd.own hown3) (by omega)).mono ?_; rintro e w' ⟨rfl, rfl⟩; rw [HM.out]) | (at_builtin; refine wpList_appS _ rfl (.tmp 28) (.tmp 29) _ rfl w1.heap.size 3 1 8 (.int .i64 0) Try.underlying29 int_info rfl (by omega) (by omega) _ 0 _ rfl (own_empty w1 3 1) A k c (ints ys) rfl (hr.alloc _) (ints_one _) (by omega) (by simp) ?_; intro v2 w2 hown2 hg2 _; have hb2 : Below w1.heap.size w1 w2 := below_app ((Below.refl _ _).alloc (Nat.le_refl _) _) (own_empty w1 3 1) hg2 (by simp); rw [List.nil_append, Nat.zero_add] at hown2) | (at_builtin; refine wpList_app1 _ rfl (.tmp 30) (.tmp 31) _ rfl w1.heap.size 3 1 8 (.int .i64 0) Try.underlying29 int_info rfl (by omega) (by omega) _ k _ rfl hown2 _ rfl (one_int _) rfl (by omega) hb2.size ?_; intro v3 w3 hown3 hg3 _; have hb3 := below_app hb2 hown2 hg3 hb2.size; rw [show ints ys ++ (#[Value.int .i64 7] : Array Value).toList = ints (ys ++ [7]) from by simp [ints]] at hown3; obtain ⟨A3, c3, rfl, _⟩ := own_slice hown3) | (go_at_call 51; refine (implPrintPair _ _ _).mono ?_; rintro e w' ⟨rfl, rfl⟩))
        go_ret
        exact ⟨ret_bool (by simp), below_step hbel hb3⟩
  · go_enter Try.func12, Try.ntmps12
    go_wp2
    go_ret
    exact ⟨rfl, Below.refl _ _⟩

section
set_option maxRecDepth 100000 in
theorem liftedFnPrintList (os : Os) (started : os.Started) (H : Type) (enc : TypeId × Value → H) :
    ReturnsInHanded {} Try.checked os 12 .any (Rows.fnPrintListSpec.pre6 enc Try.prog Try.f12 Rows.fnPrintListRow.domain false) (Rows.fnPrintListSpec.post enc Try.prog Try.f12 false true false false) := by
  refine returnsInHanded_of_change (C := Try.checked) own_knobFnPrintList started (by kernel_rfl) Try.func12
    (ChangeSpec.witness6 (enc := enc) (C := Try.checked) false ⟨#[], #[.slice none 0 0], []⟩ 8 (by kernel_rfl) (by kernel_rfl) (by kernel_rfl) (by kernel_rfl)) ?_
  intro W base args ds gs before hval0 hW hcnd _
  have hval : ∀ (j : Nat) t v, Try.f12.params[j]? = some t → args[j]? = some v → Value.okWide Try.prog W .any base t v := hval0
  have hW' := hW
  obtain ⟨p, q, hA0, hV, rfl, hfz, hnd⟩ := hW
  have hA : DataW.TrodAll enc Try.prog W 0 (fun _ => true) true Try.f12.params.toList args.toList ds p := hA0
  rw [Try.params12] at hA hval
  obtain ⟨v0, vs0, d0, ds0, p0, q0, hargs, rfl, rfl, h0, t0⟩ := trodAll_cons hA
  obtain ⟨rfl, rfl, rfl⟩ := trodAll_nil t0
  obtain rfl : args = #[v0] := by cases args; simp_all
  obtain ⟨rfl, rfl⟩ := trodVars_none hV
  obtain ⟨A0, n0, c0, rfl⟩ := okWide_slice Try.underlying34 (hval 0 34 v0 rfl rfl)
  have lt0 : ∀ x ∈ p0, x.block < W.heap.size := by obtain ⟨m, hm⟩ := h0; exact DataW.trod_lt m _ _ _ hm
  obtain ⟨l0, _, x0, r0, w0⟩ := open_rd_num Try.underlying34 Try.underlying5 (by kernel_rfl) h0
  clear hA0 hval0
  refine (walkFnPrintList A0 n0 c0 x0 W r0 l0 w0).mono fun e W' ⟨he, bel⟩ => ?_
  subst he
  exact ⟨_, rfl, _, _, _, [], _, [], hW', trodAll_mk1 (shut_bool Try.underlying4 _), (trodAll_cons_mk (Below.trod laid_outFnPrintList (by kernel_rfl) (of_decide_eq_true (by kernel_rfl)) h0 bel lt0) trodAll_mk0), rfl, bel.frame _, fun h => by cases h⟩

theorem overFnPrintList : Rows.fnPrintListRow.holds Try.pinned (OpenSpec.ofChange Rows.fnPrintListSpec) :=
  OpenClaim.holds_of_wide 12 Try.f12 rfl rfl rfl rfl rfl rfl rfl ⟨rfl, rfl, rfl, rfl, rfl⟩ rfl rfl rfl rfl rfl (by kernel_rfl) Try.func12 (by kernel_rfl)
    (of_decide_eq_true (by kernel_rfl)) (by unfold Func.isWrapper; first | (rw [if_pos (by decide +kernel)]; kernel_rfl) | (rw [if_neg (by decide +kernel)]; exact ⟨rfl, rfl⟩))
    (fun os started H enc _ => liftedFnPrintList os started H enc)

theorem provedFnPrintList : Rows.FnPrintListSaid := overFnPrintList
end
end Go.Proofs.Ytnbdhmjgckomcaa
