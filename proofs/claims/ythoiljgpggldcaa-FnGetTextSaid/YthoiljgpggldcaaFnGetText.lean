/- The law FnGetText: For every input the law returns true, and its arguments read as before. Conditions: none. -/
import Derived.Test.YthoiljgpggldcaaRows
import Derived.Test.YthoiljgpggldcaaM16
import Derived.Test.YthoiljgpggldcaaGetT
import Derived.Test.YthoiljgpggldcaaM4
open Go.RowKit Go.ChangeShapes Go.WideShapes Go.ChangeAt
open Go.ChangeMaps (open_string shut_string)
set_option linter.unusedVariables false
namespace Go.Proofs.Ythoiljgpggldcaa
theorem own_knobFnGetText : ownKnob Try.prog.godebug = none := by kernel_rfl
theorem laid_outFnGetText : laidOutB Try.prog = true := by kernel_rfl
theorem getT_print {xs : List (Int × ByteArray)} {t : Int} (h : (getT xs t).2 = true) : printP (getT xs t).1 = t := by
  unfold getT at h ⊢
  split
  · rename_i hv
    rw [if_pos hv] at h
    have key : ∀ ys : List (Int × ByteArray), (∀ x ∈ ys, pieceOk x = true) → (getL t ys).2 = true → printP (getL t ys).1 = t := by
      intro ys
      induction ys with
      | nil => intro _ h; cases h
      | cons x r ih =>
        intro hx h
        unfold getL at h ⊢
        split
        · rename_i e
          have := hx x (List.mem_cons_self ..)
          unfold pieceOk at this
          rw [Bool.and_eq_true, beq_iff_eq] at this
          rw [← e]
          exact this.2
        · rename_i e
          rw [if_neg e] at h
          exact ih (fun y hy => hx y (List.mem_cons_of_mem _ hy)) h
    exact key xs (gd_all hv) h
  · rename_i hv
    rw [if_neg hv] at h
    cases h
theorem getT_none {xs : List (Int × ByteArray)} {t : Int} (h : (getT xs t).2 = false) : (getT xs t).1 = ⟨#[]⟩ := by
  unfold getT at h ⊢
  split
  · rename_i hv
    rw [if_pos hv] at h
    have key : ∀ ys : List (Int × ByteArray), (getL t ys).2 = false → (getL t ys).1 = ⟨#[]⟩ := by
      intro ys
      induction ys with
      | nil => intro _; rfl
      | cons x r ih =>
        intro h
        unfold getL at h ⊢
        split
        · rename_i e
          rw [if_pos e] at h
          cases h
        · rename_i e
          rw [if_neg e] at h
          exact ih h
    exact key xs h
  · rfl
theorem getT_size {xs : List (Int × ByteArray)} {t : Int} (h : ∀ x ∈ xs, x.2.size ≤ 60) : (getT xs t).1.size ≤ 60 := by
  unfold getT
  split
  · have key : ∀ ys : List (Int × ByteArray), (∀ x ∈ ys, x.2.size ≤ 60) → (getL t ys).1.size ≤ 60 := by
      intro ys
      induction ys with
      | nil => intro _; exact Nat.zero_le _
      | cons x r ih =>
        intro hx
        unfold getL
        split
        · exact hx x (List.mem_cons_self ..)
        · exact ih (fun y hy => hx y (List.mem_cons_of_mem _ hy))
    exact key xs h
  · exact Nat.zero_le _
set_option maxHeartbeats 1000000 in
set_option maxRecDepth 8000 in
theorem walkFnGetText (A0 : Option Addr) (n0 c0 : Nat) (x0 : List Int) (w : World) (r0 : Rd w 1 A0 n0 (byts x0)) (l0 : n0 ≤ c0) (w0 : ∀ x ∈ x0, (Lit.int .u8 x).wf = true) :
    Calls Try.prog 4 #[.slice A0 n0 c0] w fun e w' => e = .returned (.bool true) ∧ Below w.heap.size w w' := by
  by_cases hb : n0 ≤ 1048576
  · go_enter Try.func4, Try.ntmps4
    go_wp2_with fail
    refine (drawGetText _ _ _ x0 _ r0 l0 w0).mono ?_
    rintro e w1 ⟨v, es, t, rfl, ⟨hes, hel, hs⟩, hst, hbel⟩
    obtain ⟨g, c, rfl, hgb, hr, hnc, _⟩ := hst
    have HS : Hid (∀ x ∈ es, x.2.size ≤ maxLen) := Lib.hid (fun x hx => Nat.le_trans (hs x hx) (by unfold maxLen; omega))
    have HGT : ∃ s ok, Hid (getT es t = (s, ok)) := ⟨_, _, Lib.hid rfl⟩
    obtain ⟨s, ok, HGT⟩ := HGT
    have hss : s.size ≤ maxLen := by
      have := getT_size (t := t) hs
      rw [HGT.out] at this
      exact Nat.le_trans this (by unfold maxLen; omega)
    clear hs hes
    generalize hly : es.length = n at *
    have HLY := Lib.hid hly
    clear hly
    go_wp2_with fail
    refine (implGetText _ _ _ t es _ hr HS.out (by omega)).mono ?_
    rintro e w2 ⟨rfl, hb2⟩
    have hB2 := below_step hbel hb2
    rw [HGT.out]
    go_wp2_with fail
    refine (specGetText _ _ _ t es _ (hr.below hb2) HS.out (by omega)).mono ?_
    rintro e w3 ⟨rfl, hb3⟩
    have hB3 := below_step hB2 hb3
    rw [HGT.out]
    have e0 : (s.toList != s.toList) = false := by simp
    have e1 : (s.toList == s.toList) = true := by simp
    cases ok
    · have hs0 : s = ⟨#[]⟩ := by
        have := getT_none (xs := es) (t := t) (by rw [HGT.out])
        rw [HGT.out] at this
        exact this
      have HN : Hid ((s.toList == []) = true) := Lib.hid (by rw [hs0, Lib.toList_data]; rfl)
      clear hs0
      have hn := HN.out
      go_wp2_with (go_at_call 8; refine (alive _).mono ?_; rintro e w' ⟨rfl, rfl⟩)
      go_ret
      exact ⟨rfl, hB3⟩
    · have HP : Hid (printP s = t) := Lib.hid (by
        have := getT_print (xs := es) (t := t) (by rw [HGT.out])
        rw [HGT.out] at this
        exact this)
      have hp : (printP s == t) = true := by rw [HP.out]; simp
      go_wp2_with (go_at_call 12; refine (implPrintOf s _ hss).mono ?_; rintro e w' ⟨rfl, rfl⟩)
      go_ret
      exact ⟨rfl, hB3⟩
  · go_enter Try.func4, Try.ntmps4
    go_wp2
    go_ret
    exact ⟨rfl, Below.refl _ _⟩

section
set_option maxRecDepth 100000 in
theorem liftedFnGetText (os : Os) (started : os.Started) (H : Type) (enc : TypeId × Value → H) :
    ReturnsInHanded {} Try.checked os 4 .any (Rows.fnGetTextSpec.pre6 enc Try.prog Try.f4 Rows.fnGetTextRow.domain false) (Rows.fnGetTextSpec.post enc Try.prog Try.f4 false true false false) := by
  refine returnsInHanded_of_change (C := Try.checked) own_knobFnGetText started (by kernel_rfl) Try.func4
    (ChangeSpec.witness6 (enc := enc) (C := Try.checked) false ⟨#[], #[.slice none 0 0], []⟩ 8 (by kernel_rfl) (by kernel_rfl) (by kernel_rfl) (by kernel_rfl)) ?_
  intro W base args ds gs before hval0 hW hcnd _
  have hval : ∀ (j : Nat) t v, Try.f4.params[j]? = some t → args[j]? = some v → Value.okWide Try.prog W .any base t v := hval0
  have hW' := hW
  obtain ⟨p, q, hA0, hV, rfl, hfz, hnd⟩ := hW
  have hA : DataW.TrodAll enc Try.prog W 0 (fun _ => true) true Try.f4.params.toList args.toList ds p := hA0
  rw [Try.params4] at hA hval
  obtain ⟨v0, vs0, d0, ds0, p0, q0, hargs, rfl, rfl, h0, t0⟩ := trodAll_cons hA
  obtain ⟨rfl, rfl, rfl⟩ := trodAll_nil t0
  obtain rfl : args = #[v0] := by cases args; simp_all
  obtain ⟨rfl, rfl⟩ := trodVars_none hV
  obtain ⟨A0, n0, c0, rfl⟩ := okWide_slice Try.underlying22 (hval 0 22 v0 rfl rfl)
  have lt0 : ∀ x ∈ p0, x.block < W.heap.size := by obtain ⟨m, hm⟩ := h0; exact DataW.trod_lt m _ _ _ hm
  obtain ⟨l0, _, x0, r0, w0⟩ := open_rd_num Try.underlying22 Try.underlying5 (by kernel_rfl) h0
  clear hA0 hval0
  refine (walkFnGetText A0 n0 c0 x0 W r0 l0 w0).mono fun e W' ⟨he, bel⟩ => ?_
  subst he
  exact ⟨_, rfl, _, _, _, [], _, [], hW', trodAll_mk1 (shut_bool Try.underlying4 _), (trodAll_cons_mk (Below.trod laid_outFnGetText (by kernel_rfl) (of_decide_eq_true (by kernel_rfl)) h0 bel lt0) trodAll_mk0), rfl, bel.frame _, fun h => by cases h⟩

theorem overFnGetText : Rows.fnGetTextRow.holds Try.pinned (OpenSpec.ofChange Rows.fnGetTextSpec) :=
  OpenClaim.holds_of_wide 4 Try.f4 rfl rfl rfl rfl rfl rfl rfl ⟨rfl, rfl, rfl, rfl, rfl⟩ rfl rfl rfl rfl rfl (by kernel_rfl) Try.func4 (by kernel_rfl)
    (of_decide_eq_true (by kernel_rfl)) (by unfold Func.isWrapper; first | (rw [if_pos (by decide +kernel)]; kernel_rfl) | (rw [if_neg (by decide +kernel)]; exact ⟨rfl, rfl⟩))
    (fun os started H enc _ => liftedFnGetText os started H enc)

theorem provedFnGetText : Rows.FnGetTextSaid := overFnGetText
end
end Go.Proofs.Ythoiljgpggldcaa
