/- The law FnDropEntry: For every input the law returns true, and its arguments read as before. Conditions: none. -/
import Derived.Test.YtgnliaekngbmbaaRows
import Derived.Test.YtgnliaekngbmbaaDrop
import Derived.Test.YtgnliaekngbmbaaDropQ
import Derived.Test.YtgnliaekngbmbaaSameE
import Derived.Test.YtgnliaekngbmbaaEntryV
import Derived.Test.YtgnliaekngbmbaaDrawE
import Derived.Test.YtgnliaekngbmbaaOpen
open Go.RowKit Go.ChangeShapes Go.WideShapes Go.ChangeAt
open Go.ChangeMaps (open_string shut_string)
set_option linter.unusedVariables false
namespace Go.Proofs.Ytgnliaekngbmbaa
theorem own_knobFnDropEntry : ownKnob Try.prog.godebug = none := by kernel_rfl
theorem laid_outFnDropEntry : laidOutB Try.prog = true := by kernel_rfl

set_option maxHeartbeats 1000000 in
theorem walkFnDropEntry (A0 : Option Addr) (n0 c0 : Nat) (x0 : List Int) (w : World) (r0 : Rd w 1 A0 n0 (byts x0)) (l0 : n0 ≤ c0) (w0 : ∀ x ∈ x0, (Lit.int .u8 x).wf = true) :
    Calls Try.prog 9 #[.slice A0 n0 c0] w fun e w' => e = .returned (.bool true) ∧ Below w.heap.size w w' := by
  by_cases hb : n0 ≤ 1048576
  · go_enter Try.func9, Try.ntmps9
    go_wp2_with fail
    refine (drawDropEntry _ _ _ x0 _ r0 l0 w0).mono ?_
    rintro e w1 ⟨v, n, es, s, rfl, hn, hs, hs9, hown, hbel⟩
    have HS : Hid (∀ x ∈ es, x.1.size ≤ maxLen) := Lib.hid (fun x hx => Nat.le_trans (hs x hx) (by unfold maxLen; omega))
    have HSD : Hid (∀ x ∈ dropE es s, x.1.size ≤ maxLen) := Lib.hid (fun x hx => HS.out x (dropE_sub x hx))
    clear hs
    obtain ⟨A, c, rfl, _⟩ := own_slice hown
    have hr := Rd.own hown
    have HL := Lib.hid hr.enLen
    have hdl := dropE_len (xs := es) (t := s)
    rw [HL.out] at hdl
    go_wp2_with fail
    refine (implDropEntry _ _ _ s es _ hr HS.out (by omega)).mono ?_
    rintro e w2 ⟨v2, rfl, hown2, hb2⟩
    obtain ⟨A2, c2, rfl, _⟩ := own_slice hown2
    have hB2 := below_step hbel hb2
    go_wp2_with fail
    refine (specDropEntry _ _ _ s es _ (hr.below hb2) HS.out (by omega)).mono ?_
    rintro e w3 ⟨v3, rfl, hown3, hb3⟩
    obtain ⟨A3, c3, rfl, _⟩ := own_slice hown3
    have hB3 := below_step hB2 hb3
    have hr2 := (Rd.own hown2).below hb3
    go_wp2_with fail
    refine (sameEntries _ _ _ _ _ _ (dropE es s) (dropE es s) _ hr2 (Rd.own hown3) (by omega)).mono ?_
    rintro e w4 ⟨rfl, hb4⟩
    rw [decide_eq_true rfl]
    have hB4 := below_step hB3 hb4
    have hr4 := hr2.below hb4
    have hb24 := below_step hb2 (below_step hb3 hb4)
    have hrl := hr.below hb24
    cases hd : dropB es s
    · have hdn := drop_none hd
      clear hd
      go_wp2_with fail
      refine (sameEntries _ _ _ _ _ _ (dropE es s) es _ hr4 hrl (by omega)).mono ?_
      rintro e w5 ⟨rfl, hb5⟩
      have hB5 := below_step hB4 hb5
      by_cases he : dropE es s = es
      · rw [decide_eq_true he]
        generalize (dropE es s).length = z at *
        go_wp2_with (go_at_call 16; refine (alive _).mono ?_; rintro e w' ⟨rfl, rfl⟩)
        go_ret
        exact ⟨rfl, hB5⟩
      · have he0 : dropE es s = [] := hdn.resolve_left he
        rw [decide_eq_false he]
        have hz : (((dropE es s).length : Int) == 0) = true := by rw [he0]; rfl
        have hz' : ((dropE es s).length == 0) = true := by rw [he0]; rfl
        have hz2 : (dropE es s).length = 0 := by rw [he0]; rfl
        clear he he0 hdn
        generalize (dropE es s).length = z at *
        subst hz2
        go_wp2_with (go_at_call 16; refine (alive _).mono ?_; rintro e w' ⟨rfl, rfl⟩)
        go_ret
        exact ⟨rfl, hB5⟩
    · obtain ⟨h1, h2, h3⟩ := drop_some hd
      rw [HL.out] at h3
      have HV := Lib.hid h1
      have HB2 := Lib.hid h2
      clear hd h1 h2
      go_wp2_with fail
      refine (implDropEntry _ _ _ s (dropE es s) _ hr4 HSD.out (by omega)).mono ?_
      rintro e w5 ⟨v5, rfl, hown5, hb5⟩
      obtain ⟨A5, c5, rfl, _⟩ := own_slice hown5
      have hB5 := below_step hB4 hb5
      rw [HB2.out]
      go_wp2_with fail
      refine (implEntriesValid _ _ _ (dropE es s) _ (hr4.below hb5) HSD.out).mono ?_
      rintro e w6 ⟨rfl, hb6⟩
      rw [HV.out]
      have hB6 := below_step hB5 hb6
      generalize (dropE (dropE es s) s).length = z5 at *
      generalize (dropE es s).length = z at *
      have hz : ((z : Int) == (n : Int) - 1) = true := by simp; omega
      go_wp2_with fail
      go_ret
      exact ⟨rfl, below_step hB6 (Below.refl _ _)⟩
  · go_enter Try.func9, Try.ntmps9
    go_wp2
    go_ret
    exact ⟨rfl, Below.refl _ _⟩

section
set_option maxRecDepth 100000 in
theorem liftedFnDropEntry (os : Os) (started : os.Started) (H : Type) (enc : TypeId × Value → H) :
    ReturnsInHanded {} Try.checked os 9 .any (Rows.fnDropEntrySpec.pre6 enc Try.prog Try.f9 Rows.fnDropEntryRow.domain false) (Rows.fnDropEntrySpec.post enc Try.prog Try.f9 false true false false) := by
  refine returnsInHanded_of_change (C := Try.checked) own_knobFnDropEntry started (by kernel_rfl) Try.func9
    (ChangeSpec.witness6 (enc := enc) (C := Try.checked) false ⟨#[], #[.slice none 0 0], []⟩ 8 (by kernel_rfl) (by kernel_rfl) (by kernel_rfl) (by kernel_rfl)) ?_
  intro W base args ds gs before hval0 hW hcnd _
  have hval : ∀ (j : Nat) t v, Try.f9.params[j]? = some t → args[j]? = some v → Value.okWide Try.prog W .any base t v := hval0
  have hW' := hW
  obtain ⟨p, q, hA0, hV, rfl, hfz, hnd⟩ := hW
  have hA : DataW.TrodAll enc Try.prog W 0 (fun _ => true) true Try.f9.params.toList args.toList ds p := hA0
  rw [Try.params9] at hA hval
  obtain ⟨v0, vs0, d0, ds0, p0, q0, hargs, rfl, rfl, h0, t0⟩ := trodAll_cons hA
  obtain ⟨rfl, rfl, rfl⟩ := trodAll_nil t0
  obtain rfl : args = #[v0] := by cases args; simp_all
  obtain ⟨rfl, rfl⟩ := trodVars_none hV
  obtain ⟨A0, n0, c0, rfl⟩ := okWide_slice Try.underlying22 (hval 0 22 v0 rfl rfl)
  have lt0 : ∀ x ∈ p0, x.block < W.heap.size := by obtain ⟨m, hm⟩ := h0; exact DataW.trod_lt m _ _ _ hm
  obtain ⟨l0, _, x0, r0, w0⟩ := open_rd_num Try.underlying22 Try.underlying5 (by kernel_rfl) h0
  clear hA0 hval0
  refine (walkFnDropEntry A0 n0 c0 x0 W r0 l0 w0).mono fun e W' ⟨he, bel⟩ => ?_
  subst he
  exact ⟨_, rfl, _, _, _, [], _, [], hW', trodAll_mk1 (shut_bool Try.underlying4 _), (trodAll_cons_mk (Below.trod laid_outFnDropEntry (by kernel_rfl) (of_decide_eq_true (by kernel_rfl)) h0 bel lt0) trodAll_mk0), rfl, bel.frame _, fun h => by cases h⟩

theorem overFnDropEntry : Rows.fnDropEntryRow.holds Try.pinned (OpenSpec.ofChange Rows.fnDropEntrySpec) :=
  OpenClaim.holds_of_wide 9 Try.f9 rfl rfl rfl rfl rfl rfl rfl ⟨rfl, rfl, rfl, rfl, rfl⟩ rfl rfl rfl rfl rfl (by kernel_rfl) Try.func9 (by kernel_rfl)
    (of_decide_eq_true (by kernel_rfl)) (by unfold Func.isWrapper; first | (rw [if_pos (by decide +kernel)]; kernel_rfl) | (rw [if_neg (by decide +kernel)]; exact ⟨rfl, rfl⟩))
    (fun os started H enc _ => liftedFnDropEntry os started H enc)

theorem provedFnDropEntry : Rows.FnDropEntrySaid := overFnDropEntry
end
end Go.Proofs.Ytgnliaekngbmbaa
