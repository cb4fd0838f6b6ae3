/- The law FnStoreValid: For every input the law returns true, and its arguments read as before. Conditions: none. -/
import Derived.Test.YthoiljgpggldcaaRows
import Derived.Test.YthoiljgpggldcaaM16
import Derived.Test.YthoiljgpggldcaaStoreV
import Derived.Test.YthoiljgpggldcaaM4
import Derived.Test.YthoiljgpggldcaaM8
open Go.RowKit Go.ChangeShapes Go.WideShapes Go.ChangeAt
open Go.ChangeMaps (open_string shut_string)
set_option linter.unusedVariables false
namespace Go.Proofs.Ythoiljgpggldcaa
theorem own_knobFnStoreValid : ownKnob Try.prog.godebug = none := by kernel_rfl
theorem laid_outFnStoreValid : laidOutB Try.prog = true := by kernel_rfl
theorem pieceLt_self (x : Int × ByteArray) : pieceLt x x = false := decide_eq_false (Int.lt_irrefl _)
theorem own_pc1 (w : World) (y : Int) (s : ByteArray) : (w.alloc (.cells #[.int .i64 y, .string s] 28)).ownsRow w.heap.size 28 2 (.slice (some ⟨w.heap.size, 0, none⟩) 1 1) 1 (pcs [(y, s)]) :=
  ⟨by simp [pcs], .inr ⟨w.heap.size, 1, #[.int .i64 y, .string s], rfl, Nat.le_refl _, heap_alloc_new w _, Nat.le_refl _, by unfold maxLen; omega, by simp, by simp [pcs]⟩⟩
set_option maxHeartbeats 1000000 in
set_option maxRecDepth 8000 in
theorem walkFnStoreValid (A0 : Option Addr) (n0 c0 : Nat) (x0 : List Int) (w : World) (r0 : Rd w 1 A0 n0 (byts x0)) (l0 : n0 ≤ c0) (w0 : ∀ x ∈ x0, (Lit.int .u8 x).wf = true) :
    Calls Try.prog 3 #[.slice A0 n0 c0] w fun e w' => e = .returned (.bool true) ∧ Below w.heap.size w w' := by
  by_cases hb : n0 ≤ 1048576
  · go_enter Try.func3, Try.ntmps3
    go_wp2_with fail
    refine (drawStoreValid _ _ _ x0 _ r0 l0 w0).mono ?_
    rintro e w1 ⟨v, es, rfl, ⟨hes, hel, hs⟩, hst, hbel⟩
    obtain ⟨g, c, rfl, hgb, hr, hnc, _⟩ := hst
    have HS : Hid (∀ x ∈ es, x.2.size ≤ maxLen) := Lib.hid (fun x hx => Nat.le_trans (hs x hx) (by unfold maxLen; omega))
    have hn0 : 0 < es.length := List.length_pos_iff.2 hes
    clear hs hes
    generalize hly : es.length = n at *
    have HLY := Lib.hid hly
    clear hly
    go_wp2_with fail
    refine (implStoreValid _ _ _ es _ hr HS.out).mono ?_
    rintro e w2 ⟨rfl, hb2⟩
    go_wp2_with fail
    refine (specStoreValid _ _ _ es _ (hr.below hb2) HS.out (by omega)).mono ?_
    rintro e w3 ⟨rfl, k, rfl⟩
    have hb3 : Below w1.heap.size w1 (w2.drewN k) := below_to hb2 hb2.size (below_drewN _ k)
    have hB3 := below_step hbel hb3
    generalize w2.drewN k = w3 at *
    cases hv : storeV es
    · clear hv
      go_wp2_with (go_at_call 8; refine (alive _).mono ?_; rintro e w' ⟨rfl, rfl⟩)
      go_ret
      exact ⟨rfl, hB3⟩
    · have hlen := hr.pcLen
      cases es with
      | nil => simp at hlen; omega
      | cons x rest =>
        obtain ⟨y, s⟩ := x
        have HT := Lib.hid (show storeV rest = true from good_tail hv)
        have HW := Lib.hid (show storeV ((y, s) :: (y, s) :: rest) = false from good_twice (pieceLt_self (y, s)))
        have hr3 := hr.below hb3
        obtain ⟨bb, off, y', s', e1, _, hx, hd0, hd1⟩ := hr3.pcAt (show 0 < n by omega)
        injection e1 with e1
        injection e1 with e1 e2
        subst e1 e2
        obtain ⟨rfl, rfl⟩ : y = y' ∧ s = s' := by
          injection hx with hx
          injection hx with h1 h2
          exact ⟨h1, h2⟩
        rw [List.length_cons] at hlen
        have hno : decide ((n : Int) = 0) = false := decide_eq_false (by omega)
        have hno2 : ((n : Int) == 0) = false := by simp; omega
        have HR : Hid (Rd w3 2 (some ⟨g, 0 + 1 * 2, none⟩) (n - 1) (pcs rest)) := Lib.hid (by
          have := hr3.pcCut 1 (n - 1) (by omega)
          rw [List.drop_succ_cons, List.drop_zero, List.take_of_length_le (by omega)] at this
          exact this)
        clear hx hv
        have hso := own_pc1
        go_wp2_with fail
        all_goals
          refine (implStoreValid _ _ _ rest _ (by first | exact HR.out | exact ⟨by rw [pcs_length]; omega, fun hh => by omega⟩) (fun x hx => HS.out x (List.mem_cons_of_mem _ hx))).mono ?_
          rintro e w4 ⟨rfl, hb4⟩
          rw [HT.out]
          have hd0 := (hb4.cell (p := ⟨g, 0, none⟩) (World.block_lt_of_cell? w3 _ hd0)).trans hd0
          have hd1 := (hb4.cell (p := ⟨g, 1, none⟩) (World.block_lt_of_cell? w3 _ hd1)).trans hd1
          have hr4 := hr3.below hb4
          have hB4 := below_step hB3 hb4
          go_wp2_with (first | (at_builtin; refine wpList_appG _ (by rfl) (.tmp 31) (.tmp 32) _ rfl w4.heap.size 28 2 24 _ Try.underlying23 pcs_info rfl (by omega) (by omega) _ 1 _ rfl (hso w4 y s) _ _ _ _ rfl (hr4.alloc _) (pcs_one _) (by omega) (by simp) ?_; intro v5 w5 hown5 hg5 _; have hb5 : Below w4.heap.size w4 w5 := below_app ((Below.refl _ _).alloc (Nat.le_refl _) _) (hso w4 y s) hg5 (by simp); rw [← pcs_append] at hown5; obtain ⟨A5, c5, rfl, _⟩ := own_slice hown5; have HO5 := Lib.hid hown5; clear hown5) | (go_at_call_of 6 A5; refine (implStoreValid _ _ _ ((y, s) :: (y, s) :: rest) _ (Rd.own HO5.out) (fun x hx => HS.out x (by rcases List.mem_cons.1 hx with rfl | hx; exact List.mem_cons_self ..; exact hx))).mono ?_; rintro e w6 ⟨rfl, hb6⟩; rw [HW.out]))
          go_ret
          exact ⟨rfl, below_step hB4 (below_step hb5 hb6)⟩
  · go_enter Try.func3, Try.ntmps3
    go_wp2
    go_ret
    exact ⟨rfl, Below.refl _ _⟩

section
set_option maxRecDepth 100000 in
theorem liftedFnStoreValid (os : Os) (started : os.Started) (H : Type) (enc : TypeId × Value → H) :
    ReturnsInHanded {} Try.checked os 3 .any (Rows.fnStoreValidSpec.pre6 enc Try.prog Try.f3 Rows.fnStoreValidRow.domain false) (Rows.fnStoreValidSpec.post enc Try.prog Try.f3 false true false false) := by
  refine returnsInHanded_of_change (C := Try.checked) own_knobFnStoreValid started (by kernel_rfl) Try.func3
    (ChangeSpec.witness6 (enc := enc) (C := Try.checked) false ⟨#[], #[.slice none 0 0], []⟩ 8 (by kernel_rfl) (by kernel_rfl) (by kernel_rfl) (by kernel_rfl)) ?_
  intro W base args ds gs before hval0 hW hcnd _
  have hval : ∀ (j : Nat) t v, Try.f3.params[j]? = some t → args[j]? = some v → Value.okWide Try.prog W .any base t v := hval0
  have hW' := hW
  obtain ⟨p, q, hA0, hV, rfl, hfz, hnd⟩ := hW
  have hA : DataW.TrodAll enc Try.prog W 0 (fun _ => true) true Try.f3.params.toList args.toList ds p := hA0
  rw [Try.params3] at hA hval
  obtain ⟨v0, vs0, d0, ds0, p0, q0, hargs, rfl, rfl, h0, t0⟩ := trodAll_cons hA
  obtain ⟨rfl, rfl, rfl⟩ := trodAll_nil t0
  obtain rfl : args = #[v0] := by cases args; simp_all
  obtain ⟨rfl, rfl⟩ := trodVars_none hV
  obtain ⟨A0, n0, c0, rfl⟩ := okWide_slice Try.underlying22 (hval 0 22 v0 rfl rfl)
  have lt0 : ∀ x ∈ p0, x.block < W.heap.size := by obtain ⟨m, hm⟩ := h0; exact DataW.trod_lt m _ _ _ hm
  obtain ⟨l0, _, x0, r0, w0⟩ := open_rd_num Try.underlying22 Try.underlying5 (by kernel_rfl) h0
  clear hA0 hval0
  refine (walkFnStoreValid A0 n0 c0 x0 W r0 l0 w0).mono fun e W' ⟨he, bel⟩ => ?_
  subst he
  exact ⟨_, rfl, _, _, _, [], _, [], hW', trodAll_mk1 (shut_bool Try.underlying4 _), (trodAll_cons_mk (Below.trod laid_outFnStoreValid (by kernel_rfl) (of_decide_eq_true (by kernel_rfl)) h0 bel lt0) trodAll_mk0), rfl, bel.frame _, fun h => by cases h⟩

theorem overFnStoreValid : Rows.fnStoreValidRow.holds Try.pinned (OpenSpec.ofChange Rows.fnStoreValidSpec) :=
  OpenClaim.holds_of_wide 3 Try.f3 rfl rfl rfl rfl rfl rfl rfl ⟨rfl, rfl, rfl, rfl, rfl⟩ rfl rfl rfl rfl rfl (by kernel_rfl) Try.func3 (by kernel_rfl)
    (of_decide_eq_true (by kernel_rfl)) (by unfold Func.isWrapper; first | (rw [if_pos (by decide +kernel)]; kernel_rfl) | (rw [if_neg (by decide +kernel)]; exact ⟨rfl, rfl⟩))
    (fun os started H enc _ => liftedFnStoreValid os started H enc)

theorem provedFnStoreValid : Rows.FnStoreValidSaid := overFnStoreValid
end
end Go.Proofs.Ythoiljgpggldcaa
