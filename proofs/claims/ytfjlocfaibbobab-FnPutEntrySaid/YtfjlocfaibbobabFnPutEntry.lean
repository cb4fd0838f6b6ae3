/- The law FnPutEntry: For every input the law returns true, and its arguments read as before. Conditions: none. -/
import Derived.Test.YtfjlocfaibbobabRows
import Derived.Test.YtfjlocfaibbobabPutE
import Derived.Test.YtfjlocfaibbobabPutQ
import Derived.Test.YtfjlocfaibbobabDrop
import Derived.Test.YtfjlocfaibbobabSameE
import Derived.Test.YtfjlocfaibbobabEntryV
import Derived.Test.YtfjlocfaibbobabOpen
open Go.RowKit Go.ChangeShapes Go.WideShapes Go.ChangeAt
open Go.ChangeMaps (open_string shut_string)
set_option linter.unusedVariables false
namespace Go.Proofs.Ytfjlocfaibbobab
theorem own_knobFnPutEntry : ownKnob Try.prog.godebug = none := by kernel_rfl
theorem laid_outFnPutEntry : laidOutB Try.prog = true := by kernel_rfl

set_option maxHeartbeats 3200000 in
theorem walkFnPutEntry (A0 : Option Addr) (n0 c0 : Nat) (x0 : List Int) (w : World) (r0 : Rd w 1 A0 n0 (byts x0)) (l0 : n0 ≤ c0) (w0 : ∀ x ∈ x0, (Lit.int .u8 x).wf = true) :
    Calls Try.prog 4 #[.slice A0 n0 c0] w fun e w' => e = .returned (.bool true) ∧ Below w.heap.size w w' := by
  by_cases hb : n0 ≤ 1048576
  · go_enter Try.func4, Try.ntmps4
    go_wp2_with fail
    refine (drawPutEntry _ _ _ x0 _ r0 l0 w0).mono ?_
    rintro e w1 ⟨v, n, es, s, p, rfl, hn, hs, hs9, hown, hbel, hbk⟩
    have HS : Hid (∀ x ∈ es, x.1.size ≤ maxLen) := Lib.hid (fun x hx => Nat.le_trans (hs x hx) (by unfold maxLen; omega))
    have hsm : s.size ≤ maxLen := by unfold maxLen; omega
    have HSL := Lib.hid (putL_size (p := p) HS.out hsm)
    clear hs
    obtain ⟨A, c, rfl, _⟩ := own_slice hown
    have HL := Lib.hid (Rd.own hown).enLen
    have hpl := putE_len (xs := es) (t := s) (p := p)
    rw [HL.out] at hpl
    have HF0 := Lib.hid (putE_false (xs := es) (t := s) (p := p))
    have HT0 := Lib.hid (putE_true (xs := es) (t := s) (p := p))
    have HE : ∃ zs ok, Hid (putE es s p = (zs, ok)) := ⟨_, _, Lib.hid rfl⟩
    obtain ⟨zs, ok, HE⟩ := HE
    rw [HE.out] at hpl
    have HF : Hid (ok = false → zs = es ∨ zs = []) := Lib.hid (fun h => by have := HF0.out; rw [HE.out] at this; exact this h)
    have HT : Hid (ok = true → entriesV es = true ∧ zs = putL es s p ∧ entriesV zs = true) := Lib.hid (fun h => by
      have := HT0.out
      rw [HE.out] at this
      obtain ⟨h1, h2, h3⟩ := this h
      injection h3 with h3 _
      exact ⟨h1, h3, by rw [h3]; exact h2⟩)
    clear HF0 HT0
    dsimp only at hpl
    have hba : Below w1.heap.size w1 (w1.alloc (.cells #[.string s, .int .i64 p] 31)) := (Below.refl _ _).alloc (Nat.le_refl _) _
    have d0 : (w1.alloc (.cells #[.string s, .int .i64 p] 31)).cell? ⟨w1.heap.size, 0, none⟩ = some (.string s) := cell_of_row _ _ 0 _ 31 (0, 0) (heap_alloc_new w1 _)
    have d1 : (w1.alloc (.cells #[.string s, .int .i64 p] 31)).cell? ⟨w1.heap.size, 1, none⟩ = some (.int .i64 p) := cell_of_row _ _ 1 _ 31 (0, 0) (heap_alloc_new w1 _)
    have hown2 := own_below hown hba
    go_wp2_with fail
    generalize (w1.alloc (.cells #[.string s, .int .i64 p] 31)) = w2 at *
    refine (implPutEntry _ _ _ s p es _ (Rd.own hown2) HS.out hsm (by omega)).mono ?_
    rintro e w3 ⟨v3, rfl, hown3, hb3⟩
    rw [HE.out] at hown3 ⊢
    dsimp only at hown3 ⊢
    obtain ⟨A3, c3, rfl, _⟩ := own_slice hown3
    have d0 := (hb3.cell (p := ⟨w1.heap.size, 0, none⟩) (World.block_lt_of_cell? _ _ d0)).trans d0
    have d1 := (hb3.cell (p := ⟨w1.heap.size, 1, none⟩) (World.block_lt_of_cell? _ _ d1)).trans d1
    have hown4 := own_below hown2 hb3
    have hB3 := below_step hba hb3
    go_wp2_with fail
    refine (specPutEntry _ _ _ s p es _ hown4 hbk HS.out hsm (by omega)).mono ?_
    rintro e w4 ⟨v4, rfl, hown5, hb4, _⟩
    rw [HE.out] at hown5 ⊢
    dsimp only at hown5 ⊢
    obtain ⟨A4, c4, rfl, _⟩ := own_slice hown5
    have d0 := (hb4.cell (p := ⟨w1.heap.size, 0, none⟩) (World.block_lt_of_cell? _ _ d0)).trans d0
    have d1 := (hb4.cell (p := ⟨w1.heap.size, 1, none⟩) (World.block_lt_of_cell? _ _ d1)).trans d1
    have hB4 := below_step hB3 hb4
    have hrz := (Rd.own hown3).below hb4
    have hre := (Rd.own hown4).below hb4
    go_wp2_with fail
    refine (sameEntries _ _ _ _ _ _ zs zs _ hrz (Rd.own hown5) (by omega)).mono ?_
    rintro e w5 ⟨rfl, hb5⟩
    rw [decide_eq_true (show zs = zs from rfl)]
    have d0 := (hb5.cell (p := ⟨w1.heap.size, 0, none⟩) (World.block_lt_of_cell? _ _ d0)).trans d0
    have d1 := (hb5.cell (p := ⟨w1.heap.size, 1, none⟩) (World.block_lt_of_cell? _ _ d1)).trans d1
    have hB5 := below_step hB4 hb5
    have hrz5 := hrz.below hb5
    have hre5 := hre.below hb5
    clear hrz hre hown2 hown3 hown4 hown5 hown hb3 hb4 hb5 hB3 hB4
    cases ok
    · have hcase := HF.out rfl
      go_wp2_with fail
      refine (sameEntries _ _ _ _ _ _ zs es _ hrz5 hre5 (by omega)).mono ?_
      rintro e w6 ⟨rfl, hb6⟩
      have hB6 := below_step hbel (below_step hB5 hb6)
      by_cases he : zs = es
      · rw [decide_eq_true he]
        clear hcase he
        go_wp2_with (go_at_call 20; refine (alive _).mono ?_; rintro e w' ⟨rfl, rfl⟩)
        go_ret
        exact ⟨rfl, hB6⟩
      · have he0 : zs = [] := hcase.resolve_left he
        rw [decide_eq_false he]
        have hz2 : zs.length = 0 := by rw [he0]; rfl
        clear he he0 hcase
        generalize zs.length = z at *
        subst hz2
        go_wp2_with (go_at_call 20; refine (alive _).mono ?_; rintro e w' ⟨rfl, rfl⟩)
        go_ret
        exact ⟨rfl, hB6⟩
    · obtain ⟨h1, h2, h3⟩ := HT.out rfl
      have HZ := Lib.hid h3
      have HD := Lib.hid (putL_dropE (p := p) h1 (by rw [← h2]; exact h3))
      have HA : Hid (amongF zs (s, p) zs.length = true) := Lib.hid (among_all (by rw [h2]; exact putL_mem0 _ _ _))
      have HZL : Hid (∀ x ∈ zs, x.1.size ≤ maxLen) := Lib.hid (by rw [h2]; exact HSL.out)
      have HD1 : Hid (dropE zs s = dropE es s) := Lib.hid (by rw [h2]; exact HD.out.1)
      have HD2 : Hid (dropB zs s = true) := Lib.hid (by rw [h2]; exact HD.out.2)
      clear h1 h2 h3 HD HSL
      have hzl := hrz5.enLen
      go_wp2_with fail
      go_loopw [9, 10] (fun f i wr => ∃ k : Nat, k ≤ zs.length ∧ i = .int .i64 (k : Int) ∧ f = .bool (amongF zs (s, p) k) ∧ Rd wr 2 A3 zs.length (ens zs) ∧ Rd wr 2 A n (ens es) ∧ wr.cell? ⟨w1.heap.size, 0, none⟩ = some (.string s) ∧ wr.cell? ⟨w1.heap.size, 1, none⟩ = some (.int .i64 p) ∧ Below w1.heap.size w1 wr) (fun _ i _ => zs.length - (intOf i).toNat)
      case atStart => exact ⟨0, Nat.zero_le _, rfl, by rw [among_zero], hrz5, hre5, d0, d1, hB5⟩
      case round =>
        obtain ⟨k, hk, rfl, rfl, hrw, hrx, hd0, hd1, hBr⟩ := hrel
        by_cases hlt : k < zs.length
        · obtain ⟨b, off, t, q, rfl, hbb, hxk, hc0, hc1⟩ := hrw.enAt hlt
          have HSU := Lib.hid (among_succ (x := (s, p)) hxk)
          have hltI : (k : Int) < (zs.length : Int) := by omega
          have hcmp : ∀ W : World, (binOp .eql 31 (.agg #[.string t, .int .i64 q]) (.agg #[.string s, .int .i64 p])).run Try.prog W = .ok (.bool (decide ((t, q) = (s, p)))) W := fun W => eql_en t s q p W
          generalize decide ((t, q) = (s, p)) = dd at *
          clear hxk
          have HF1 : ∃ f1, Hid (amongF zs (s, p) (k + 1) = f1) := ⟨_, Lib.hid rfl⟩
          obtain ⟨f1, HF1⟩ := HF1
          rw [HF1.out] at HSU
          generalize amongF zs (s, p) k = f0 at *
          cases f0
          all_goals
            go_wp2_with fail
            go_quiet (fail)
            go_wp2_with fail
            go_roundw
            case rel => exact ⟨k + 1, by omega, by go_num, by rw [show amongF zs (s, p) (k + 1) = f1 from HF1.out, HSU.out]; rfl, hrw.drewN _, hrx.drewN _, hd0, hd1, below_to hBr hBr.size (below_drewN _ _)⟩
            case measure => simp [intOf]; omega
        · obtain rfl : k = zs.length := by omega
          rw [HA.out]
          go_wp2_with fail
          refine (implDropEntry _ _ _ s zs _ hrw HZL.out (by omega)).mono ?_
          rintro e w6 ⟨v6, rfl, hown6, hb6⟩
          rw [HD2.out]
          obtain ⟨A6, c6, rfl, _⟩ := own_slice hown6
          have hdl := dropE_len (xs := zs) (t := s)
          have hd0 := (hb6.cell (p := ⟨w1.heap.size, 0, none⟩) (World.block_lt_of_cell? _ _ hd0)).trans hd0
          have hB6 := below_step hBr hb6
          go_wp2_with fail
          refine (implDropEntry _ _ _ s es _ (hrx.below hb6) HS.out (by omega)).mono ?_
          rintro e w7 ⟨v7, rfl, hown7, hb7⟩
          obtain ⟨A7, c7, rfl, _⟩ := own_slice hown7
          have hB7 := below_step hB6 hb7
          have hr6 := (Rd.own hown6).below hb7
          generalize dropB es s = b7
          go_wp2_with fail
          refine (implEntriesValid _ _ _ zs _ ((hrw.below hb6).below hb7) HZL.out).mono ?_
          rintro e w8 ⟨rfl, hb8⟩
          rw [HZ.out]
          have hB8 := below_step hB7 hb8
          have hr8 := hr6.below hb8
          have hr9 := (Rd.own hown7).below hb8
          rw [HD1.out] at hr8 hdl
          go_wp2_with fail
          rw [HD1.out]
          refine (sameEntries _ _ _ _ _ _ (dropE es s) (dropE es s) _ hr8 hr9 (by omega)).mono ?_
          rintro e w9 ⟨rfl, hb9⟩
          rw [decide_eq_true (show dropE es s = dropE es s from rfl)]
          go_wp2_with fail
          go_ret
          exact ⟨rfl, below_step hbel (below_step hB8 hb9)⟩
  · go_enter Try.func4, Try.ntmps4
    go_wp2
    go_ret
    exact ⟨rfl, Below.refl _ _⟩

section
set_option maxRecDepth 100000 in
theorem liftedFnPutEntry (os : Os) (started : os.Started) (H : Type) (enc : TypeId × Value → H) :
    ReturnsInHanded {} Try.checked os 4 .any (Rows.fnPutEntrySpec.pre6 enc Try.prog Try.f4 Rows.fnPutEntryRow.domain false) (Rows.fnPutEntrySpec.post enc Try.prog Try.f4 false true false false) := by
  refine returnsInHanded_of_change (C := Try.checked) own_knobFnPutEntry started (by kernel_rfl) Try.func4
    (ChangeSpec.witness6 (enc := enc) (C := Try.checked) false ⟨#[], #[.slice none 0 0], []⟩ 8 (by kernel_rfl) (by kernel_rfl) (by kernel_rfl) (by kernel_rfl)) ?_
  intro W base args ds gs before hval0 hW hcnd _
  have hval : ∀ (j : Nat) t v, Try.f4.params[j]? = some t → args[j]? = some v → Value.okWide Try.prog W .any base t v := hval0
  have hW' := hW
  obtain ⟨p, q, hA0, hV, rfl, hfz, hnd⟩ := hW
  have hA : DataW.TrodAll enc Try.prog W 0 (fun _ => true) true Try.f4.params.toList args.toList ds p := hA0
  rw [Try.params4] at hA hval
  obtain ⟨v0, vs0, d0, ds0, p0, q0, hargs, rfl, rfl, h0, t0⟩ := trodAll_cons hA
  obtain ⟨rfl, rfl, rfl⟩ := trodAll_nil t0
  obtain rfl : args = #[v0] := by cases args; simp_all
  obtain ⟨rfl, rfl⟩ := trodVars_none hV
  obtain ⟨A0, n0, c0, rfl⟩ := okWide_slice Try.underlying36 (hval 0 36 v0 rfl rfl)
  have lt0 : ∀ x ∈ p0, x.block < W.heap.size := by obtain ⟨m, hm⟩ := h0; exact DataW.trod_lt m _ _ _ hm
  obtain ⟨l0, _, x0, r0, w0⟩ := open_rd_num Try.underlying36 Try.underlying5 (by kernel_rfl) h0
  clear hA0 hval0
  refine (walkFnPutEntry A0 n0 c0 x0 W r0 l0 w0).mono fun e W' ⟨he, bel⟩ => ?_
  subst he
  exact ⟨_, rfl, _, _, _, [], _, [], hW', trodAll_mk1 (shut_bool Try.underlying4 _), (trodAll_cons_mk (Below.trod laid_outFnPutEntry (by kernel_rfl) (of_decide_eq_true (by kernel_rfl)) h0 bel lt0) trodAll_mk0), rfl, bel.frame _, fun h => by cases h⟩

theorem overFnPutEntry : Rows.fnPutEntryRow.holds Try.pinned (OpenSpec.ofChange Rows.fnPutEntrySpec) :=
  OpenClaim.holds_of_wide 4 Try.f4 rfl rfl rfl rfl rfl rfl rfl ⟨rfl, rfl, rfl, rfl, rfl⟩ rfl rfl rfl rfl rfl (by kernel_rfl) Try.func4 (by kernel_rfl)
    (of_decide_eq_true (by kernel_rfl)) (by unfold Func.isWrapper; first | (rw [if_pos (by decide +kernel)]; kernel_rfl) | (rw [if_neg (by decide +kernel)]; exact ⟨rfl, rfl⟩))
    (fun os started H enc _ => liftedFnPutEntry os started H enc)

theorem provedFnPutEntry : Rows.FnPutEntrySaid := overFnPutEntry
end
end Go.Proofs.Ytfjlocfaibbobab
