/- The law FnChunkEnds: For every input the law returns true, and its arguments read as before. Conditions: none. -/
import Derived.Test.YtnbdhmjgckomcaaRows
import Derived.Test.YtnbdhmjgckomcaaPrints
import Derived.Test.YtnbdhmjgckomcaaInts2
import Derived.Test.YtnbdhmjgckomcaaChunk
import Derived.Test.YtnbdhmjgckomcaaOpen
open Go.RowKit Go.ChangeShapes Go.WideShapes Go.ChangeAt
open Go.ChangeMaps (open_string shut_string)
set_option linter.unusedVariables false
namespace Go.Proofs.Ytnbdhmjgckomcaa
theorem own_knobFnChunkEnds : ownKnob Try.prog.godebug = none := by kernel_rfl
theorem laid_outFnChunkEnds : laidOutB Try.prog = true := by kernel_rfl
/-- The ends e follow b: each chunk has at most six bytes, all but the last one at least two, the last one ends at m. -/
def Gaps : Nat → List Nat → Nat → Prop
  | b, [], m => b = m
  | b, e :: r, m => b < e ∧ e ≤ b + 6 ∧ (r ≠ [] → b + 2 ≤ e) ∧ Gaps e r m
theorem endsF_gaps : ∀ (l : List UInt8) (pos many : Nat), many ≤ 5 → many ≤ pos → (l = [] → many = 0) → Gaps (pos - many) (endsF l pos many) (pos + l.length)
  | [], pos, many, _, _, h => by
    rw [h rfl]
    rfl
  | c :: r, pos, many, h5, hp, _ => by
    rw [endsF]
    split
    · rename_i hc
      refine ⟨by omega, by omega, fun hr => ?_, ?_⟩
      · have hc' : cutB (many + 1) c = true := by
          rw [Bool.or_eq_true] at hc
          rcases hc with hc | hc
          · exact hc
          · have : r = [] := by simpa using hc
            subst this
            exact absurd rfl hr
        unfold cutB at hc'
        rw [Bool.or_eq_true, Bool.and_eq_true, decide_eq_true_iff, decide_eq_true_iff] at hc'
        omega
      · have := endsF_gaps r (pos + 1) 0 (by omega) (by omega) (fun _ => rfl)
        rw [List.length_cons, show pos + (r.length + 1) = pos + 1 + r.length from by omega]
        exact this
    · rename_i hc
      rw [Bool.or_eq_true, not_or] at hc
      have hr : r ≠ [] := fun e => hc.2 (by rw [e]; rfl)
      have hm : many + 1 ≤ 5 := by
        have h1 := hc.1
        unfold cutB at h1
        rw [Bool.or_eq_true, decide_eq_true_iff] at h1
        omega
      have := endsF_gaps r (pos + 1) (many + 1) hm (by omega) (fun e => absurd e hr)
      rw [List.length_cons, show pos + (r.length + 1) = pos + 1 + r.length from by omega, show pos - many = pos + 1 - (many + 1) from by omega]
      exact this
theorem chunkE_gaps {s : ByteArray} (h : 0 < (chunkE s).length) : Gaps 0 (chunkE s) s.size := by
  cases ht : textV (bts s)
  · rw [chunkE_no ht] at h
    simp at h
  · rw [chunkE_yes ht]
    have := endsF_gaps (bts s) 0 0 (by omega) (by omega) (fun _ => rfl)
    rw [bts_length, Nat.zero_add] at this
    exact this
theorem gaps_le : ∀ {l : List Nat} {b m : Nat}, Gaps b l m → b ≤ m
  | [], _, _, h => Nat.le_of_eq h
  | _ :: _, _, _, h => by
    have := gaps_le h.2.2.2
    have := h.1
    omega
set_option maxHeartbeats 1000000 in
theorem walkFnChunkEnds (A0 : Option Addr) (n0 c0 : Nat) (x0 : List Int) (w : World) (r0 : Rd w 1 A0 n0 (byts x0)) (l0 : n0 ≤ c0) (w0 : ∀ x ∈ x0, (Lit.int .u8 x).wf = true) :
    Calls Try.prog 13 #[.slice A0 n0 c0] w fun e w' => e = .returned (.bool true) ∧ Below w.heap.size w w' := by
  by_cases hb : n0 ≤ 1048576
  · go_enter Try.func13, Try.ntmps13
    go_wp2_with fail
    refine (drawChunkEnds _ _ _ x0 _ r0 l0 w0).mono ?_
    rintro e u1 ⟨s, rfl, hs, hb1⟩
    have hsm : s.size ≤ maxLen := by unfold maxLen; omega
    have hlen := chunkE_length s
    go_wp2_with fail
    refine (implChunkEnds s _ hsm).mono ?_
    rintro e u2 ⟨v2, rfl, ho2, hb2⟩
    obtain ⟨A2, c2, rfl, _⟩ := own_slice ho2
    have hB2 := below_step hb1 hb2
    go_wp2_with fail
    refine (specChunkEnds s _ hsm).mono ?_
    rintro e u3 ⟨v3, rfl, ho3, hb3⟩
    obtain ⟨A3, c3, rfl, _⟩ := own_slice ho3
    have hB3 := below_step hB2 hb3
    have hr3 := (Rd.own ho2).below hb3
    go_wp2_with fail
    refine (sameInts _ _ _ _ _ _ (natI (chunkE s)) (natI (chunkE s)) _ hr3 (Rd.own ho3) (by omega)).mono ?_
    rintro e u4 ⟨rfl, q4, rfl⟩
    rw [decide_eq_true rfl]
    have hB4 := below_step hB3 (below_drewN u3 q4)
    have hr4 := hr3.drewN q4
    clear hr3 ho3 ho2 hb3 hb2 hb1 hB3 hB2
    generalize u3.drewN q4 = u4 at *
    have hgap0 := @chunkE_gaps s
    generalize chunkE s = E at *
    generalize hn : E.length = n at *
    have HN := Lib.hid hn
    clear hn hsm
    rcases Nat.eq_zero_or_pos n with h0 | h0
    · have h0' : ((n : Int) == 0) = true := by simp; omega
      clear h0 hgap0
      go_wp2_with (go_at_call 29; refine (alive _).mono ?_; rintro e w' ⟨rfl, rfl⟩)
      go_ret
      exact ⟨rfl, hB4⟩
    · have h0' : ((n : Int) == 0) = false := by simp; omega
      have HG := Lib.hid (hgap0 h0)
      clear hgap0
      go_wp2_with fail
      go_loop [5, 6] (fun f i => ∃ b k : Nat, k ≤ n ∧ b ≤ 61 ∧ f = .int .i64 (b : Int) ∧ i = .int .i64 (k : Int) ∧ Hid (Gaps b (E.drop k) s.size)) (fun _ i => n - (intOf i).toNat)
      case atStart => exact ⟨0, 0, Nat.zero_le _, Nat.zero_le _, rfl, rfl, HG⟩
      case round =>
        obtain ⟨b, k, hk, hb61, rfl, rfl, hG⟩ := hrel
        by_cases hlt : k < n
        · obtain ⟨bb, off, x, rfl, _, hx, hc⟩ := hr4.intAt hlt
          obtain ⟨en, hen, rfl⟩ := natI_at hx
          have hG' := hG.out
          rw [drop_cons' hen] at hG'
          obtain ⟨g1, g2, g3, g4⟩ := hG'
          have HG1 := Lib.hid g4
          have hle := gaps_le g4
          have hdr : k + 1 < n → b + 2 ≤ en := fun h => g3 (fun e => by have := congrArg List.length e; rw [List.length_drop, HN.out] at this; simp at this; omega)
          clear hG g3 g4 hx hen HG
          by_cases hl : k + 1 < n
          · have h2 := hdr hl
            clear hdr
            go_wp2
            go_round
            case rel => exact ⟨en, k + 1, by omega, by omega, rfl, by go_num, HG1⟩
            case measure => simp [intOf]; omega
          · clear hdr
            go_wp2
            go_round
            case rel => exact ⟨en, k + 1, by omega, by omega, rfl, by go_num, HG1⟩
            case measure => simp [intOf]; omega
        · have hG' := hG.out
          rw [List.drop_of_length_le (by rw [HN.out]; omega)] at hG'
          have hbs : b = s.size := hG'
          subst hbs
          clear hG hG'
          go_wp2
          go_ret
          exact ⟨rfl, hB4⟩
  · go_enter Try.func13, Try.ntmps13
    go_wp2
    go_ret
    exact ⟨rfl, Below.refl _ _⟩

section
set_option maxRecDepth 100000 in
theorem liftedFnChunkEnds (os : Os) (started : os.Started) (H : Type) (enc : TypeId × Value → H) :
    ReturnsInHanded {} Try.checked os 13 .any (Rows.fnChunkEndsSpec.pre6 enc Try.prog Try.f13 Rows.fnChunkEndsRow.domain false) (Rows.fnChunkEndsSpec.post enc Try.prog Try.f13 false true false false) := by
  refine returnsInHanded_of_change (C := Try.checked) own_knobFnChunkEnds started (by kernel_rfl) Try.func13
    (ChangeSpec.witness6 (enc := enc) (C := Try.checked) false ⟨#[], #[.slice none 0 0], []⟩ 8 (by kernel_rfl) (by kernel_rfl) (by kernel_rfl) (by kernel_rfl)) ?_
  intro W base args ds gs before hval0 hW hcnd _
  have hval : ∀ (j : Nat) t v, Try.f13.params[j]? = some t → args[j]? = some v → Value.okWide Try.prog W .any base t v := hval0
  have hW' := hW
  obtain ⟨p, q, hA0, hV, rfl, hfz, hnd⟩ := hW
  have hA : DataW.TrodAll enc Try.prog W 0 (fun _ => true) true Try.f13.params.toList args.toList ds p := hA0
  rw [Try.params13] at hA hval
  obtain ⟨v0, vs0, d0, ds0, p0, q0, hargs, rfl, rfl, h0, t0⟩ := trodAll_cons hA
  obtain ⟨rfl, rfl, rfl⟩ := trodAll_nil t0
  obtain rfl : args = #[v0] := by cases args; simp_all
  obtain ⟨rfl, rfl⟩ := trodVars_none hV
  obtain ⟨A0, n0, c0, rfl⟩ := okWide_slice Try.underlying34 (hval 0 34 v0 rfl rfl)
  have lt0 : ∀ x ∈ p0, x.block < W.heap.size := by obtain ⟨m, hm⟩ := h0; exact DataW.trod_lt m _ _ _ hm
  obtain ⟨l0, _, x0, r0, w0⟩ := open_rd_num Try.underlying34 Try.underlying5 (by kernel_rfl) h0
  clear hA0 hval0
  refine (walkFnChunkEnds A0 n0 c0 x0 W r0 l0 w0).mono fun e W' ⟨he, bel⟩ => ?_
  subst he
  exact ⟨_, rfl, _, _, _, [], _, [], hW', trodAll_mk1 (shut_bool Try.underlying4 _), (trodAll_cons_mk (Below.trod laid_outFnChunkEnds (by kernel_rfl) (of_decide_eq_true (by kernel_rfl)) h0 bel lt0) trodAll_mk0), rfl, bel.frame _, fun h => by cases h⟩

theorem overFnChunkEnds : Rows.fnChunkEndsRow.holds Try.pinned (OpenSpec.ofChange Rows.fnChunkEndsSpec) :=
  OpenClaim.holds_of_wide 13 Try.f13 rfl rfl rfl rfl rfl rfl rfl ⟨rfl, rfl, rfl, rfl, rfl⟩ rfl rfl rfl rfl rfl (by kernel_rfl) Try.func13 (by kernel_rfl)
    (of_decide_eq_true (by kernel_rfl)) (by unfold Func.isWrapper; first | (rw [if_pos (by decide +kernel)]; kernel_rfl) | (rw [if_neg (by decide +kernel)]; exact ⟨rfl, rfl⟩))
    (fun os started H enc _ => liftedFnChunkEnds os started H enc)

theorem provedFnChunkEnds : Rows.FnChunkEndsSaid := overFnChunkEnds
end
end Go.Proofs.Ytnbdhmjgckomcaa
