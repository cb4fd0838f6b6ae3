/- Contract of the law's own comparison of entries. -/
import Derived.Test.YtfjlocfaibbobabEnts
import Derived.Deep.RegionLaw
import Derived.Laws.StructEq
open Go.RowKit
namespace Go.Proofs.Ytfjlocfaibbobab
theorem neq_en (s t : ByteArray) (p q : Int) (W : World) : (binOp .neq 31 (.agg #[.string s, .int .i64 p]) (.agg #[.string t, .int .i64 q])).run Try.prog W = .ok (.bool (!(s.toList == t.toList && p == q))) W := by
  have h1 : Try.prog.underlying 31 = some (.struct (Try.prog.fieldsOf 31)) := by kernel_rfl
  have h2 : Try.prog.stoodInHeld 31 = false := by kernel_rfl
  rw [run_neq_struct, run_equalIn_agg _ 9999 31 _ _ h1 h2]
  simp [Op.eqFields, go_sem]
  by_cases h : s.toList = t.toList <;> by_cases h' : p = q <;> simp [h, h']
theorem neq_en_no {s t : ByteArray} {p q : Int} (h : ¬ (s = t ∧ p = q)) : (!(s.toList == t.toList && p == q)) = true := by
  by_cases h1 : s = t
  · have h2 : ¬ p = q := fun e => h ⟨h1, e⟩
    simp [h2]
  · have : (s.toList == t.toList) = false := by
      rw [beq_eq_false_iff_ne]
      intro e
      rw [Lib.toList_data, Lib.toList_data] at e
      exact h1 (ByteArray.ext (Array.toList_inj.1 e))
    rw [this]
    rfl
set_option maxHeartbeats 1600000 in
theorem sameEntries (A B : Option Addr) (n m c d : Nat) (xs ys : List (ByteArray × Int)) (w : World) (ha : Rd w 2 A n (ens xs)) (hb : Rd w 2 B m (ens ys)) (hn : n ≤ 4194304) :
    Calls Try.prog 19 #[.slice A n c, .slice B m d] w fun e w' => e = .returned (.bool (decide (xs = ys))) ∧ Below w.heap.size w w' := by
  have hxl := ha.enLen
  have hyl := hb.enLen
  by_cases hnm : n = m
  · subst hnm
    have HX := Lib.hid hxl
    have HY := Lib.hid hyl
    clear hxl hyl
    go_enter Try.func19, Try.ntmps19
    go_wp2
    go_loopw [5] (fun i wr => ∃ k : Nat, k ≤ n ∧ i = .int .i64 k ∧ Hid (xs.take k = ys.take k) ∧ Below w.heap.size w wr) (fun i _ => n - (intOf i).toNat)
    case atStart => exact ⟨0, Nat.zero_le _, rfl, Lib.hid rfl, Below.refl _ _⟩
    case round =>
      obtain ⟨k, hk, rfl, heq, hB⟩ := hrel
      by_cases hlt : k < n
      · obtain ⟨b, off, s, p, rfl, hbb, hxk, hc0, hc1⟩ := (ha.below hB).enAt hlt
        obtain ⟨b', off', t, q, rfl, _, hyk, hd0, hd1⟩ := (hb.below hB).enAt hlt
        have HX1 := Lib.hid hxk
        have HY1 := Lib.hid hyk
        clear hxk hyk
        have hlt' : (k : Int) < (n : Int) := by omega
        by_cases hxy : s = t ∧ p = q
        · obtain ⟨rfl, rfl⟩ := hxy
          have hcmp : ∀ W : World, (binOp .neq 31 (.agg #[.string s, .int .i64 p]) (.agg #[.string s, .int .i64 p])).run Try.prog W = .ok (.bool false) W := fun W => by rw [neq_en]; simp
          go_wp2
          go_quiet (fail)
          all_goals
            go_wp2
            go_roundw
            case rel => exact ⟨k + 1, by omega, by go_num, Lib.hid (by rw [take_snoc HX1.out, take_snoc HY1.out, heq.out]), below_to hB hB.size (below_drewN _ _)⟩
            case measure => simp [intOf]; omega
        · have HD := Lib.hid (decide_eq_false hxy)
          have HXY := Lib.hid hxy
          have hcmp : ∀ W : World, (binOp .neq 31 (.agg #[.string s, .int .i64 p]) (.agg #[.string t, .int .i64 q])).run Try.prog W = .ok (.bool true) W := fun W => by rw [neq_en, neq_en_no hxy]
          clear hxy
          go_wp2
          go_quiet (fail)
          all_goals
            go_wp2
            go_ret
            refine ⟨ret_bool (decide_eq_false ?_).symm, below_to hB hB.size (below_drewN _ _)⟩
            rintro rfl
            have h1 := HX1.out.symm.trans HY1.out
            injection h1 with h1
            injection h1 with h2 h3
            exact HXY.out (by first | exact ⟨h2, h3⟩ | exact ⟨h3, h2⟩)
      · have hkn : k = n := by omega
        subst hkn
        go_wp2
        go_ret
        refine ⟨ret_bool (decide_eq_true ?_).symm, hB⟩
        have h1 := heq.out
        rwa [List.take_of_length_le (by rw [HX.out]; exact Nat.le_refl _), List.take_of_length_le (by rw [HY.out]; exact Nat.le_refl _)] at h1
  · have hne : ¬ xs = ys := by rintro rfl; omega
    have HN := Lib.hid hne
    clear hne hxl hyl
    go_enter Try.func19, Try.ntmps19
    go_wp2
    go_ret
    exact ⟨ret_bool (decide_eq_false HN.out).symm, Below.refl _ _⟩
end Go.Proofs.Ytfjlocfaibbobab
