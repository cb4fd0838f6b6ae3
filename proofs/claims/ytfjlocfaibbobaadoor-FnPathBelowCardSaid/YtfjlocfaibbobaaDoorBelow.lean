/- Contracts: a path is below another. -/
import Derived.Test.YtfjlocfaibbobaaDoorBelowP
import Derived.Test.YtfjlocfaibbobaaDoorPartsI
import Derived.Test.YtfjlocfaibbobaaDoorPartsS
import Derived.Test.YtfjlocfaibbobaaDoorEqT
import Derived.Test.YtfjlocfaibbobaaDoorOpen
open Go.RowKit
namespace Go.Proofs.YtfjlocfaibbobaaDoor
theorem rd_short {w : World} {n m : Nat} {A : Option Addr} {xs : List ByteArray} (h : Rd w 1 A n (strs xs)) (hm : m ≤ n) : Rd w 1 A m (strs (xs.take m)) := by
  have hl := h.strLen
  refine ⟨by rw [strs_length, List.length_take, Nat.mul_one]; omega, fun hm0 => ?_⟩
  obtain ⟨b, off, e, hb, hc⟩ := h.2 (by omega)
  refine ⟨b, off, e, hb, fun j u hu => hc j u ?_⟩
  unfold strs at hu ⊢
  rw [List.getElem?_map, List.getElem?_take] at hu
  rw [List.getElem?_map]
  split at hu
  · exact hu
  · cases hu
def belowL (p : List ByteArray × Bool) (q : List ByteArray × Bool) : Bool := p.2 && (q.2 && decide (q.1.length ≤ p.1.length ∧ p.1.take q.1.length = q.1))
set_option maxHeartbeats 1600000 in
theorem specPathBelow (a b : ByteArray) (w : World) (ha : a.size ≤ 1048576) (hb : b.size ≤ 1048576) :
    Calls Tryd.prog 15 #[.string a, .string b] w fun e w' => e = .returned (.bool (belowP a b)) ∧ Below w.heap.size w w' := by
  have hl1 := partsP_len a
  have HB : Hid (belowP a b = belowL (partsP a) (partsP b)) := Lib.hid rfl
  go_enter Tryd.func15, Tryd.ntmps15
  go_wp2_with fail
  refine (specPathParts a _ ha).mono ?_
  rintro e w1 ⟨v1, rfl, hown1, hb1⟩
  obtain ⟨A1, c1, rfl, hc1⟩ := own_slice hown1
  go_wp2_with fail
  refine (specPathParts b _ hb).mono ?_
  rintro e w2 ⟨v2, rfl, hown2, hb2⟩
  obtain ⟨A2, c2, rfl, hc2⟩ := own_slice hown2
  have hB2 := below_step hb1 hb2
  have hr1 := (Rd.own hown1).below hb2
  have hr2 := Rd.own hown2
  clear hown1 hown2 hb1 hb2
  generalize partsP a = pa at *
  generalize partsP b = pb at *
  obtain ⟨xs, p⟩ := pa
  obtain ⟨ys, q⟩ := pb
  dsimp only at hr1 hr2 hl1 hc1 hc2 ⊢
  generalize hn : xs.length = n at *
  generalize hm : ys.length = m at *
  have HN := Lib.hid hn
  have HM := Lib.hid hm
  clear hn hm
  cases p
  · go_wp2_with fail
    go_ret
    exact ⟨ret_bool (by rw [HB.out]; rfl), hB2⟩
  · cases q
    · go_wp2_with fail
      go_ret
      exact ⟨ret_bool (by rw [HB.out]; rfl), hB2⟩
    · by_cases hlen : m ≤ n
      · have hle : ¬ ((n : Int) < (m : Int)) := by omega
        have hle' : decide ((n : Int) < (m : Int)) = false := decide_eq_false hle
        go_wp2_with fail
        go_loopw [9] (fun i wr => ∃ k : Nat, k ≤ m ∧ i = .int .i64 k ∧ Hid (xs.take k = ys.take k) ∧ ∃ j, wr = w2.drewN j) (fun i _ => m - (intOf i).toNat)
        case atStart => exact ⟨0, Nat.zero_le _, rfl, Lib.hid rfl, 0, rfl⟩
        case round =>
          obtain ⟨k, hk, rfl, heq, j, rfl⟩ := hrel
          clear hle hle'
          by_cases hlt : k < m
          · have hkn : k < n := by omega
            obtain ⟨b1, off, x, rfl, _, hx, hc⟩ := hr1.strAt hkn
            obtain ⟨b', off', y, rfl, _, hy, hc'⟩ := hr2.strAt hlt
            have HX1 := Lib.hid hx
            have HY1 := Lib.hid hy
            clear hx hy
            have hlt' : (k : Int) < (n : Int) := by omega
            have hlt2 : (k : Int) < (m : Int) := by omega
            by_cases hxy : x = y
            · subst hxy
              go_wp2
              go_quiet (fail)
              go_wp2
              go_roundw
              case rel => exact ⟨k + 1, by omega, by go_num, Lib.hid (by rw [take_snoc HX1.out, take_snoc HY1.out, heq.out]), _, by first | exact rfl | exact World.drewN_drewN _ _ _⟩
              case measure => simp [intOf]; omega
            · have hxy' := toList_ne hxy
              have HXY := Lib.hid hxy
              clear hxy
              go_wp2
              go_quiet (fail)
              go_wp2
              go_ret
              refine ⟨ret_bool ?_, below_to hB2 hB2.size (by first | exact below_drewN _ _ | (rw [World.drewN_drewN]; exact below_drewN _ _))⟩
              rw [HB.out]
              refine (decide_eq_false ?_).symm
              rintro ⟨_, e⟩
              have h1 := HX1.out
              have h2 := HY1.out
              dsimp only at e
              rw [← e, List.getElem?_take, HM.out, if_pos hlt] at h2
              exact HXY.out (by injection h1.symm.trans h2)
          · have hkm : k = m := by omega
            subst hkm
            go_wp2
            go_ret
            refine ⟨ret_bool ?_, below_to hB2 hB2.size (below_drewN _ _)⟩
            rw [HB.out]
            refine (decide_eq_true ?_).symm
            have h1 := heq.out
            rw [List.take_of_length_le (l := ys) (by rw [HM.out]; exact Nat.le_refl _)] at h1
            dsimp only
            rw [HM.out, HN.out]
            exact ⟨hlen, h1⟩
      · have hle : (n : Int) < (m : Int) := by omega
        have hle' : decide ((n : Int) < (m : Int)) = true := decide_eq_true hle
        go_wp2_with fail
        go_ret
        refine ⟨ret_bool ?_, hB2⟩
        rw [HB.out]
        refine (decide_eq_false ?_).symm
        rintro ⟨e, _⟩
        dsimp only at e
        rw [HM.out, HN.out] at e
        exact hlen e
set_option maxHeartbeats 1600000 in
theorem implPathBelow (a b : ByteArray) (mm : Int) (w : World) (ha : a.size ≤ 1048576) (hb : b.size ≤ 1048576) (hm : w.cell? ⟨1, 0, none⟩ = some (.int .i64 mm)) :
    Calls Tryd.prog 16 #[.string a, .string b] w fun e w' => e = .returned (.bool (belowP a b)) ∧ Below w.heap.size w w' := by
  have hl1 := partsP_len a
  have HB : Hid (belowP a b = belowL (partsP a) (partsP b)) := Lib.hid rfl
  go_enter Tryd.func16, Tryd.ntmps16
  go_wp2_with fail
  refine (implPathParts a mm _ ha hm).mono ?_
  rintro e w1 ⟨v1, rfl, hown1, hb1⟩
  obtain ⟨A1, c1, rfl, hc1⟩ := own_slice hown1
  have hm1 := (hb1.cell (p := ⟨1, 0, none⟩) (World.block_lt_of_cell? w _ hm)).trans hm
  clear hm
  generalize partsP a = pa at *
  obtain ⟨xs, p⟩ := pa
  dsimp only at hown1 hl1 hc1 ⊢
  cases p
  · go_wp2_with fail
    go_ret
    exact ⟨ret_bool (by rw [HB.out]; rfl), hb1⟩
  · go_wp2_with fail
    refine (implPathParts b mm _ hb hm1).mono ?_
    rintro e w2 ⟨v2, rfl, hown2, hb2⟩
    obtain ⟨A2, c2, rfl, hc2⟩ := own_slice hown2
    have hB2 := below_step hb1 hb2
    have hr1 := (Rd.own hown1).below hb2
    have hr2 := Rd.own hown2
    clear hown1 hown2 hb1 hb2 hm1
    generalize partsP b = pb at *
    obtain ⟨ys, q⟩ := pb
    dsimp only at hr2 hc2 ⊢
    generalize hn : xs.length = n at *
    generalize hm : ys.length = m at *
    have HN := Lib.hid hn
    have HM := Lib.hid hm
    clear hn hm
    cases q
    · go_wp2_with fail
      go_ret
      exact ⟨ret_bool (by rw [HB.out]; rfl), hB2⟩
    · by_cases hlen : m ≤ n
      · have hle : ¬ ((n : Int) < (m : Int)) := by omega
        have hle' : decide ((n : Int) < (m : Int)) = false := decide_eq_false hle
        have hmc : m ≤ c1 := by omega
        go_wp2_with fail
        refine (equalTexts _ _ m m _ _ (xs.take m) ys _ (rd_short hr1 hlen) hr2 (by omega)).mono ?_
        rintro e w3 ⟨rfl, j, rfl⟩
        go_wp2_with fail
        go_ret
        refine ⟨ret_bool ?_, below_to hB2 hB2.size (below_drewN _ _)⟩
        rw [HB.out]
        show _ = decide (ys.length ≤ xs.length ∧ xs.take ys.length = ys)
        rw [HM.out, HN.out]
        exact decide_eq_decide.2 ⟨fun e => ⟨hlen, e⟩, fun e => e.2⟩
      · have hle : (n : Int) < (m : Int) := by omega
        have hle' : decide ((n : Int) < (m : Int)) = true := decide_eq_true hle
        go_wp2_with fail
        go_ret
        refine ⟨ret_bool ?_, hB2⟩
        rw [HB.out]
        refine (decide_eq_false ?_).symm
        rintro ⟨e, _⟩
        dsimp only at e
        rw [HM.out, HN.out] at e
        exact hlen e
theorem drawPathBelow (A : Option Addr) (n c : Nat) (xs : List Int) (w : World) (h : Rd w 1 A n (byts xs)) (hc : n ≤ c) (hx : ∀ x ∈ xs, (Lit.int .u8 x).wf = true) :
    Calls Tryd.prog 17 #[.slice A n c] w fun e w' => ∃ s t : ByteArray, e = .returned (.tuple #[.string s, .string t]) ∧ s.size ≤ 9 ∧ t.size ≤ 9 ∧ Below w.heap.size w w' := by
  go_enter Tryd.func17, Tryd.ntmps17
  go_wp2_with (go_at_call 48; refine (l20Open A n c xs _ h hc hx).mono ?_; rintro e w1 ⟨R, rfl, hR, hr, hb⟩)
  refine (l20Path _ R _ 12 hr (by omega)).mono ?_
  rintro e w2 ⟨s, rfl, hs, hR2, hg2⟩
  have hB2 := below_rdr hb hR hg2
  go_wp2_with fail
  refine (l20Path _ R _ 12 hR2 (by omega)).mono ?_
  rintro e w3 ⟨t, rfl, ht, hR3, hg3⟩
  go_wp2_with fail
  go_ret2
  exact ⟨s, t, rfl, hs, ht, below_rdr hB2 hR hg3⟩
end Go.Proofs.YtfjlocfaibbobaaDoor
