/- Contracts of the functions on trees: what proves, where a proof leads. -/
import Derived.Test.YtgnliaekngbmbaaTree2
open Go.RowKit
namespace Go.Proofs.Ytgnliaekngbmbaa
theorem getD_some {xs : List Int} {o : Nat} {x : Int} (h : xs[o]? = some x) : xs[o]?.getD (-1) = x := by rw [h]; rfl
theorem getD_none {xs : List Int} {o : Nat} (h : xs.length ≤ o) : xs[o]?.getD (-1) = -1 := by rw [List.getElem?_eq_none h]; rfl
theorem ints_snoc (xs : List Int) (x : Int) : ints (xs ++ [x]) = ints xs ++ (#[Value.int .i64 x] : Array Value).toList := by simp [ints]
theorem Rd.grown' {w w' : World} {size n : Nat} {A : Option Addr} {xs : List Value} {row : Option Nat} (h : Rd w size A n xs) (hg : w.grownBy w' row) (hne : ∀ ad, A = some ad → some ad.block ≠ row) : Rd w' size A n xs :=
  ⟨h.1, fun hn => by
    obtain ⟨b, off, e, hb, hc⟩ := h.2 hn
    exact ⟨b, off, e, Nat.lt_of_lt_of_le hb hg.size, fun j u hu => (World.cell?_of_block (hg.block b hb (hne _ e))).trans (hc j u hu)⟩⟩
/-- What holds at the head of each round: the proof so far, the level, where they lie. -/
def PrfInv (w : World) (G : Nat) (R : List Int) (nv pv lv : Value) (wr : World) : Prop :=
  ∃ (m k : Nat) (acc : List Int) (A' : Option Addr) (n' c' : Nat) (ys : List Int), nv = .int .i64 (m : Int) ∧ lv = .slice A' n' c' ∧ Rd wr 1 A' n' (ints ys) ∧ 1 ≤ n' ∧ n' ≤ 16 ∧ m < n' ∧ k ≤ 16 ∧
    wr.ownsRow G 3 1 pv k (ints acc) ∧ acc ++ proofOf ys m = R ∧ Below G w wr ∧ (∀ ad, A' = some ad → some ad.block ≠ pv.ownBlock) ∧ k + n' ≤ 17 ∧ G ≤ wr.heap.size
theorem rd_block {w : World} {n : Nat} {A : Option Addr} {xs : List Value} (h : Rd w 1 A n xs) (hn : 0 < n) : ∀ ad, A = some ad → ad.block < w.heap.size := by
  obtain ⟨b, off, rfl, hb, _⟩ := h.2 hn
  rintro ad e
  injection e with e
  subst e
  exact hb
/-- The step of the invariant: one print more, one level up. -/
theorem prfInv_step {w wr w1 w2 : World} {G m k n' : Nat} {R acc ys : List Int} {A' : Option Addr} {v1 v2 : Value} (hr : Rd wr 1 A' n' (ints ys)) (h2 : 1 < n') (h16 : n' ≤ 16) (hm : m < n') (hR : acc ++ proofOf ys m = R) (hk : k + n' ≤ 17)
    (hG : G ≤ wr.heap.size) (hb1 : Below G w w1) (ho1 : w1.ownsRow G 3 1 v1 (k + 1) (ints (acc ++ [ys[otherOf m]?.getD (-1)]))) (hs1 : wr.heap.size ≤ w1.heap.size)
    (ho2 : w2.ownsRow w1.heap.size 3 1 v2 ((n' + 1) / 2) (ints (levelUp ys))) (hb2 : Below w1.heap.size w1 w2) : PrfInv w G R (.int .i64 ((m / 2 : Nat) : Int)) v1 v2 w2 := by
  obtain ⟨A2, c2, rfl, _⟩ := own_slice ho2
  refine ⟨m / 2, k + 1, _, A2, (n' + 1) / 2, c2, levelUp ys, rfl, rfl, Rd.own ho2, by omega, by omega, by omega, by omega, own_below ho1 hb2, ?_, below_to hb1 (by omega) hb2, ?_, by omega, ?_⟩
  · rw [snoc_cons, ← hR, proofOf_up m (by rw [hr.intLen]; omega)]
  · rintro ad rfl e
    have h1 := (ho2.lt ad.block rfl).1
    have h3 := (ho1.lt ad.block e.symm).2
    omega
  · have := hb2.size
    omega
theorem proofF_length : ∀ (f : Nat) (xs : List Int) (m : Nat), (proofF f xs m).length ≤ f
  | 0, _, _ => Nat.le_refl _
  | f + 1, xs, m => by
    simp only [proofF]
    split
    · exact Nat.zero_le _
    · have := proofF_length f (levelUp xs) (m / 2)
      rw [List.length_cons]
      omega
theorem treeP_length (xs : List Int) (n : Int) : (treeP xs n).length ≤ 4194304 := by
  unfold treeP
  split
  · rename_i h
    have h1 := proofF_length xs.length xs n.toNat
    have h2 := leavesV_len h.1
    unfold proofOf
    omega
  · exact Nat.zero_le _
set_option maxHeartbeats 3200000 in
theorem implTreeProof (A : Option Addr) (n c : Nat) (a : Int) (xs : List Int) (w : World) (h : Rd w 1 A n (ints xs)) (hn : n ≤ 4194304) :
    Calls Try.prog 34 #[.slice A n c, .int .i64 a] w fun e w' => ∃ v, e = .returned v ∧ w'.ownsRow w.heap.size 3 1 v (treeP xs a).length (ints (treeP xs a)) ∧ Below w.heap.size w w' := by
  have HX := Lib.hid h.intLen
  by_cases hok : leavesV xs = true ∧ 0 ≤ a ∧ a < xs.length
  · obtain ⟨hv, a0, a1⟩ := hok
    obtain ⟨l1, l16⟩ := leavesV_len hv
    rw [HX.out] at l1 l16 a1
    obtain ⟨m, rfl⟩ := Int.eq_ofNat_of_zero_le a0
    have HV := Lib.hid hv
    have HP := Lib.hid (treeP_yes hv (m := m) (by rw [HX.out]; omega))
    have hm : m < n := by omega
    have hd1 : decide ((m : Int) < 0) = false := decide_eq_false (by omega)
    have hd2 : decide (n ≤ m) = false := decide_eq_false (by omega)
    clear hv
    go_enter Try.func34, Try.ntmps34
    go_wp2_with (go_at_call 59; refine (leavesValid _ _ _ xs _ h hn).mono ?_; rintro e w' ⟨rfl, rfl⟩; rw [HV.out])
    go_loopw [1, 5, 6, 7] (fun nv pv lv _ wr => PrfInv w w.heap.size (proofOf xs m) nv pv lv wr) (fun _ _ lv _ _ => lenV lv)
    case atStart => exact ⟨m, 0, [], A, n, c, xs, rfl, rfl, h, l1, l16, hm, by omega, World.ownsRow_nil _ _ _ _, rfl, Below.refl _ _, fun ad _ => by simp [Value.ownBlock], by omega, Nat.le_refl _⟩
    case round =>
      obtain ⟨m', k, acc, A', n', c', ys, rfl, rfl, hr, h1, h16', hm', hk16, ho, hR, hb, hdis, hkn, hG⟩ := hrel
      by_cases hlt : 1 < n'
      · have HSTEP := Lib.hid (fun (w1 w2 : World) (v1 v2 : Value) => @prfInv_step w wr w1 w2 w.heap.size m' k n' (proofOf xs m) acc ys A' v1 v2 hr hlt h16' hm' hR hkn hG)
        have hxor := xor_one m' (by omega)
        have hdiv : (0 : Int) ≤ (m' : Int) := Int.natCast_nonneg _
        by_cases ho1 : otherOf m' < n'
        · obtain ⟨b, off, x, rfl, _, hx, hc⟩ := hr.intAt ho1
          have HG := Lib.hid (getD_some hx)
          generalize hO : otherOf m' = o at *
          have HO := Lib.hid hO
          clear hO hx hR
          go_wp2_with (at_builtin; refine wpList_app1 _ rfl (.tmp 35) (.tmp 37) _ rfl w.heap.size 3 1 8 (.int .i64 0) Try.underlying30 int_info rfl (by omega) (by omega) u5 k _ rfl ho _ rfl (one_int _) rfl (by omega) hG ?_; intro v1 w1 hown1 hg1 _)
          have hb1 := below_app hb ho hg1 hG
          have hr1 := hr.grown' hg1 hdis
          rw [← ints_snoc, ← HG.out] at hown1
          go_wp2_with (go_at_call 60; refine (levelAbove _ _ _ ys _ hr1 (by omega)).mono ?_; rintro e w2 ⟨v2, rfl, ho2, hb2⟩)
          obtain ⟨A2, c2, hv2, _⟩ := own_slice ho2
          have hlen : lenV v2 = (n' + 1) / 2 := by rw [hv2]; rfl
          have HL := Lib.hid hlen
          clear hv2 hlen
          go_roundw
          case rel => exact HSTEP.out w1 w2 v1 v2 hb1 hown1 hg1.size ho2 hb2
          case measure => show lenV v2 < n'; rw [HL.out]; omega
        · have HG := Lib.hid (getD_none (xs := ys) (o := otherOf m') (by rw [hr.intLen]; omega))
          generalize hO : otherOf m' = o at *
          have HO := Lib.hid hO
          clear hO hR
          go_wp2_with (at_builtin; refine wpList_app1 _ rfl (.tmp 35) (.tmp 37) _ rfl w.heap.size 3 1 8 (.int .i64 0) Try.underlying30 int_info rfl (by omega) (by omega) u5 k _ rfl ho _ rfl (one_int _) rfl (by omega) hG ?_; intro v1 w1 hown1 hg1 _)
          have hb1 := below_app hb ho hg1 hG
          have hr1 := hr.grown' hg1 hdis
          rw [← ints_snoc, ← HG.out] at hown1
          go_wp2_with (go_at_call 60; refine (levelAbove _ _ _ ys _ hr1 (by omega)).mono ?_; rintro e w2 ⟨v2, rfl, ho2, hb2⟩)
          obtain ⟨A2, c2, hv2, _⟩ := own_slice ho2
          have hlen : lenV v2 = (n' + 1) / 2 := by rw [hv2]; rfl
          have HL := Lib.hid hlen
          clear hv2 hlen
          go_roundw
          case rel => exact HSTEP.out w1 w2 v1 v2 hb1 hown1 hg1.size ho2 hb2
          case measure => show lenV v2 < n'; rw [HL.out]; omega
      · obtain rfl : n' = 1 := by omega
        have HRR := Lib.hid hR
        clear hR
        go_wp2
        go_ret
        refine ⟨_, rfl, ?_, hb⟩
        rw [HP.out, ← HRR.out, proofOf_short _ (by rw [hr.intLen]; omega), List.append_nil]
        rw [show acc.length = k from by have := ho.1; rw [ints_length] at this; omega]
        exact ho
  · have HP := Lib.hid (treeP_no hok)
    rw [HX.out] at hok
    cases hv : leavesV xs
    · have HV := Lib.hid hv
      clear hv hok
      go_enter Try.func34, Try.ntmps34
      go_wp2_with (go_at_call 59; refine (leavesValid _ _ _ xs _ h hn).mono ?_; rintro e w' ⟨rfl, rfl⟩; rw [HV.out])
      go_ret
      exact ⟨_, rfl, by rw [HP.out]; exact World.ownsRow_nil _ _ _ _, Below.refl _ _⟩
    · rcases (by by_cases h0 : a < 0; exact .inl h0; exact .inr (by by_cases h1 : a < n; exact absurd ⟨hv, by omega, h1⟩ hok; omega) : a < 0 ∨ (n : Int) ≤ a) with h0 | h0
      all_goals
        have HV := Lib.hid hv
        clear hv hok
        go_enter Try.func34, Try.ntmps34
        go_wp2_with (go_at_call 59; refine (leavesValid _ _ _ xs _ h hn).mono ?_; rintro e w' ⟨rfl, rfl⟩; rw [HV.out])
        go_ret
        exact ⟨_, rfl, by rw [HP.out]; exact World.ownsRow_nil _ _ _ _, Below.refl _ _⟩
set_option maxHeartbeats 3200000 in
theorem specTreeProof (A : Option Addr) (n c : Nat) (a : Int) (xs : List Int) (w : World) (h : Rd w 1 A n (ints xs)) (hn : n ≤ 4194304) :
    Calls Try.prog 36 #[.slice A n c, .int .i64 a] w fun e w' => ∃ v, e = .returned v ∧ w'.ownsRow w.heap.size 3 1 v (treeP xs a).length (ints (treeP xs a)) ∧ Below w.heap.size w w' := by
  have HX := Lib.hid h.intLen
  by_cases hok : leavesV xs = true ∧ 0 ≤ a ∧ a < xs.length
  · obtain ⟨hv, a0, a1⟩ := hok
    obtain ⟨l1, l16⟩ := leavesV_len hv
    rw [HX.out] at l1 l16 a1
    obtain ⟨m, rfl⟩ := Int.eq_ofNat_of_zero_le a0
    have HV := Lib.hid hv
    have HP := Lib.hid (treeP_yes hv (m := m) (by rw [HX.out]; omega))
    have hm : m < n := by omega
    have hd1 : decide ((m : Int) < 0) = false := decide_eq_false (by omega)
    have hd2 : decide (n ≤ m) = false := decide_eq_false (by omega)
    clear hv
    have HB := Lib.hid (inB_yes (n := (m : Int)) (lo := 0) (hi := (n : Int) - 1) (by omega) (by omega))
    go_enter Try.func36, Try.ntmps36
    go_wp2_with (first | (go_at_call 61; refine (l5Valid _ _ _ xs _ (h.alloc _) hn).mono ?_; rintro e w' ⟨rfl, rfl⟩; rw [HV.out]) | (go_at_call 57; refine (l1In _ _ _ _).mono ?_; rintro e w' ⟨rfl, rfl⟩; rw [HB.out]))
    go_loopw [0, 1, 5, 6] (fun lv nv pv _ wr => PrfInv w w.heap.size (proofOf xs m) nv pv lv wr) (fun lv _ _ _ _ => lenV lv)
    case atStart => exact ⟨m, 0, [], A, n, c, xs, rfl, rfl, h.alloc _, l1, l16, hm, by omega, own_empty _ _ _, rfl, (Below.refl _ _).alloc (Nat.le_refl _) _, fun ad e => by have := rd_block h (by omega) ad e; simp [Value.ownBlock]; omega, by omega, by simp⟩
    case round =>
      obtain ⟨m', k, acc, A', n', c', ys, rfl, rfl, hr, h1, h16', hm', hk16, ho, hR, hb, hdis, hkn, hG⟩ := hrel
      by_cases hlt : 1 < n'
      · have HSTEP := Lib.hid (fun (w1 w2 : World) (v1 v2 : Value) => @prfInv_step w wr w1 w2 w.heap.size m' k n' (proofOf xs m) acc ys A' v1 v2 hr hlt h16' hm' hR hkn hG)
        have hoth : (otherOf m' : Int) = (m' : Int) + 1 - (m' : Int) % 2 * 2 := by unfold otherOf; split <;> omega
        have hdiv : (0 : Int) ≤ (m' : Int) := Int.natCast_nonneg _
        by_cases ho1 : otherOf m' < n'
        · obtain ⟨b, off, x, rfl, _, hx, hc⟩ := hr.intAt ho1
          have HG := Lib.hid (getD_some hx)
          generalize hO : otherOf m' = o at *
          have hO1 : (m' : Int) + 1 - (m' : Int) % 2 * 2 = (o : Int) := hoth.symm
          clear hoth
          have HO := Lib.hid hO
          clear hO hx hR
          go_wp2_with (at_builtin; refine wpList_app1 _ rfl (.tmp 33) (.tmp 38) _ rfl w.heap.size 3 1 8 (.int .i64 0) Try.underlying30 int_info rfl (by omega) (by omega) u5 k _ rfl ho _ rfl (one_int _) rfl (by omega) hG ?_; intro v1 w1 hown1 hg1 _)
          have hb1 := below_app hb ho hg1 hG
          have hr1 := hr.grown' hg1 hdis
          rw [← ints_snoc, ← HG.out] at hown1
          go_wp2_with (go_at_call 62; refine (l5Up _ _ _ ys _ hr1 (by omega)).mono ?_; rintro e w2 ⟨v2, rfl, ho2, hb2⟩)
          obtain ⟨A2, c2, hv2, _⟩ := own_slice ho2
          have hlen : lenV v2 = (n' + 1) / 2 := by rw [hv2]; rfl
          have HL := Lib.hid hlen
          clear hv2 hlen
          go_roundw
          case rel => exact HSTEP.out w1 w2 v1 v2 hb1 hown1 hg1.size ho2 hb2
          case measure => show lenV v2 < n'; rw [HL.out]; omega
        · have HG := Lib.hid (getD_none (xs := ys) (o := otherOf m') (by rw [hr.intLen]; omega))
          generalize hO : otherOf m' = o at *
          have hO1 : (m' : Int) + 1 - (m' : Int) % 2 * 2 = (o : Int) := hoth.symm
          clear hoth
          have HO := Lib.hid hO
          clear hO hR
          go_wp2_with (at_builtin; refine wpList_app1 _ rfl (.tmp 40) (.tmp 41) _ rfl w.heap.size 3 1 8 (.int .i64 0) Try.underlying30 int_info rfl (by omega) (by omega) u5 k _ rfl ho _ rfl (one_int _) rfl (by omega) hG ?_; intro v1 w1 hown1 hg1 _)
          have hb1 := below_app hb ho hg1 hG
          have hr1 := hr.grown' hg1 hdis
          rw [← ints_snoc, ← HG.out] at hown1
          go_wp2_with (go_at_call 62; refine (l5Up _ _ _ ys _ hr1 (by omega)).mono ?_; rintro e w2 ⟨v2, rfl, ho2, hb2⟩)
          obtain ⟨A2, c2, hv2, _⟩ := own_slice ho2
          have hlen : lenV v2 = (n' + 1) / 2 := by rw [hv2]; rfl
          have HL := Lib.hid hlen
          clear hv2 hlen
          go_roundw
          case rel => exact HSTEP.out w1 w2 v1 v2 hb1 hown1 hg1.size ho2 hb2
          case measure => show lenV v2 < n'; rw [HL.out]; omega
      · obtain rfl : n' = 1 := by omega
        have HRR := Lib.hid hR
        clear hR
        go_wp2
        go_ret
        refine ⟨_, rfl, ?_, hb⟩
        rw [HP.out, ← HRR.out, proofOf_short _ (by rw [hr.intLen]; omega), List.append_nil]
        rw [show acc.length = k from by have := ho.1; rw [ints_length] at this; omega]
        exact ho
  · have HP := Lib.hid (treeP_no hok)
    rw [HX.out] at hok
    cases hv : leavesV xs
    · have HV := Lib.hid hv
      clear hv hok
      go_enter Try.func36, Try.ntmps36
      go_wp2_with (first | (go_at_call 61; refine (l5Valid _ _ _ xs _ (h.alloc _) hn).mono ?_; rintro e w' ⟨rfl, rfl⟩; rw [HV.out]) | (go_at_call 57; refine (l1In _ _ _ _).mono ?_; rintro e w' ⟨rfl, rfl⟩; rw [HB.out]))
      go_ret
      exact ⟨_, rfl, by rw [HP.out]; exact own_empty _ _ _, (Below.refl _ _).alloc (Nat.le_refl _) _⟩
    · have HB := Lib.hid (inB_no (n := a) (lo := 0) (hi := (n : Int) - 1) (fun h' => hok ⟨hv, h'.1, by omega⟩))
      obtain ⟨l1, l16⟩ := leavesV_len hv
      rw [HX.out] at l1 l16
      have HV := Lib.hid hv
      clear hv hok
      go_enter Try.func36, Try.ntmps36
      go_wp2_with (first | (go_at_call 61; refine (l5Valid _ _ _ xs _ (h.alloc _) hn).mono ?_; rintro e w' ⟨rfl, rfl⟩; rw [HV.out]) | (go_at_call 57; refine (l1In _ _ _ _).mono ?_; rintro e w' ⟨rfl, rfl⟩; rw [HB.out]))
      go_ret
      exact ⟨_, rfl, by rw [HP.out]; exact own_empty _ _ _, (Below.refl _ _).alloc (Nat.le_refl _) _⟩
end Go.Proofs.Ytgnliaekngbmbaa
