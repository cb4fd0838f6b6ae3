/- What is drawn for the law on ProofRoot. -/
import Derived.Test.YtgnliaekngbmbaaLeaves0
import Derived.Test.YtgnliaekngbmbaaTree3
import Derived.Test.YtgnliaekngbmbaaCut
open Go.RowKit
namespace Go.Proofs.Ytgnliaekngbmbaa
theorem intB_yes {lo hi z : Int} (h : lo ≤ z) (h' : z ≤ hi) : intB lo hi (.int .i64 z) = true := decide_eq_true ⟨h, h'⟩
theorem treeP_short (xs : List Int) (n : Int) : (treeP xs n).length ≤ 16 := by
  unfold treeP
  split
  · rename_i h
    have h1 := proofF_length xs.length xs n.toNat
    have h2 := leavesV_len h.1
    unfold proofOf
    omega
  · exact Nat.zero_le _
/-- What is left when a proof has been drawn. -/
def DrawnPr (w : World) (e : Ending) (w' : World) : Prop := ∃ (a b d : Int) (v : Value) (k : Nat) (ys : List Int), e = .returned (.tuple #[.int .i64 a, .int .i64 b, .int .i64 d, v]) ∧ k ≤ 100 ∧ w'.ownsRow w.heap.size 3 1 v k (ints ys) ∧ Below w.heap.size w w'
set_option maxRecDepth 8000 in
set_option maxHeartbeats 3200000 in
theorem drawProofRoot (A : Option Addr) (n c : Nat) (xs : List Int) (w : World) (h : Rd w 1 A n (byts xs)) (hc : n ≤ c) (hx : ∀ x ∈ xs, (Lit.int .u8 x).wf = true) :
    Calls Try.prog 30 #[.slice A n c] w (DrawnPr w) := by
  go_enter Try.func30, Try.ntmps30
  go_wp2_with (go_at_call 53; refine (l20Open A n c xs _ h hc hx).mono ?_; rintro e w1 ⟨R, rfl, hR, hr, hb⟩)
  refine (l20Leaves0 _ R _ hr (by omega)).mono ?_
  rintro e w2 ⟨v, k, ys, rfl, hk1, hk, hown, hR2, hg2⟩
  have hRlt := hr.lt
  obtain ⟨A2, c2, rfl, _⟩ := own_slice hown
  have hb2 := below_rdr hb hR hg2
  go_wp2_with fail
  refine (pick _ R _ (k : Int) hR2 (by omega)).mono ?_
  rintro e w3 ⟨x, rfl, x0, _, x1, hR3, hg3⟩
  obtain ⟨q, rfl⟩ := Int.eq_ofNat_of_zero_le x0
  have hqk : q < k := by have := x1 (by omega); omega
  clear x0 x1
  have hown3 := own_rdr hown hg3 hRlt
  have hb3 := below_rdr hb2 hR hg3
  go_wp2_with fail
  refine (specTreeProof _ _ _ (q : Int) ys _ (Rd.own hown3) (by omega)).mono ?_
  rintro e w4 ⟨v4, rfl, hown4, hb4⟩
  have hr4 := (Rd.own hown3).below hb4
  have hlen4 := treeP_short ys q
  have hR4 := hR3.below hb4
  have hB4 := below_step hb3 hb4
  have hG4 : w1.heap.size ≤ w4.heap.size := Nat.le_trans hg2.size (Nat.le_trans hg3.size hb4.size)
  obtain ⟨bb, off, y, rfl, _, hy, hcy⟩ := hr4.intAt hqk
  go_wp2_with fail
  refine (pick _ R _ 8 hR4 (by omega)).mono ?_
  rintro e w5 ⟨x, rfl, x0, _, x1, hR5, hg5⟩
  obtain ⟨z, rfl⟩ := Int.eq_ofNat_of_zero_le x0
  have hz7 : z ≤ 7 := by have := x1 (by omega); omega
  clear x0 x1
  have hRw3 : R < w3.heap.size := Nat.lt_of_lt_of_le hRlt (Nat.le_trans hg2.size hg3.size)
  have hown5 := own_rdr hown4 hg5 hRw3
  have hb5 := below_rdr hB4 hR hg5
  generalize (treeP ys q).length = len at *
  generalize treeP ys q = zs at *
  have hz : z = 0 ∨ z = 1 ∨ z = 2 ∨ z = 3 ∨ z = 4 ∨ 5 ≤ z := by omega
  rcases hz with rfl | rfl | rfl | rfl | rfl | hz
  · go_wp2_with fail
    refine (l20Print _ R _ 3 hR5 (by omega)).mono ?_
    rintro e w6 ⟨x, rfl, _, _, hR6, hg6⟩
    go_wp2_with fail
    refine bodyPost_ret (v := .tuple #[.int .i64 x, .int .i64 (q : Int), .int .i64 (k : Int), v4]) (by simp [results, Try.results30, go_sem]) rfl ⟨_, _, _, _, _, _, rfl, ?_, own_base (own_rdr hown5 hg6 hRw3) hb3.size, below_rdr hb5 hR hg6⟩
    omega
  · go_wp2_with fail
    refine (pick _ R _ ((k + 1 : Nat) : Int) hR5 (by omega)).mono ?_
    rintro e w6 ⟨x, rfl, x0, _, x1, hR6, hg6⟩
    have hx1 := x1 (by omega)
    clear x1
    go_wp2_with fail
    refine (pick _ R _ 3 hR6 (by omega)).mono ?_
    rintro e w7 ⟨u, rfl, u0, _, u1, hR7, hg7⟩
    have hu1 := u1 (by omega)
    clear u1
    go_wp2_with fail
    refine bodyPost_ret (v := .tuple #[.int .i64 y, .int .i64 (x - u / 2), .int .i64 (k : Int), v4]) (by simp [results, Try.results30, go_sem]) rfl ⟨_, _, _, _, _, _, rfl, ?_, own_base (own_rdr (own_rdr hown5 hg6 hRw3) hg7 hRw3) hb3.size, below_rdr (below_rdr hb5 hR hg6) hR hg7⟩
    omega
  · go_wp2_with fail
    refine (pick_tab _ R _ w5.heap.size 3 _ _ (intB (-2) 16777213) (hR5.below ((Below.refl _ _).alloc (Nat.le_refl _) _)) (by omega) (heap_alloc_new w5 _) (Nat.ne_of_gt hR5.lt) rfl (by omega) (by have : intB (-2) 16777213 (.int .i64 ((k : Int) + 1)) = true := intB_yes (by omega) (by omega); show (intB (-2) 16777213 (.int .i64 0) && (intB (-2) 16777213 (.int .i64 ((k : Int) + 1)) && (intB (-2) 16777213 (.int .i64 17) && true))) = true; rw [this, intB_yes (show (-2 : Int) ≤ 0 by omega) (show (0 : Int) ≤ 16777213 by omega), intB_yes (show (-2 : Int) ≤ 17 by omega) (show (17 : Int) ≤ 16777213 by omega)]; rfl)).mono ?_
    rintro e w6 ⟨x, v, rfl, hx, hv, hcell, hR6, hg6⟩
    obtain ⟨u, rfl, _, _⟩ := intB_of hv
    go_wp2_with fail
    refine bodyPost_ret (v := .tuple #[.int .i64 y, .int .i64 (q : Int), .int .i64 u, v4]) (by simp [results, Try.results30, go_sem]) rfl ⟨_, _, _, _, _, _, rfl, ?_, own_base (own_rdr (hown5.alloc _) hg6 hRw3) hb3.size, below_rdr (hb5.alloc hb5.size _) hR hg6⟩
    omega
  · obtain ⟨A4, c4, rfl, _⟩ := own_slice hown5
    go_wp2_with fail
    refine (pick_tab _ R _ w5.heap.size 3 _ _ (intB (-2) 16777213) (hR5.below ((Below.refl _ _).alloc (Nat.le_refl _) _)) (by omega) (heap_alloc_new w5 _) (Nat.ne_of_gt hR5.lt) rfl (by omega) rfl).mono ?_
    rintro e w6 ⟨x, v, rfl, hx, hv, hcell, hR6, hg6⟩
    obtain ⟨u, rfl, _, _⟩ := intB_of hv
    have hown6 := own_rdr (hown5.alloc (.cells #[.int .i64 (-1), .int .i64 5, .int .i64 (-2)] 3)) hg6 hRw3
    have hb6 := below_rdr (hb5.alloc hb5.size (.cells #[.int .i64 (-1), .int .i64 5, .int .i64 (-2)] 3)) hR hg6
    have hG6 : w3.heap.size ≤ w6.heap.size := Nat.le_trans (Nat.le_trans (Nat.le_trans hb4.size hg5.size) (by simp)) hg6.size
    go_wp2_with (at_builtin; refine wpList_app1 _ rfl (.tmp 56) (.tmp 62) _ rfl w3.heap.size 3 1 8 (.int .i64 0) Try.underlying30 int_info rfl (by omega) (by omega) _ len _ rfl hown6 _ rfl (one_int _) rfl (by omega) hG6 ?_; intro v7 w7 hown7 hg7 _)
    rw [show ints zs ++ (#[Value.int .i64 u] : Array Value).toList = ints (zs ++ [u]) from by simp [ints]] at hown7
    go_wp2_with fail
    refine bodyPost_ret (v := .tuple #[.int .i64 y, .int .i64 (q : Int), .int .i64 (k : Int), v7]) (by simp [results, Try.results30, go_sem]) rfl ⟨_, _, _, _, _, _, rfl, ?_, own_base hown7 hb3.size, hb6.grown hg7 hb6.size (fun i e => Nat.le_trans hb3.size (hown6.lt i e).1)⟩
    omega
  · by_cases hlen0 : 0 < len
    · obtain ⟨g, cap, _, rfl, _, hgb⟩ := own_at hown5 hlen0
      have hL0 : ((0 : Int) < (len : Int)) := by omega
      have hgR : g ≠ R := by omega
      go_wp2_with fail
      refine (pick _ R _ (len : Int) hR5 (by omega)).mono ?_
      rintro e w6 ⟨x, rfl, x0, _, x1, hR6, hg6⟩
      obtain ⟨i, rfl⟩ := Int.eq_ofNat_of_zero_le x0
      have hi : i < len := by have := x1 (by omega); omega
      clear x0 x1
      have hown6 := own_rdr hown5 hg6 hRw3
      have hb6 := below_rdr hb5 hR hg6
      go_wp2_with fail
      refine (pick_tab _ R _ w6.heap.size 3 _ _ (intB (-2) 16777213) (hR6.below ((Below.refl _ _).alloc (Nat.le_refl _) _)) (by omega) (heap_alloc_new w6 _) (Nat.ne_of_gt hR6.lt) rfl (by omega) rfl).mono ?_
      rintro e w7 ⟨x, v, rfl, hx, hv, hcell, hR7, hg7⟩
      obtain ⟨u, rfl, _, _⟩ := intB_of hv
      have hown7 := own_rdr (hown6.alloc (.cells #[.int .i64 (-1), .int .i64 5, .int .i64 16777213] 3)) hg7 hRw3
      have hb7 := below_rdr (hb6.alloc hb6.size (.cells #[.int .i64 (-1), .int .i64 5, .int .i64 16777213] 3)) hR hg7
      have hfz := hown7.frozenAt i
      obtain ⟨o, ho⟩ : ∃ o, w7.cell? ⟨g, i, none⟩ = some o := by
        rw [hown7.cellAt i (by omega)]
        have := (Rd.own hown7).intLen
        exact ⟨_, List.getElem?_eq_getElem (by rw [ints_length]; omega)⟩
      have hst := hown7.stored i (.int .i64 u)
      rw [ints_set] at hst
      have HS := Lib.hid hst.1
      have HB := Lib.hid (hb7.grown hst.2 hb7.size (fun j e => by injection e with e; have := hb3.size; omega))
      clear hst
      go_wp2_with fail
      refine bodyPost_ret (v := .tuple #[.int .i64 y, .int .i64 (q : Int), .int .i64 (k : Int), .slice (some ⟨g, 0, none⟩) len cap]) (by simp [results, Try.results30, go_sem]) rfl ⟨_, _, _, _, _, _, rfl, ?_, own_base HS.out hb3.size, HB.out⟩
      omega
    · have hL0 : decide ((0 : Int) < (len : Int)) = false := decide_eq_false (by omega)
      obtain ⟨A4, c4, rfl, _⟩ := own_slice hown5
      go_wp2_with fail
      refine bodyPost_ret (v := .tuple #[.int .i64 y, .int .i64 (q : Int), .int .i64 (k : Int), .slice A4 len c4]) (by simp [results, Try.results30, go_sem]) rfl ⟨_, _, _, _, _, _, rfl, ?_, own_base hown5 hb3.size, hb5⟩
      omega
  · have hq0 : decide ((z : Int) = 0) = false := decide_eq_false (by omega)
    have e0 : ((z : Int) == 0) = false := by simp; omega
    have e1 : ((z : Int) == 1) = false := by simp; omega
    have e2 : ((z : Int) == 2) = false := by simp; omega
    have e3 : ((z : Int) == 3) = false := by simp; omega
    have e4 : ((z : Int) == 4) = false := by simp; omega
    clear hq0
    go_wp2_with fail
    refine bodyPost_ret (v := .tuple #[.int .i64 y, .int .i64 (q : Int), .int .i64 (k : Int), v4]) (by simp [results, Try.results30, go_sem]) rfl ⟨_, _, _, _, _, _, rfl, ?_, own_base hown5 hb3.size, hb5⟩
    omega
end Go.Proofs.Ytgnliaekngbmbaa
