/- What is drawn for the laws on trees. -/
import Derived.Test.YtgnliaekngbmbaaLeaves
import Derived.Test.YtgnliaekngbmbaaTree4
import Derived.Test.YtgnliaekngbmbaaTree3
open Go.RowKit
namespace Go.Proofs.Ytgnliaekngbmbaa
/-- What is left when prints have been drawn. -/
def DrawnL (w : World) (e : Ending) (w' : World) : Prop := ∃ (v : Value) (k : Nat) (ys : List Int), e = .returned v ∧ k ≤ 17 ∧ w'.ownsRow w.heap.size 3 1 v k (ints ys) ∧ Below w.heap.size w w'
theorem drawTreeRoot (A : Option Addr) (n c : Nat) (xs : List Int) (w : World) (h : Rd w 1 A n (byts xs)) (hc : n ≤ c) (hx : ∀ x ∈ xs, (Lit.int .u8 x).wf = true) :
    Calls Try.prog 17 #[.slice A n c] w (DrawnL w) := by
  go_enter Try.func17, Try.ntmps17
  go_wp2_with (go_at_call 53; refine (l20Open A n c xs _ h hc hx).mono ?_; rintro e w1 ⟨R, rfl, hR, hr, hb⟩)
  refine (l20Leaves _ R _ 6 hr (by omega)).mono ?_
  rintro e w2 ⟨v, k, ys, rfl, hk, hown, hR2, hg2⟩
  go_wp2_with fail
  go_ret
  exact ⟨v, k, ys, rfl, hk, own_base hown hb.size, below_rdr hb hR hg2⟩
/-- What is left when prints and a number have been drawn. -/
def DrawnLN (w : World) (e : Ending) (w' : World) : Prop := ∃ (v : Value) (k : Nat) (ys : List Int) (m : Int), e = .returned (.tuple #[v, .int .i64 m]) ∧ k ≤ 17 ∧ (-1 ≤ m ∧ m ≤ k) ∧ w'.ownsRow w.heap.size 3 1 v k (ints ys) ∧ Below w.heap.size w w'
theorem drawTreeProof (A : Option Addr) (n c : Nat) (xs : List Int) (w : World) (h : Rd w 1 A n (byts xs)) (hc : n ≤ c) (hx : ∀ x ∈ xs, (Lit.int .u8 x).wf = true) :
    Calls Try.prog 33 #[.slice A n c] w (DrawnLN w) := by
  go_enter Try.func33, Try.ntmps33
  go_wp2_with (go_at_call 53; refine (l20Open A n c xs _ h hc hx).mono ?_; rintro e w1 ⟨R, rfl, hR, hr, hb⟩)
  refine (l20Leaves _ R _ 9 hr (by omega)).mono ?_
  rintro e w2 ⟨v, k, ys, rfl, hk, hown, hR2, hg2⟩
  obtain ⟨A2, c2, rfl, _⟩ := own_slice hown
  have hb2 := below_rdr hb hR hg2
  go_wp2_with fail
  refine (pick _ R _ ((k + 1 : Nat) : Int) hR2 (by omega)).mono ?_
  rintro e w3 ⟨x, rfl, x0, _, x1, hR3, hg3⟩
  go_wp2_with fail
  refine (pick _ R _ 14 hR3 (by omega)).mono ?_
  rintro e w4 ⟨y, rfl, y0, _, y1, hR4, hg4⟩
  go_wp2_with fail
  go_ret2
  exact ⟨_, k, ys, _, rfl, hk, by have := x1 (by omega); have := y1 (by omega); omega, own_base (own_rdr (own_rdr hown hg3 hr.lt) hg4 hr.lt) hb.size, below_rdr (below_rdr hb2 hR hg3) hR hg4⟩
end Go.Proofs.Ytgnliaekngbmbaa
