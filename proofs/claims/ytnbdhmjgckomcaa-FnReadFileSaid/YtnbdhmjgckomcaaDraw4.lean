/- What is drawn: the draws of texts and prints for the laws. -/
import Derived.Test.YtnbdhmjgckomcaaDraw3
open Go.RowKit
namespace Go.Proofs.Ytnbdhmjgckomcaa
theorem below_rdr {w w1 w2 : World} {R : Nat} (hb : Below w.heap.size w w1) (hR : w.heap.size ≤ R) (hg : w1.grownBy w2 (some R)) : Below w.heap.size w w2 :=
  hb.grown hg hb.size (fun k e => by injection e with e; omega)
theorem drawPrintOf (A : Option Addr) (n c : Nat) (xs : List Int) (w : World) (h : Rd w 1 A n (byts xs)) (hc : n ≤ c) (hx : ∀ x ∈ xs, (Lit.int .u8 x).wf = true) :
    Calls Try.prog 33 #[.slice A n c] w fun e w' => ∃ s : ByteArray, e = .returned (.string s) ∧ s.size ≤ 61 ∧ Below w.heap.size w w' := by
  go_enter Try.func33, Try.ntmps33
  go_wp2_with (first | (go_at_call 59; refine (l20Open A n c xs _ h hc hx).mono ?_; rintro e w1 ⟨R, rfl, hR, hr, hb⟩) | (go_at_call 58; refine (l20Text _ _ 0 _ hr (by omega)).mono ?_; rintro e w2 ⟨s, rfl, hs, hr2, hg2⟩))
  go_ret
  exact ⟨s, rfl, hs, below_rdr hb hR hg2⟩
theorem drawContentValid (A : Option Addr) (n c : Nat) (xs : List Int) (w : World) (h : Rd w 1 A n (byts xs)) (hc : n ≤ c) (hx : ∀ x ∈ xs, (Lit.int .u8 x).wf = true) :
    Calls Try.prog 25 #[.slice A n c] w fun e w' => ∃ s : ByteArray, e = .returned (.string s) ∧ s.size ≤ 61 ∧ Below w.heap.size w w' := by
  go_enter Try.func25, Try.ntmps25
  go_wp2_with (first | (go_at_call 59; refine (l20Open A n c xs _ h hc hx).mono ?_; rintro e w1 ⟨R, rfl, hR, hr, hb⟩) | (go_at_call 58; refine (l20Text _ _ 0 _ hr (by omega)).mono ?_; rintro e w2 ⟨s, rfl, hs, hr2, hg2⟩))
  go_ret
  exact ⟨s, rfl, hs, below_rdr hb hR hg2⟩
theorem drawFileText (A : Option Addr) (n c : Nat) (xs : List Int) (w : World) (h : Rd w 1 A n (byts xs)) (hc : n ≤ c) (hx : ∀ x ∈ xs, (Lit.int .u8 x).wf = true) :
    Calls Try.prog 42 #[.slice A n c] w fun e w' => ∃ s : ByteArray, e = .returned (.string s) ∧ s.size ≤ 61 ∧ Below w.heap.size w w' := by
  go_enter Try.func42, Try.ntmps42
  go_wp2_with (first | (go_at_call 59; refine (l20Open A n c xs _ h hc hx).mono ?_; rintro e w1 ⟨R, rfl, hR, hr, hb⟩) | (go_at_call 58; refine (l20Text _ _ 0 _ hr (by omega)).mono ?_; rintro e w2 ⟨s, rfl, hs, hr2, hg2⟩))
  go_ret
  exact ⟨s, rfl, hs, below_rdr hb hR hg2⟩
end Go.Proofs.Ytnbdhmjgckomcaa
