/- Contract: a copy of pieces (slices.Clone). -/
import Derived.Test.YtjombaiplnebmaaDoorPcs
import Derived.Test.YtjombaiplnebmaaDoorCut
import Derived.Test.YtjombaiplnebmaaDoorAppend2
import Derived.Test.YtjombaiplnebmaaDoorOpen
open Go.RowKit
namespace Go.Proofs.YtjombaiplnebmaaDoor
set_option maxRecDepth 4000 in
theorem cloneP (A : Option Addr) (n c : Nat) (xs : List (Int × ByteArray)) (w : World) (h : Rd w 2 A n (pcs xs)) (hn : n ≤ 4194304) :
    Calls Tryd.prog 66 #[.slice A n c] w fun e w' => ∃ v, e = .returned v ∧ w'.ownsRow w.heap.size 63 2 v n (pcs xs) ∧ Below w.heap.size w w' := by
  cases A with
  | none =>
    have hn0 : n = 0 := by
      rcases Nat.eq_zero_or_pos n with h0 | h0
      · exact h0
      · obtain ⟨_, _, e, _⟩ := h.2 h0
        cases e
    have hx : xs = [] := List.eq_nil_of_length_eq_zero (by rw [h.pcLen]; exact hn0)
    subst hn0
    subst hx
    have hnil : ∀ W : World, (binOp .eql 34 (.slice none 0 c) (.slice none 0 0)).run Tryd.prog W = .ok (.bool true) W := fun W => by rfl
    go_enter Tryd.func66, Tryd.ntmps66
    go_wp2
    go_ret
    exact ⟨_, rfl, ⟨by simp [pcs], .inl ⟨rfl, rfl⟩⟩, Below.refl _ _⟩
  | some a =>
    have hnil : ∀ W : World, (binOp .eql 34 (.slice (some a) n c) (.slice none 0 0)).run Tryd.prog W = .ok (.bool false) W := fun W => by rfl
    go_enter Tryd.func66, Tryd.ntmps66
    go_wp2_with (at_builtin; refine wpList_appS _ rfl (.tmp 5) (.tmp 6) _ rfl w.heap.size 63 2 24 _ Tryd.underlying34 pcs_info rfl (by omega) (by omega) _ 0 _ rfl (own_empty w 63 2) _ _ _ (pcs xs) rfl (h.alloc _) (pcs_one _) (by omega) (by simp) ?_; intro v4 w4 hown4 hg4 _; have hb4 : Below w.heap.size w w4 := below_app ((Below.refl _ _).alloc (Nat.le_refl _) _) (own_empty w 63 2) hg4 (by simp); rw [List.nil_append, Nat.zero_add] at hown4)
    go_ret
    exact ⟨_, rfl, hown4, hb4⟩
end Go.Proofs.YtjombaiplnebmaaDoor
