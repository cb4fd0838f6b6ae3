/- Contracts of both TextKind. -/
import Derived.Test.YtjombaiplnebmaaDoorReadFi
import Derived.Test.YtjombaiplnebmaaDoorFiles
open Go.RowKit
namespace Go.Proofs.YtjombaiplnebmaaDoor
def KindF (s : ByteArray) (n : Int) : Prop := ((readF s).2 = true ∧ n = 1) ∨ ((readF s).2 = false ∧ ∃ ys ok, ReadF s ys ok ∧ n = (if ok = true then 2 else 0))
theorem KindF.same {s : ByteArray} {n m : Int} (h : KindF s n) (h' : KindF s m) : n = m := by
  rcases h with ⟨h1, rfl⟩ | ⟨h1, ys, ok, h2, rfl⟩
  · rcases h' with ⟨_, rfl⟩ | ⟨h3, _⟩
    · rfl
    · rw [h1] at h3
      cases h3
  · rcases h' with ⟨h3, _⟩ | ⟨_, zs, ok', h4, rfl⟩
    · rw [h1] at h3
      cases h3
    · obtain ⟨_, rfl⟩ := h2.same h4
      rfl
set_option maxRecDepth 8000 in
theorem specTextKind (s : ByteArray) (w : World) (hs : s.size ≤ 1048576) :
    Calls Tryd.prog 8 #[.string s] w fun e w' => ∃ n, e = .returned (.int .i64 n) ∧ KindF s n ∧ Below w.heap.size w w' := by
  have hs' : s.size ≤ maxLen := by unfold maxLen; omega
  cases hf : (readF s).2
  all_goals
    have HF := Lib.hid hf
    clear hf
    go_enter Tryd.func8, Tryd.ntmps8
    go_wp2_with (go_at_call 28; refine (specReadFile s _ hs').mono ?_; rintro e w' ⟨rfl, rfl⟩; rw [HF.out])
    refine (specReadFolder s _ hs).mono ?_
    rintro e w1 ⟨v, ys, ok, rfl, hR, hown, hb⟩
    cases ok
  · go_wp2_with fail
    go_ret
    exact ⟨_, rfl, .inr ⟨HF.out, ys, false, hR, rfl⟩, hb⟩
  · go_wp2_with fail
    go_ret
    exact ⟨_, rfl, .inr ⟨HF.out, ys, true, hR, rfl⟩, hb⟩
  · go_wp2_with fail
    go_ret
    exact ⟨_, rfl, .inl ⟨HF.out, rfl⟩, hb⟩
  · go_wp2_with fail
    go_ret
    exact ⟨_, rfl, .inl ⟨HF.out, rfl⟩, hb⟩
set_option maxRecDepth 8000 in
theorem implTextKind (s : ByteArray) (m : Int) (w : World) (hs : s.size ≤ 1048576) (hm : w.cell? ⟨0, 0, none⟩ = some (.int .i64 m)) (hcell : w.cell? ⟨5, 15, none⟩ = some (.int .u8 4)) :
    Calls Tryd.prog 7 #[.string s] w fun e w' => ∃ n, e = .returned (.int .i64 n) ∧ KindF s n ∧ Below w.heap.size w w' := by
  have hs' : s.size ≤ maxLen := by unfold maxLen; omega
  cases hf : (readF s).2
  · have HF := Lib.hid hf
    clear hf
    go_enter Tryd.func7, Tryd.ntmps7
    go_wp2_with (go_at_call 9; refine (implReadFile s _ hs').mono ?_; rintro e w' ⟨rfl, rfl⟩; rw [HF.out])
    refine (implReadFolder s m _ hs hm hcell).mono ?_
    rintro e w1 ⟨v, ys, ok, rfl, hR, hown, hb⟩
    cases ok
    · go_wp2_with fail
      go_ret
      exact ⟨_, rfl, .inr ⟨HF.out, ys, false, hR, rfl⟩, hb⟩
    · go_wp2_with fail
      go_ret
      exact ⟨_, rfl, .inr ⟨HF.out, ys, true, hR, rfl⟩, hb⟩
  · have HF := Lib.hid hf
    clear hf
    go_enter Tryd.func7, Tryd.ntmps7
    go_wp2_with (go_at_call 9; refine (implReadFile s _ hs').mono ?_; rintro e w' ⟨rfl, rfl⟩; rw [HF.out])
    go_ret
    exact ⟨_, rfl, .inl ⟨HF.out, rfl⟩, Below.refl _ _⟩
end Go.Proofs.YtjombaiplnebmaaDoor
