/- Plain words: where names lead from a folder on. -/
import Derived.Test.YtjombaiplnebmaaGreatDoorMpl
import Derived.Test.YtjombaiplnebmaaGreatDoorGetT
import Derived.Test.YtjombaiplnebmaaGreatDoorMfi
import Derived.Test.YtjombaiplnebmaaGreatDoorMle
open Go.RowKit
namespace Go.Proofs.YtjombaiplnebmaaGreatDoor
def nameL (n : ByteArray) : List (ByteArray × Int) → Option Int
  | [] => none
  | x :: r => if x.1 = n then some x.2 else nameL n r
theorem nameL_none {n : ByteArray} : ∀ {ys : List (ByteArray × Int)}, (∀ x ∈ ys, x.1 ≠ n) → nameL n ys = none
  | [], _ => rfl
  | x :: r, h => by
    unfold nameL
    rw [if_neg (h x (List.mem_cons_self ..)), nameL_none fun y hy => h y (List.mem_cons_of_mem _ hy)]
theorem nameL_at {n : ByteArray} : ∀ {ys : List (ByteArray × Int)} {k : Nat} {x : ByteArray × Int}, (∀ j y, j < k → ys[j]? = some y → y.1 ≠ n) → ys[k]? = some x → x.1 = n → nameL n ys = some x.2
  | [], k, x, _, hx, _ => by simp at hx
  | y :: r, 0, x, _, hx, hp => by
    have e : y = x := by simpa using hx
    unfold nameL
    rw [e, if_pos hp]
  | y :: r, k + 1, x, hb, hx, hp => by
    unfold nameL
    rw [if_neg (hb 0 y (by omega) rfl), nameL_at (ys := r) (k := k) (x := x) (fun j z hj hz => hb (j + 1) z (by omega) (by rw [List.getElem?_cons_succ]; exact hz)) (by rw [List.getElem?_cons_succ] at hx; exact hx) hp]
theorem entries_find {ys : List (ByteArray × Int)} {n : ByteArray} (hv : entriesV ys = true) : (foundOf (enBelow n) (enIs n) ys = true → ∃ x, ys[posOf (enBelow n) ys]? = some x ∧ x.1 = n ∧ nameL n ys = some x.2) ∧ (foundOf (enBelow n) (enIs n) ys = false → nameL n ys = none) := by
  constructor
  · intro h
    obtain ⟨x, hx, hi⟩ := found_yes h
    have hp : x.1 = n := of_decide_eq_true hi
    refine ⟨x, hx, hp, nameL_at (fun j y hj hy e => ?_) hx hp⟩
    have hpb : enBelow n y = true := posOf_before hj hy
    have hpr : ltB y.1 n = true := hpb
    rw [e, ltB_self] at hpr
    cases hpr
  · intro h
    have hf : Falls (fun x => enBelow n x || enIs n x) ys := falls_of hv fun x y hl hp => by
      have h2 : enBelow n y = true ∨ enIs n y = true := by simpa using hp
      rcases h2 with h2 | h2
      · have : enBelow n x = true := bytesLess_trans _ _ _ hl h2
        simp [this]
      · have he : y.1 = n := of_decide_eq_true h2
        have : enBelow n x = true := by
          have hl' : ltB x.1 y.1 = true := hl
          rw [he] at hl'
          exact hl'
        simp [this]
    have hn := found_no hf (fun x hi => by
      have he : x.1 = n := of_decide_eq_true hi
      show ltB x.1 n = false
      rw [he]
      exact ltB_self n) h
    exact nameL_none fun x hx e => by
      have := hn x hx
      unfold enIs at this
      rw [decide_eq_true e] at this
      cases this
/-- Where names lead. -/
def WalkF (xs : List (Int × ByteArray)) : List ByteArray → Int → Int → Bool → Prop
  | [], t, q, b => q = (if (getL t xs).2 = true then t else -1) ∧ b = (getL t xs).2
  | n :: r, t, q, b => ∃ ys ok, ReadF (getL t xs).1 ys ok ∧ ((ok = true ∧ ∃ p, nameL n ys = some p ∧ WalkF xs r p q b) ∨ ((ok = false ∨ nameL n ys = none) ∧ q = -1 ∧ b = false))
theorem WalkF.same {xs : List (Int × ByteArray)} : ∀ {ps : List ByteArray} {t q q' : Int} {b b' : Bool}, WalkF xs ps t q b → WalkF xs ps t q' b' → q = q' ∧ b = b'
  | [], t, q, q', b, b', h, h' => ⟨h.1.trans h'.1.symm, h.2.trans h'.2.symm⟩
  | n :: r, t, q, q', b, b', h, h' => by
    obtain ⟨ys, ok, h1, h2⟩ := h
    obtain ⟨zs, ok', h3, h4⟩ := h'
    obtain ⟨rfl, rfl⟩ := h1.same h3
    rcases h2 with ⟨h5, p, h6, h7⟩ | ⟨h5, rfl, rfl⟩
    · rcases h4 with ⟨_, p', h8, h9⟩ | ⟨h8, _, _⟩
      · rw [h6] at h8
        obtain rfl := Option.some.inj h8
        exact WalkF.same h7 h9
      · rcases h8 with h8 | h8
        · rw [h5] at h8; cases h8
        · rw [h6] at h8; cases h8
    · rcases h4 with ⟨h8, p', h9, _⟩ | ⟨_, rfl, rfl⟩
      · rcases h5 with h5 | h5
        · rw [h5] at h8; cases h8
        · rw [h5] at h9; cases h9
      · exact ⟨rfl, rfl⟩
theorem walk_none {xs : List (Int × ByteArray)} {n : ByteArray} {r : List ByteArray} {t : Int} {ys : List (ByteArray × Int)} {ok : Bool} (h : ReadF (getL t xs).1 ys ok) (hn : ok = false ∨ nameL n ys = none) : WalkF xs (n :: r) t (-1) false := ⟨ys, ok, h, .inr ⟨hn, rfl, rfl⟩⟩
theorem walk_step {xs : List (Int × ByteArray)} {n : ByteArray} {r : List ByteArray} {t p q : Int} {b : Bool} {ys : List (ByteArray × Int)} (h : ReadF (getL t xs).1 ys true) (hn : nameL n ys = some p) (hw : WalkF xs r p q b) : WalkF xs (n :: r) t q b := ⟨ys, true, h, .inl ⟨rfl, p, hn, hw⟩⟩
theorem walk_end (xs : List (Int × ByteArray)) (t : Int) : WalkF xs [] t (if (getL t xs).2 = true then t else -1) (getL t xs).2 := ⟨rfl, rfl⟩
theorem readF_empty : ReadF ⟨#[]⟩ [] false := readF_bad fun es hv he => by
  have := folderT_list hv he
  cases this
end Go.Proofs.YtjombaiplnebmaaGreatDoor
