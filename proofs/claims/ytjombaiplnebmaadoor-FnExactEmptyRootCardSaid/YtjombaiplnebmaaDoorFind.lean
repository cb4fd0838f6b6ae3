/- Plain words on where something belongs in a list that ascends. -/
import Derived.Test.YtjombaiplnebmaaDoorGood
open Go.RowKit
namespace Go.Proofs.YtjombaiplnebmaaDoor
/-- What holds of an element holds of those before it. -/
def Falls {α : Type} (pre : α → Bool) (xs : List α) : Prop := ∀ (i j : Nat) (x y : α), i ≤ j → xs[i]? = some x → xs[j]? = some y → pre y = true → pre x = true
def posOf {α : Type} (pre : α → Bool) : List α → Nat
  | [] => 0
  | x :: r => if pre x = true then posOf pre r + 1 else 0
theorem posOf_le {α : Type} (pre : α → Bool) : ∀ xs : List α, posOf pre xs ≤ xs.length
  | [] => Nat.le_refl _
  | x :: r => by
    have := posOf_le pre r
    unfold posOf
    split
    · simp only [List.length_cons]; omega
    · omega
theorem posOf_is {α : Type} {pre : α → Bool} : ∀ {xs : List α} {i : Nat}, i ≤ xs.length → (∀ k x, k < i → xs[k]? = some x → pre x = true) → (∀ x, xs[i]? = some x → pre x = false) → posOf pre xs = i
  | [], i, hi, _, _ => by
    have : i = 0 := by simpa using hi
    rw [this]; rfl
  | x :: r, 0, _, _, h2 => by
    unfold posOf
    rw [if_neg (by rw [h2 x rfl]; simp)]
  | x :: r, i + 1, hi, h1, h2 => by
    unfold posOf
    rw [if_pos (h1 0 x (by omega) rfl), posOf_is (xs := r) (i := i) (by simpa using hi) (fun k y hk hy => h1 (k + 1) y (by omega) (by rw [List.getElem?_cons_succ]; exact hy)) (fun y hy => h2 y (by rw [List.getElem?_cons_succ]; exact hy))]
theorem falls_of {α : Type} {ok : α → Bool} {lt : α → α → Bool} {m : Nat} {xs : List α} (h : goodAll ok lt m xs = true) {pre : α → Bool} (hs : ∀ x y, lt x y = true → pre y = true → pre x = true) : Falls pre xs := by
  have key : ∀ (d i : Nat) (x y : α), xs[i]? = some x → xs[i + d]? = some y → pre y = true → pre x = true := by
    intro d
    induction d with
    | zero =>
      intro i x y hx hy hp
      rw [Nat.add_zero, hx] at hy
      obtain rfl := Option.some.inj hy
      exact hp
    | succ d ih =>
      intro i x y hx hy hp
      obtain ⟨hk, hz⟩ := List.getElem?_eq_some_iff.1 hy
      have hz' : xs[i + d]? = some (xs[i + d]'(by omega)) := List.getElem?_eq_getElem (by omega)
      refine ih i x _ hx hz' (hs _ y ?_ hp)
      have hg := goodAll_at h hk
      exact (goodAt_succ (lt := lt) (show xs[i + d + 1]? = some y from hy) hz' (goodAt_ok hg hy)).symm.trans hg
  intro i j x y hij hx hy hp
  obtain ⟨d, rfl⟩ : ∃ d, j = i + d := ⟨j - i, by omega⟩
  exact key d i x y hx hy hp
/-- Both halves of a search. -/
def Halved {α : Type} (pre : α → Bool) (xs : List α) (i j : Nat) : Prop := (∀ k x, k < i → xs[k]? = some x → pre x = true) ∧ ∀ k x, j ≤ k → xs[k]? = some x → pre x = false
theorem halved_start {α : Type} (pre : α → Bool) (xs : List α) : Halved pre xs 0 xs.length :=
  ⟨fun k _ hk => by omega, fun k x hk hx => by rw [List.getElem?_eq_none hk] at hx; cases hx⟩
theorem halved_right {α : Type} {pre : α → Bool} {xs : List α} {i j h : Nat} {x : α} (hf : Falls pre xs) (hh : Halved pre xs i j) (hx : xs[h]? = some x) (hp : pre x = true) : Halved pre xs (h + 1) j :=
  ⟨fun k y hk hy => hf k h y x (by omega) hy hx hp, hh.2⟩
theorem halved_left {α : Type} {pre : α → Bool} {xs : List α} {i j h : Nat} {x : α} (hf : Falls pre xs) (hh : Halved pre xs i j) (hx : xs[h]? = some x) (hp : pre x = false) : Halved pre xs i h :=
  ⟨hh.1, fun k y hk hy => by
    cases hy' : pre y
    · rfl
    · rw [hf h k x y hk hx hy hy'] at hp; cases hp⟩
theorem halved_end {α : Type} {pre : α → Bool} {xs : List α} {i : Nat} (hi : i ≤ xs.length) (hh : Halved pre xs i i) : posOf pre xs = i :=
  posOf_is hi hh.1 fun x hx => hh.2 i x (Nat.le_refl _) hx
/-- Whether what is looked for is where it belongs. -/
def foundOf {α : Type} (pre is : α → Bool) (xs : List α) : Bool := match xs[posOf pre xs]? with
  | some x => is x
  | none => false
theorem posOf_before {α : Type} {pre : α → Bool} : ∀ {xs : List α} {k : Nat} {x : α}, k < posOf pre xs → xs[k]? = some x → pre x = true
  | [], k, x, _, hx => by simp at hx
  | y :: r, 0, x, hk, hx => by
    unfold posOf at hk
    split at hk
    · rename_i hy
      have e : y = x := by simpa using hx
      exact e ▸ hy
    · omega
  | y :: r, k + 1, x, hk, hx => by
    unfold posOf at hk
    split at hk
    · exact posOf_before (xs := r) (k := k) (by omega) (by rw [List.getElem?_cons_succ] at hx; exact hx)
    · omega
theorem posOf_at {α : Type} {pre : α → Bool} : ∀ {xs : List α} {x : α}, xs[posOf pre xs]? = some x → pre x = false
  | [], x, hx => by simp at hx
  | y :: r, x, hx => by
    unfold posOf at hx
    split at hx
    · exact posOf_at (xs := r) (by rw [List.getElem?_cons_succ] at hx; exact hx)
    · rename_i hy
      have e : y = x := by simpa using hx
      exact e ▸ (by simpa using hy)
theorem found_yes {α : Type} {pre is : α → Bool} {xs : List α} (h : foundOf pre is xs = true) : ∃ x, xs[posOf pre xs]? = some x ∧ is x = true := by
  unfold foundOf at h
  cases hx : xs[posOf pre xs]? with
  | none => rw [hx] at h; cases h
  | some x => rw [hx] at h; exact ⟨x, rfl, h⟩
theorem found_no {α : Type} {pre is : α → Bool} {xs : List α} (hf : Falls (fun x => pre x || is x) xs) (hex : ∀ x, is x = true → pre x = false) (h : foundOf pre is xs = false) : ∀ x ∈ xs, is x = false := by
  intro y hy
  cases hi : is y
  · rfl
  · obtain ⟨j, hj⟩ := List.getElem?_of_mem hy
    rcases Nat.lt_or_ge j (posOf pre xs) with hlt | hge
    · have := posOf_before hlt hj
      rw [hex y hi] at this
      cases this
    · obtain ⟨hjl, _⟩ := List.getElem?_eq_some_iff.1 hj
      have hp : xs[posOf pre xs]? = some (xs[posOf pre xs]'(by omega)) := List.getElem?_eq_getElem (by omega)
      have h2 := hf _ j _ y hge hp hj (by show (pre y || is y) = true; rw [hi, Bool.or_true])
      have h3 := posOf_at hp
      unfold foundOf at h
      rw [hp] at h
      have h4 : is (xs[posOf pre xs]'(by omega)) = false := h
      have h2' : (pre (xs[posOf pre xs]'(by omega)) || is (xs[posOf pre xs]'(by omega))) = true := h2
      rw [h3, h4] at h2'
      cases h2'
def pcBelow (t : Int) (x : Int × ByteArray) : Bool := decide (x.1 < t)
def enBelow (t : ByteArray) (x : ByteArray × Int) : Bool := ltB x.1 t
theorem bytesLess_trans : ∀ a b c : List UInt8, Go.Op.bytesLess a b = true → Go.Op.bytesLess b c = true → Go.Op.bytesLess a c = true
  | _, [], c, h1, h2 => by
    rename_i a
    cases a <;> simp [Go.Op.bytesLess] at h1
  | _, _ :: _, [], h1, h2 => by simp [Go.Op.bytesLess] at h2
  | [], _ :: _, _ :: _, h1, h2 => by simp [Go.Op.bytesLess]
  | x :: a, y :: b, z :: c, h1, h2 => by
    have ih := bytesLess_trans a b c
    unfold Go.Op.bytesLess at h1 h2 ⊢
    simp only [Bool.or_eq_true, Bool.and_eq_true, decide_eq_true_eq, beq_iff_eq] at h1 h2 ⊢
    rcases h1 with h1 | ⟨h1, h1'⟩
    · rcases h2 with h2 | ⟨h2, _⟩
      · exact .inl (UInt8.lt_trans h1 h2)
      · exact .inl (h2 ▸ h1)
    · rcases h2 with h2 | ⟨h2, h2'⟩
      · exact .inl (h1 ▸ h2)
      · exact .inr ⟨h1.trans h2, ih h1' h2'⟩
theorem store_falls {xs : List (Int × ByteArray)} (h : storeV xs = true) (t : Int) : Falls (pcBelow t) xs :=
  falls_of h fun x y hl hp => by
    have h1 : x.1 < y.1 := of_decide_eq_true hl
    have h2 : y.1 < t := of_decide_eq_true hp
    exact decide_eq_true (by omega)
theorem entries_falls {xs : List (ByteArray × Int)} (h : entriesV xs = true) (t : ByteArray) : Falls (enBelow t) xs :=
  falls_of h fun _ _ hl hp => bytesLess_trans _ _ _ hl hp
end Go.Proofs.YtjombaiplnebmaaDoor
