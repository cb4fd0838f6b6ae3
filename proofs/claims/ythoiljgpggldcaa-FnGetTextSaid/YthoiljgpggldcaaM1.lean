/- The texts Good Find as one. -/
import Derived.Test.YthoiljgpggldcaaMem
/- Plain words on lists whose elements are good and ascend. -/
open Go.RowKit
namespace Go.Proofs.Ythoiljgpggldcaa
/-- The k-th element is good, and above the one ahead of it. -/
def goodAt {α : Type} (ok : α → Bool) (lt : α → α → Bool) (xs : List α) : Nat → Bool
  | 0 => match xs[0]? with
    | some x => ok x
    | none => true
  | k + 1 => match xs[k + 1]?, xs[k]? with
    | some x, some y => ok x && lt y x
    | _, _ => true
def goodAll {α : Type} (ok : α → Bool) (lt : α → α → Bool) (m : Nat) (xs : List α) : Bool := decide (xs.length ≤ m) && (List.range xs.length).all (goodAt ok lt xs)
section
variable {α : Type} {ok : α → Bool} {lt : α → α → Bool} {xs : List α} {m k : Nat} {x y : α}
theorem goodAt_bad (h : xs[k]? = some x) (ho : ok x = false) : goodAt ok lt xs k = false := by
  cases k with
  | zero => rw [goodAt, h]; exact ho
  | succ k =>
    obtain ⟨hk, _⟩ := List.getElem?_eq_some_iff.1 h
    rw [goodAt, h, List.getElem?_eq_getElem (show k < xs.length by omega)]
    dsimp only
    rw [ho, Bool.false_and]
theorem goodAt_zero (h : xs[0]? = some x) (ho : ok x = true) : goodAt ok lt xs 0 = true := by rw [goodAt, h]; exact ho
theorem goodAt_succ (h : xs[k + 1]? = some x) (h' : xs[k]? = some y) (ho : ok x = true) : goodAt ok lt xs (k + 1) = lt y x := by
  rw [goodAt, h, h']
  dsimp only
  rw [ho, Bool.true_and]
theorem goodAll_long (h : m < xs.length) : goodAll ok lt m xs = false := by
  unfold goodAll
  rw [decide_eq_false (by omega), Bool.false_and]
theorem goodAll_bad (hk : k < xs.length) (h : goodAt ok lt xs k = false) : goodAll ok lt m xs = false := by
  unfold goodAll
  rw [all_bad (k := k) (x := k) (by rw [List.getElem?_range hk]) h, Bool.and_false]
theorem goodAll_ok (h : ∀ j, j < xs.length → goodAt ok lt xs j = true) : goodAll ok lt m xs = decide (xs.length ≤ m) := by
  unfold goodAll
  rw [List.all_eq_true.2 (fun j hj => h j (List.mem_range.1 hj)), Bool.and_true]
theorem goodAll_len (h : goodAll ok lt m xs = true) : xs.length ≤ m := by
  unfold goodAll at h
  rw [Bool.and_eq_true] at h
  exact of_decide_eq_true h.1
theorem goodAll_at (h : goodAll ok lt m xs = true) (hk : k < xs.length) : goodAt ok lt xs k = true := by
  unfold goodAll at h
  rw [Bool.and_eq_true, List.all_eq_true] at h
  exact h.2 k (List.mem_range.2 hk)
theorem goodAt_ok (h : goodAt ok lt xs k = true) (hx : xs[k]? = some x) : ok x = true := by
  cases ho : ok x
  · rw [goodAt_bad hx ho] at h; cases h
  · rfl
end
def pieceOk (x : Int × ByteArray) : Bool := textV (bts x.2) && (printP x.2 == x.1)
def pieceLt (y x : Int × ByteArray) : Bool := decide (y.1 < x.1)
def storeV (xs : List (Int × ByteArray)) : Bool := goodAll pieceOk pieceLt 40 xs
def ltB (a b : ByteArray) : Bool := Go.Op.bytesLess a.toList b.toList
def entryOk (x : ByteArray × Int) : Bool := wordV (bts x.1) && printB x.2
def entryLt (y x : ByteArray × Int) : Bool := ltB y.1 x.1
def entriesV (xs : List (ByteArray × Int)) : Bool := goodAll entryOk entryLt 3 xs
theorem bytesLess_total : ∀ a b : List UInt8, (Go.Op.bytesLess a b || a == b) = !Go.Op.bytesLess b a
  | [], [] => rfl
  | [], _ :: _ => rfl
  | _ :: _, [] => rfl
  | x :: a, y :: b => by
    have ih := bytesLess_total a b
    rw [Go.Op.bytesLess, Go.Op.bytesLess]
    rcases Nat.lt_trichotomy x.toNat y.toNat with h | h | h
    · have h1 : x < y := h
      have h2 : ¬ y < x := fun h3 => Nat.lt_asymm h h3
      have h3 : ¬ y = x := fun e => by rw [e] at h; exact Nat.lt_irrefl _ h
      simp [h1, h2, h3]
    · have h1 : x = y := UInt8.toNat_inj.1 h
      subst h1
      have h2 : ¬ x < x := Nat.lt_irrefl _
      simp only [h2, decide_false, Bool.false_or, beq_self_eq_true, Bool.true_and, ← ih]
      congr 1
      simp
    · have h1 : y < x := h
      have h2 : ¬ x < y := fun h3 => Nat.lt_asymm h h3
      have h3 : ¬ x = y := fun e => by rw [e] at h; exact Nat.lt_irrefl _ h
      simp [h1, h2, h3]
end Go.Proofs.Ythoiljgpggldcaa
/- Plain words on where something belongs in a list that ascends. -/
open Go.RowKit
namespace Go.Proofs.Ythoiljgpggldcaa
/-- What holds of an element holds of those before it. -/
def Falls {α : Type} (pre : α → Bool) (xs : List α) : Prop := ∀ (i j : Nat) (x y : α), i ≤ j → xs[i]? = some x → xs[j]? = some y → pre y = true → pre x = true
def posOf {α : Type} (pre : α → Bool) : List α → Nat
  | [] => 0
  | x :: r => if pre x = true then posOf pre r + 1 else 0
theorem posOf_le {α : Type} (pre : α → Bool) : ∀ xs : List α, posOf pre xs ≤ xs.length
  | [] => Nat.le_refl _
  | x :: r => by
    have := posOf_le pre r
    unfold posOf
    split
    · simp only [List.length_cons]; omega
    · omega
theorem posOf_is {α : Type} {pre : α → Bool} : ∀ {xs : List α} {i : Nat}, i ≤ xs.length → (∀ k x, k < i → xs[k]? = some x → pre x = true) → (∀ x, xs[i]? = some x → pre x = false) → posOf pre xs = i
  | [], i, hi, _, _ => by
    have : i = 0 := by simpa using hi
    rw [this]; rfl
  | x :: r, 0, _, _, h2 => by
    unfold posOf
    rw [if_neg (by rw [h2 x rfl]; simp)]
  | x :: r, i + 1, hi, h1, h2 => by
    unfold posOf
    rw [if_pos (h1 0 x (by omega) rfl), posOf_is (xs := r) (i := i) (by simpa using hi) (fun k y hk hy => h1 (k + 1) y (by omega) (by rw [List.getElem?_cons_succ]; exact hy)) (fun y hy => h2 y (by rw [List.getElem?_cons_succ]; exact hy))]
theorem falls_of {α : Type} {ok : α → Bool} {lt : α → α → Bool} {m : Nat} {xs : List α} (h : goodAll ok lt m xs = true) {pre : α → Bool} (hs : ∀ x y, lt x y = true → pre y = true → pre x = true) : Falls pre xs := by
  have key : ∀ (d i : Nat) (x y : α), xs[i]? = some x → xs[i + d]? = some y → pre y = true → pre x = true := by
    intro d
    induction d with
    | zero =>
      intro i x y hx hy hp
      rw [Nat.add_zero, hx] at hy
      obtain rfl := Option.some.inj hy
      exact hp
    | succ d ih =>
      intro i x y hx hy hp
      obtain ⟨hk, hz⟩ := List.getElem?_eq_some_iff.1 hy
      have hz' : xs[i + d]? = some (xs[i + d]'(by omega)) := List.getElem?_eq_getElem (by omega)
      refine ih i x _ hx hz' (hs _ y ?_ hp)
      have hg := goodAll_at h hk
      exact (goodAt_succ (lt := lt) (show xs[i + d + 1]? = some y from hy) hz' (goodAt_ok hg hy)).symm.trans hg
  intro i j x y hij hx hy hp
  obtain ⟨d, rfl⟩ : ∃ d, j = i + d := ⟨j - i, by omega⟩
  exact key d i x y hx hy hp
/-- Both halves of a search. -/
def Halved {α : Type} (pre : α → Bool) (xs : List α) (i j : Nat) : Prop := (∀ k x, k < i → xs[k]? = some x → pre x = true) ∧ ∀ k x, j ≤ k → xs[k]? = some x → pre x = false
theorem halved_start {α : Type} (pre : α → Bool) (xs : List α) : Halved pre xs 0 xs.length :=
  ⟨fun k _ hk => by omega, fun k x hk hx => by rw [List.getElem?_eq_none hk] at hx; cases hx⟩
theorem halved_right {α : Type} {pre : α → Bool} {xs : List α} {i j h : Nat} {x : α} (hf : Falls pre xs) (hh : Halved pre xs i j) (hx : xs[h]? = some x) (hp : pre x = true) : Halved pre xs (h + 1) j :=
  ⟨fun k y hk hy => hf k h y x (by omega) hy hx hp, hh.2⟩
theorem halved_left {α : Type} {pre : α → Bool} {xs : List α} {i j h : Nat} {x : α} (hf : Falls pre xs) (hh : Halved pre xs i j) (hx : xs[h]? = some x) (hp : pre x = false) : Halved pre xs i h :=
  ⟨hh.1, fun k y hk hy => by
    cases hy' : pre y
    · rfl
    · rw [hf h k x y hk hx hy hy'] at hp; cases hp⟩
theorem halved_end {α : Type} {pre : α → Bool} {xs : List α} {i : Nat} (hi : i ≤ xs.length) (hh : Halved pre xs i i) : posOf pre xs = i :=
  posOf_is hi hh.1 fun x hx => hh.2 i x (Nat.le_refl _) hx
/-- Whether what is looked for is where it belongs. -/
def foundOf {α : Type} (pre is : α → Bool) (xs : List α) : Bool := match xs[posOf pre xs]? with
  | some x => is x
  | none => false
theorem posOf_before {α : Type} {pre : α → Bool} : ∀ {xs : List α} {k : Nat} {x : α}, k < posOf pre xs → xs[k]? = some x → pre x = true
  | [], k, x, _, hx => by simp at hx
  | y :: r, 0, x, hk, hx => by
    unfold posOf at hk
    split at hk
    · rename_i hy
      have e : y = x := by simpa using hx
      exact e ▸ hy
    · omega
  | y :: r, k + 1, x, hk, hx => by
    unfold posOf at hk
    split at hk
    · exact posOf_before (xs := r) (k := k) (by omega) (by rw [List.getElem?_cons_succ] at hx; exact hx)
    · omega
theorem posOf_at {α : Type} {pre : α → Bool} : ∀ {xs : List α} {x : α}, xs[posOf pre xs]? = some x → pre x = false
  | [], x, hx => by simp at hx
  | y :: r, x, hx => by
    unfold posOf at hx
    split at hx
    · exact posOf_at (xs := r) (by rw [List.getElem?_cons_succ] at hx; exact hx)
    · rename_i hy
      have e : y = x := by simpa using hx
      exact e ▸ (by simpa using hy)
theorem found_yes {α : Type} {pre is : α → Bool} {xs : List α} (h : foundOf pre is xs = true) : ∃ x, xs[posOf pre xs]? = some x ∧ is x = true := by
  unfold foundOf at h
  cases hx : xs[posOf pre xs]? with
  | none => rw [hx] at h; cases h
  | some x => rw [hx] at h; exact ⟨x, rfl, h⟩
theorem found_no {α : Type} {pre is : α → Bool} {xs : List α} (hf : Falls (fun x => pre x || is x) xs) (hex : ∀ x, is x = true → pre x = false) (h : foundOf pre is xs = false) : ∀ x ∈ xs, is x = false := by
  intro y hy
  cases hi : is y
  · rfl
  · obtain ⟨j, hj⟩ := List.getElem?_of_mem hy
    rcases Nat.lt_or_ge j (posOf pre xs) with hlt | hge
    · have := posOf_before hlt hj
      rw [hex y hi] at this
      cases this
    · obtain ⟨hjl, _⟩ := List.getElem?_eq_some_iff.1 hj
      have hp : xs[posOf pre xs]? = some (xs[posOf pre xs]'(by omega)) := List.getElem?_eq_getElem (by omega)
      have h2 := hf _ j _ y hge hp hj (by show (pre y || is y) = true; rw [hi, Bool.or_true])
      have h3 := posOf_at hp
      unfold foundOf at h
      rw [hp] at h
      have h4 : is (xs[posOf pre xs]'(by omega)) = false := h
      have h2' : (pre (xs[posOf pre xs]'(by omega)) || is (xs[posOf pre xs]'(by omega))) = true := h2
      rw [h3, h4] at h2'
      cases h2'
def pcBelow (t : Int) (x : Int × ByteArray) : Bool := decide (x.1 < t)
def enBelow (t : ByteArray) (x : ByteArray × Int) : Bool := ltB x.1 t
theorem bytesLess_trans : ∀ a b c : List UInt8, Go.Op.bytesLess a b = true → Go.Op.bytesLess b c = true → Go.Op.bytesLess a c = true
  | _, [], c, h1, h2 => by
    rename_i a
    cases a <;> simp [Go.Op.bytesLess] at h1
  | _, _ :: _, [], h1, h2 => by simp [Go.Op.bytesLess] at h2
  | [], _ :: _, _ :: _, h1, h2 => by simp [Go.Op.bytesLess]
  | x :: a, y :: b, z :: c, h1, h2 => by
    have ih := bytesLess_trans a b c
    unfold Go.Op.bytesLess at h1 h2 ⊢
    simp only [Bool.or_eq_true, Bool.and_eq_true, decide_eq_true_eq, beq_iff_eq] at h1 h2 ⊢
    rcases h1 with h1 | ⟨h1, h1'⟩
    · rcases h2 with h2 | ⟨h2, _⟩
      · exact .inl (UInt8.lt_trans h1 h2)
      · exact .inl (h2 ▸ h1)
    · rcases h2 with h2 | ⟨h2, h2'⟩
      · exact .inl (h1 ▸ h2)
      · exact .inr ⟨h1.trans h2, ih h1' h2'⟩
theorem store_falls {xs : List (Int × ByteArray)} (h : storeV xs = true) (t : Int) : Falls (pcBelow t) xs :=
  falls_of h fun x y hl hp => by
    have h1 : x.1 < y.1 := of_decide_eq_true hl
    have h2 : y.1 < t := of_decide_eq_true hp
    exact decide_eq_true (by omega)
theorem entries_falls {xs : List (ByteArray × Int)} (h : entriesV xs = true) (t : ByteArray) : Falls (enBelow t) xs :=
  falls_of h fun _ _ hl hp => bytesLess_trans _ _ _ hl hp
end Go.Proofs.Ythoiljgpggldcaa
