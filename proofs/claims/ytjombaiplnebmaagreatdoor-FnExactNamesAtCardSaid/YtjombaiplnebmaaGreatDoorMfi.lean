/- The texts Find FindP FindE as one. -/
import Derived.Test.YtjombaiplnebmaaGreatDoorMpl
import Derived.Test.YtjombaiplnebmaaGreatDoorPcs
import Derived.Test.YtjombaiplnebmaaGreatDoorEnts
/- Plain words on where something belongs in a list that ascends. -/
open Go.RowKit
namespace Go.Proofs.YtjombaiplnebmaaGreatDoor
/-- What holds of an element holds of those before it. -/
def Falls {α : Type} (pre : α → Bool) (xs : List α) : Prop := ∀ (i j : Nat) (x y : α), i ≤ j → xs[i]? = some x → xs[j]? = some y → pre y = true → pre x = true
def posOf {α : Type} (pre : α → Bool) : List α → Nat
  | [] => 0
  | x :: r => if pre x = true then posOf pre r + 1 else 0
theorem posOf_le {α : Type} (pre : α → Bool) : ∀ xs : List α, posOf pre xs ≤ xs.length
  | [] => Nat.le_refl _
  | x :: r => by
    have := posOf_le pre r
    unfold posOf
    split
    · simp only [List.length_cons]; omega
    · omega
theorem posOf_is {α : Type} {pre : α → Bool} : ∀ {xs : List α} {i : Nat}, i ≤ xs.length → (∀ k x, k < i → xs[k]? = some x → pre x = true) → (∀ x, xs[i]? = some x → pre x = false) → posOf pre xs = i
  | [], i, hi, _, _ => by
    have : i = 0 := by simpa using hi
    rw [this]; rfl
  | x :: r, 0, _, _, h2 => by
    unfold posOf
    rw [if_neg (by rw [h2 x rfl]; simp)]
  | x :: r, i + 1, hi, h1, h2 => by
    unfold posOf
    rw [if_pos (h1 0 x (by omega) rfl), posOf_is (xs := r) (i := i) (by simpa using hi) (fun k y hk hy => h1 (k + 1) y (by omega) (by rw [List.getElem?_cons_succ]; exact hy)) (fun y hy => h2 y (by rw [List.getElem?_cons_succ]; exact hy))]
theorem falls_of {α : Type} {ok : α → Bool} {lt : α → α → Bool} {m : Nat} {xs : List α} (h : goodAll ok lt m xs = true) {pre : α → Bool} (hs : ∀ x y, lt x y = true → pre y = true → pre x = true) : Falls pre xs := by
  have key : ∀ (d i : Nat) (x y : α), xs[i]? = some x → xs[i + d]? = some y → pre y = true → pre x = true := by
    intro d
    induction d with
    | zero =>
      intro i x y hx hy hp
      rw [Nat.add_zero, hx] at hy
      obtain rfl := Option.some.inj hy
      exact hp
    | succ d ih =>
      intro i x y hx hy hp
      obtain ⟨hk, hz⟩ := List.getElem?_eq_some_iff.1 hy
      have hz' : xs[i + d]? = some (xs[i + d]'(by omega)) := List.getElem?_eq_getElem (by omega)
      refine ih i x _ hx hz' (hs _ y ?_ hp)
      have hg := goodAll_at h hk
      exact (goodAt_succ (lt := lt) (show xs[i + d + 1]? = some y from hy) hz' (goodAt_ok hg hy)).symm.trans hg
  intro i j x y hij hx hy hp
  obtain ⟨d, rfl⟩ : ∃ d, j = i + d := ⟨j - i, by omega⟩
  exact key d i x y hx hy hp
/-- Both halves of a search. -/
def Halved {α : Type} (pre : α → Bool) (xs : List α) (i j : Nat) : Prop := (∀ k x, k < i → xs[k]? = some x → pre x = true) ∧ ∀ k x, j ≤ k → xs[k]? = some x → pre x = false
theorem halved_start {α : Type} (pre : α → Bool) (xs : List α) : Halved pre xs 0 xs.length :=
  ⟨fun k _ hk => by omega, fun k x hk hx => by rw [List.getElem?_eq_none hk] at hx; cases hx⟩
theorem halved_right {α : Type} {pre : α → Bool} {xs : List α} {i j h : Nat} {x : α} (hf : Falls pre xs) (hh : Halved pre xs i j) (hx : xs[h]? = some x) (hp : pre x = true) : Halved pre xs (h + 1) j :=
  ⟨fun k y hk hy => hf k h y x (by omega) hy hx hp, hh.2⟩
theorem halved_left {α : Type} {pre : α → Bool} {xs : List α} {i j h : Nat} {x : α} (hf : Falls pre xs) (hh : Halved pre xs i j) (hx : xs[h]? = some x) (hp : pre x = false) : Halved pre xs i h :=
  ⟨hh.1, fun k y hk hy => by
    cases hy' : pre y
    · rfl
    · rw [hf h k x y hk hx hy hy'] at hp; cases hp⟩
theorem halved_end {α : Type} {pre : α → Bool} {xs : List α} {i : Nat} (hi : i ≤ xs.length) (hh : Halved pre xs i i) : posOf pre xs = i :=
  posOf_is hi hh.1 fun x hx => hh.2 i x (Nat.le_refl _) hx
/-- Whether what is looked for is where it belongs. -/
def foundOf {α : Type} (pre is : α → Bool) (xs : List α) : Bool := match xs[posOf pre xs]? with
  | some x => is x
  | none => false
theorem posOf_before {α : Type} {pre : α → Bool} : ∀ {xs : List α} {k : Nat} {x : α}, k < posOf pre xs → xs[k]? = some x → pre x = true
  | [], k, x, _, hx => by simp at hx
  | y :: r, 0, x, hk, hx => by
    unfold posOf at hk
    split at hk
    · rename_i hy
      have e : y = x := by simpa using hx
      exact e ▸ hy
    · omega
  | y :: r, k + 1, x, hk, hx => by
    unfold posOf at hk
    split at hk
    · exact posOf_before (xs := r) (k := k) (by omega) (by rw [List.getElem?_cons_succ] at hx; exact hx)
    · omega
theorem posOf_at {α : Type} {pre : α → Bool} : ∀ {xs : List α} {x : α}, xs[posOf pre xs]? = some x → pre x = false
  | [], x, hx => by simp at hx
  | y :: r, x, hx => by
    unfold posOf at hx
    split at hx
    · exact posOf_at (xs := r) (by rw [List.getElem?_cons_succ] at hx; exact hx)
    · rename_i hy
      have e : y = x := by simpa using hx
      exact e ▸ (by simpa using hy)
theorem found_yes {α : Type} {pre is : α → Bool} {xs : List α} (h : foundOf pre is xs = true) : ∃ x, xs[posOf pre xs]? = some x ∧ is x = true := by
  unfold foundOf at h
  cases hx : xs[posOf pre xs]? with
  | none => rw [hx] at h; cases h
  | some x => rw [hx] at h; exact ⟨x, rfl, h⟩
theorem found_no {α : Type} {pre is : α → Bool} {xs : List α} (hf : Falls (fun x => pre x || is x) xs) (hex : ∀ x, is x = true → pre x = false) (h : foundOf pre is xs = false) : ∀ x ∈ xs, is x = false := by
  intro y hy
  cases hi : is y
  · rfl
  · obtain ⟨j, hj⟩ := List.getElem?_of_mem hy
    rcases Nat.lt_or_ge j (posOf pre xs) with hlt | hge
    · have := posOf_before hlt hj
      rw [hex y hi] at this
      cases this
    · obtain ⟨hjl, _⟩ := List.getElem?_eq_some_iff.1 hj
      have hp : xs[posOf pre xs]? = some (xs[posOf pre xs]'(by omega)) := List.getElem?_eq_getElem (by omega)
      have h2 := hf _ j _ y hge hp hj (by show (pre y || is y) = true; rw [hi, Bool.or_true])
      have h3 := posOf_at hp
      unfold foundOf at h
      rw [hp] at h
      have h4 : is (xs[posOf pre xs]'(by omega)) = false := h
      have h2' : (pre (xs[posOf pre xs]'(by omega)) || is (xs[posOf pre xs]'(by omega))) = true := h2
      rw [h3, h4] at h2'
      cases h2'
def pcBelow (t : Int) (x : Int × ByteArray) : Bool := decide (x.1 < t)
def enBelow (t : ByteArray) (x : ByteArray × Int) : Bool := ltB x.1 t
theorem bytesLess_trans : ∀ a b c : List UInt8, Go.Op.bytesLess a b = true → Go.Op.bytesLess b c = true → Go.Op.bytesLess a c = true
  | _, [], c, h1, h2 => by
    rename_i a
    cases a <;> simp [Go.Op.bytesLess] at h1
  | _, _ :: _, [], h1, h2 => by simp [Go.Op.bytesLess] at h2
  | [], _ :: _, _ :: _, h1, h2 => by simp [Go.Op.bytesLess]
  | x :: a, y :: b, z :: c, h1, h2 => by
    have ih := bytesLess_trans a b c
    unfold Go.Op.bytesLess at h1 h2 ⊢
    simp only [Bool.or_eq_true, Bool.and_eq_true, decide_eq_true_eq, beq_iff_eq] at h1 h2 ⊢
    rcases h1 with h1 | ⟨h1, h1'⟩
    · rcases h2 with h2 | ⟨h2, _⟩
      · exact .inl (UInt8.lt_trans h1 h2)
      · exact .inl (h2 ▸ h1)
    · rcases h2 with h2 | ⟨h2, h2'⟩
      · exact .inl (h1 ▸ h2)
      · exact .inr ⟨h1.trans h2, ih h1' h2'⟩
theorem store_falls {xs : List (Int × ByteArray)} (h : storeV xs = true) (t : Int) : Falls (pcBelow t) xs :=
  falls_of h fun x y hl hp => by
    have h1 : x.1 < y.1 := of_decide_eq_true hl
    have h2 : y.1 < t := of_decide_eq_true hp
    exact decide_eq_true (by omega)
theorem entries_falls {xs : List (ByteArray × Int)} (h : entriesV xs = true) (t : ByteArray) : Falls (enBelow t) xs :=
  falls_of h fun _ _ hl hp => bytesLess_trans _ _ _ hl hp
end Go.Proofs.YtjombaiplnebmaaGreatDoor
/- Contracts: where a piece belongs (slices.BinarySearchFunc, cmp.Compare). -/
open Go.RowKit
namespace Go.Proofs.YtjombaiplnebmaaGreatDoor
def cmpI (a b : Int) : Int := if a < b then -1 else if b < a then 1 else 0
def pcIs (t : Int) (x : Int × ByteArray) : Bool := x.1 == t
theorem cmpI_pre (s : ByteArray) (p t : Int) : decide (cmpI p t < 0) = pcBelow t (p, s) := by
  unfold cmpI pcBelow
  by_cases h : p < t
  · rw [if_pos h]; simp [h]
  · rw [if_neg h]; split <;> simp [h]
theorem cmpI_is (s : ByteArray) (p t : Int) : (cmpI p t == 0) = pcIs t (p, s) := by
  unfold cmpI pcIs
  by_cases h : p < t
  · rw [if_pos h]
    exact (beq_false_of_ne (by omega)).trans (beq_false_of_ne (show p ≠ t by omega)).symm
  · rw [if_neg h]
    by_cases h2 : t < p
    · rw [if_pos h2]
      exact (beq_false_of_ne (by omega)).trans (beq_false_of_ne (show p ≠ t by omega)).symm
    · rw [if_neg h2]
      have : p = t := by omega
      subst this
      simp

theorem cmpInt (a b : Int) (w : World) :
    Calls Tryz.prog 66 #[.int .i64 a, .int .i64 b] w fun e w' => e = .returned (.int .i64 (cmpI a b)) ∧ w' = w := by
  go_enter Tryz.func66, Tryz.ntmps66
  go_wp2
  all_goals
    go_ret
    refine ⟨?_, rfl⟩
    unfold cmpI
    split <;> rename_i h1 <;> first | rfl | skip
    all_goals first | (split <;> rename_i h2 <;> first | rfl | (exfalso; omega)) | (exfalso; omega)
theorem findPieceOf (s : ByteArray) (p : Int) (t : Int) (w : World) :
    Calls Tryz.prog 65 #[.agg #[.int .i64 p, .string s], .int .i64 t] w fun e w' => e = .returned (.int .i64 (cmpI p t)) ∧ Below w.heap.size w w' := by
  go_enter Tryz.func65, Tryz.ntmps65
  go_wp2_with (go_at_call 66; refine (cmpInt _ _ _).mono ?_; rintro e w' ⟨rfl, rfl⟩)
  go_ret
  exact ⟨rfl, (Below.refl _ _).alloc (Nat.le_refl _) _⟩
set_option maxHeartbeats 1600000 in
theorem searchPiece (A : Option Addr) (n c : Nat) (t : Int) (xs : List (Int × ByteArray)) (w : World) (h : Rd w 2 A n (pcs xs)) (hf : Falls (pcBelow t) xs) (hn : n ≤ 4194304) :
    Calls Tryz.prog 64 #[.slice A n c, .int .i64 t, .func (.func 65) #[] #[]] w fun e w' => e = .returned (.tuple #[.int .i64 ((posOf (pcBelow t) xs : Nat) : Int), .bool (foundOf (pcBelow t) (pcIs t) xs)]) ∧ Below w.heap.size w w' := by
  have HX := Lib.hid h.pcLen
  have HF := Lib.hid hf
  clear hf
  go_enter Tryz.func64, Tryz.ntmps64
  go_wp2_with fail
  go_loopw [9, 10] (fun iv jv wr => ∃ i j : Nat, iv = .int .i64 (i : Int) ∧ jv = .int .i64 (j : Int) ∧ i ≤ j ∧ j ≤ n ∧ Halved (pcBelow t) xs i j ∧ Below w.heap.size w wr) (fun iv jv _ => (intOf jv).toNat - (intOf iv).toNat)
  case atStart => exact ⟨0, n, rfl, rfl, Nat.zero_le _, Nat.le_refl _, by rw [← HX.out]; exact halved_start _ _, Below.refl _ _⟩
  case round =>
    obtain ⟨i, j, rfl, rfl, hij, hjn, hh, hb⟩ := hrel
    have HH := Lib.hid hh
    clear hh
    have hr := h.below hb
    by_cases hlt : i < j
    · obtain ⟨bb, off, p, s, rfl, _, hx, hc0, hc1⟩ := hr.pcAt (show (i + j) / 2 < n by omega)
      have hp := cmpI_pre s p t
      obtain ⟨z, hz⟩ : ∃ z, cmpI p t = z := ⟨_, rfl⟩
      rw [hz] at hp
      have HZ := Lib.hid hz
      clear hz
      cases hb' : pcBelow t (p, s)
      · rw [hb'] at hp
        have HL := Lib.hid (halved_left HF.out HH.out hx hb')
        clear hx hb'
        go_wp2_with (go_at_call 65; refine (findPieceOf s p t _).mono ?_; rintro e w2 ⟨rfl, hb2⟩; rw [HZ.out])
        go_roundw
        case rel => exact ⟨i, (i + j) / 2, rfl, by go_num, by omega, by omega, HL.out, below_step hb hb2⟩
        case measure => simp [intOf]; omega
      · rw [hb'] at hp
        have HL := Lib.hid (halved_right HF.out HH.out hx hb')
        clear hx hb'
        go_wp2_with (go_at_call 65; refine (findPieceOf s p t _).mono ?_; rintro e w2 ⟨rfl, hb2⟩; rw [HZ.out])
        go_roundw
        case rel => exact ⟨(i + j) / 2 + 1, j, by go_num, rfl, by omega, by omega, HL.out, below_step hb hb2⟩
        case measure => simp [intOf]; omega
    · obtain rfl : i = j := by omega
      have HE := Lib.hid (halved_end (by rw [HX.out]; omega) HH.out)
      by_cases hin : i < n
      · obtain ⟨bb, off, p, s, rfl, _, hx, hc0, hc1⟩ := hr.pcAt hin
        have hp := cmpI_is s p t
        obtain ⟨z, hz⟩ : ∃ z, cmpI p t = z := ⟨_, rfl⟩
        rw [hz] at hp
        have HZ := Lib.hid hz
        have HW : Hid (foundOf (pcBelow t) (pcIs t) xs = pcIs t (p, s)) := Lib.hid (by unfold foundOf; rw [HE.out, hx])
        clear hz hx
        generalize pcIs t (p, s) = b at *
        go_wp2_with (go_at_call 65; refine (findPieceOf s p t _).mono ?_; rintro e w2 ⟨rfl, hb2⟩; rw [HZ.out])
        go_ret2
        exact ⟨by rw [HE.out, HW.out]; rfl, below_step hb hb2⟩
      · have HW : Hid (foundOf (pcBelow t) (pcIs t) xs = false) := Lib.hid (by unfold foundOf; rw [HE.out, List.getElem?_eq_none (by rw [HX.out]; omega)])
        go_wp2_with fail
        go_ret2
        exact ⟨by rw [HE.out, HW.out]; rfl, hb⟩
theorem findPieceC (A : Option Addr) (n c : Nat) (t : Int) (xs : List (Int × ByteArray)) (w : World) (h : Rd w 2 A n (pcs xs)) (hf : Falls (pcBelow t) xs) (hn : n ≤ 4194304) :
    Calls Tryz.prog 49 #[.slice A n c, .int .i64 t] w fun e w' => e = .returned (.tuple #[.int .i64 ((posOf (pcBelow t) xs : Nat) : Int), .bool (foundOf (pcBelow t) (pcIs t) xs)]) ∧ Below w.heap.size w w' := by
  go_enter Tryz.func49, Tryz.ntmps49
  go_wp2_with (go_at_call 64; refine (searchPiece _ _ _ _ _ _ h hf hn).mono ?_; rintro e w2 ⟨rfl, hb2⟩)
  go_ret2
  exact ⟨rfl, hb2⟩
end Go.Proofs.YtjombaiplnebmaaGreatDoor
/- Contracts: where a name belongs (slices.BinarySearchFunc, cmp.Compare). -/
open Go.RowKit
namespace Go.Proofs.YtjombaiplnebmaaGreatDoor
def cmpB (a b : ByteArray) : Int := if ltB a b = true then -1 else if ltB b a = true then 1 else 0
def enIs (t : ByteArray) (x : ByteArray × Int) : Bool := decide (x.1 = t)
theorem cmpB_pre (s : ByteArray) (p : Int) (t : ByteArray) : decide (cmpB s t < 0) = enBelow t (s, p) := by
  unfold cmpB enBelow
  cases h : ltB s t
  · rw [if_neg (by simp)]; split <;> simp
  · rw [if_pos rfl]; simp
theorem toList_in {x y : ByteArray} (e : x.toList = y.toList) : x = y := by
  rw [Lib.toList_data, Lib.toList_data] at e
  exact ByteArray.ext (Array.toList_inj.1 e)
theorem ltB_irrefl (a : ByteArray) : ltB a a = false := by
  have := bytesLess_total a.toList a.toList
  unfold ltB
  rw [beq_self_eq_true, Bool.or_true] at this
  simpa using this.symm
theorem ltB_neither {a b : ByteArray} (h1 : ltB a b = false) (h2 : ltB b a = false) : a = b := by
  have := bytesLess_total a.toList b.toList
  unfold ltB at h1 h2
  rw [h1, h2, Bool.false_or] at this
  exact toList_in (by simpa using this)
theorem cmpB_is (s : ByteArray) (p : Int) (t : ByteArray) : (cmpB s t == 0) = enIs t (s, p) := by
  unfold cmpB enIs
  cases h : ltB s t
  · rw [if_neg (by simp)]
    cases h2 : ltB t s
    · rw [if_neg (by simp), ltB_neither h h2]
      simp
    · rw [if_pos rfl]
      have hne : s ≠ t := fun e => by rw [e, ltB_irrefl] at h2; cases h2
      exact (show ((1 : Int) == 0) = false by decide).trans (decide_eq_false hne).symm
  · rw [if_pos rfl]
    have hne : s ≠ t := fun e => by rw [e, ltB_irrefl] at h; cases h
    exact (show ((-1 : Int) == 0) = false by decide).trans (decide_eq_false hne).symm

theorem cmpStr (a b : ByteArray) (w : World) :
    Calls Tryz.prog 63 #[.string a, .string b] w fun e w' => e = .returned (.int .i64 (cmpB a b)) ∧ w' = w := by
  go_enter Tryz.func63, Tryz.ntmps63
  have e0 : (a.toList != a.toList) = false := by simp
  have e1 : (b.toList != b.toList) = false := by simp
  have HT := Lib.hid (bytesLess_total a.toList b.toList)
  cases h1 : Go.Op.bytesLess a.toList b.toList
  · cases h2 : (a.toList == b.toList)
    · have h3 : Go.Op.bytesLess b.toList a.toList = true := by have := HT.out; rw [h1, h2] at this; simpa using this
      have HC : Hid (cmpB a b = 1) := Lib.hid (by unfold cmpB ltB; rw [if_neg (by rw [h1]; simp), if_pos h3])
      clear h3
      go_wp2
      go_ret
      exact ⟨by rw [HC.out]; rfl, rfl⟩
    · have h3 : Go.Op.bytesLess b.toList a.toList = false := by have := HT.out; rw [h1, h2] at this; simpa using this
      have HC : Hid (cmpB a b = 0) := Lib.hid (by unfold cmpB ltB; rw [if_neg (by rw [h1]; simp), if_neg (by rw [h3]; simp)])
      clear h3
      go_wp2
      go_ret
      exact ⟨by rw [HC.out]; rfl, rfl⟩
  · have HC : Hid (cmpB a b = -1) := Lib.hid (by unfold cmpB ltB; rw [if_pos h1])
    go_wp2
    go_ret
    exact ⟨by rw [HC.out]; rfl, rfl⟩
theorem findEntryOf (s : ByteArray) (p : Int) (t : ByteArray) (w : World) :
    Calls Tryz.prog 62 #[.agg #[.string s, .int .i64 p], .string t] w fun e w' => e = .returned (.int .i64 (cmpB s t)) ∧ Below w.heap.size w w' := by
  go_enter Tryz.func62, Tryz.ntmps62
  go_wp2_with (go_at_call 63; refine (cmpStr _ _ _).mono ?_; rintro e w' ⟨rfl, rfl⟩)
  go_ret
  exact ⟨rfl, (Below.refl _ _).alloc (Nat.le_refl _) _⟩
set_option maxHeartbeats 1600000 in
theorem searchEntry (A : Option Addr) (n c : Nat) (t : ByteArray) (xs : List (ByteArray × Int)) (w : World) (h : Rd w 2 A n (ens xs)) (hf : Falls (enBelow t) xs) (hn : n ≤ 4194304) :
    Calls Tryz.prog 61 #[.slice A n c, .string t, .func (.func 62) #[] #[]] w fun e w' => e = .returned (.tuple #[.int .i64 ((posOf (enBelow t) xs : Nat) : Int), .bool (foundOf (enBelow t) (enIs t) xs)]) ∧ Below w.heap.size w w' := by
  have HX := Lib.hid h.enLen
  have HF := Lib.hid hf
  clear hf
  go_enter Tryz.func61, Tryz.ntmps61
  go_wp2_with fail
  go_loopw [9, 10] (fun iv jv wr => ∃ i j : Nat, iv = .int .i64 (i : Int) ∧ jv = .int .i64 (j : Int) ∧ i ≤ j ∧ j ≤ n ∧ Halved (enBelow t) xs i j ∧ Below w.heap.size w wr) (fun iv jv _ => (intOf jv).toNat - (intOf iv).toNat)
  case atStart => exact ⟨0, n, rfl, rfl, Nat.zero_le _, Nat.le_refl _, by rw [← HX.out]; exact halved_start _ _, Below.refl _ _⟩
  case round =>
    obtain ⟨i, j, rfl, rfl, hij, hjn, hh, hb⟩ := hrel
    have HH := Lib.hid hh
    clear hh
    have hr := h.below hb
    by_cases hlt : i < j
    · obtain ⟨bb, off, s, p, rfl, _, hx, hc0, hc1⟩ := hr.enAt (show (i + j) / 2 < n by omega)
      have hp := cmpB_pre s p t
      obtain ⟨z, hz⟩ : ∃ z, cmpB s t = z := ⟨_, rfl⟩
      rw [hz] at hp
      have HZ := Lib.hid hz
      clear hz
      cases hb' : enBelow t (s, p)
      · rw [hb'] at hp
        have HL := Lib.hid (halved_left HF.out HH.out hx hb')
        clear hx hb'
        go_wp2_with (go_at_call 62; refine (findEntryOf s p t _).mono ?_; rintro e w2 ⟨rfl, hb2⟩; rw [HZ.out])
        go_roundw
        case rel => exact ⟨i, (i + j) / 2, rfl, by go_num, by omega, by omega, HL.out, below_step hb hb2⟩
        case measure => simp [intOf]; omega
      · rw [hb'] at hp
        have HL := Lib.hid (halved_right HF.out HH.out hx hb')
        clear hx hb'
        go_wp2_with (go_at_call 62; refine (findEntryOf s p t _).mono ?_; rintro e w2 ⟨rfl, hb2⟩; rw [HZ.out])
        go_roundw
        case rel => exact ⟨(i + j) / 2 + 1, j, by go_num, rfl, by omega, by omega, HL.out, below_step hb hb2⟩
        case measure => simp [intOf]; omega
    · obtain rfl : i = j := by omega
      have HE := Lib.hid (halved_end (by rw [HX.out]; omega) HH.out)
      by_cases hin : i < n
      · obtain ⟨bb, off, s, p, rfl, _, hx, hc0, hc1⟩ := hr.enAt hin
        have hp := cmpB_is s p t
        obtain ⟨z, hz⟩ : ∃ z, cmpB s t = z := ⟨_, rfl⟩
        rw [hz] at hp
        have HZ := Lib.hid hz
        have HW : Hid (foundOf (enBelow t) (enIs t) xs = enIs t (s, p)) := Lib.hid (by unfold foundOf; rw [HE.out, hx])
        clear hz hx
        generalize enIs t (s, p) = b at *
        go_wp2_with (go_at_call 62; refine (findEntryOf s p t _).mono ?_; rintro e w2 ⟨rfl, hb2⟩; rw [HZ.out])
        go_ret2
        exact ⟨by rw [HE.out, HW.out]; rfl, below_step hb hb2⟩
      · have HW : Hid (foundOf (enBelow t) (enIs t) xs = false) := Lib.hid (by unfold foundOf; rw [HE.out, List.getElem?_eq_none (by rw [HX.out]; omega)])
        go_wp2_with fail
        go_ret2
        exact ⟨by rw [HE.out, HW.out]; rfl, hb⟩
theorem findEntryC (A : Option Addr) (n c : Nat) (t : ByteArray) (xs : List (ByteArray × Int)) (w : World) (h : Rd w 2 A n (ens xs)) (hf : Falls (enBelow t) xs) (hn : n ≤ 4194304) :
    Calls Tryz.prog 48 #[.slice A n c, .string t] w fun e w' => e = .returned (.tuple #[.int .i64 ((posOf (enBelow t) xs : Nat) : Int), .bool (foundOf (enBelow t) (enIs t) xs)]) ∧ Below w.heap.size w w' := by
  go_enter Tryz.func48, Tryz.ntmps48
  go_wp2_with (go_at_call 61; refine (searchEntry _ _ _ _ _ _ h hf hn).mono ?_; rintro e w2 ⟨rfl, hb2⟩)
  go_ret2
  exact ⟨rfl, hb2⟩
end Go.Proofs.YtjombaiplnebmaaGreatDoor
