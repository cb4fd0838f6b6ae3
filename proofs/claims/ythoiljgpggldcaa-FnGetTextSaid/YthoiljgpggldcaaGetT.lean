/- Contracts of GetText: the text of a print in a store. -/
import Derived.Test.YthoiljgpggldcaaM2
import Derived.Test.YthoiljgpggldcaaStoreV
open Go.RowKit
namespace Go.Proofs.Ythoiljgpggldcaa
def getL (t : Int) : List (Int × ByteArray) → ByteArray × Bool
  | [] => (⟨#[]⟩, false)
  | x :: r => if x.1 = t then (x.2, true) else getL t r
def getT (xs : List (Int × ByteArray)) (t : Int) : ByteArray × Bool := if storeV xs = true then getL t xs else (⟨#[]⟩, false)
theorem getL_none {t : Int} : ∀ {xs : List (Int × ByteArray)}, (∀ x ∈ xs, x.1 ≠ t) → getL t xs = (⟨#[]⟩, false)
  | [], _ => rfl
  | x :: r, h => by
    unfold getL
    rw [if_neg (h x (List.mem_cons_self ..)), getL_none fun y hy => h y (List.mem_cons_of_mem _ hy)]
theorem getL_at {t : Int} : ∀ {xs : List (Int × ByteArray)} {k : Nat} {p : Int} {s : ByteArray}, (∀ j x, j < k → xs[j]? = some x → x.1 ≠ t) → xs[k]? = some (p, s) → p = t → getL t xs = (s, true)
  | [], k, p, s, _, hx, _ => by simp at hx
  | y :: r, 0, p, s, _, hx, hp => by
    have e : y = (p, s) := by simpa using hx
    unfold getL
    rw [e, if_pos hp]
  | y :: r, k + 1, p, s, hb, hx, hp => by
    unfold getL
    rw [if_neg (hb 0 y (by omega) rfl), getL_at (xs := r) (k := k) (p := p) (s := s) (fun j x hj hx => hb (j + 1) x (by omega) (by rw [List.getElem?_cons_succ]; exact hx)) (by rw [List.getElem?_cons_succ] at hx; exact hx) hp]
theorem store_find {xs : List (Int × ByteArray)} {t : Int} (hv : storeV xs = true) : (foundOf (pcBelow t) (pcIs t) xs = true → ∃ p s, xs[posOf (pcBelow t) xs]? = some (p, s) ∧ p = t ∧ getL t xs = (s, true)) ∧ (foundOf (pcBelow t) (pcIs t) xs = false → getL t xs = (⟨#[]⟩, false)) := by
  constructor
  · intro h
    obtain ⟨⟨p, s⟩, hx, hi⟩ := found_yes h
    have hp : p = t := by simpa [pcIs] using hi
    refine ⟨p, s, hx, hp, getL_at (fun j x hj hx' => ?_) hx hp⟩
    have hpr := posOf_before hj hx'
    have : x.1 < t := of_decide_eq_true hpr
    omega
  · intro h
    have hf : Falls (fun x => pcBelow t x || pcIs t x) xs := falls_of hv fun x y hl hp => by
      have h1 : x.1 < y.1 := of_decide_eq_true hl
      have h2 : y.1 < t ∨ y.1 = t := by simpa [pcBelow, pcIs] using hp
      have h3 : x.1 < t := by omega
      simp [pcBelow, h3]
    have hn := found_no hf (fun x hi => by
      have hp : x.1 = t := by simpa [pcIs] using hi
      simp [pcBelow, hp]) h
    exact getL_none fun x hx => by
      have := hn x hx
      simpa [pcIs] using this
set_option maxRecDepth 4000 in
theorem l4Get (A : Option Addr) (n c : Nat) (t : Int) (xs : List (Int × ByteArray)) (w : World) (h : Rd w 2 A n (pcs xs)) (hn : n ≤ 4194304) :
    Calls Try.prog 22 #[.slice A n c, .int .i64 t] w fun e w' => e = .returned (.tuple #[.string (getL t xs).1, .bool (getL t xs).2]) ∧ w' = w := by
  have HX := Lib.hid h.pcLen
  go_enter Try.func22, Try.ntmps22
  go_wp2
  go_loop [6] (fun i => ∃ k : Nat, i = .int .i64 (k : Int) ∧ k ≤ n ∧ Hid (∀ j x, j < k → xs[j]? = some x → x.1 ≠ t)) (fun i => n - (intOf i).toNat)
  case atStart => exact ⟨0, rfl, Nat.zero_le _, Lib.hid (fun j _ hj => by omega)⟩
  case round =>
    obtain ⟨k, rfl, hk, HB⟩ := hrel
    by_cases hlt : k < n
    · obtain ⟨bb, off, p, s, rfl, _, hx, hc0, hc1⟩ := h.pcAt hlt
      by_cases hp : p = t
      · subst hp
        have HG := Lib.hid (getL_at HB.out hx rfl)
        clear hx
        go_wp2
        go_ret2
        exact ⟨by rw [HG.out]; rfl, rfl⟩
      · have HB' : Hid (∀ j x, j < k + 1 → xs[j]? = some x → x.1 ≠ t) := Lib.hid (fun j x hj hx' => by
          rcases Nat.lt_or_ge j k with h1 | h1
          · exact HB.out j x h1 hx'
          · obtain rfl : j = k := by omega
            rw [hx] at hx'
            obtain rfl := Option.some.inj hx'
            exact hp)
        clear hx
        go_wp2
        go_round
        case rel => exact ⟨k + 1, by go_num, by omega, HB'⟩
        case measure => simp [intOf]; omega
    · have HG : Hid (getL t xs = (⟨#[]⟩, false)) := Lib.hid (getL_none (fun x hx => by
        obtain ⟨j, hj⟩ := List.getElem?_of_mem hx
        obtain ⟨hjl, _⟩ := List.getElem?_eq_some_iff.1 hj
        exact HB.out j x (by rw [HX.out] at hjl; omega) hj))
      go_wp2
      go_ret2
      exact ⟨by rw [HG.out]; rfl, rfl⟩
theorem specGetText (A : Option Addr) (n c : Nat) (t : Int) (xs : List (Int × ByteArray)) (w : World) (h : Rd w 2 A n (pcs xs)) (hx : ∀ x ∈ xs, x.2.size ≤ maxLen) (hn : n ≤ 4194304) :
    Calls Try.prog 11 #[.slice A n c, .int .i64 t] w fun e w' => e = .returned (.tuple #[.string (getT xs t).1, .bool (getT xs t).2]) ∧ Below w.heap.size w w' := by
  go_enter Try.func11, Try.ntmps11
  go_wp2_with fail
  refine (specStoreValid _ _ _ xs _ h hx hn).mono ?_
  rintro e w1 ⟨rfl, k, rfl⟩
  cases hv : storeV xs
  · have HG : Hid (getT xs t = (⟨#[]⟩, false)) := Lib.hid (by unfold getT; rw [if_neg (by rw [hv]; simp)])
    clear hv
    go_wp2_with fail
    go_ret2
    exact ⟨by rw [HG.out]; rfl, below_drewN _ _⟩
  · have HG : Hid (getT xs t = getL t xs) := Lib.hid (by unfold getT; rw [if_pos hv])
    clear hv
    go_wp2_with (go_at_call 22; refine (l4Get _ _ _ t xs _ (h.drewN k) hn).mono ?_; rintro e w2 ⟨rfl, rfl⟩)
    go_ret2
    exact ⟨by rw [HG.out]; rfl, below_drewN _ _⟩
set_option maxRecDepth 4000 in
theorem textOf (A : Option Addr) (n c : Nat) (t : Int) (xs : List (Int × ByteArray)) (w : World) (h : Rd w 2 A n (pcs xs)) (hv : storeV xs = true) (hn : n ≤ 4194304) :
    Calls Try.prog 21 #[.slice A n c, .int .i64 t] w fun e w' => e = .returned (.tuple #[.string (getL t xs).1, .bool (getL t xs).2]) ∧ Below w.heap.size w w' := by
  have HX := Lib.hid h.pcLen
  have hle := posOf_le (pcBelow t) xs
  obtain ⟨hf1, hf2⟩ := store_find (t := t) hv
  have HF := Lib.hid (store_falls hv t)
  go_enter Try.func21, Try.ntmps21
  go_wp2_with fail
  refine (findPieceC _ _ _ _ xs _ h HF.out hn).mono ?_
  rintro e w1 ⟨rfl, hb1⟩
  cases hfo : foundOf (pcBelow t) (pcIs t) xs
  · have HG := Lib.hid (hf2 hfo)
    clear hf1 hf2 hfo hv hle
    generalize posOf (pcBelow t) xs = q at *
    go_wp2_with fail
    go_ret2
    exact ⟨by rw [HG.out]; rfl, hb1⟩
  · obtain ⟨p, s, hx, _, hg⟩ := hf1 hfo
    have HG := Lib.hid hg
    have hq : posOf (pcBelow t) xs < n := by
      obtain ⟨hl, _⟩ := List.getElem?_eq_some_iff.1 hx
      rw [HX.out] at hl
      exact hl
    generalize posOf (pcBelow t) xs = q at *
    obtain ⟨bb, off, p', s', rfl, _, hx', hc0, hc1⟩ := (h.below hb1).pcAt hq
    rw [hx] at hx'
    obtain ⟨rfl, rfl⟩ : p = p' ∧ s = s' := by
      injection hx' with hx'
      injection hx' with e1 e2
      exact ⟨e1, e2⟩
    clear hf1 hf2 hfo hv hle hx hx' hg
    go_wp2_with fail
    go_ret2
    exact ⟨by rw [HG.out]; rfl, hb1⟩
theorem implGetText (A : Option Addr) (n c : Nat) (t : Int) (xs : List (Int × ByteArray)) (w : World) (h : Rd w 2 A n (pcs xs)) (hx : ∀ x ∈ xs, x.2.size ≤ maxLen) (hn : n ≤ 4194304) :
    Calls Try.prog 10 #[.slice A n c, .int .i64 t] w fun e w' => e = .returned (.tuple #[.string (getT xs t).1, .bool (getT xs t).2]) ∧ Below w.heap.size w w' := by
  go_enter Try.func10, Try.ntmps10
  go_wp2_with fail
  refine (implStoreValid _ _ _ xs _ h hx).mono ?_
  rintro e w1 ⟨rfl, hb1⟩
  cases hv : storeV xs
  · have HG : Hid (getT xs t = (⟨#[]⟩, false)) := Lib.hid (by unfold getT; rw [if_neg (by rw [hv]; simp)])
    clear hv
    go_wp2_with fail
    go_ret2
    exact ⟨by rw [HG.out]; rfl, hb1⟩
  · have HG : Hid (getT xs t = getL t xs) := Lib.hid (by unfold getT; rw [if_pos hv])
    go_wp2_with (go_at_call 21; refine (textOf _ _ _ t xs _ (h.below hb1) hv hn).mono ?_; rintro e w2 ⟨rfl, hb2⟩)
    go_ret2
    exact ⟨by rw [HG.out]; rfl, below_step hb1 hb2⟩
end Go.Proofs.Ythoiljgpggldcaa
