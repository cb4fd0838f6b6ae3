/- Plain words: stores joined. -/
import Derived.Test.YthoiljgpggldcaaPutT
import Derived.Test.YthoiljgpggldcaaM1
open Go.RowKit
namespace Go.Proofs.Ythoiljgpggldcaa
section
variable {α : Type} {ok : α → Bool} {lt : α → α → Bool} {m : Nat}
theorem gd_tail {x : α} {r : List α} (h : goodAll ok lt m (x :: r) = true) : goodAll ok lt m r = true := by
  have hl := goodAll_len h
  rw [List.length_cons] at hl
  rw [goodAll_ok (fun j hj => ?_)]
  · exact decide_eq_true (by omega)
  · have h1 := goodAll_at h (show j + 1 < (x :: r).length by rw [List.length_cons]; omega)
    have hy : (x :: r)[j + 1]? = some r[j] := by rw [List.getElem?_cons_succ]; exact List.getElem?_eq_getElem hj
    have hok := goodAt_ok h1 hy
    cases j with
    | zero => exact goodAt_zero (List.getElem?_eq_getElem hj) hok
    | succ j =>
      rw [goodAt_succ (y := r[j]) (List.getElem?_eq_getElem hj) (List.getElem?_eq_getElem (by omega)) hok]
      rw [goodAt_succ (y := r[j]) hy (by rw [List.getElem?_cons_succ]; exact List.getElem?_eq_getElem (by omega)) hok] at h1
      exact h1
theorem gd_pairs (htr : ∀ x y z, lt x y = true → lt y z = true → lt x z = true) : ∀ {xs : List α}, goodAll ok lt m xs = true → xs.Pairwise (fun x y => lt x y = true)
  | [], _ => List.Pairwise.nil
  | [x], _ => List.pairwise_singleton _ _
  | x :: y :: r, h => by
    have ih := gd_pairs htr (gd_tail h)
    have h1 := goodAll_at h (show 1 < (x :: y :: r).length by rw [List.length_cons, List.length_cons]; omega)
    rw [goodAt_succ (x := y) (y := x) rfl rfl (goodAt_ok h1 rfl)] at h1
    refine List.Pairwise.cons (fun z hz => ?_) ih
    rcases List.mem_cons.1 hz with rfl | hz
    · exact h1
    · exact htr _ _ _ h1 ((List.pairwise_cons.1 ih).1 z hz)
theorem gd_all {xs : List α} (h : goodAll ok lt m xs = true) : ∀ x ∈ xs, ok x = true := by
  intro x hx
  obtain ⟨j, hj⟩ := List.getElem?_of_mem hx
  obtain ⟨hl, _⟩ := List.getElem?_eq_some_iff.1 hj
  exact goodAt_ok (goodAll_at h hl) hj
theorem gd_of {xs : List α} (hl : xs.length ≤ m) (ho : ∀ x ∈ xs, ok x = true) (hp : xs.Pairwise (fun x y => lt x y = true)) : goodAll ok lt m xs = true := by
  rw [goodAll_ok (fun j hj => ?_)]
  · exact decide_eq_true hl
  · have hx : xs[j]? = some xs[j] := List.getElem?_eq_getElem hj
    cases j with
    | zero => exact goodAt_zero hx (ho _ (List.getElem_mem hj))
    | succ j =>
      rw [goodAt_succ hx (List.getElem?_eq_getElem (show j < xs.length by omega)) (ho _ (List.getElem_mem hj))]
      exact List.pairwise_iff_getElem.1 hp j (j + 1) (by omega) hj (by omega)
end
/-- Pieces that are good and ascend, at most so many. -/
def piecesV (m : Nat) (xs : List (Int × ByteArray)) : Bool := goodAll pieceOk pieceLt m xs
theorem pieces_falls {m : Nat} {xs : List (Int × ByteArray)} (h : piecesV m xs = true) (t : Int) : Falls (pcBelow t) xs := falls_of h fun x y hl hp => by
  have h1 : x.1 < y.1 := of_decide_eq_true hl
  have h2 : y.1 < t := of_decide_eq_true hp
  exact decide_eq_true (by omega)
theorem pieces_more {m m' : Nat} {xs : List (Int × ByteArray)} (h : piecesV m xs = true) (hl : xs.length ≤ m') : piecesV m' xs = true :=
  gd_of hl (gd_all h) (gd_pairs (fun x y z h1 h2 => by
    have h1 : x.1 < y.1 := of_decide_eq_true h1
    have h2 : y.1 < z.1 := of_decide_eq_true h2
    exact decide_eq_true (by omega)) h)
def putAt (xs : List (Int × ByteArray)) (x : Int × ByteArray) : List (Int × ByteArray) := xs.take (posOf (pcBelow x.1) xs) ++ [x] ++ xs.drop (posOf (pcBelow x.1) xs)
theorem putAt_len {xs : List (Int × ByteArray)} {x : Int × ByteArray} : (putAt xs x).length = xs.length + 1 := by
  have := posOf_le (pcBelow x.1) xs
  unfold putAt
  rw [List.length_append, List.length_append, List.length_take, List.length_drop, List.length_singleton]
  omega
theorem pieces_put {m m' : Nat} {xs : List (Int × ByteArray)} {x : Int × ByteArray} (h : piecesV m xs = true) (hx : pieceOk x = true) (hf : foundOf (pcBelow x.1) (pcIs x.1) xs = false) (hl : xs.length + 1 ≤ m') : piecesV m' (putAt xs x) = true := by
  have htr : ∀ a b c : Int × ByteArray, pieceLt a b = true → pieceLt b c = true → pieceLt a c = true := fun a b c h1 h2 => by
    have h1 : a.1 < b.1 := of_decide_eq_true h1
    have h2 : b.1 < c.1 := of_decide_eq_true h2
    exact decide_eq_true (by omega)
  have hp := gd_pairs htr h
  have ha := gd_all h
  have hfa := pieces_falls h x.1
  have hsp : xs = xs.take (posOf (pcBelow x.1) xs) ++ xs.drop (posOf (pcBelow x.1) xs) := (List.take_append_drop _ _).symm
  have hp2 := hp
  rw [hsp] at hp2
  obtain ⟨hp3, hp4, hp5⟩ := List.pairwise_append.1 hp2
  have hnot : ∀ y ∈ xs, pcIs x.1 y = false := by
    have hf2 : Falls (fun y => pcBelow x.1 y || pcIs x.1 y) xs := falls_of h fun a b hl hp => by
      have h1 : a.1 < b.1 := of_decide_eq_true hl
      have h2 : b.1 < x.1 ∨ b.1 = x.1 := by simpa [pcBelow, pcIs] using hp
      have h3 : a.1 < x.1 := by omega
      simp [pcBelow, h3]
    exact found_no hf2 (fun a hi => by
      have hp : a.1 = x.1 := by simpa [pcIs] using hi
      simp [pcBelow, hp]) hf
  have hlo : ∀ a ∈ xs.take (posOf (pcBelow x.1) xs), a.1 < x.1 := fun a hm => by
    obtain ⟨j, hj⟩ := List.getElem?_of_mem hm
    rw [List.getElem?_take] at hj
    split at hj
    · rename_i hlt
      have h1 : pcBelow x.1 a = true := posOf_before hlt hj
      exact of_decide_eq_true h1
    · cases hj
  have hhi : ∀ b ∈ xs.drop (posOf (pcBelow x.1) xs), x.1 < b.1 := fun b hm => by
    have h1 := hnot b (List.mem_of_mem_drop hm)
    have h2 : pcBelow x.1 b = false := by
      obtain ⟨j, hj⟩ := List.getElem?_of_mem hm
      rw [List.getElem?_drop] at hj
      obtain ⟨hjl, _⟩ := List.getElem?_eq_some_iff.1 hj
      have hq : xs[posOf (pcBelow x.1) xs]? = some xs[posOf (pcBelow x.1) xs] := List.getElem?_eq_getElem (by omega)
      have h3 := posOf_at hq
      cases hb : pcBelow x.1 b
      · rfl
      · rcases Nat.eq_zero_or_pos j with h0 | h0
        · subst h0
          rw [Nat.add_zero, hq] at hj
          rw [Option.some.inj hj, hb] at h3
          cases h3
        · have := hfa (posOf (pcBelow x.1) xs) (posOf (pcBelow x.1) xs + j) _ _ (by omega) hq hj hb
          rw [h3] at this
          cases this
    have h4 : ¬ b.1 < x.1 := fun e => by
      have : pcBelow x.1 b = true := decide_eq_true e
      rw [h2] at this
      cases this
    have h5 : ¬ b.1 = x.1 := fun e => by
      have : pcIs x.1 b = true := by simp [pcIs, e]
      rw [h1] at this
      cases this
    omega
  refine gd_of (by rw [putAt_len]; exact hl) (fun a hm => ?_) ?_
  · unfold putAt at hm
    rw [List.mem_append, List.mem_append, List.mem_singleton] at hm
    rcases hm with (hm | hm) | hm
    · exact ha a (List.mem_of_mem_take hm)
    · rw [hm]; exact hx
    · exact ha a (List.mem_of_mem_drop hm)
  · unfold putAt
    rw [List.pairwise_append, List.pairwise_append]
    refine ⟨⟨hp3, List.pairwise_singleton _ _, fun a h1 b h2 => ?_⟩, hp4, fun a h1 b h2 => ?_⟩
    · rw [List.mem_singleton.1 h2]
      exact decide_eq_true (hlo a h1)
    · rw [List.mem_append, List.mem_singleton] at h1
      rcases h1 with h1 | h1
      · exact hp5 a h1 b h2
      · rw [h1]
        exact decide_eq_true (hhi b h2)
theorem pieceOk_is {x : Int × ByteArray} (h : pieceOk x = true) : textV (bts x.2) = true ∧ printP x.2 = x.1 := by
  unfold pieceOk at h
  rw [Bool.and_eq_true] at h
  exact ⟨h.1, by simpa using h.2⟩
/-- What the specification makes, and what the program makes. -/
def joinS : List (Int × ByteArray) → List (Int × ByteArray) → Option (List (Int × ByteArray))
  | out, [] => some out
  | out, x :: r => if (putT out x.2).2.2 = true then joinS (putT out x.2).1 r else none
def joinI : List (Int × ByteArray) → List (Int × ByteArray) → Option (List (Int × ByteArray))
  | js, [] => some js
  | js, x :: r => if foundOf (pcBelow x.1) (pcIs x.1) js = true then (if (js[posOf (pcBelow x.1) js]?).map (·.2) = some x.2 then joinI js r else none) else joinI (putAt js x) r
theorem joinI_len : ∀ (r js ks : List (Int × ByteArray)), joinI js r = some ks → js.length ≤ ks.length
  | [], js, ks, h => by
    injection h with h
    rw [h]
    exact Nat.le_refl _
  | x :: r, js, ks, h => by
    unfold joinI at h
    split at h
    · split at h
      · exact joinI_len r js ks h
      · cases h
    · have := joinI_len r _ ks h
      rw [putAt_len] at this
      omega
def fewer (o : Option (List (Int × ByteArray))) : Option (List (Int × ByteArray)) := match o with
  | some js => if 40 < js.length then none else some js
  | none => none
theorem join_same : ∀ (r out : List (Int × ByteArray)), storeV out = true → (∀ x ∈ r, pieceOk x = true) → fewer (joinI out r) = joinS out r
  | [], out, hv, _ => by
    have : ¬ 40 < out.length := by have := goodAll_len hv; omega
    show (if 40 < out.length then none else some out) = some out
    rw [if_neg this]
  | x :: r, out, hv, hr => by
    have hx := hr x (List.mem_cons_self ..)
    obtain ⟨ht, hp⟩ := pieceOk_is hx
    have hr' : ∀ y ∈ r, pieceOk y = true := fun y hy => hr y (List.mem_cons_of_mem _ hy)
    cases hf : foundOf (pcBelow x.1) (pcIs x.1) out
    · have eI : joinI out (x :: r) = joinI (putAt out x) r := by
        show (if foundOf (pcBelow x.1) (pcIs x.1) out = true then _ else _) = _
        rw [hf, if_neg (by simp)]
      rw [eI]
      have hf' := hf
      rw [← hp] at hf'
      by_cases h40 : out.length = 40
      · have eS : joinS out (x :: r) = none := by
          show (if (putT out x.2).2.2 = true then _ else none) = none
          rw [putT_full hv ht hf' h40, if_neg (by simp)]
        rw [eS]
        cases hj : joinI (putAt out x) r with
        | none => rfl
        | some ks =>
          have := joinI_len r _ ks hj
          rw [putAt_len] at this
          show (if 40 < ks.length then none else some ks) = none
          rw [if_pos (by omega)]
      · have h39 : out.length + 1 ≤ 40 := by have := goodAll_len hv; omega
        have e : insP out x.2 = putAt out x := by
          unfold insP putAt
          rw [hp]
        have eS : joinS out (x :: r) = joinS (putAt out x) r := by
          show (if (putT out x.2).2.2 = true then joinS (putT out x.2).1 r else none) = _
          rw [putT_new hv ht hf' h40, if_pos rfl, e]
        rw [eS]
        exact join_same r _ (pieces_put (m := 40) hv hx hf h39) hr'
    · have hf' := hf
      rw [← hp] at hf'
      obtain ⟨y, hy, _⟩ := found_yes hf
      have hy' := hy
      rw [← hp] at hy'
      by_cases he : y.2 = x.2
      · have eI : joinI out (x :: r) = joinI out r := by
          show (if foundOf (pcBelow x.1) (pcIs x.1) out = true then (if (out[posOf (pcBelow x.1) out]?).map (·.2) = some x.2 then _ else none) else _) = _
          rw [hf, if_pos rfl, hy, if_pos (by rw [← he]; rfl)]
        have eS : joinS out (x :: r) = joinS out r := by
          show (if (putT out x.2).2.2 = true then joinS (putT out x.2).1 r else none) = _
          rw [putT_here hv ht hf' hy' he, if_pos rfl]
        rw [eI, eS]
        exact join_same r out hv hr'
      · have eI : joinI out (x :: r) = none := by
          show (if foundOf (pcBelow x.1) (pcIs x.1) out = true then (if (out[posOf (pcBelow x.1) out]?).map (·.2) = some x.2 then _ else none) else _) = _
          rw [hf, if_pos rfl, hy]
          exact if_neg (fun e => he (Option.some.inj e))
        have eS : joinS out (x :: r) = none := by
          show (if (putT out x.2).2.2 = true then _ else none) = none
          rw [putT_other hv ht hf' hy' he, if_neg (by simp)]
        rw [eI, eS]
        rfl
end Go.Proofs.Ythoiljgpggldcaa
