/- The texts PartsP HexP Good FoldP ReadP as one. -/
import Derived.Test.YtjombaiplnebmaaGreatDoorPathJ
import Derived.Test.YtjombaiplnebmaaGreatDoorFiles
import Derived.Lib.Split
import Derived.Lib.IndexBytes
import Derived.Test.YtjombaiplnebmaaGreatDoorMem
import Derived.Lib.IndexMore
/- Plain words on the parts of a path. -/
open Go.RowKit
namespace Go.Proofs.YtjombaiplnebmaaGreatDoor
theorem indexByte_at : ∀ (a t : List UInt8), (∀ c ∈ a, c ≠ 47) → Lib.indexByte (a ++ 47 :: t) 47 = (a.length : Int)
  | [], t, _ => by simp [Lib.indexByte]
  | x :: a, t, h => by
    have hx : x ≠ 47 := h x (List.mem_cons_self ..)
    have ih := indexByte_at a t (fun c hc => h c (List.mem_cons_of_mem _ hc))
    simp [Lib.indexByte, hx, ih]
theorem indexByte_no : ∀ (a : List UInt8), (∀ c ∈ a, c ≠ 47) → Lib.indexByte a 47 = -1
  | [], _ => by simp [Lib.indexByte]
  | x :: a, h => by
    have hx : x ≠ 47 := h x (List.mem_cons_self ..)
    have ih := indexByte_no a (fun c hc => h c (List.mem_cons_of_mem _ hc))
    simp [Lib.indexByte, hx, ih]
/-- Words joined, cut again. -/
theorem splitK_join : ∀ (k : Nat) (a : List UInt8) (r : List (List UInt8)), r.length ≤ k → (∀ x ∈ a :: r, ∀ c ∈ x, c ≠ 47) → Lib.splitK [47] 0 k (a ++ Lib.joinTail [47] r) = a :: r
  | 0, a, [], _, _ => by simp [Lib.splitK, Lib.joinTail]
  | 0, a, b :: r, h, _ => by simp at h
  | k + 1, a, [], _, hw => by
    have : Lib.index (a ++ Lib.joinTail [47] []) [47] = -1 := by
      rw [Lib.index_one]
      simp only [Lib.joinTail, List.map_nil, List.flatten_nil, List.append_nil]
      exact indexByte_no a (hw a (List.mem_cons_self ..))
    unfold Lib.splitK
    rw [this]
    simp [Lib.joinTail]
  | k + 1, a, b :: r, h, hw => by
    have e : a ++ Lib.joinTail [47] (b :: r) = a ++ 47 :: (b ++ Lib.joinTail [47] r) := by simp [Lib.joinTail]
    have hi : Lib.index (a ++ Lib.joinTail [47] (b :: r)) [47] = (a.length : Int) := by
      rw [Lib.index_one, e]
      exact indexByte_at a _ (hw a (List.mem_cons_self ..))
    unfold Lib.splitK
    rw [hi, if_neg (by simp), e]
    have h1 : (a ++ 47 :: (b ++ Lib.joinTail [47] r)).take ((a.length : Int).toNat + 0) = a := by simp
    have h2 : (a ++ 47 :: (b ++ Lib.joinTail [47] r)).drop ((a.length : Int).toNat + [(47 : UInt8)].length) = b ++ Lib.joinTail [47] r := by simp
    rw [h1, h2, splitK_join k b r (by simpa using h) (fun x hx => hw x (List.mem_cons_of_mem _ hx))]
/-- The specification's way: byte for byte. -/
def stepP (out : List (List UInt8)) (c : UInt8) : List (List UInt8) := if c = 47 then out ++ [[]] else match out.getLast? with
  | none => out
  | some l => out.dropLast ++ [l ++ [c]]
theorem stepP_word : ∀ (a : List UInt8) (out : List (List UInt8)) (l : List UInt8), (∀ c ∈ a, c ≠ 47) → a.foldl stepP (out ++ [l]) = out ++ [l ++ a]
  | [], out, l, _ => by simp
  | x :: a, out, l, h => by
    have hx : x ≠ 47 := h x (List.mem_cons_self ..)
    have : stepP (out ++ [l]) x = out ++ [l ++ [x]] := by simp [stepP, hx]
    rw [List.foldl_cons, this, stepP_word a out (l ++ [x]) (fun c hc => h c (List.mem_cons_of_mem _ hc))]
    simp
theorem stepP_words : ∀ (ws out : List (List UInt8)), (∀ x ∈ ws, ∀ c ∈ x, c ≠ 47) → (ws.map fun x => (47 : UInt8) :: x).flatten.foldl stepP out = out ++ ws
  | [], out, _ => by simp
  | x :: ws, out, h => by
    rw [List.map_cons, List.flatten_cons, List.foldl_append, List.foldl_cons]
    have : stepP out 47 = out ++ [[]] := by simp [stepP]
    rw [this, stepP_word x out [] (h x (List.mem_cons_self ..)), stepP_words ws _ (fun y hy => h y (List.mem_cons_of_mem _ hy))]
    simp
theorem word_no_slash {x : ByteArray} (h : wordV (bts x) = true) : ∀ c ∈ x.data.toList, c ≠ 47 := by
  intro c hc e
  unfold wordV at h
  rw [Bool.and_eq_true, Bool.and_eq_true] at h
  have := List.all_eq_true.1 h.2.2 c hc
  rw [e] at this
  revert this
  decide
def ofL (l : List UInt8) : ByteArray := ⟨l.toArray⟩
theorem ofL_data (l : List UInt8) : (ofL l).data.toList = l := rfl
theorem ofL_of (x : ByteArray) : ofL x.data.toList = x := by cases x; rfl
/-- Cut at the slashes, into four at most: the program's way. -/
def partsI (names : ByteArray) : List ByteArray := Lib.splitB ⟨#[47]⟩ 0 (min 4 (names.size + 1) - 1) names
/-- The specification's way. -/
def partsS (path : ByteArray) : List ByteArray := (path.data.toList.foldl stepP []).map ofL
def slash : ByteArray := ⟨#[47]⟩
def partsP (path : ByteArray) : List ByteArray × Bool :=
  if path = slash then ([], true) else
  if head1 path 47 = true ∧ joinP (partsI (cut1 path 47)) = path then (partsI (cut1 path 47), true) else ([], false)
theorem map_data_inj {xs ys : List ByteArray} (h : xs.map (·.data.toList) = ys.map (·.data.toList)) : xs = ys := by
  have : (xs.map (·.data.toList)).map ofL = (ys.map (·.data.toList)).map ofL := by rw [h]
  rw [List.map_map, List.map_map] at this
  have e : (ofL ∘ fun x : ByteArray => x.data.toList) = id := by funext x; exact ofL_of x
  rw [e, List.map_id, List.map_id] at this
  exact this
theorem pathOk_parts {xs : List ByteArray} (h : pathOk xs = true) : xs.length ≤ 3 ∧ ∀ x ∈ xs, wordV (bts x) = true := by
  unfold pathOk at h
  rw [Bool.and_eq_true, List.all_eq_true] at h
  exact ⟨of_decide_eq_true h.1, h.2⟩
theorem slB_fits {xs : List ByteArray} (h : pathOk xs = true) (hne : xs ≠ []) : head1 (slB xs) 47 = true ∧ partsI (cut1 (slB xs) 47) = xs ∧ partsS (slB xs) = xs := by
  obtain ⟨hl, hw⟩ := pathOk_parts h
  obtain ⟨x, r, rfl⟩ := List.exists_cons_of_ne_nil hne
  have hd := slB_data (x :: r)
  rw [List.map_cons, List.flatten_cons] at hd
  have hns : ∀ y ∈ (x :: r).map (·.data.toList), ∀ c ∈ y, c ≠ 47 := fun y hy => by
    obtain ⟨z, hz, rfl⟩ := List.mem_map.1 hy
    exact word_no_slash (hw z hz)
  have hh : head1 (slB (x :: r)) 47 = true := by
    unfold head1 bts
    rw [hd]
    simp
  refine ⟨hh, ?_, ?_⟩
  · have hc : (cut1 (slB (x :: r)) 47).data.toList = x.data.toList ++ Lib.joinTail [47] (r.map (·.data.toList)) := by
      rw [cut1_yes hh]
      have e := bts_extract (slB (x :: r)) 1 (slB (x :: r)).size
      unfold bts at e
      rw [e, hd]
      have hs : (slB (x :: r)).size = ((47 : UInt8) :: x.data.toList ++ (r.map fun x => (47 : UInt8) :: x.data.toList).flatten).length := by
        rw [← hd]
        exact (Array.length_toList ..).symm
      rw [List.take_of_length_le (by rw [hs, List.length_drop]; exact Nat.le_refl _)]
      simp [Lib.joinTail, Function.comp_def]
    have hsz : r.length ≤ (cut1 (slB (x :: r)) 47).size := by
      have e : (cut1 (slB (x :: r)) 47).size = (cut1 (slB (x :: r)) 47).data.toList.length := (Array.length_toList ..).symm
      rw [e, hc, List.length_append]
      have h1 : ∀ ws : List (List UInt8), ws.length ≤ (Lib.joinTail [47] ws).length := by
        intro ws
        induction ws with
        | nil => exact Nat.zero_le _
        | cons y ys ih =>
          unfold Lib.joinTail at ih ⊢
          rw [List.map_cons, List.flatten_cons, List.length_append, List.length_append]
          simp only [List.length_cons, List.length_nil]
          omega
      have := h1 (r.map (·.data.toList))
      rw [List.length_map] at this
      omega
    apply map_data_inj
    unfold partsI
    rw [Lib.splitB_data, hc]
    refine splitK_join _ _ _ ?_ hns
    rw [List.length_map]
    rw [List.length_cons] at hl
    omega
  · unfold partsS
    rw [slB_data]
    have := stepP_words ((x :: r).map (·.data.toList)) [] hns
    rw [List.map_map] at this
    show List.map ofL (List.foldl stepP [] (List.map ((fun y => (47 : UInt8) :: y) ∘ fun y : ByteArray => y.data.toList) (x :: r)).flatten) = x :: r
    rw [this, List.nil_append, List.map_map]
    have e : (ofL ∘ fun y : ByteArray => y.data.toList) = id := by funext y; exact ofL_of y
    rw [e, List.map_id]
/-- What a path that is one is. -/
theorem joinP_path {xs : List ByteArray} {path : ByteArray} (h : joinP xs = path) (h1 : path ≠ slash) (h2 : path ≠ ⟨#[]⟩) : pathOk xs = true ∧ xs ≠ [] ∧ path = slB xs := by
  unfold joinP at h
  split at h
  · rename_i ho
    split at h
    · exact absurd h.symm h1
    · rename_i hn
      exact ⟨ho, hn, h.symm⟩
  · exact absurd h.symm h2
/-- The two ways come to one. -/
theorem partsP_spec {path : ByteArray} (h1 : path ≠ slash) : partsP path = if path ≠ ⟨#[]⟩ ∧ joinP (partsS path) = path then (partsS path, true) else ([], false) := by
  unfold partsP
  rw [if_neg h1]
  by_cases hA : path ≠ ⟨#[]⟩ ∧ joinP (partsS path) = path
  · obtain ⟨ho, hn, he⟩ := joinP_path hA.2 h1 hA.1
    obtain ⟨f1, f2, f3⟩ := slB_fits ho hn
    rw [← he] at f1 f2
    rw [if_pos hA, if_pos ⟨f1, by rw [f2]; exact hA.2⟩, f2]
  · rw [if_neg hA]
    refine if_neg fun hB => hA ?_
    have h2 : path ≠ ⟨#[]⟩ := fun e => by
      have := head1_size hB.1
      rw [e] at this
      exact absurd this (by decide)
    obtain ⟨ho, hn, he⟩ := joinP_path hB.2 h1 h2
    obtain ⟨_, _, f3⟩ := slB_fits ho hn
    rw [← he] at f3
    exact ⟨h2, by rw [f3]; exact hB.2⟩
end Go.Proofs.YtjombaiplnebmaaGreatDoor
/- Plain words on hexadecimal numbers. -/
open Go.RowKit
namespace Go.Proofs.YtjombaiplnebmaaGreatDoor
def hexC (d : Nat) : UInt8 := if d < 10 then UInt8.ofNat (48 + d) else UInt8.ofNat (87 + d)
def hexL (n : Nat) : List UInt8 := if n < 16 then [hexC n] else hexL (n / 16) ++ [hexC (n % 16)]
termination_by n
decreasing_by omega
def hexT (n : Int) : ByteArray := if 0 ≤ n ∧ n ≤ 16777212 then ofL (hexL n.toNat) else ⟨#[]⟩
def lowB (c : Int) : Bool := decide (97 ≤ c ∧ c ≤ 102)
def isHex (c : UInt8) : Bool := digitB c.toNat || lowB c.toNat
def valC (c : UInt8) : Nat := if digitB c.toNat = true then c.toNat - 48 else c.toNat - 87
def valL (l : List UInt8) : Nat := l.foldl (fun n c => n * 16 + valC c) 0
theorem hexC_ok : ∀ d, d < 16 → isHex (hexC d) = true ∧ valC (hexC d) = d := by decide
theorem valL_snoc (l : List UInt8) (c : UInt8) : valL (l ++ [c]) = valL l * 16 + valC c := by simp [valL]
theorem hexL_low {n : Nat} (h : n < 16) : hexL n = [hexC n] := by rw [hexL, if_pos h]
theorem hexL_high {n : Nat} (h : ¬ n < 16) : hexL n = hexL (n / 16) ++ [hexC (n % 16)] := by rw [hexL, if_neg h]
theorem hexL_val (n : Nat) : valL (hexL n) = n := by
  induction n using Nat.strongRecOn with
  | ind n ih =>
    by_cases h : n < 16
    · rw [hexL_low h]
      simp [valL, (hexC_ok n h).2]
    · rw [hexL_high h, valL_snoc, ih (n / 16) (by omega), (hexC_ok (n % 16) (by omega)).2]
      omega
theorem hexL_hex (n : Nat) : (hexL n).all isHex = true := by
  induction n using Nat.strongRecOn with
  | ind n ih =>
    by_cases h : n < 16
    · rw [hexL_low h]
      simp [(hexC_ok n h).1]
    · rw [hexL_high h, List.all_append, ih (n / 16) (by omega)]
      simp [(hexC_ok (n % 16) (by omega)).1]
theorem hexL_ne (n : Nat) : hexL n ≠ [] := by
  by_cases h : n < 16
  · rw [hexL_low h]; simp
  · rw [hexL_high h]; simp
theorem hexL_len : ∀ (k n : Nat), n < 16 ^ (k + 1) → (hexL n).length ≤ k + 1
  | 0, n, h => by rw [hexL_low (by simpa using h)]; simp
  | k + 1, n, h => by
    by_cases hn : n < 16
    · rw [hexL_low hn]; simp
    · rw [hexL_high hn, List.length_append]
      have := hexL_len k (n / 16) (by rw [Nat.pow_succ] at h; omega)
      simp only [List.length_cons, List.length_nil]
      omega
theorem hexL_zero : ∀ (n : Nat) (l : List UInt8), hexL n = 48 :: l → l = [] := by
  intro n
  induction n using Nat.strongRecOn with
  | ind n ih =>
    intro l e
    by_cases h : n < 16
    · rw [hexL_low h] at e
      injection e with _ e
      exact e.symm
    · rw [hexL_high h] at e
      exfalso
      cases hq : hexL (n / 16) with
      | nil => exact hexL_ne _ hq
      | cons c t =>
        rw [hq, List.cons_append] at e
        injection e with e1 _
        subst e1
        have ht := ih (n / 16) (by omega) t hq
        subst ht
        have hv := hexL_val (n / 16)
        rw [hq] at hv
        have : valL [48] = 0 := by decide
        omega
def readH (s : ByteArray) : Int := if 1 ≤ s.size ∧ s.size ≤ 6 ∧ s.data.toList.all isHex = true ∧ hexT (valL s.data.toList) = s then (valL s.data.toList : Int) else -1
theorem hexT_in {n : Int} (h0 : 0 ≤ n) (h1 : n ≤ 16777212) : hexT n = ofL (hexL n.toNat) := if_pos ⟨h0, h1⟩
theorem hexT_out {n : Int} (h : ¬ (0 ≤ n ∧ n ≤ 16777212)) : hexT n = ⟨#[]⟩ := if_neg h
theorem hexT_size (n : Int) : (hexT n).size ≤ 6 := by
  by_cases h : 0 ≤ n ∧ n ≤ 16777212
  · rw [hexT_in h.1 h.2]
    show (hexL n.toNat).length ≤ 6
    exact hexL_len 5 _ (by omega)
  · rw [hexT_out h]
    decide
theorem hexT_some {n : Int} (h0 : 0 ≤ n) (h1 : n ≤ 16777212) : 1 ≤ (hexT n).size := by
  rw [hexT_in h0 h1]
  show 1 ≤ (hexL n.toNat).length
  have := hexL_ne n.toNat
  cases hq : hexL n.toNat with
  | nil => exact absurd hq this
  | cons c t => simp
theorem readH_hexT {n : Int} (h0 : 0 ≤ n) (h1 : n ≤ 16777212) : readH (hexT n) = n := by
  have e : (hexT n).data.toList = hexL n.toNat := by rw [hexT_in h0 h1]; rfl
  have ev : ((valL (hexT n).data.toList : Nat) : Int) = n := by rw [e, hexL_val]; omega
  unfold readH
  rw [if_pos ⟨hexT_some h0 h1, hexT_size n, by rw [e]; exact hexL_hex _, by rw [ev]⟩, ev]
theorem hexT_readH {s : ByteArray} (h : 0 ≤ readH s) : hexT (readH s) = s := by
  unfold readH at h ⊢
  split
  · rename_i g
    exact g.2.2.2
  · rename_i g
    rw [if_neg g] at h
    omega
theorem readH_ge (s : ByteArray) : -1 ≤ readH s := by
  unfold readH
  split <;> omega
theorem readH_le (s : ByteArray) : readH s ≤ 16777212 := by
  by_cases h : 0 ≤ readH s
  · have e := hexT_readH h
    refine Decidable.byContradiction fun hn => ?_
    rw [hexT_out (by omega)] at e
    unfold readH at h
    split at h
    · rename_i g
      have : s.size = 0 := by rw [← e]; rfl
      omega
    · omega
  · omega
theorem readH_size {s : ByteArray} (h : 0 ≤ readH s) : 1 ≤ s.size := by
  unfold readH at h
  split at h
  · rename_i g
    exact g.1
  · omega
theorem readH_zero {s : ByteArray} (h : 0 ≤ readH s) : readH ((⟨#[48]⟩ : ByteArray) ++ s) = -1 := by
  have h1 := readH_size h
  refine if_neg fun g => ?_
  have e := g.2.2.2
  have hs : 1 ≤ ((⟨#[48]⟩ : ByteArray) ++ s).size := g.1
  generalize valL ((⟨#[48]⟩ : ByteArray) ++ s).data.toList = v at e
  by_cases hv : (0 : Int) ≤ (v : Int) ∧ (v : Int) ≤ 16777212
  · rw [hexT_in hv.1 hv.2] at e
    have e2 := congrArg (fun b : ByteArray => b.data.toList) e
    have e3 : hexL (v : Int).toNat = 48 :: s.data.toList := by
      have : ((⟨#[48]⟩ : ByteArray) ++ s).data.toList = 48 :: s.data.toList := by simp
      rw [← this]
      exact e2
    have := hexL_zero _ _ e3
    have : s.data.toList.length = 0 := by rw [this]; rfl
    rw [Array.length_toList] at this
    have : s.size = 0 := this
    omega
  · rw [hexT_out hv] at e
    rw [← e] at hs
    exact absurd hs (by decide)
end Go.Proofs.YtjombaiplnebmaaGreatDoor
/- Plain words on lists whose elements are good and ascend. -/
open Go.RowKit
namespace Go.Proofs.YtjombaiplnebmaaGreatDoor
/-- The k-th element is good, and above the one ahead of it. -/
def goodAt {α : Type} (ok : α → Bool) (lt : α → α → Bool) (xs : List α) : Nat → Bool
  | 0 => match xs[0]? with
    | some x => ok x
    | none => true
  | k + 1 => match xs[k + 1]?, xs[k]? with
    | some x, some y => ok x && lt y x
    | _, _ => true
def goodAll {α : Type} (ok : α → Bool) (lt : α → α → Bool) (m : Nat) (xs : List α) : Bool := decide (xs.length ≤ m) && (List.range xs.length).all (goodAt ok lt xs)
section
variable {α : Type} {ok : α → Bool} {lt : α → α → Bool} {xs : List α} {m k : Nat} {x y : α}
theorem goodAt_bad (h : xs[k]? = some x) (ho : ok x = false) : goodAt ok lt xs k = false := by
  cases k with
  | zero => rw [goodAt, h]; exact ho
  | succ k =>
    obtain ⟨hk, _⟩ := List.getElem?_eq_some_iff.1 h
    rw [goodAt, h, List.getElem?_eq_getElem (show k < xs.length by omega)]
    dsimp only
    rw [ho, Bool.false_and]
theorem goodAt_zero (h : xs[0]? = some x) (ho : ok x = true) : goodAt ok lt xs 0 = true := by rw [goodAt, h]; exact ho
theorem goodAt_succ (h : xs[k + 1]? = some x) (h' : xs[k]? = some y) (ho : ok x = true) : goodAt ok lt xs (k + 1) = lt y x := by
  rw [goodAt, h, h']
  dsimp only
  rw [ho, Bool.true_and]
theorem goodAll_long (h : m < xs.length) : goodAll ok lt m xs = false := by
  unfold goodAll
  rw [decide_eq_false (by omega), Bool.false_and]
theorem goodAll_bad (hk : k < xs.length) (h : goodAt ok lt xs k = false) : goodAll ok lt m xs = false := by
  unfold goodAll
  rw [all_bad (k := k) (x := k) (by rw [List.getElem?_range hk]) h, Bool.and_false]
theorem goodAll_ok (h : ∀ j, j < xs.length → goodAt ok lt xs j = true) : goodAll ok lt m xs = decide (xs.length ≤ m) := by
  unfold goodAll
  rw [List.all_eq_true.2 (fun j hj => h j (List.mem_range.1 hj)), Bool.and_true]
theorem goodAll_len (h : goodAll ok lt m xs = true) : xs.length ≤ m := by
  unfold goodAll at h
  rw [Bool.and_eq_true] at h
  exact of_decide_eq_true h.1
theorem goodAll_at (h : goodAll ok lt m xs = true) (hk : k < xs.length) : goodAt ok lt xs k = true := by
  unfold goodAll at h
  rw [Bool.and_eq_true, List.all_eq_true] at h
  exact h.2 k (List.mem_range.2 hk)
theorem goodAt_ok (h : goodAt ok lt xs k = true) (hx : xs[k]? = some x) : ok x = true := by
  cases ho : ok x
  · rw [goodAt_bad hx ho] at h; cases h
  · rfl
end
def pieceOk (x : Int × ByteArray) : Bool := textV (bts x.2) && (printP x.2 == x.1)
def pieceLt (y x : Int × ByteArray) : Bool := decide (y.1 < x.1)
def storeV (xs : List (Int × ByteArray)) : Bool := goodAll pieceOk pieceLt 40 xs
def ltB (a b : ByteArray) : Bool := Go.Op.bytesLess a.toList b.toList
def entryOk (x : ByteArray × Int) : Bool := wordV (bts x.1) && printB x.2
def entryLt (y x : ByteArray × Int) : Bool := ltB y.1 x.1
def entriesV (xs : List (ByteArray × Int)) : Bool := goodAll entryOk entryLt 3 xs
theorem bytesLess_total : ∀ a b : List UInt8, (Go.Op.bytesLess a b || a == b) = !Go.Op.bytesLess b a
  | [], [] => rfl
  | [], _ :: _ => rfl
  | _ :: _, [] => rfl
  | x :: a, y :: b => by
    have ih := bytesLess_total a b
    rw [Go.Op.bytesLess, Go.Op.bytesLess]
    rcases Nat.lt_trichotomy x.toNat y.toNat with h | h | h
    · have h1 : x < y := h
      have h2 : ¬ y < x := fun h3 => Nat.lt_asymm h h3
      have h3 : ¬ y = x := fun e => by rw [e] at h; exact Nat.lt_irrefl _ h
      simp [h1, h2, h3]
    · have h1 : x = y := UInt8.toNat_inj.1 h
      subst h1
      have h2 : ¬ x < x := Nat.lt_irrefl _
      simp only [h2, decide_false, Bool.false_or, beq_self_eq_true, Bool.true_and, ← ih]
      congr 1
      simp
    · have h1 : y < x := h
      have h2 : ¬ x < y := fun h3 => Nat.lt_asymm h h3
      have h3 : ¬ x = y := fun e => by rw [e] at h; exact Nat.lt_irrefl _ h
      simp [h1, h2, h3]
end Go.Proofs.YtjombaiplnebmaaGreatDoor
/- Plain words on texts of folders. -/
open Go.RowKit
namespace Go.Proofs.YtjombaiplnebmaaGreatDoor
def lineL (x : ByteArray × Int) : List UInt8 := x.1.data.toList ++ 61 :: ((hexT x.2).data.toList ++ [59])
def foldL (xs : List (ByteArray × Int)) : List UInt8 := (xs.map lineL).flatten
def folderT (xs : List (ByteArray × Int)) : ByteArray := if entriesV xs = true then ofL (100 :: foldL xs) else ⟨#[]⟩
theorem foldL_cons (x : ByteArray × Int) (xs : List (ByteArray × Int)) : foldL (x :: xs) = lineL x ++ foldL xs := by simp [foldL]
theorem foldL_snoc (x : ByteArray × Int) (xs : List (ByteArray × Int)) : foldL (xs ++ [x]) = foldL xs ++ lineL x := by simp [foldL]
theorem cut_same (c : UInt8) : ∀ (a b r r' : List UInt8), (∀ x ∈ a, x ≠ c) → (∀ x ∈ b, x ≠ c) → a ++ c :: r = b ++ c :: r' → a = b ∧ r = r'
  | [], [], r, r', _, _, h => by injection h with _ h; exact ⟨rfl, h⟩
  | [], y :: b, r, r', _, hb, h => by injection h with h _; exact absurd h.symm (hb y (List.mem_cons_self ..))
  | x :: a, [], r, r', ha, _, h => by injection h with h _; exact absurd h (ha x (List.mem_cons_self ..))
  | x :: a, y :: b, r, r', ha, hb, h => by
    injection h with h1 h2
    obtain ⟨h3, h4⟩ := cut_same c a b r r' (fun z hz => ha z (List.mem_cons_of_mem _ hz)) (fun z hz => hb z (List.mem_cons_of_mem _ hz)) h2
    exact ⟨by rw [h1, h3], h4⟩
structure LineOk (x : ByteArray × Int) : Prop where
  word : wordV (bts x.1) = true
  lo : 0 ≤ x.2
  hi : x.2 ≤ 16777212
theorem lineOk_of {x : ByteArray × Int} (h : entryOk x = true) : LineOk x := by
  unfold entryOk printB at h
  rw [Bool.and_eq_true] at h
  have := of_decide_eq_true h.2
  exact ⟨h.1, this.1, this.2⟩
theorem word_bytes {x : ByteArray} (h : wordV (bts x) = true) : ∀ c ∈ x.data.toList, wordB c = true := by
  unfold wordV at h
  rw [Bool.and_eq_true, Bool.and_eq_true] at h
  exact List.all_eq_true.1 h.2.2
theorem hex_bytes {n : Int} (h0 : 0 ≤ n) (h1 : n ≤ 16777212) : ∀ c ∈ (hexT n).data.toList, isHex c = true := by
  rw [hexT_in h0 h1]
  exact List.all_eq_true.1 (hexL_hex n.toNat)
theorem LineOk.noEq {x : ByteArray × Int} (h : LineOk x) : ∀ c ∈ x.1.data.toList, c ≠ 61 := fun c hc e => by
  have := word_bytes h.word c hc
  rw [e] at this
  revert this
  decide
theorem LineOk.noSemi {x : ByteArray × Int} (h : LineOk x) : ∀ c ∈ x.1.data.toList ++ 61 :: (hexT x.2).data.toList, c ≠ 59 := fun c hc e => by
  rcases List.mem_append.1 hc with hc | hc
  · have := word_bytes h.word c hc
    rw [e] at this
    revert this
    decide
  · rcases List.mem_cons.1 hc with hc | hc
    · rw [e] at hc
      revert hc
      decide
    · have := hex_bytes h.lo h.hi c hc
      rw [e] at this
      revert this
      decide
theorem line_app (x : ByteArray × Int) (r : List UInt8) : lineL x ++ r = (x.1.data.toList ++ 61 :: (hexT x.2).data.toList) ++ 59 :: r := by simp [lineL]
theorem hexT_inj {m n : Int} (m0 : 0 ≤ m) (m1 : m ≤ 16777212) (n0 : 0 ≤ n) (n1 : n ≤ 16777212) (h : hexT m = hexT n) : m = n := by
  rw [← readH_hexT m0 m1, h, readH_hexT n0 n1]
theorem line_same {x y : ByteArray × Int} {r r' : List UInt8} (hx : LineOk x) (hy : LineOk y) (h : lineL x ++ r = lineL y ++ r') : x = y ∧ r = r' := by
  rw [line_app, line_app] at h
  obtain ⟨h1, h2⟩ := cut_same 59 _ _ _ _ hx.noSemi hy.noSemi h
  obtain ⟨h3, h4⟩ := cut_same 61 _ _ _ _ hx.noEq hy.noEq h1
  refine ⟨?_, h2⟩
  have e1 : x.1 = y.1 := ByteArray.ext (Array.toList_inj.1 h3)
  have e2 : x.2 = y.2 := hexT_inj hx.lo hx.hi hy.lo hy.hi (ByteArray.ext (Array.toList_inj.1 h4))
  exact Prod.ext e1 e2
theorem line_ne (x : ByteArray × Int) (r : List UInt8) : lineL x ++ r ≠ [] := by simp [lineL]
theorem foldL_inj : ∀ (xs ys : List (ByteArray × Int)), (∀ x ∈ xs, LineOk x) → (∀ y ∈ ys, LineOk y) → foldL xs = foldL ys → xs = ys
  | [], [], _, _, _ => rfl
  | [], y :: ys, _, _, h => by rw [foldL_cons] at h; exact absurd h.symm (line_ne _ _)
  | x :: xs, [], _, _, h => by rw [foldL_cons] at h; exact absurd h (line_ne _ _)
  | x :: xs, y :: ys, hx, hy, h => by
    rw [foldL_cons, foldL_cons] at h
    obtain ⟨h1, h2⟩ := line_same (hx x (List.mem_cons_self ..)) (hy y (List.mem_cons_self ..)) h
    rw [h1, foldL_inj xs ys (fun z hz => hx z (List.mem_cons_of_mem _ hz)) (fun z hz => hy z (List.mem_cons_of_mem _ hz)) h2]
theorem foldL_semi : ∀ (xs ys : List (ByteArray × Int)), (∀ x ∈ xs, LineOk x) → (∀ y ∈ ys, LineOk y) → foldL xs ++ [59] ≠ foldL ys
  | [], [], _, _, h => by simp [foldL] at h
  | [], y :: ys, _, hy, h => by
    rw [foldL_cons, lineL] at h
    have hw := (hy y (List.mem_cons_self ..)).word
    have hb := word_bytes hw
    have hs : 1 ≤ y.1.data.toList.length := by
      unfold wordV at hw
      rw [Bool.and_eq_true] at hw
      exact (of_decide_eq_true hw.1).1
    cases hq : y.1.data.toList with
    | nil => rw [hq] at hs; simp at hs
    | cons c t =>
      rw [hq] at h hb
      have e : (59 : UInt8) = c := by
        have := congrArg List.head? h
        simpa [foldL] using this
      have := hb c (List.mem_cons_self ..)
      rw [← e] at this
      revert this
      decide
  | x :: xs, [], _, _, h => by rw [foldL_cons, List.append_assoc] at h; exact absurd h (line_ne _ _)
  | x :: xs, y :: ys, hx, hy, h => by
    rw [foldL_cons, foldL_cons, List.append_assoc] at h
    obtain ⟨_, h2⟩ := line_same (hx x (List.mem_cons_self ..)) (hy y (List.mem_cons_self ..)) h
    exact foldL_semi xs ys (fun z hz => hx z (List.mem_cons_of_mem _ hz)) (fun z hz => hy z (List.mem_cons_of_mem _ hz)) h2
theorem entriesV_len {xs : List (ByteArray × Int)} (h : entriesV xs = true) : xs.length ≤ 3 := goodAll_len h
theorem entriesV_ok {xs : List (ByteArray × Int)} (h : entriesV xs = true) : ∀ x ∈ xs, LineOk x := fun x hx => by
  obtain ⟨k, hk, rfl⟩ := List.getElem_of_mem hx
  exact lineOk_of (goodAt_ok (goodAll_at h hk) (List.getElem?_eq_getElem hk))
theorem folderT_in {xs : List (ByteArray × Int)} (h : entriesV xs = true) : folderT xs = ofL (100 :: foldL xs) := if_pos h
theorem folderT_out {xs : List (ByteArray × Int)} (h : entriesV xs = false) : folderT xs = ⟨#[]⟩ := if_neg (by rw [h]; decide)
theorem folderT_inj {xs ys : List (ByteArray × Int)} (hx : entriesV xs = true) (hy : entriesV ys = true) (h : folderT xs = folderT ys) : xs = ys := by
  rw [folderT_in hx, folderT_in hy] at h
  have h := congrArg (fun b : ByteArray => b.data.toList) h
  have h2 : (100 : UInt8) :: foldL xs = 100 :: foldL ys := h
  injection h2 with _ h2
  exact foldL_inj xs ys (entriesV_ok hx) (entriesV_ok hy) h2
theorem folderT_semi {xs ys : List (ByteArray × Int)} (hx : entriesV xs = true) (hy : entriesV ys = true) : folderT xs ++ (⟨#[59]⟩ : ByteArray) ≠ folderT ys := fun h => by
  rw [folderT_in hx, folderT_in hy] at h
  have h := congrArg (fun b : ByteArray => b.data.toList) h
  have h2 : (100 : UInt8) :: (foldL xs ++ [59]) = 100 :: foldL ys := by
    have e : (ofL (100 :: foldL xs) ++ (⟨#[59]⟩ : ByteArray)).data.toList = 100 :: (foldL xs ++ [59]) := by simp [ofL]
    rw [← e]
    exact h
  injection h2 with _ h2
  exact foldL_semi xs ys (entriesV_ok hx) (entriesV_ok hy) h2
theorem line_text {x : ByteArray × Int} (h : LineOk x) : (lineL x).all textB = true ∧ (lineL x).length ≤ 16 := by
  have hw := h.word
  have hs : x.1.data.toList.length ≤ 8 := by
    unfold wordV at hw
    rw [Bool.and_eq_true] at hw
    exact (of_decide_eq_true hw.1).2
  have hh : (hexT x.2).data.toList.length ≤ 6 := hexT_size x.2
  have tx : ∀ c : UInt8, wordB c = true ∨ isHex c = true → textB c = true := by
    intro c hc
    unfold textB
    refine decide_eq_true ?_
    unfold wordB isHex smallB digitB lowB at hc
    simp only [Bool.or_eq_true, decide_eq_true_eq] at hc
    omega
  constructor
  · unfold lineL
    rw [List.all_eq_true]
    intro c hc
    rcases List.mem_append.1 hc with hc | hc
    · exact tx c (.inl (word_bytes hw c hc))
    · rcases List.mem_cons.1 hc with hc | hc
      · rw [hc]; decide
      · rcases List.mem_append.1 hc with hc | hc
        · exact tx c (.inr (hex_bytes h.lo h.hi c hc))
        · rw [List.mem_singleton.1 hc]; decide
  · unfold lineL
    rw [List.length_append, List.length_cons, List.length_append, List.length_singleton]
    omega
theorem foldL_text : ∀ (xs : List (ByteArray × Int)), (∀ x ∈ xs, LineOk x) → (foldL xs).all textB = true ∧ (foldL xs).length ≤ 16 * xs.length
  | [], _ => ⟨rfl, Nat.le_refl _⟩
  | x :: xs, h => by
    obtain ⟨h1, h2⟩ := line_text (h x (List.mem_cons_self ..))
    obtain ⟨h3, h4⟩ := foldL_text xs (fun z hz => h z (List.mem_cons_of_mem _ hz))
    rw [foldL_cons, List.all_append, h1, h3, List.length_append, List.length_cons]
    exact ⟨rfl, by omega⟩
theorem folderT_text {xs : List (ByteArray × Int)} (h : entriesV xs = true) : textV (bts (folderT xs)) = true := by
  obtain ⟨h1, h2⟩ := foldL_text xs (entriesV_ok h)
  have h3 := entriesV_len h
  rw [folderT_in h]
  unfold textV bts
  rw [ofL_data, List.all_cons, h1]
  have : (100 :: foldL xs : List UInt8).length ≤ 60 := by rw [List.length_cons]; omega
  rw [decide_eq_true this]
  decide
theorem folderT_size (xs : List (ByteArray × Int)) : (folderT xs).size ≤ 60 := by
  by_cases h : entriesV xs = true
  · have := folderT_text h
    unfold textV at this
    rw [Bool.and_eq_true] at this
    exact of_decide_eq_true this.2
  · rw [folderT_out (by simpa using h)]
    decide
/-! What cutting finds. -/
theorem index_at (c : UInt8) : ∀ (a r : List UInt8), (∀ x ∈ a, x ≠ c) → Lib.indexByte (a ++ c :: r) c = (a.length : Int)
  | [], r, _ => by simp [Lib.indexByte]
  | x :: a, r, h => by
    have hx : x ≠ c := h x (List.mem_cons_self ..)
    have ih := index_at c a r (fun z hz => h z (List.mem_cons_of_mem _ hz))
    simp [Lib.indexByte, hx, ih]
theorem cut_yes (c : UInt8) (a r : List UInt8) (h : ∀ x ∈ a, x ≠ c) : Lib.cut (a ++ c :: r) [c] = (a, r, true) := by
  unfold Lib.cut
  rw [Lib.index_one, index_at c a r h, if_pos (by omega)]
  simp
end Go.Proofs.YtjombaiplnebmaaGreatDoor
/- Plain words on reading texts of folders. -/
open Go.RowKit
namespace Go.Proofs.YtjombaiplnebmaaGreatDoor
structure ReadF (s : ByteArray) (ys : List (ByteArray × Int)) (ok : Bool) : Prop where
  yes : ok = true → entriesV ys = true ∧ folderT ys = s
  no : ok = false → ys = [] ∧ ∀ es, entriesV es = true → folderT es = s → False
theorem ReadF.same {s : ByteArray} {ys ys' : List (ByteArray × Int)} {ok ok' : Bool} (h : ReadF s ys ok) (h' : ReadF s ys' ok') : ys = ys' ∧ ok = ok' := by
  cases ok
  · obtain ⟨h1, h2⟩ := h.no rfl
    cases ok'
    · obtain ⟨h3, _⟩ := h'.no rfl
      exact ⟨h1.trans h3.symm, rfl⟩
    · obtain ⟨h3, h4⟩ := h'.yes rfl
      exact (h2 _ h3 h4).elim
  · obtain ⟨h1, h2⟩ := h.yes rfl
    cases ok'
    · obtain ⟨_, h4⟩ := h'.no rfl
      exact (h4 _ h1 h2).elim
    · obtain ⟨h3, h4⟩ := h'.yes rfl
      exact ⟨folderT_inj h1 h3 (h2.trans h4.symm), rfl⟩
theorem readF_bad {s : ByteArray} (h : ∀ es, entriesV es = true → folderT es = s → False) : ReadF s [] false := ⟨fun e => (by cases e), fun _ => ⟨rfl, h⟩⟩
theorem ReadF.len {s : ByteArray} {ys : List (ByteArray × Int)} {ok : Bool} (h : ReadF s ys ok) : ys.length ≤ 3 := by
  cases ok
  · rw [(h.no rfl).1]
    exact Nat.zero_le _
  · exact entriesV_len (h.yes rfl).1
/-- Whatever the text is of, what is read is a beginning of it, and the rest is what is to be read. -/
def FoldAt (s : ByteArray) (ys : List (ByteArray × Int)) (rest : List UInt8) : Prop := ∀ es, entriesV es = true → folderT es = s → ∃ zs, es = ys ++ zs ∧ rest = foldL zs
theorem folderT_list {es : List (ByteArray × Int)} {s : ByteArray} (hv : entriesV es = true) (he : folderT es = s) : s.data.toList = 100 :: foldL es := by
  rw [← he, folderT_in hv]
  rfl
theorem foldAt_start (s : ByteArray) : FoldAt s [] (s.data.toList.drop 1) := fun es hv he => by
  refine ⟨es, rfl, ?_⟩
  rw [folderT_list hv he]
  rfl
theorem foldL_nil {zs : List (ByteArray × Int)} (h : foldL zs = []) : zs = [] := by
  cases zs with
  | nil => rfl
  | cons z zs =>
    rw [foldL_cons] at h
    exact absurd h (line_ne _ _)
section
variable {s : ByteArray} {ys : List (ByteArray × Int)} {A C D B rest : List UInt8}
theorem foldAt_end (hs : s ≠ ⟨#[]⟩) (hf : folderT ys = s) : ReadF s ys true := by
  refine ⟨fun _ => ⟨?_, hf⟩, fun e => (by cases e)⟩
  cases hv : entriesV ys
  · rw [folderT_out hv] at hf
    exact absurd hf.symm hs
  · rfl
theorem foldAt_not (h : FoldAt s ys []) (hf : folderT ys ≠ s) : ReadF s [] false := readF_bad fun es hv he => by
  obtain ⟨zs, rfl, hz⟩ := h es hv he
  rw [foldL_nil hz.symm, List.append_nil] at he
  exact hf he
theorem foldAt_cons (h : FoldAt s ys rest) (hr : rest ≠ []) {es : List (ByteArray × Int)} (hv : entriesV es = true) (he : folderT es = s) : ∃ z zs, es = ys ++ z :: zs ∧ LineOk z ∧ rest = lineL z ++ foldL zs := by
  obtain ⟨zs, rfl, hz⟩ := h es hv he
  cases zs with
  | nil => exact absurd hz hr
  | cons z zs => exact ⟨z, zs, rfl, entriesV_ok hv z (List.mem_append.2 (.inr (List.mem_cons_self ..))), by rw [hz, foldL_cons]⟩
theorem hex_noSemi {z : ByteArray × Int} (h : LineOk z) : ∀ c ∈ (hexT z.2).data.toList, c ≠ 59 := fun c hc => h.noSemi c (List.mem_append.2 (.inr (List.mem_cons.2 (.inr hc))))
theorem line_eq (z : ByteArray × Int) (r : List UInt8) : lineL z ++ r = z.1.data.toList ++ 61 :: ((hexT z.2).data.toList ++ 59 :: r) := by simp [lineL]
theorem foldAt_step (h : FoldAt s ys (A ++ 61 :: (C ++ 59 :: D))) (hA : ∀ x ∈ A, x ≠ 61) (hC : ∀ x ∈ C, x ≠ 59) : FoldAt s (ys ++ [(ofL A, readH (ofL C))]) D := fun es hv he => by
  obtain ⟨z, zs, rfl, hz, hr⟩ := foldAt_cons h (by simp) hv he
  rw [line_eq] at hr
  obtain ⟨h1, h2⟩ := cut_same 61 _ _ _ _ hA hz.noEq hr
  obtain ⟨h3, h4⟩ := cut_same 59 _ _ _ _ hC (hex_noSemi hz) h2
  have e1 : ofL A = z.1 := by rw [h1]; rfl
  have e2 : readH (ofL C) = z.2 := by rw [h3]; exact readH_hexT hz.lo hz.hi
  refine ⟨zs, ?_, h4⟩
  rw [e1, e2, List.append_assoc]
  rfl
theorem foldAt_no61 (h : FoldAt s ys rest) (hr : rest ≠ []) (hn : ∀ x ∈ rest, x ≠ 61) : ReadF s [] false := readF_bad fun es hv he => by
  obtain ⟨z, zs, rfl, hz, e⟩ := foldAt_cons h hr hv he
  rw [line_eq] at e
  exact hn 61 (by rw [e]; simp) rfl
theorem foldAt_no59 (h : FoldAt s ys rest) (hr : rest ≠ []) (hn : ∀ x ∈ rest, x ≠ 59) : ReadF s [] false := readF_bad fun es hv he => by
  obtain ⟨z, zs, rfl, hz, e⟩ := foldAt_cons h hr hv he
  rw [line_eq] at e
  exact hn 59 (by rw [e]; simp) rfl
theorem foldAt_late (h : FoldAt s ys (A ++ 61 :: B)) (hA : ∀ x ∈ A, x ≠ 61) (hB : ∀ x ∈ B, x ≠ 59) : ReadF s [] false := readF_bad fun es hv he => by
  obtain ⟨z, zs, rfl, hz, e⟩ := foldAt_cons h (by simp) hv he
  rw [line_eq] at e
  obtain ⟨_, h2⟩ := cut_same 61 _ _ _ _ hA hz.noEq e
  exact hB 59 (by rw [h2]; simp) rfl
theorem foldAt_part (h : FoldAt s ys (A ++ 59 :: D)) (hA : ∀ x ∈ A, x ≠ 59) (hE : ∀ x ∈ A, x ≠ 61) : ReadF s [] false := readF_bad fun es hv he => by
  obtain ⟨z, zs, rfl, hz, e⟩ := foldAt_cons h (by simp) hv he
  rw [line_app] at e
  obtain ⟨h1, _⟩ := cut_same 59 _ _ _ _ hA hz.noSemi e
  exact hE 61 (by rw [h1]; simp) rfl
theorem foldAt_full (h : FoldAt s ys rest) (hr : rest ≠ []) (hl : ys.length = 3) : ReadF s [] false := readF_bad fun es hv he => by
  obtain ⟨z, zs, rfl, hz, e⟩ := foldAt_cons h hr hv he
  have := entriesV_len hv
  rw [List.length_append, List.length_cons] at this
  omega
end
theorem cut_no (c : UInt8) (l : List UInt8) (h : ∀ x ∈ l, x ≠ c) : Lib.cut l [c] = (l, [], false) := by
  unfold Lib.cut
  have e : Lib.indexByte l c = -1 := by
    have hg := Lib.indexByte_ge l c
    refine Decidable.byContradiction fun hn => ?_
    obtain ⟨o, ho⟩ := Int.eq_ofNat_of_zero_le (show 0 ≤ Lib.indexByte l c by omega)
    exact h c (List.mem_of_getElem? (Lib.indexByte_some ho).1) rfl
  rw [Lib.index_one, e, if_neg (by omega)]
theorem first_at (c : UInt8) : ∀ l : List UInt8, c ∈ l → ∃ a r, l = a ++ c :: r ∧ ∀ x ∈ a, x ≠ c
  | [], h => by cases h
  | x :: l, h => by
    by_cases hx : x = c
    · exact ⟨[], l, by rw [hx]; rfl, fun y hy => by cases hy⟩
    · obtain ⟨a, r, e, hn⟩ := first_at c l ((List.mem_cons.1 h).resolve_left fun e => hx e.symm)
      exact ⟨x :: a, r, by rw [e]; rfl, fun y hy => by
        rcases List.mem_cons.1 hy with rfl | hy
        · exact hx
        · exact hn y hy⟩
theorem cut_cases (c : UInt8) (l : List UInt8) : (∃ a r, l = a ++ c :: r ∧ (∀ x ∈ a, x ≠ c) ∧ Lib.cut l [c] = (a, r, true)) ∨ ((∀ x ∈ l, x ≠ c) ∧ Lib.cut l [c] = (l, [], false)) := by
  by_cases h : c ∈ l
  · obtain ⟨a, r, e, hn⟩ := first_at c l h
    exact .inl ⟨a, r, e, hn, by rw [e]; exact cut_yes c a r hn⟩
  · have hn : ∀ x ∈ l, x ≠ c := fun x hx e => h (e ▸ hx)
    exact .inr ⟨hn, cut_no c l hn⟩
/-! Places. -/
theorem drop_at {l : List UInt8} {a k : Nat} {c : UInt8} (h : l[k]? = some c) (hk : a ≤ k) : l.drop a = (l.drop a).take (k - a) ++ c :: l.drop (k + 1) := by
  obtain ⟨hl, hc⟩ := List.getElem?_eq_some_iff.1 h
  have e : (l.drop a).drop (k - a) = c :: l.drop (k + 1) := by
    rw [List.drop_drop, show a + (k - a) = k from by omega, List.drop_eq_getElem_cons hl, hc]
  rw [← e, List.take_append_drop]
theorem take_not {l : List UInt8} {a k : Nat} {c : UInt8} (h : ∀ j, a ≤ j → j < k → l[j]? ≠ some c) : ∀ x ∈ (l.drop a).take (k - a), x ≠ c := fun x hx e => by
  obtain ⟨j, hj⟩ := List.getElem?_of_mem hx
  rw [List.getElem?_take] at hj
  split at hj
  · rw [List.getElem?_drop] at hj
    exact h (a + j) (by omega) (by omega) (by rw [hj, e])
  · cases hj
theorem drop_not {l : List UInt8} {a : Nat} {c : UInt8} (h : ∀ j, a ≤ j → j < l.length → l[j]? ≠ some c) : ∀ x ∈ l.drop a, x ≠ c := fun x hx e => by
  obtain ⟨j, hj⟩ := List.getElem?_of_mem hx
  rw [List.getElem?_drop] at hj
  obtain ⟨hl, _⟩ := List.getElem?_eq_some_iff.1 hj
  exact h (a + j) (by omega) hl (by rw [hj, e])
theorem ex_ofL (s : ByteArray) (a b : Nat) : s.extract a b = ofL ((s.data.toList.drop a).take (b - a)) := by
  have e := bts_extract s a b
  exact ByteArray.ext (Array.toList_inj.1 e)
end Go.Proofs.YtjombaiplnebmaaGreatDoor
