/- Plain words on the parts of a path. -/
import Derived.Test.YthoiljgpggldcaaM5
import Derived.Lib.Split
import Derived.Lib.IndexBytes
open Go.RowKit
namespace Go.Proofs.Ythoiljgpggldcaa
theorem indexByte_at : ∀ (a t : List UInt8), (∀ c ∈ a, c ≠ 47) → Lib.indexByte (a ++ 47 :: t) 47 = (a.length : Int)
  | [], t, _ => by simp [Lib.indexByte]
  | x :: a, t, h => by
    have hx : x ≠ 47 := h x (List.mem_cons_self ..)
    have ih := indexByte_at a t (fun c hc => h c (List.mem_cons_of_mem _ hc))
    simp [Lib.indexByte, hx, ih]
theorem indexByte_no : ∀ (a : List UInt8), (∀ c ∈ a, c ≠ 47) → Lib.indexByte a 47 = -1
  | [], _ => by simp [Lib.indexByte]
  | x :: a, h => by
    have hx : x ≠ 47 := h x (List.mem_cons_self ..)
    have ih := indexByte_no a (fun c hc => h c (List.mem_cons_of_mem _ hc))
    simp [Lib.indexByte, hx, ih]
/-- Words joined, cut again. -/
theorem splitK_join : ∀ (k : Nat) (a : List UInt8) (r : List (List UInt8)), r.length ≤ k → (∀ x ∈ a :: r, ∀ c ∈ x, c ≠ 47) → Lib.splitK [47] 0 k (a ++ Lib.joinTail [47] r) = a :: r
  | 0, a, [], _, _ => by simp [Lib.splitK, Lib.joinTail]
  | 0, a, b :: r, h, _ => by simp at h
  | k + 1, a, [], _, hw => by
    have : Lib.index (a ++ Lib.joinTail [47] []) [47] = -1 := by
      rw [Lib.index_one]
      simp only [Lib.joinTail, List.map_nil, List.flatten_nil, List.append_nil]
      exact indexByte_no a (hw a (List.mem_cons_self ..))
    unfold Lib.splitK
    rw [this]
    simp [Lib.joinTail]
  | k + 1, a, b :: r, h, hw => by
    have e : a ++ Lib.joinTail [47] (b :: r) = a ++ 47 :: (b ++ Lib.joinTail [47] r) := by simp [Lib.joinTail]
    have hi : Lib.index (a ++ Lib.joinTail [47] (b :: r)) [47] = (a.length : Int) := by
      rw [Lib.index_one, e]
      exact indexByte_at a _ (hw a (List.mem_cons_self ..))
    unfold Lib.splitK
    rw [hi, if_neg (by simp), e]
    have h1 : (a ++ 47 :: (b ++ Lib.joinTail [47] r)).take ((a.length : Int).toNat + 0) = a := by simp
    have h2 : (a ++ 47 :: (b ++ Lib.joinTail [47] r)).drop ((a.length : Int).toNat + [(47 : UInt8)].length) = b ++ Lib.joinTail [47] r := by simp
    rw [h1, h2, splitK_join k b r (by simpa using h) (fun x hx => hw x (List.mem_cons_of_mem _ hx))]
/-- The specification's way: byte for byte. -/
def stepP (out : List (List UInt8)) (c : UInt8) : List (List UInt8) := if c = 47 then out ++ [[]] else match out.getLast? with
  | none => out
  | some l => out.dropLast ++ [l ++ [c]]
theorem stepP_word : ∀ (a : List UInt8) (out : List (List UInt8)) (l : List UInt8), (∀ c ∈ a, c ≠ 47) → a.foldl stepP (out ++ [l]) = out ++ [l ++ a]
  | [], out, l, _ => by simp
  | x :: a, out, l, h => by
    have hx : x ≠ 47 := h x (List.mem_cons_self ..)
    have : stepP (out ++ [l]) x = out ++ [l ++ [x]] := by simp [stepP, hx]
    rw [List.foldl_cons, this, stepP_word a out (l ++ [x]) (fun c hc => h c (List.mem_cons_of_mem _ hc))]
    simp
theorem stepP_words : ∀ (ws out : List (List UInt8)), (∀ x ∈ ws, ∀ c ∈ x, c ≠ 47) → (ws.map fun x => (47 : UInt8) :: x).flatten.foldl stepP out = out ++ ws
  | [], out, _ => by simp
  | x :: ws, out, h => by
    rw [List.map_cons, List.flatten_cons, List.foldl_append, List.foldl_cons]
    have : stepP out 47 = out ++ [[]] := by simp [stepP]
    rw [this, stepP_word x out [] (h x (List.mem_cons_self ..)), stepP_words ws _ (fun y hy => h y (List.mem_cons_of_mem _ hy))]
    simp
theorem word_no_slash {x : ByteArray} (h : wordV (bts x) = true) : ∀ c ∈ x.data.toList, c ≠ 47 := by
  intro c hc e
  unfold wordV at h
  rw [Bool.and_eq_true, Bool.and_eq_true] at h
  have := List.all_eq_true.1 h.2.2 c hc
  rw [e] at this
  revert this
  decide
def ofL (l : List UInt8) : ByteArray := ⟨l.toArray⟩
theorem ofL_data (l : List UInt8) : (ofL l).data.toList = l := rfl
theorem ofL_of (x : ByteArray) : ofL x.data.toList = x := by cases x; rfl
/-- Cut at the slashes, into four at most: the program's way. -/
def partsI (names : ByteArray) : List ByteArray := Lib.splitB ⟨#[47]⟩ 0 (min 4 (names.size + 1) - 1) names
/-- The specification's way. -/
def partsS (path : ByteArray) : List ByteArray := (path.data.toList.foldl stepP []).map ofL
def slash : ByteArray := ⟨#[47]⟩
def partsP (path : ByteArray) : List ByteArray × Bool :=
  if path = slash then ([], true) else
  if head1 path 47 = true ∧ joinP (partsI (cut1 path 47)) = path then (partsI (cut1 path 47), true) else ([], false)
theorem map_data_inj {xs ys : List ByteArray} (h : xs.map (·.data.toList) = ys.map (·.data.toList)) : xs = ys := by
  have : (xs.map (·.data.toList)).map ofL = (ys.map (·.data.toList)).map ofL := by rw [h]
  rw [List.map_map, List.map_map] at this
  have e : (ofL ∘ fun x : ByteArray => x.data.toList) = id := by funext x; exact ofL_of x
  rw [e, List.map_id, List.map_id] at this
  exact this
theorem pathOk_parts {xs : List ByteArray} (h : pathOk xs = true) : xs.length ≤ 3 ∧ ∀ x ∈ xs, wordV (bts x) = true := by
  unfold pathOk at h
  rw [Bool.and_eq_true, List.all_eq_true] at h
  exact ⟨of_decide_eq_true h.1, h.2⟩
theorem slB_fits {xs : List ByteArray} (h : pathOk xs = true) (hne : xs ≠ []) : head1 (slB xs) 47 = true ∧ partsI (cut1 (slB xs) 47) = xs ∧ partsS (slB xs) = xs := by
  obtain ⟨hl, hw⟩ := pathOk_parts h
  obtain ⟨x, r, rfl⟩ := List.exists_cons_of_ne_nil hne
  have hd := slB_data (x :: r)
  rw [List.map_cons, List.flatten_cons] at hd
  have hns : ∀ y ∈ (x :: r).map (·.data.toList), ∀ c ∈ y, c ≠ 47 := fun y hy => by
    obtain ⟨z, hz, rfl⟩ := List.mem_map.1 hy
    exact word_no_slash (hw z hz)
  have hh : head1 (slB (x :: r)) 47 = true := by
    unfold head1 bts
    rw [hd]
    simp
  refine ⟨hh, ?_, ?_⟩
  · have hc : (cut1 (slB (x :: r)) 47).data.toList = x.data.toList ++ Lib.joinTail [47] (r.map (·.data.toList)) := by
      rw [cut1_yes hh]
      have e := bts_extract (slB (x :: r)) 1 (slB (x :: r)).size
      unfold bts at e
      rw [e, hd]
      have hs : (slB (x :: r)).size = ((47 : UInt8) :: x.data.toList ++ (r.map fun x => (47 : UInt8) :: x.data.toList).flatten).length := by
        rw [← hd]
        exact (Array.length_toList ..).symm
      rw [List.take_of_length_le (by rw [hs, List.length_drop]; exact Nat.le_refl _)]
      simp [Lib.joinTail, Function.comp_def]
    have hsz : r.length ≤ (cut1 (slB (x :: r)) 47).size := by
      have e : (cut1 (slB (x :: r)) 47).size = (cut1 (slB (x :: r)) 47).data.toList.length := (Array.length_toList ..).symm
      rw [e, hc, List.length_append]
      have h1 : ∀ ws : List (List UInt8), ws.length ≤ (Lib.joinTail [47] ws).length := by
        intro ws
        induction ws with
        | nil => exact Nat.zero_le _
        | cons y ys ih =>
          unfold Lib.joinTail at ih ⊢
          rw [List.map_cons, List.flatten_cons, List.length_append, List.length_append]
          simp only [List.length_cons, List.length_nil]
          omega
      have := h1 (r.map (·.data.toList))
      rw [List.length_map] at this
      omega
    apply map_data_inj
    unfold partsI
    rw [Lib.splitB_data, hc]
    refine splitK_join _ _ _ ?_ hns
    rw [List.length_map]
    rw [List.length_cons] at hl
    omega
  · unfold partsS
    rw [slB_data]
    have := stepP_words ((x :: r).map (·.data.toList)) [] hns
    rw [List.map_map] at this
    show List.map ofL (List.foldl stepP [] (List.map ((fun y => (47 : UInt8) :: y) ∘ fun y : ByteArray => y.data.toList) (x :: r)).flatten) = x :: r
    rw [this, List.nil_append, List.map_map]
    have e : (ofL ∘ fun y : ByteArray => y.data.toList) = id := by funext y; exact ofL_of y
    rw [e, List.map_id]
/-- What a path that is one is. -/
theorem joinP_path {xs : List ByteArray} {path : ByteArray} (h : joinP xs = path) (h1 : path ≠ slash) (h2 : path ≠ ⟨#[]⟩) : pathOk xs = true ∧ xs ≠ [] ∧ path = slB xs := by
  unfold joinP at h
  split at h
  · rename_i ho
    split at h
    · exact absurd h.symm h1
    · rename_i hn
      exact ⟨ho, hn, h.symm⟩
  · exact absurd h.symm h2
/-- The two ways come to one. -/
theorem partsP_spec {path : ByteArray} (h1 : path ≠ slash) : partsP path = if path ≠ ⟨#[]⟩ ∧ joinP (partsS path) = path then (partsS path, true) else ([], false) := by
  unfold partsP
  rw [if_neg h1]
  by_cases hA : path ≠ ⟨#[]⟩ ∧ joinP (partsS path) = path
  · obtain ⟨ho, hn, he⟩ := joinP_path hA.2 h1 hA.1
    obtain ⟨f1, f2, f3⟩ := slB_fits ho hn
    rw [← he] at f1 f2
    rw [if_pos hA, if_pos ⟨f1, by rw [f2]; exact hA.2⟩, f2]
  · rw [if_neg hA]
    refine if_neg fun hB => hA ?_
    have h2 : path ≠ ⟨#[]⟩ := fun e => by
      have := head1_size hB.1
      rw [e] at this
      exact absurd this (by decide)
    obtain ⟨ho, hn, he⟩ := joinP_path hB.2 h1 h2
    obtain ⟨_, _, f3⟩ := slB_fits ho hn
    rw [← he] at f3
    exact ⟨h2, by rw [f3]; exact hB.2⟩
end Go.Proofs.Ythoiljgpggldcaa
