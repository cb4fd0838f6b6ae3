/- Plain words on texts of folders. -/
import Derived.Test.YthoiljgpggldcaaHexP
import Derived.Test.YthoiljgpggldcaaM1
import Derived.Lib.IndexMore
open Go.RowKit
namespace Go.Proofs.Ythoiljgpggldcaa
def lineL (x : ByteArray × Int) : List UInt8 := x.1.data.toList ++ 61 :: ((hexT x.2).data.toList ++ [59])
def foldL (xs : List (ByteArray × Int)) : List UInt8 := (xs.map lineL).flatten
def folderT (xs : List (ByteArray × Int)) : ByteArray := if entriesV xs = true then ofL (100 :: foldL xs) else ⟨#[]⟩
theorem foldL_cons (x : ByteArray × Int) (xs : List (ByteArray × Int)) : foldL (x :: xs) = lineL x ++ foldL xs := by simp [foldL]
theorem foldL_snoc (x : ByteArray × Int) (xs : List (ByteArray × Int)) : foldL (xs ++ [x]) = foldL xs ++ lineL x := by simp [foldL]
theorem cut_same (c : UInt8) : ∀ (a b r r' : List UInt8), (∀ x ∈ a, x ≠ c) → (∀ x ∈ b, x ≠ c) → a ++ c :: r = b ++ c :: r' → a = b ∧ r = r'
  | [], [], r, r', _, _, h => by injection h with _ h; exact ⟨rfl, h⟩
  | [], y :: b, r, r', _, hb, h => by injection h with h _; exact absurd h.symm (hb y (List.mem_cons_self ..))
  | x :: a, [], r, r', ha, _, h => by injection h with h _; exact absurd h (ha x (List.mem_cons_self ..))
  | x :: a, y :: b, r, r', ha, hb, h => by
    injection h with h1 h2
    obtain ⟨h3, h4⟩ := cut_same c a b r r' (fun z hz => ha z (List.mem_cons_of_mem _ hz)) (fun z hz => hb z (List.mem_cons_of_mem _ hz)) h2
    exact ⟨by rw [h1, h3], h4⟩
structure LineOk (x : ByteArray × Int) : Prop where
  word : wordV (bts x.1) = true
  lo : 0 ≤ x.2
  hi : x.2 ≤ 16777212
theorem lineOk_of {x : ByteArray × Int} (h : entryOk x = true) : LineOk x := by
  unfold entryOk printB at h
  rw [Bool.and_eq_true] at h
  have := of_decide_eq_true h.2
  exact ⟨h.1, this.1, this.2⟩
theorem word_bytes {x : ByteArray} (h : wordV (bts x) = true) : ∀ c ∈ x.data.toList, wordB c = true := by
  unfold wordV at h
  rw [Bool.and_eq_true, Bool.and_eq_true] at h
  exact List.all_eq_true.1 h.2.2
theorem hex_bytes {n : Int} (h0 : 0 ≤ n) (h1 : n ≤ 16777212) : ∀ c ∈ (hexT n).data.toList, isHex c = true := by
  rw [hexT_in h0 h1]
  exact List.all_eq_true.1 (hexL_hex n.toNat)
theorem LineOk.noEq {x : ByteArray × Int} (h : LineOk x) : ∀ c ∈ x.1.data.toList, c ≠ 61 := fun c hc e => by
  have := word_bytes h.word c hc
  rw [e] at this
  revert this
  decide
theorem LineOk.noSemi {x : ByteArray × Int} (h : LineOk x) : ∀ c ∈ x.1.data.toList ++ 61 :: (hexT x.2).data.toList, c ≠ 59 := fun c hc e => by
  rcases List.mem_append.1 hc with hc | hc
  · have := word_bytes h.word c hc
    rw [e] at this
    revert this
    decide
  · rcases List.mem_cons.1 hc with hc | hc
    · rw [e] at hc
      revert hc
      decide
    · have := hex_bytes h.lo h.hi c hc
      rw [e] at this
      revert this
      decide
theorem line_app (x : ByteArray × Int) (r : List UInt8) : lineL x ++ r = (x.1.data.toList ++ 61 :: (hexT x.2).data.toList) ++ 59 :: r := by simp [lineL]
theorem hexT_inj {m n : Int} (m0 : 0 ≤ m) (m1 : m ≤ 16777212) (n0 : 0 ≤ n) (n1 : n ≤ 16777212) (h : hexT m = hexT n) : m = n := by
  rw [← readH_hexT m0 m1, h, readH_hexT n0 n1]
theorem line_same {x y : ByteArray × Int} {r r' : List UInt8} (hx : LineOk x) (hy : LineOk y) (h : lineL x ++ r = lineL y ++ r') : x = y ∧ r = r' := by
  rw [line_app, line_app] at h
  obtain ⟨h1, h2⟩ := cut_same 59 _ _ _ _ hx.noSemi hy.noSemi h
  obtain ⟨h3, h4⟩ := cut_same 61 _ _ _ _ hx.noEq hy.noEq h1
  refine ⟨?_, h2⟩
  have e1 : x.1 = y.1 := ByteArray.ext (Array.toList_inj.1 h3)
  have e2 : x.2 = y.2 := hexT_inj hx.lo hx.hi hy.lo hy.hi (ByteArray.ext (Array.toList_inj.1 h4))
  exact Prod.ext e1 e2
theorem line_ne (x : ByteArray × Int) (r : List UInt8) : lineL x ++ r ≠ [] := by simp [lineL]
theorem foldL_inj : ∀ (xs ys : List (ByteArray × Int)), (∀ x ∈ xs, LineOk x) → (∀ y ∈ ys, LineOk y) → foldL xs = foldL ys → xs = ys
  | [], [], _, _, _ => rfl
  | [], y :: ys, _, _, h => by rw [foldL_cons] at h; exact absurd h.symm (line_ne _ _)
  | x :: xs, [], _, _, h => by rw [foldL_cons] at h; exact absurd h (line_ne _ _)
  | x :: xs, y :: ys, hx, hy, h => by
    rw [foldL_cons, foldL_cons] at h
    obtain ⟨h1, h2⟩ := line_same (hx x (List.mem_cons_self ..)) (hy y (List.mem_cons_self ..)) h
    rw [h1, foldL_inj xs ys (fun z hz => hx z (List.mem_cons_of_mem _ hz)) (fun z hz => hy z (List.mem_cons_of_mem _ hz)) h2]
theorem foldL_semi : ∀ (xs ys : List (ByteArray × Int)), (∀ x ∈ xs, LineOk x) → (∀ y ∈ ys, LineOk y) → foldL xs ++ [59] ≠ foldL ys
  | [], [], _, _, h => by simp [foldL] at h
  | [], y :: ys, _, hy, h => by
    rw [foldL_cons, lineL] at h
    have hw := (hy y (List.mem_cons_self ..)).word
    have hb := word_bytes hw
    have hs : 1 ≤ y.1.data.toList.length := by
      unfold wordV at hw
      rw [Bool.and_eq_true] at hw
      exact (of_decide_eq_true hw.1).1
    cases hq : y.1.data.toList with
    | nil => rw [hq] at hs; simp at hs
    | cons c t =>
      rw [hq] at h hb
      have e : (59 : UInt8) = c := by
        have := congrArg List.head? h
        simpa [foldL] using this
      have := hb c (List.mem_cons_self ..)
      rw [← e] at this
      revert this
      decide
  | x :: xs, [], _, _, h => by rw [foldL_cons, List.append_assoc] at h; exact absurd h (line_ne _ _)
  | x :: xs, y :: ys, hx, hy, h => by
    rw [foldL_cons, foldL_cons, List.append_assoc] at h
    obtain ⟨_, h2⟩ := line_same (hx x (List.mem_cons_self ..)) (hy y (List.mem_cons_self ..)) h
    exact foldL_semi xs ys (fun z hz => hx z (List.mem_cons_of_mem _ hz)) (fun z hz => hy z (List.mem_cons_of_mem _ hz)) h2
theorem entriesV_len {xs : List (ByteArray × Int)} (h : entriesV xs = true) : xs.length ≤ 3 := goodAll_len h
theorem entriesV_ok {xs : List (ByteArray × Int)} (h : entriesV xs = true) : ∀ x ∈ xs, LineOk x := fun x hx => by
  obtain ⟨k, hk, rfl⟩ := List.getElem_of_mem hx
  exact lineOk_of (goodAt_ok (goodAll_at h hk) (List.getElem?_eq_getElem hk))
theorem folderT_in {xs : List (ByteArray × Int)} (h : entriesV xs = true) : folderT xs = ofL (100 :: foldL xs) := if_pos h
theorem folderT_out {xs : List (ByteArray × Int)} (h : entriesV xs = false) : folderT xs = ⟨#[]⟩ := if_neg (by rw [h]; decide)
theorem folderT_inj {xs ys : List (ByteArray × Int)} (hx : entriesV xs = true) (hy : entriesV ys = true) (h : folderT xs = folderT ys) : xs = ys := by
  rw [folderT_in hx, folderT_in hy] at h
  have h := congrArg (fun b : ByteArray => b.data.toList) h
  have h2 : (100 : UInt8) :: foldL xs = 100 :: foldL ys := h
  injection h2 with _ h2
  exact foldL_inj xs ys (entriesV_ok hx) (entriesV_ok hy) h2
theorem folderT_semi {xs ys : List (ByteArray × Int)} (hx : entriesV xs = true) (hy : entriesV ys = true) : folderT xs ++ (⟨#[59]⟩ : ByteArray) ≠ folderT ys := fun h => by
  rw [folderT_in hx, folderT_in hy] at h
  have h := congrArg (fun b : ByteArray => b.data.toList) h
  have h2 : (100 : UInt8) :: (foldL xs ++ [59]) = 100 :: foldL ys := by
    have e : (ofL (100 :: foldL xs) ++ (⟨#[59]⟩ : ByteArray)).data.toList = 100 :: (foldL xs ++ [59]) := by simp [ofL]
    rw [← e]
    exact h
  injection h2 with _ h2
  exact foldL_semi xs ys (entriesV_ok hx) (entriesV_ok hy) h2
theorem line_text {x : ByteArray × Int} (h : LineOk x) : (lineL x).all textB = true ∧ (lineL x).length ≤ 16 := by
  have hw := h.word
  have hs : x.1.data.toList.length ≤ 8 := by
    unfold wordV at hw
    rw [Bool.and_eq_true] at hw
    exact (of_decide_eq_true hw.1).2
  have hh : (hexT x.2).data.toList.length ≤ 6 := hexT_size x.2
  have tx : ∀ c : UInt8, wordB c = true ∨ isHex c = true → textB c = true := by
    intro c hc
    unfold textB
    refine decide_eq_true ?_
    unfold wordB isHex smallB digitB lowB at hc
    simp only [Bool.or_eq_true, decide_eq_true_eq] at hc
    omega
  constructor
  · unfold lineL
    rw [List.all_eq_true]
    intro c hc
    rcases List.mem_append.1 hc with hc | hc
    · exact tx c (.inl (word_bytes hw c hc))
    · rcases List.mem_cons.1 hc with hc | hc
      · rw [hc]; decide
      · rcases List.mem_append.1 hc with hc | hc
        · exact tx c (.inr (hex_bytes h.lo h.hi c hc))
        · rw [List.mem_singleton.1 hc]; decide
  · unfold lineL
    rw [List.length_append, List.length_cons, List.length_append, List.length_singleton]
    omega
theorem foldL_text : ∀ (xs : List (ByteArray × Int)), (∀ x ∈ xs, LineOk x) → (foldL xs).all textB = true ∧ (foldL xs).length ≤ 16 * xs.length
  | [], _ => ⟨rfl, Nat.le_refl _⟩
  | x :: xs, h => by
    obtain ⟨h1, h2⟩ := line_text (h x (List.mem_cons_self ..))
    obtain ⟨h3, h4⟩ := foldL_text xs (fun z hz => h z (List.mem_cons_of_mem _ hz))
    rw [foldL_cons, List.all_append, h1, h3, List.length_append, List.length_cons]
    exact ⟨rfl, by omega⟩
theorem folderT_text {xs : List (ByteArray × Int)} (h : entriesV xs = true) : textV (bts (folderT xs)) = true := by
  obtain ⟨h1, h2⟩ := foldL_text xs (entriesV_ok h)
  have h3 := entriesV_len h
  rw [folderT_in h]
  unfold textV bts
  rw [ofL_data, List.all_cons, h1]
  have : (100 :: foldL xs : List UInt8).length ≤ 60 := by rw [List.length_cons]; omega
  rw [decide_eq_true this]
  decide
theorem folderT_size (xs : List (ByteArray × Int)) : (folderT xs).size ≤ 60 := by
  by_cases h : entriesV xs = true
  · have := folderT_text h
    unfold textV at this
    rw [Bool.and_eq_true] at this
    exact of_decide_eq_true this.2
  · rw [folderT_out (by simpa using h)]
    decide
/-! What cutting finds. -/
theorem index_at (c : UInt8) : ∀ (a r : List UInt8), (∀ x ∈ a, x ≠ c) → Lib.indexByte (a ++ c :: r) c = (a.length : Int)
  | [], r, _ => by simp [Lib.indexByte]
  | x :: a, r, h => by
    have hx : x ≠ c := h x (List.mem_cons_self ..)
    have ih := index_at c a r (fun z hz => h z (List.mem_cons_of_mem _ hz))
    simp [Lib.indexByte, hx, ih]
theorem cut_yes (c : UInt8) (a r : List UInt8) (h : ∀ x ∈ a, x ≠ c) : Lib.cut (a ++ c :: r) [c] = (a, r, true) := by
  unfold Lib.cut
  rw [Lib.index_one, index_at c a r h, if_pos (by omega)]
  simp
end Go.Proofs.Ythoiljgpggldcaa
