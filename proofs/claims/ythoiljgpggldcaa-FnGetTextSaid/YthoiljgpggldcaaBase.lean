/- Words of this claim: bytes of a string, scans of a string. Plain facts, no program. -/
import Derived.WalkKit
import Derived.WalkSpells
import Derived.WalkLawsBesides
import Derived.Lib.Hide
import Derived.Lib.Strings
import Derived.Deep.Draws
open Go.RowKit
namespace Go.Proofs.Ythoiljgpggldcaa

/-- The bytes of a string. -/
def bts (s : ByteArray) : List UInt8 := s.data.toList
theorem bts_length (s : ByteArray) : (bts s).length = s.size := rfl
theorem bts_get (s : ByteArray) (k : Nat) (h : k < s.size) : (bts s)[k]'(by rw [bts_length]; exact h) = s[k] := rfl

/-- All bytes before place k meet p. -/
def AllTo (p : UInt8 → Bool) (s : ByteArray) (k : Nat) : Prop := ∀ j (h : j < s.size), j < k → p s[j] = true
theorem AllTo.zero (p : UInt8 → Bool) (s : ByteArray) : AllTo p s 0 := fun _ _ h => absurd h (by omega)
theorem AllTo.succ {p : UInt8 → Bool} {s : ByteArray} {k : Nat} (h : AllTo p s k) (hk : k < s.size) (hp : p s[k] = true) : AllTo p s (k + 1) := by
  intro j hj hjk
  rcases Nat.lt_or_ge j k with h1 | h1
  · exact h j hj h1
  · obtain rfl : j = k := by omega
    exact hp
theorem AllTo.all {p : UInt8 → Bool} {s : ByteArray} {k : Nat} (h : AllTo p s k) (hk : s.size ≤ k) : (bts s).all p = true := by
  rw [List.all_eq_true]
  intro c hc
  obtain ⟨j, hj, rfl⟩ := List.getElem_of_mem hc
  exact h j (by simpa [bts_length] using hj) (by have := bts_length s; omega)
theorem all_not {p : UInt8 → Bool} {s : ByteArray} {k : Nat} (hk : k < s.size) (hp : p s[k] = false) : (bts s).all p = false := by
  cases h : (bts s).all p
  · rfl
  · rw [List.all_eq_true] at h
    have := h s[k] (by rw [← bts_get s k hk]; exact List.getElem_mem _)
    rw [hp] at this; cases this

theorem ret_bool {a b : Bool} (h : a = b) : Ending.returned (.bool a) = .returned (.bool b) := by rw [h]
theorem ret_int {k : IntKind} {a b : Int} (h : a = b) : Ending.returned (.int k a) = .returned (.int k b) := by rw [h]
theorem ret_str {a b : ByteArray} (h : a = b) : Ending.returned (.string a) = .returned (.string b) := by rw [h]

/-! The tests on bytes and numbers, as Bools of Int. -/
def smallB (c : Int) : Bool := decide (97 ≤ c ∧ c ≤ 122)
def digitB (c : Int) : Bool := decide (48 ≤ c ∧ c ≤ 57)
def textB (c : UInt8) : Bool := decide (32 ≤ (c.toNat : Int) ∧ (c.toNat : Int) ≤ 126)
def wordB (c : UInt8) : Bool := smallB c.toNat || digitB c.toNat
def printB (n : Int) : Bool := decide (0 ≤ n ∧ n ≤ 16777212)
def textV (l : List UInt8) : Bool := l.all textB && decide (l.length ≤ 60)
def wordV (l : List UInt8) : Bool := decide (1 ≤ l.length ∧ l.length ≤ 8) && (smallB ((l.headD 0).toNat) && l.all wordB)
def contentV (l : List UInt8) : Bool := textV l && decide (l.length ≤ 40)

def inB (n lo hi : Int) : Bool := decide (lo ≤ n ∧ n ≤ hi)
theorem bts_head (s : ByteArray) (h : 0 < s.size) : (bts s).headD 0 = s[0] := by
  rw [← bts_get s 0 h, List.headD_eq_head?_getD, List.head?_eq_getElem?, List.getElem?_eq_getElem (by rw [bts_length]; exact h)]
  rfl
theorem digit_not_small {c : Int} (h : digitB c = true) : smallB c = false := by
  unfold digitB at h
  unfold smallB
  simp only [decide_eq_true_eq] at h
  exact decide_eq_false (by omega)
theorem wordV_yes (s : ByteArray) (h1 : 1 ≤ s.size) (h8 : s.size ≤ 8) (hh : (bts s).headD 0 = s[0]) (hd : digitB s[0].toNat = false) (ha : (bts s).all wordB = true) : wordV (bts s) = true := by
  have h0 : wordB s[0] = true := by
    rw [List.all_eq_true] at ha
    exact ha s[0] (by rw [← bts_get s 0 h1]; exact List.getElem_mem _)
  unfold wordV
  rw [ha, hh]
  unfold wordB at h0
  rw [hd, Bool.or_false] at h0
  rw [h0, bts_length]
  simp [h1, h8]

theorem wordB_small {c : UInt8} (h : smallB c.toNat = true) : wordB c = true := by unfold wordB; rw [h]; rfl
theorem wordB_digit {c : UInt8} (h : (!digitB c.toNat) = false) : wordB c = true := by
  unfold wordB
  have : digitB c.toNat = true := by simpa using h
  rw [this, Bool.or_true]
theorem wordB_no {c : UInt8} (h : ¬ smallB c.toNat = true) (h' : (!digitB c.toNat) = true) : wordB c = false := by
  unfold wordB
  have h1 : digitB c.toNat = false := by simpa using h'
  rw [h1, eq_false_of_ne_true h]
  rfl
theorem printB_yes {n : Int} (h0 : 0 ≤ n) (h1 : n ≤ 16777212) : printB n = true := decide_eq_true ⟨h0, h1⟩
theorem printB_no {n : Int} (h : ¬ (0 ≤ n ∧ n ≤ 16777212)) : printB n = false := decide_eq_false h
/-- The print of two prints. -/
def pairP (a b : Int) : Int := if 0 ≤ a ∧ a ≤ 16777212 ∧ 0 ≤ b ∧ b ≤ 16777212 then (a * 7919 + b * 104729 + 3) % 16777213 else -1
theorem contentV_size {s : ByteArray} (h : contentV (bts s) = true) : s.size ≤ 40 := by
  unfold contentV at h
  rw [Bool.and_eq_true, bts_length] at h
  exact of_decide_eq_true h.2
/-- The text of a file. -/
def fileT (s : ByteArray) : ByteArray := if contentV (bts s) = true then ⟨#[102]⟩ ++ s else ⟨#[]⟩
theorem fileT_yes {s : ByteArray} (h : contentV (bts s) = true) : fileT s = ⟨#[102]⟩ ++ s := if_pos h
theorem fileT_no {s : ByteArray} (h : contentV (bts s) = false) : fileT s = ⟨#[]⟩ := if_neg (by rw [h]; simp)

theorem smallB_yes {c : Int} (h0 : 97 ≤ c) (h1 : c ≤ 122) : smallB c = true := decide_eq_true ⟨h0, h1⟩
theorem smallB_no {c : Int} (h : ¬ (97 ≤ c ∧ c ≤ 122)) : smallB c = false := decide_eq_false h
theorem digitB_yes {c : Int} (h0 : 48 ≤ c) (h1 : c ≤ 57) : digitB c = true := decide_eq_true ⟨h0, h1⟩
theorem digitB_no {c : Int} (h : ¬ (48 ≤ c ∧ c ≤ 57)) : digitB c = false := decide_eq_false h
theorem inB_yes {n lo hi : Int} (h0 : lo ≤ n) (h1 : n ≤ hi) : inB n lo hi = true := decide_eq_true ⟨h0, h1⟩
theorem inB_no {n lo hi : Int} (h : ¬ (lo ≤ n ∧ n ≤ hi)) : inB n lo hi = false := decide_eq_false h
theorem wordB_digit' {c : UInt8} (h0 : 48 ≤ (c.toNat : Int)) (h1 : (c.toNat : Int) ≤ 57) : wordB c = true := by
  unfold wordB
  rw [digitB_yes h0 h1, Bool.or_true]
theorem spec_word_small {s : ByteArray} {k : Nat} (hk : k < s.size) (h : 0 < k → ∀ h : 0 < s.size, smallB s[0].toNat = true) (h0 : 97 ≤ (s[k].toNat : Int)) (h1 : (s[k].toNat : Int) ≤ 122) :
    0 < k + 1 → ∀ h : 0 < s.size, smallB s[0].toNat = true := by
  intro _ h'
  rcases Nat.eq_zero_or_pos k with rfl | hp
  · exact smallB_yes h0 h1
  · exact h hp h'
theorem wordV_bad0 (s : ByteArray) (hk : 0 < s.size) (h : ¬ (97 ≤ (s[0].toNat : Int) ∧ (s[0].toNat : Int) ≤ 122)) : wordV (bts s) = false := by
  unfold wordV
  rw [bts_head s hk, smallB_no h, Bool.false_and, Bool.and_false]
theorem wordV_bad {s : ByteArray} {k : Nat} (hk : k < s.size) (h : ¬ (97 ≤ (s[k].toNat : Int) ∧ (s[k].toNat : Int) ≤ 122)) (h' : ¬ (48 ≤ (s[k].toNat : Int) ∧ (s[k].toNat : Int) ≤ 57)) : wordV (bts s) = false := by
  unfold wordV
  rw [all_not hk (by unfold wordB; rw [smallB_no h, digitB_no h']; rfl), Bool.and_false, Bool.and_false]
theorem spec_word_end {s : ByteArray} {k : Nat} (hk : s.size ≤ k) (ha : AllTo wordB s k) (h : 0 < k → ∀ h : 0 < s.size, smallB s[0].toNat = true) : wordV (bts s) = inB s.size 1 8 := by
  unfold wordV inB
  rw [ha.all hk, bts_length, Bool.and_true]
  rcases Nat.eq_zero_or_pos s.size with h0 | hp
  · rw [decide_eq_false (by omega), decide_eq_false (by omega)]; rfl
  · rw [bts_head s hp, h (by omega) hp, Bool.and_true]
    congr 1
    apply propext
    omega
theorem contentV_of {s : ByteArray} {b : Bool} (h : textV (bts s) = b) : contentV (bts s) = (b && decide ((s.size : Int) ≤ 40)) := by
  unfold contentV
  rw [h, bts_length]
  congr 2
  apply propext
  omega
theorem pairP_yes {a b : Int} (a0 : 0 ≤ a) (a1 : a ≤ 16777212) (b0 : 0 ≤ b) (b1 : b ≤ 16777212) : pairP a b = (a * 7919 + b * 104729 + 3) % 16777213 := if_pos ⟨a0, a1, b0, b1⟩
theorem pairP_no {a b : Int} (h : ¬ ((0 ≤ a ∧ a ≤ 16777212) ∧ 0 ≤ b ∧ b ≤ 16777212)) : pairP a b = -1 := if_neg (fun h' => h ⟨⟨h'.1, h'.2.1⟩, h'.2.2.1, h'.2.2.2⟩)
/-- The print of a text. -/
def printTo (l : List UInt8) : Int := l.foldl (fun n c => (n * 257 + (c.toNat : Int)) % 16777213) 1
def printP (s : ByteArray) : Int := if textV (bts s) = true then printTo (bts s) else -1
theorem printP_yes {s : ByteArray} (h : textV (bts s) = true) : printP s = printTo (bts s) := if_pos h
theorem printP_no {s : ByteArray} (h : textV (bts s) = false) : printP s = -1 := if_neg (by rw [h]; simp)
theorem printTo_append (l : List UInt8) (c : UInt8) : printTo (l ++ [c]) = (printTo l * 257 + (c.toNat : Int)) % 16777213 := by
  unfold printTo
  rw [List.foldl_append]
  rfl
theorem printTo_bd (l : List UInt8) : 0 ≤ printTo l ∧ printTo l ≤ 16777212 := by
  rcases List.eq_nil_or_concat l with rfl | ⟨l', c, rfl⟩
  · unfold printTo; simp
  · rw [List.concat_eq_append, printTo_append]
    omega
theorem byte_bd (c : UInt8) : (c.toNat : Int) ≤ 255 := by have := c.toNat_lt; omega
theorem printTo_snoc {s : ByteArray} {k : Nat} (hk : k < s.size) : printTo ((bts s).take (k + 1)) = (printTo ((bts s).take k) * 257 + (s[k].toNat : Int)) % 16777213 := by
  rw [List.take_succ_eq_append_getElem (by rw [bts_length]; exact hk), printTo_append]
  rfl
theorem printTo_end {s : ByteArray} {k : Nat} (hk : s.size ≤ k) : printTo ((bts s).take k) = printTo (bts s) := by
  rw [List.take_of_length_le (by rw [bts_length]; exact hk)]
end Go.Proofs.Ythoiljgpggldcaa
