/- Plain words on hexadecimal numbers. -/
import Derived.Test.YthoiljgpggldcaaPartsP
open Go.RowKit
namespace Go.Proofs.Ythoiljgpggldcaa
def hexC (d : Nat) : UInt8 := if d < 10 then UInt8.ofNat (48 + d) else UInt8.ofNat (87 + d)
def hexL (n : Nat) : List UInt8 := if n < 16 then [hexC n] else hexL (n / 16) ++ [hexC (n % 16)]
termination_by n
decreasing_by omega
def hexT (n : Int) : ByteArray := if 0 ≤ n ∧ n ≤ 16777212 then ofL (hexL n.toNat) else ⟨#[]⟩
def lowB (c : Int) : Bool := decide (97 ≤ c ∧ c ≤ 102)
def isHex (c : UInt8) : Bool := digitB c.toNat || lowB c.toNat
def valC (c : UInt8) : Nat := if digitB c.toNat = true then c.toNat - 48 else c.toNat - 87
def valL (l : List UInt8) : Nat := l.foldl (fun n c => n * 16 + valC c) 0
theorem hexC_ok : ∀ d, d < 16 → isHex (hexC d) = true ∧ valC (hexC d) = d := by decide
theorem valL_snoc (l : List UInt8) (c : UInt8) : valL (l ++ [c]) = valL l * 16 + valC c := by simp [valL]
theorem hexL_low {n : Nat} (h : n < 16) : hexL n = [hexC n] := by rw [hexL, if_pos h]
theorem hexL_high {n : Nat} (h : ¬ n < 16) : hexL n = hexL (n / 16) ++ [hexC (n % 16)] := by rw [hexL, if_neg h]
theorem hexL_val (n : Nat) : valL (hexL n) = n := by
  induction n using Nat.strongRecOn with
  | ind n ih =>
    by_cases h : n < 16
    · rw [hexL_low h]
      simp [valL, (hexC_ok n h).2]
    · rw [hexL_high h, valL_snoc, ih (n / 16) (by omega), (hexC_ok (n % 16) (by omega)).2]
      omega
theorem hexL_hex (n : Nat) : (hexL n).all isHex = true := by
  induction n using Nat.strongRecOn with
  | ind n ih =>
    by_cases h : n < 16
    · rw [hexL_low h]
      simp [(hexC_ok n h).1]
    · rw [hexL_high h, List.all_append, ih (n / 16) (by omega)]
      simp [(hexC_ok (n % 16) (by omega)).1]
theorem hexL_ne (n : Nat) : hexL n ≠ [] := by
  by_cases h : n < 16
  · rw [hexL_low h]; simp
  · rw [hexL_high h]; simp
theorem hexL_len : ∀ (k n : Nat), n < 16 ^ (k + 1) → (hexL n).length ≤ k + 1
  | 0, n, h => by rw [hexL_low (by simpa using h)]; simp
  | k + 1, n, h => by
    by_cases hn : n < 16
    · rw [hexL_low hn]; simp
    · rw [hexL_high hn, List.length_append]
      have := hexL_len k (n / 16) (by rw [Nat.pow_succ] at h; omega)
      simp only [List.length_cons, List.length_nil]
      omega
theorem hexL_zero : ∀ (n : Nat) (l : List UInt8), hexL n = 48 :: l → l = [] := by
  intro n
  induction n using Nat.strongRecOn with
  | ind n ih =>
    intro l e
    by_cases h : n < 16
    · rw [hexL_low h] at e
      injection e with _ e
      exact e.symm
    · rw [hexL_high h] at e
      exfalso
      cases hq : hexL (n / 16) with
      | nil => exact hexL_ne _ hq
      | cons c t =>
        rw [hq, List.cons_append] at e
        injection e with e1 _
        subst e1
        have ht := ih (n / 16) (by omega) t hq
        subst ht
        have hv := hexL_val (n / 16)
        rw [hq] at hv
        have : valL [48] = 0 := by decide
        omega
def readH (s : ByteArray) : Int := if 1 ≤ s.size ∧ s.size ≤ 6 ∧ s.data.toList.all isHex = true ∧ hexT (valL s.data.toList) = s then (valL s.data.toList : Int) else -1
theorem hexT_in {n : Int} (h0 : 0 ≤ n) (h1 : n ≤ 16777212) : hexT n = ofL (hexL n.toNat) := if_pos ⟨h0, h1⟩
theorem hexT_out {n : Int} (h : ¬ (0 ≤ n ∧ n ≤ 16777212)) : hexT n = ⟨#[]⟩ := if_neg h
theorem hexT_size (n : Int) : (hexT n).size ≤ 6 := by
  by_cases h : 0 ≤ n ∧ n ≤ 16777212
  · rw [hexT_in h.1 h.2]
    show (hexL n.toNat).length ≤ 6
    exact hexL_len 5 _ (by omega)
  · rw [hexT_out h]
    decide
theorem hexT_some {n : Int} (h0 : 0 ≤ n) (h1 : n ≤ 16777212) : 1 ≤ (hexT n).size := by
  rw [hexT_in h0 h1]
  show 1 ≤ (hexL n.toNat).length
  have := hexL_ne n.toNat
  cases hq : hexL n.toNat with
  | nil => exact absurd hq this
  | cons c t => simp
theorem readH_hexT {n : Int} (h0 : 0 ≤ n) (h1 : n ≤ 16777212) : readH (hexT n) = n := by
  have e : (hexT n).data.toList = hexL n.toNat := by rw [hexT_in h0 h1]; rfl
  have ev : ((valL (hexT n).data.toList : Nat) : Int) = n := by rw [e, hexL_val]; omega
  unfold readH
  rw [if_pos ⟨hexT_some h0 h1, hexT_size n, by rw [e]; exact hexL_hex _, by rw [ev]⟩, ev]
theorem hexT_readH {s : ByteArray} (h : 0 ≤ readH s) : hexT (readH s) = s := by
  unfold readH at h ⊢
  split
  · rename_i g
    exact g.2.2.2
  · rename_i g
    rw [if_neg g] at h
    omega
theorem readH_ge (s : ByteArray) : -1 ≤ readH s := by
  unfold readH
  split <;> omega
theorem readH_le (s : ByteArray) : readH s ≤ 16777212 := by
  by_cases h : 0 ≤ readH s
  · have e := hexT_readH h
    refine Decidable.byContradiction fun hn => ?_
    rw [hexT_out (by omega)] at e
    unfold readH at h
    split at h
    · rename_i g
      have : s.size = 0 := by rw [← e]; rfl
      omega
    · omega
  · omega
theorem readH_size {s : ByteArray} (h : 0 ≤ readH s) : 1 ≤ s.size := by
  unfold readH at h
  split at h
  · rename_i g
    exact g.1
  · omega
theorem readH_zero {s : ByteArray} (h : 0 ≤ readH s) : readH ((⟨#[48]⟩ : ByteArray) ++ s) = -1 := by
  have h1 := readH_size h
  refine if_neg fun g => ?_
  have e := g.2.2.2
  have hs : 1 ≤ ((⟨#[48]⟩ : ByteArray) ++ s).size := g.1
  generalize valL ((⟨#[48]⟩ : ByteArray) ++ s).data.toList = v at e
  by_cases hv : (0 : Int) ≤ (v : Int) ∧ (v : Int) ≤ 16777212
  · rw [hexT_in hv.1 hv.2] at e
    have e2 := congrArg (fun b : ByteArray => b.data.toList) e
    have e3 : hexL (v : Int).toNat = 48 :: s.data.toList := by
      have : ((⟨#[48]⟩ : ByteArray) ++ s).data.toList = 48 :: s.data.toList := by simp
      rw [← this]
      exact e2
    have := hexL_zero _ _ e3
    have : s.data.toList.length = 0 := by rw [this]; rfl
    rw [Array.length_toList] at this
    have : s.size = 0 := this
    omega
  · rw [hexT_out hv] at e
    rw [← e] at hs
    exact absurd hs (by decide)
end Go.Proofs.Ythoiljgpggldcaa
