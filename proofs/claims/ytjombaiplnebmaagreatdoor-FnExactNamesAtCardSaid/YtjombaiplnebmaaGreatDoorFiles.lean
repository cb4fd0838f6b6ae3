/- Contracts of the functions on texts of files. -/
import Derived.Test.YtjombaiplnebmaaGreatDoorWords
open Go.RowKit
namespace Go.Proofs.YtjombaiplnebmaaGreatDoor

/-- The first byte of s is c. -/
def head1 (s : ByteArray) (c : UInt8) : Bool := decide ((bts s).head? = some c)
theorem bts_extract (s : ByteArray) (a b : Nat) : bts (s.extract a b) = ((bts s).drop a).take (b - a) := Lib.extract_data s a b
theorem head1_eq (s : ByteArray) (c : UInt8) (h : 1 ≤ s.size) : ((s.extract 0 1).toList == [c]) = head1 s c := by
  unfold head1
  rw [Lib.toList_data]
  have e := bts_extract s 0 1
  unfold bts at e
  rw [e]
  rw [List.drop_zero]
  have hl : s.data.toList.length = s.size := bts_length s
  cases hb : s.data.toList with
  | nil => rw [hb] at hl; simp at hl; omega
  | cons x l =>
    show ([x] == [c]) = decide ((bts s).head? = some c)
    unfold bts
    rw [hb, Bool.eq_iff_iff]
    simp
theorem head1_short (s : ByteArray) (c : UInt8) (h : s.size < 1) : head1 s c = false := by
  unfold head1
  have hb : bts s = [] := List.eq_nil_of_length_eq_zero (by rw [bts_length]; omega)
  rw [hb]
  rfl
theorem head1_size {s : ByteArray} {c : UInt8} (h : head1 s c = true) : 1 ≤ s.size := by
  rcases Nat.lt_or_ge s.size 1 with h' | h'
  · rw [head1_short s c h'] at h; cases h
  · exact h'
theorem head1_at (s : ByteArray) (c : UInt8) (h : 0 < s.size) : head1 s c = decide (s[0] = c) := by
  unfold head1
  rw [List.head?_eq_getElem?, List.getElem?_eq_getElem (by rw [bts_length]; exact h), bts_get s 0 h]
  congr 1
  apply propext
  simp
/-- s without c at its head. -/
def cut1 (s : ByteArray) (c : UInt8) : ByteArray := if head1 s c = true then s.extract 1 s.size else s
theorem cut1_yes {s : ByteArray} {c : UInt8} (h : head1 s c = true) : cut1 s c = s.extract 1 s.size := if_pos h
theorem cut1_no {s : ByteArray} {c : UInt8} (h : head1 s c = false) : cut1 s c = s := if_neg (by rw [h]; simp)
theorem cut1_size (s : ByteArray) (c : UInt8) : (cut1 s c).size ≤ s.size := by
  unfold cut1
  split
  · rw [ByteArray.size_extract]; omega
  · exact Nat.le_refl _
/-- The content of a text of a file. -/
def readF (s : ByteArray) : ByteArray × Bool := if (head1 s 102 && contentV (bts (cut1 s 102))) = true then (cut1 s 102, true) else (⟨#[]⟩, false)
theorem readF_yes {s : ByteArray} (h : head1 s 102 = true) (hc : contentV (bts (cut1 s 102)) = true) : readF s = (cut1 s 102, true) := if_pos (by rw [h, hc]; rfl)
theorem readF_no {s : ByteArray} (h : (head1 s 102 && contentV (bts (cut1 s 102))) = false) : readF s = (⟨#[]⟩, false) := if_neg (by rw [h]; simp)
theorem toList_empty {s : ByteArray} (h : s.size = 0) : s.toList = [] := by
  rw [Lib.toList_data]
  exact List.eq_nil_of_length_eq_zero (by rw [← h]; exact bts_length s)
theorem toList_nonempty {s : ByteArray} (h : ¬ s.size = 0) : s.toList.isEmpty = false := by
  rw [Lib.toList_data]
  cases hb : s.data.toList with
  | nil => exact absurd (by rw [← bts_length]; unfold bts; rw [hb]; rfl) h
  | cons x l => rfl
theorem hasPrefix1 (s : ByteArray) (c : UInt8) (w : World) (hs : s.size ≤ maxLen) :
    Calls Tryz.prog 72 #[.string s, .string ⟨#[c]⟩] w fun e w' => e = .returned (.bool (head1 s c)) ∧ w = w' := by
  unfold maxLen at hs
  by_cases h : 1 ≤ s.size
  · have H := Lib.hid (head1_eq s c h)
    go_enter Tryz.func72, Tryz.ntmps72
    go_wp2
    go_ret
    exact ⟨ret_bool H.out, rfl⟩
  · have H := Lib.hid (head1_short s c (by omega))
    go_enter Tryz.func72, Tryz.ntmps72
    go_wp2
    go_ret
    exact ⟨ret_bool H.out.symm, rfl⟩
theorem cutPrefix1' (s : ByteArray) (c : UInt8) (w : World) (hs : s.size ≤ maxLen) :
    Calls Tryz.prog 57 #[.string s, .string ⟨#[c]⟩] w fun e w' => e = .returned (.tuple #[.string (cut1 s c), .bool (head1 s c)]) ∧ w = w' := by
  have hb := hs
  unfold maxLen at hb
  cases h : head1 s c
  · have H := Lib.hid h
    clear h
    go_enter Tryz.func57, Tryz.ntmps57
    go_wp2_with (go_at_call 72; refine (hasPrefix1 _ _ _ hs).mono ?_; rintro e w' ⟨rfl, rfl⟩; rw [H.out])
    go_ret2
    exact ⟨by rw [cut1_no H.out]; rfl, rfl⟩
  · have h1 := head1_size h
    have H := Lib.hid h
    clear h
    go_enter Tryz.func57, Tryz.ntmps57
    go_wp2_with (go_at_call 72; refine (hasPrefix1 _ _ _ hs).mono ?_; rintro e w' ⟨rfl, rfl⟩; rw [H.out])
    go_ret2
    exact ⟨by rw [cut1_yes H.out]; rfl, rfl⟩
theorem cutPrefix1 (s : ByteArray) (c : UInt8) (w : World) (hs : s.size ≤ maxLen) :
    Calls Tryz.prog 43 #[.string s, .string ⟨#[c]⟩] w fun e w' => e = .returned (.tuple #[.string (cut1 s c), .bool (head1 s c)]) ∧ w = w' := by
  go_enter Tryz.func43, Tryz.ntmps43
  go_wp2_with (go_at_call 57; refine (cutPrefix1' _ _ _ hs).mono ?_; rintro e w' ⟨rfl, rfl⟩)
  go_ret2
  exact ⟨rfl, rfl⟩
theorem implReadFile (s : ByteArray) (w : World) (hs : s.size ≤ maxLen) :
    Calls Tryz.prog 36 #[.string s] w fun e w' => e = .returned (.tuple #[.string (readF s).1, .bool (readF s).2]) ∧ w = w' := by
  have hcs := cut1_size s 102
  have hcm : (cut1 s 102).size ≤ maxLen := by omega
  cases h : head1 s 102
  · have H := Lib.hid h
    clear h
    have HR := Lib.hid (readF_no (by rw [H.out]; rfl))
    go_enter Tryz.func36, Tryz.ntmps36
    go_wp2_with (go_at_call 43; refine (cutPrefix1 _ _ _ hs).mono ?_; rintro e w' ⟨rfl, rfl⟩; rw [H.out])
    go_ret2
    exact ⟨by rw [HR.out]; rfl, rfl⟩
  · have H := Lib.hid h
    clear h
    cases hc : contentV (bts (cut1 s 102))
    · have HC := Lib.hid hc
      clear hc
      have HR := Lib.hid (readF_no (by rw [HC.out, Bool.and_false]))
      generalize hcut : cut1 s 102 = t at *
      have HT := Lib.hid hcut
      clear hcut
      go_enter Tryz.func36, Tryz.ntmps36
      go_wp2_with (first | (go_at_call 43; refine (cutPrefix1 _ _ _ hs).mono ?_; rintro e w' ⟨rfl, rfl⟩; rw [H.out, HT.out]) | (go_at_call 50; refine (implContentValid _ _ hcm).mono ?_; rintro e w' ⟨rfl, rfl⟩; rw [HC.out]))
      go_ret2
      exact ⟨by rw [HR.out]; rfl, rfl⟩
    · have HC := Lib.hid hc
      clear hc
      have HR := Lib.hid (readF_yes H.out HC.out)
      generalize hcut : cut1 s 102 = t at *
      have HT := Lib.hid hcut
      clear hcut
      go_enter Tryz.func36, Tryz.ntmps36
      go_wp2_with (first | (go_at_call 43; refine (cutPrefix1 _ _ _ hs).mono ?_; rintro e w' ⟨rfl, rfl⟩; rw [H.out, HT.out]) | (go_at_call 50; refine (implContentValid _ _ hcm).mono ?_; rintro e w' ⟨rfl, rfl⟩; rw [HC.out]))
      go_ret2
      exact ⟨by rw [HR.out]; rfl, rfl⟩
theorem specReadFile (s : ByteArray) (w : World) (hs : s.size ≤ maxLen) :
    Calls Tryz.prog 19 #[.string s] w fun e w' => e = .returned (.tuple #[.string (readF s).1, .bool (readF s).2]) ∧ w = w' := by
  have hb := hs
  unfold maxLen at hb
  by_cases h0 : s.size = 0
  · have HR := Lib.hid (readF_no (s := s) (by rw [head1_short s 102 (by omega)]; rfl))
    have he := toList_empty h0
    go_enter Tryz.func19, Tryz.ntmps19
    go_wp2
    go_ret2
    exact ⟨by rw [HR.out]; rfl, rfl⟩
  · have he := toList_nonempty h0
    have hp : 0 < s.size := by omega
    by_cases hh : (s[0].toNat : Int) = 102
    · have h1 : head1 s 102 = true := by rw [head1_at s 102 hp]; exact decide_eq_true (UInt8.toNat_inj.1 (by show s[0].toNat = 102; omega))
      have hce : cut1 s 102 = s.extract 1 s.size := cut1_yes h1
      have hcm : (s.extract 1 s.size).size ≤ maxLen := by rw [← hce]; have := cut1_size s 102; omega
      cases hc : contentV (bts (s.extract 1 s.size))
      · have HR := Lib.hid (readF_no (s := s) (by rw [hce, hc, Bool.and_false]))
        have HC := Lib.hid hc
        have HH := Lib.hid hh
        clear hc hce h1
        go_enter Tryz.func19, Tryz.ntmps19
        go_wp2_with (go_at_call 31; refine (specContentValid _ _ hcm).mono ?_; rintro e w' ⟨rfl, rfl⟩; rw [HC.out])
        go_ret2
        exact ⟨by rw [HR.out]; rfl, rfl⟩
      · have HR := Lib.hid (readF_yes h1 (by rw [hce]; exact hc))
        have HC := Lib.hid hc
        have HE := Lib.hid hce
        have HH := Lib.hid hh
        clear hc hce h1
        go_enter Tryz.func19, Tryz.ntmps19
        go_wp2_with (go_at_call 31; refine (specContentValid _ _ hcm).mono ?_; rintro e w' ⟨rfl, rfl⟩; rw [HC.out])
        go_ret2
        exact ⟨by rw [HR.out, HE.out]; rfl, rfl⟩
    · have HR := Lib.hid (readF_no (s := s) (by rw [head1_at s 102 hp, decide_eq_false (fun h => hh (by rw [h]; rfl))]; rfl))
      go_enter Tryz.func19, Tryz.ntmps19
      go_wp2
      go_ret2
      exact ⟨by rw [HR.out]; rfl, rfl⟩
end Go.Proofs.YtjombaiplnebmaaGreatDoor
