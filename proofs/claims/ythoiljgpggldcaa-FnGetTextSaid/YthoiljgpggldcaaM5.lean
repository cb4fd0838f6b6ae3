/- The texts PathJ Files as one. -/
import Derived.Test.YthoiljgpggldcaaWords
import Derived.Lib.Join
import Derived.Test.YthoiljgpggldcaaMem
/- Contracts of JoinPath: the path of words. -/
open Go.RowKit
namespace Go.Proofs.Ythoiljgpggldcaa
/-- A slash and the word, for each. -/
def slB (xs : List ByteArray) : ByteArray := xs.foldl (fun a x => a ++ ⟨#[47]⟩ ++ x) ⟨#[]⟩
theorem slB_snoc (xs : List ByteArray) (x : ByteArray) : slB (xs ++ [x]) = slB xs ++ ⟨#[47]⟩ ++ x := by unfold slB; rw [List.foldl_append]; rfl
def pathOk (xs : List ByteArray) : Bool := decide (xs.length ≤ 3) && xs.all fun x => wordV (bts x)
def joinP (xs : List ByteArray) : ByteArray := if pathOk xs = true then (if xs = [] then ⟨#[47]⟩ else slB xs) else ⟨#[]⟩
theorem wordV_size {x : ByteArray} (h : wordV (bts x) = true) : 1 ≤ x.size ∧ x.size ≤ 8 := by
  unfold wordV at h
  rw [Bool.and_eq_true] at h
  have := of_decide_eq_true h.1
  unfold bts at this
  rwa [Array.length_toList] at this
theorem joinP_bad {xs : List ByteArray} {k : Nat} {x : ByteArray} (hx : xs[k]? = some x) (hw : wordV (bts x) = false) : joinP xs = ⟨#[]⟩ := by
  unfold joinP pathOk
  rw [all_bad hx hw]
  simp
theorem joinP_long {xs : List ByteArray} (h : 3 < xs.length) : joinP xs = ⟨#[]⟩ := by
  unfold joinP pathOk
  rw [decide_eq_false (by omega)]
  simp
theorem joinP_ok {xs : List ByteArray} (h : xs.length ≤ 3) (hw : ∀ x ∈ xs, wordV (bts x) = true) : joinP xs = if xs = [] then ⟨#[47]⟩ else slB xs := by
  unfold joinP
  rw [if_pos]
  unfold pathOk
  rw [decide_eq_true h, Bool.true_and, List.all_eq_true]
  exact hw
set_option maxHeartbeats 1600000 in
theorem specJoinPath (A : Option Addr) (n c : Nat) (xs : List ByteArray) (w : World) (h : Rd w 1 A n (strs xs)) (hs : ∀ x ∈ xs, x.size ≤ maxLen) (hn : n ≤ 4194304) :
    Calls Try.prog 49 #[.slice A n c] w fun e w' => e = .returned (.string (joinP xs)) ∧ w = w' := by
  have HL := Lib.hid h.strLen
  have HS := Lib.hid hs
  clear hs
  go_enter Try.func49, Try.ntmps49
  go_wp2
  go_loop [3, 4] (fun t i => ∃ k : Nat, k ≤ n ∧ (0 < k → n ≤ 3) ∧ i = .int .i64 (k : Int) ∧ t = .string (slB (xs.take k)) ∧ (slB (xs.take k)).size ≤ 9 * k ∧ k ≤ (slB (xs.take k)).size ∧ Hid (∀ j x, j < k → xs[j]? = some x → wordV (bts x) = true)) (fun _ i => n - (intOf i).toNat)
  case atStart => exact ⟨0, Nat.zero_le _, fun hh => by omega, rfl, rfl, Nat.le_refl _, Nat.le_refl _, Lib.hid (fun j _ hj => by omega)⟩
  case round =>
    obtain ⟨k, hk, h3, rfl, rfl, hsz, hsz1, HB⟩ := hrel
    by_cases hlt : k < n
    · obtain ⟨b, off, x, rfl, _, hx, hc⟩ := h.strAt hlt
      have hxm := HS.out x (List.mem_of_getElem? hx)
      cases hw : wordV (bts x)
      · have HJ := Lib.hid (joinP_bad hx hw)
        have HW := Lib.hid hw
        clear hx hw
        go_wp2_with (go_at_call 47; refine (specWordValid _ _ hxm).mono ?_; rintro e w' ⟨rfl, rfl⟩; rw [HW.out])
        go_ret
        exact ⟨by rw [HJ.out]; rfl, rfl⟩
      · by_cases hb : 3 < n
        · have HJ := Lib.hid (joinP_long (xs := xs) (by rw [HL.out]; exact hb))
          have HW := Lib.hid hw
          clear hx hw
          go_wp2_with (go_at_call 47; refine (specWordValid _ _ hxm).mono ?_; rintro e w' ⟨rfl, rfl⟩; rw [HW.out])
          go_ret
          exact ⟨by rw [HJ.out]; rfl, rfl⟩
        · have HW := Lib.hid hw
          have hxs := wordV_size hw
          have hxs1 := hxs.2
          have hxs0 := hxs.1
          have hS : Hid (slB (xs.take (k + 1)) = slB (xs.take k) ++ ⟨#[47]⟩ ++ x) := Lib.hid (by rw [take_snoc hx, slB_snoc])
          have hss : (slB (xs.take (k + 1))).size = (slB (xs.take k)).size + 1 + x.size := by rw [hS.out, ByteArray.size_append, ByteArray.size_append]; rfl
          have HB' : Hid (∀ j y, j < k + 1 → xs[j]? = some y → wordV (bts y) = true) := Lib.hid (fun j y hj hy => by
            rcases Nat.lt_or_ge j k with h1 | h1
            · exact HB.out j y h1 hy
            · obtain rfl : j = k := by omega
              rw [hx] at hy
              obtain rfl := Option.some.inj hy
              exact hw)
          have hz1 : ((slB (xs.take k)) ++ (⟨#[47]⟩ : ByteArray)).size = (slB (xs.take k)).size + 1 := by rw [ByteArray.size_append]; rfl
          have hsz' : (slB (xs.take (k + 1))).size ≤ 9 * (k + 1) := by omega
          have hsz1' : k + 1 ≤ (slB (xs.take (k + 1))).size := by omega
          have H1 := Lib.hid hsz'
          have H2 := Lib.hid hsz1'
          clear hx hw hxs hss hsz' hsz1'
          generalize slB (xs.take k) = T at *
          go_wp2_with (go_at_call 47; refine (specWordValid _ _ hxm).mono ?_; rintro e w' ⟨rfl, rfl⟩; rw [HW.out])
          go_round
          case rel => exact ⟨k + 1, by omega, fun _ => by omega, by go_num, by rw [hS.out], H1.out, H2.out, HB'⟩
          case measure => simp [intOf]; omega
    · obtain rfl : k = n := by omega
      have hall : ∀ x ∈ xs, wordV (bts x) = true := fun x hx => by
        obtain ⟨j, hj⟩ := List.getElem?_of_mem hx
        obtain ⟨hjl, _⟩ := List.getElem?_eq_some_iff.1 hj
        exact HB.out j x (by rw [HL.out] at hjl; omega) hj
      by_cases hz : k = 0
      · have hxs : xs = [] := List.eq_nil_of_length_eq_zero (by rw [HL.out]; exact hz)
        have HJ : Hid (joinP xs = ⟨#[47]⟩) := Lib.hid (by rw [joinP_ok (by rw [HL.out]; omega) hall, if_pos hxs])
        have he : (slB (xs.take k)).toList.isEmpty = true := by rw [hxs]; simp [slB]
        clear hxs hall hz
        generalize slB (xs.take k) = T at *
        go_wp2_with fail
        go_ret
        exact ⟨by rw [HJ.out]; rfl, rfl⟩
      · have hne : xs ≠ [] := fun e => by have := HL.out; rw [e] at this; simp at this; omega
        have HJ : Hid (joinP xs = slB (xs.take k)) := Lib.hid (by rw [joinP_ok (by rw [HL.out]; omega) hall, if_neg hne, List.take_of_length_le (by rw [HL.out]; omega)])
        have he : (slB (xs.take k)).toList.isEmpty = false := by
          rw [Lib.toList_data]
          cases h2 : (slB (xs.take k)).data.toList.isEmpty
          · rfl
          · exfalso
            have h3 : (slB (xs.take k)).data.toList = [] := List.isEmpty_iff.1 h2
            have h4 : (slB (xs.take k)).size = 0 := by show (slB (xs.take k)).data.size = 0; rw [← Array.length_toList, h3]; rfl
            omega
        clear hne hall hz
        generalize slB (xs.take k) = T at *
        go_wp2_with fail
        go_ret
        exact ⟨by rw [HJ.out]; rfl, rfl⟩
theorem slB_data (xs : List ByteArray) : (slB xs).data.toList = (xs.map fun x => (47 : UInt8) :: x.data.toList).flatten := by
  suffices h : ∀ (xs : List ByteArray) (a : ByteArray), (xs.foldl (fun a x => a ++ (⟨#[47]⟩ : ByteArray) ++ x) a).data.toList = a.data.toList ++ (xs.map fun x => (47 : UInt8) :: x.data.toList).flatten by
    have := h xs ⟨#[]⟩
    simpa [slB] using this
  intro xs
  induction xs with
  | nil => intro a; simp
  | cons x xs ih =>
    intro a
    rw [List.foldl_cons, ih]
    simp
theorem slB_join (xs : List ByteArray) (h : xs ≠ []) : (⟨#[47]⟩ : ByteArray) ++ ⟨(Lib.join (xs.map (·.data.toList)) [47]).toArray⟩ = slB xs := by
  obtain ⟨x, r, rfl⟩ := List.exists_cons_of_ne_nil h
  refine ByteArray.ext (Array.toList_inj.1 ?_)
  rw [slB_data, List.map_cons, Lib.join_cons]
  simp [Lib.joinTail, Function.comp_def]
end Go.Proofs.Ythoiljgpggldcaa
/- Contracts of the functions on texts of files. -/
open Go.RowKit
namespace Go.Proofs.Ythoiljgpggldcaa

/-- The first byte of s is c. -/
def head1 (s : ByteArray) (c : UInt8) : Bool := decide ((bts s).head? = some c)
theorem bts_extract (s : ByteArray) (a b : Nat) : bts (s.extract a b) = ((bts s).drop a).take (b - a) := Lib.extract_data s a b
theorem head1_eq (s : ByteArray) (c : UInt8) (h : 1 ≤ s.size) : ((s.extract 0 1).toList == [c]) = head1 s c := by
  unfold head1
  rw [Lib.toList_data]
  have e := bts_extract s 0 1
  unfold bts at e
  rw [e]
  rw [List.drop_zero]
  have hl : s.data.toList.length = s.size := bts_length s
  cases hb : s.data.toList with
  | nil => rw [hb] at hl; simp at hl; omega
  | cons x l =>
    show ([x] == [c]) = decide ((bts s).head? = some c)
    unfold bts
    rw [hb, Bool.eq_iff_iff]
    simp
theorem head1_short (s : ByteArray) (c : UInt8) (h : s.size < 1) : head1 s c = false := by
  unfold head1
  have hb : bts s = [] := List.eq_nil_of_length_eq_zero (by rw [bts_length]; omega)
  rw [hb]
  rfl
theorem head1_size {s : ByteArray} {c : UInt8} (h : head1 s c = true) : 1 ≤ s.size := by
  rcases Nat.lt_or_ge s.size 1 with h' | h'
  · rw [head1_short s c h'] at h; cases h
  · exact h'
theorem head1_at (s : ByteArray) (c : UInt8) (h : 0 < s.size) : head1 s c = decide (s[0] = c) := by
  unfold head1
  rw [List.head?_eq_getElem?, List.getElem?_eq_getElem (by rw [bts_length]; exact h), bts_get s 0 h]
  congr 1
  apply propext
  simp
/-- s without c at its head. -/
def cut1 (s : ByteArray) (c : UInt8) : ByteArray := if head1 s c = true then s.extract 1 s.size else s
theorem cut1_yes {s : ByteArray} {c : UInt8} (h : head1 s c = true) : cut1 s c = s.extract 1 s.size := if_pos h
theorem cut1_no {s : ByteArray} {c : UInt8} (h : head1 s c = false) : cut1 s c = s := if_neg (by rw [h]; simp)
theorem cut1_size (s : ByteArray) (c : UInt8) : (cut1 s c).size ≤ s.size := by
  unfold cut1
  split
  · rw [ByteArray.size_extract]; omega
  · exact Nat.le_refl _
/-- The content of a text of a file. -/
def readF (s : ByteArray) : ByteArray × Bool := if (head1 s 102 && contentV (bts (cut1 s 102))) = true then (cut1 s 102, true) else (⟨#[]⟩, false)
theorem readF_yes {s : ByteArray} (h : head1 s 102 = true) (hc : contentV (bts (cut1 s 102)) = true) : readF s = (cut1 s 102, true) := if_pos (by rw [h, hc]; rfl)
theorem readF_no {s : ByteArray} (h : (head1 s 102 && contentV (bts (cut1 s 102))) = false) : readF s = (⟨#[]⟩, false) := if_neg (by rw [h]; simp)
theorem toList_empty {s : ByteArray} (h : s.size = 0) : s.toList = [] := by
  rw [Lib.toList_data]
  exact List.eq_nil_of_length_eq_zero (by rw [← h]; exact bts_length s)
theorem toList_nonempty {s : ByteArray} (h : ¬ s.size = 0) : s.toList.isEmpty = false := by
  rw [Lib.toList_data]
  cases hb : s.data.toList with
  | nil => exact absurd (by rw [← bts_length]; unfold bts; rw [hb]; rfl) h
  | cons x l => rfl
theorem specReadFile (s : ByteArray) (w : World) (hs : s.size ≤ maxLen) :
    Calls Try.prog 55 #[.string s] w fun e w' => e = .returned (.tuple #[.string (readF s).1, .bool (readF s).2]) ∧ w = w' := by
  have hb := hs
  unfold maxLen at hb
  by_cases h0 : s.size = 0
  · have HR := Lib.hid (readF_no (s := s) (by rw [head1_short s 102 (by omega)]; rfl))
    have he := toList_empty h0
    go_enter Try.func55, Try.ntmps55
    go_wp2
    go_ret2
    exact ⟨by rw [HR.out]; rfl, rfl⟩
  · have he := toList_nonempty h0
    have hp : 0 < s.size := by omega
    by_cases hh : (s[0].toNat : Int) = 102
    · have h1 : head1 s 102 = true := by rw [head1_at s 102 hp]; exact decide_eq_true (UInt8.toNat_inj.1 (by show s[0].toNat = 102; omega))
      have hce : cut1 s 102 = s.extract 1 s.size := cut1_yes h1
      have hcm : (s.extract 1 s.size).size ≤ maxLen := by rw [← hce]; have := cut1_size s 102; omega
      cases hc : contentV (bts (s.extract 1 s.size))
      · have HR := Lib.hid (readF_no (s := s) (by rw [hce, hc, Bool.and_false]))
        have HC := Lib.hid hc
        have HH := Lib.hid hh
        clear hc hce h1
        go_enter Try.func55, Try.ntmps55
        go_wp2_with (go_at_call 43; refine (specContentValid _ _ hcm).mono ?_; rintro e w' ⟨rfl, rfl⟩; rw [HC.out])
        go_ret2
        exact ⟨by rw [HR.out]; rfl, rfl⟩
      · have HR := Lib.hid (readF_yes h1 (by rw [hce]; exact hc))
        have HC := Lib.hid hc
        have HE := Lib.hid hce
        have HH := Lib.hid hh
        clear hc hce h1
        go_enter Try.func55, Try.ntmps55
        go_wp2_with (go_at_call 43; refine (specContentValid _ _ hcm).mono ?_; rintro e w' ⟨rfl, rfl⟩; rw [HC.out])
        go_ret2
        exact ⟨by rw [HR.out, HE.out]; rfl, rfl⟩
    · have HR := Lib.hid (readF_no (s := s) (by rw [head1_at s 102 hp, decide_eq_false (fun h => hh (by rw [h]; rfl))]; rfl))
      go_enter Try.func55, Try.ntmps55
      go_wp2
      go_ret2
      exact ⟨by rw [HR.out]; rfl, rfl⟩
end Go.Proofs.Ythoiljgpggldcaa
