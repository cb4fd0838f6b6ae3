/- Contracts: where a name belongs (slices.BinarySearchFunc, cmp.Compare). -/
import Derived.Test.YtfjlocfaibbobabFind
import Derived.Test.YtfjlocfaibbobabEnts
open Go.RowKit
namespace Go.Proofs.Ytfjlocfaibbobab
def cmpB (a b : ByteArray) : Int := if ltB a b = true then -1 else if ltB b a = true then 1 else 0
def enIs (t : ByteArray) (x : ByteArray × Int) : Bool := decide (x.1 = t)
theorem cmpB_pre (s : ByteArray) (p : Int) (t : ByteArray) : decide (cmpB s t < 0) = enBelow t (s, p) := by
  unfold cmpB enBelow
  cases h : ltB s t
  · rw [if_neg (by simp)]; split <;> simp
  · rw [if_pos rfl]; simp
theorem toList_in {x y : ByteArray} (e : x.toList = y.toList) : x = y := by
  rw [Lib.toList_data, Lib.toList_data] at e
  exact ByteArray.ext (Array.toList_inj.1 e)
theorem ltB_irrefl (a : ByteArray) : ltB a a = false := by
  have := bytesLess_total a.toList a.toList
  unfold ltB
  rw [beq_self_eq_true, Bool.or_true] at this
  simpa using this.symm
theorem ltB_neither {a b : ByteArray} (h1 : ltB a b = false) (h2 : ltB b a = false) : a = b := by
  have := bytesLess_total a.toList b.toList
  unfold ltB at h1 h2
  rw [h1, h2, Bool.false_or] at this
  exact toList_in (by simpa using this)
theorem cmpB_is (s : ByteArray) (p : Int) (t : ByteArray) : (cmpB s t == 0) = enIs t (s, p) := by
  unfold cmpB enIs
  cases h : ltB s t
  · rw [if_neg (by simp)]
    cases h2 : ltB t s
    · rw [if_neg (by simp), ltB_neither h h2]
      simp
    · rw [if_pos rfl]
      have hne : s ≠ t := fun e => by rw [e, ltB_irrefl] at h2; cases h2
      exact (show ((1 : Int) == 0) = false by decide).trans (decide_eq_false hne).symm
  · rw [if_pos rfl]
    have hne : s ≠ t := fun e => by rw [e, ltB_irrefl] at h; cases h
    exact (show ((-1 : Int) == 0) = false by decide).trans (decide_eq_false hne).symm

theorem cmpStr (a b : ByteArray) (w : World) :
    Calls Try.prog 69 #[.string a, .string b] w fun e w' => e = .returned (.int .i64 (cmpB a b)) ∧ w' = w := by
  go_enter Try.func69, Try.ntmps69
  have e0 : (a.toList != a.toList) = false := by simp
  have e1 : (b.toList != b.toList) = false := by simp
  have HT := Lib.hid (bytesLess_total a.toList b.toList)
  cases h1 : Go.Op.bytesLess a.toList b.toList
  · cases h2 : (a.toList == b.toList)
    · have h3 : Go.Op.bytesLess b.toList a.toList = true := by have := HT.out; rw [h1, h2] at this; simpa using this
      have HC : Hid (cmpB a b = 1) := Lib.hid (by unfold cmpB ltB; rw [if_neg (by rw [h1]; simp), if_pos h3])
      clear h3
      go_wp2
      go_ret
      exact ⟨by rw [HC.out]; rfl, rfl⟩
    · have h3 : Go.Op.bytesLess b.toList a.toList = false := by have := HT.out; rw [h1, h2] at this; simpa using this
      have HC : Hid (cmpB a b = 0) := Lib.hid (by unfold cmpB ltB; rw [if_neg (by rw [h1]; simp), if_neg (by rw [h3]; simp)])
      clear h3
      go_wp2
      go_ret
      exact ⟨by rw [HC.out]; rfl, rfl⟩
  · have HC : Hid (cmpB a b = -1) := Lib.hid (by unfold cmpB ltB; rw [if_pos h1])
    go_wp2
    go_ret
    exact ⟨by rw [HC.out]; rfl, rfl⟩
theorem findEntryOf (s : ByteArray) (p : Int) (t : ByteArray) (w : World) :
    Calls Try.prog 68 #[.agg #[.string s, .int .i64 p], .string t] w fun e w' => e = .returned (.int .i64 (cmpB s t)) ∧ Below w.heap.size w w' := by
  go_enter Try.func68, Try.ntmps68
  go_wp2_with (go_at_call 69; refine (cmpStr _ _ _).mono ?_; rintro e w' ⟨rfl, rfl⟩)
  go_ret
  exact ⟨rfl, (Below.refl _ _).alloc (Nat.le_refl _) _⟩
set_option maxHeartbeats 1600000 in
theorem searchEntry (A : Option Addr) (n c : Nat) (t : ByteArray) (xs : List (ByteArray × Int)) (w : World) (h : Rd w 2 A n (ens xs)) (hf : Falls (enBelow t) xs) (hn : n ≤ 4194304) :
    Calls Try.prog 67 #[.slice A n c, .string t, .func (.func 68) #[] #[]] w fun e w' => e = .returned (.tuple #[.int .i64 ((posOf (enBelow t) xs : Nat) : Int), .bool (foundOf (enBelow t) (enIs t) xs)]) ∧ Below w.heap.size w w' := by
  have HX := Lib.hid h.enLen
  have HF := Lib.hid hf
  clear hf
  go_enter Try.func67, Try.ntmps67
  go_wp2_with fail
  go_loopw [9, 10] (fun iv jv wr => ∃ i j : Nat, iv = .int .i64 (i : Int) ∧ jv = .int .i64 (j : Int) ∧ i ≤ j ∧ j ≤ n ∧ Halved (enBelow t) xs i j ∧ Below w.heap.size w wr) (fun iv jv _ => (intOf jv).toNat - (intOf iv).toNat)
  case atStart => exact ⟨0, n, rfl, rfl, Nat.zero_le _, Nat.le_refl _, by rw [← HX.out]; exact halved_start _ _, Below.refl _ _⟩
  case round =>
    obtain ⟨i, j, rfl, rfl, hij, hjn, hh, hb⟩ := hrel
    have HH := Lib.hid hh
    clear hh
    have hr := h.below hb
    by_cases hlt : i < j
    · obtain ⟨bb, off, s, p, rfl, _, hx, hc0, hc1⟩ := hr.enAt (show (i + j) / 2 < n by omega)
      have hp := cmpB_pre s p t
      obtain ⟨z, hz⟩ : ∃ z, cmpB s t = z := ⟨_, rfl⟩
      rw [hz] at hp
      have HZ := Lib.hid hz
      clear hz
      cases hb' : enBelow t (s, p)
      · rw [hb'] at hp
        have HL := Lib.hid (halved_left HF.out HH.out hx hb')
        clear hx hb'
        go_wp2_with (go_at_call 68; refine (findEntryOf s p t _).mono ?_; rintro e w2 ⟨rfl, hb2⟩; rw [HZ.out])
        go_roundw
        case rel => exact ⟨i, (i + j) / 2, rfl, by go_num, by omega, by omega, HL.out, below_step hb hb2⟩
        case measure => simp [intOf]; omega
      · rw [hb'] at hp
        have HL := Lib.hid (halved_right HF.out HH.out hx hb')
        clear hx hb'
        go_wp2_with (go_at_call 68; refine (findEntryOf s p t _).mono ?_; rintro e w2 ⟨rfl, hb2⟩; rw [HZ.out])
        go_roundw
        case rel => exact ⟨(i + j) / 2 + 1, j, by go_num, rfl, by omega, by omega, HL.out, below_step hb hb2⟩
        case measure => simp [intOf]; omega
    · obtain rfl : i = j := by omega
      have HE := Lib.hid (halved_end (by rw [HX.out]; omega) HH.out)
      by_cases hin : i < n
      · obtain ⟨bb, off, s, p, rfl, _, hx, hc0, hc1⟩ := hr.enAt hin
        have hp := cmpB_is s p t
        obtain ⟨z, hz⟩ : ∃ z, cmpB s t = z := ⟨_, rfl⟩
        rw [hz] at hp
        have HZ := Lib.hid hz
        have HW : Hid (foundOf (enBelow t) (enIs t) xs = enIs t (s, p)) := Lib.hid (by unfold foundOf; rw [HE.out, hx])
        clear hz hx
        generalize enIs t (s, p) = b at *
        go_wp2_with (go_at_call 68; refine (findEntryOf s p t _).mono ?_; rintro e w2 ⟨rfl, hb2⟩; rw [HZ.out])
        go_ret2
        exact ⟨by rw [HE.out, HW.out]; rfl, below_step hb hb2⟩
      · have HW : Hid (foundOf (enBelow t) (enIs t) xs = false) := Lib.hid (by unfold foundOf; rw [HE.out, List.getElem?_eq_none (by rw [HX.out]; omega)])
        go_wp2_with fail
        go_ret2
        exact ⟨by rw [HE.out, HW.out]; rfl, hb⟩
theorem findEntryC (A : Option Addr) (n c : Nat) (t : ByteArray) (xs : List (ByteArray × Int)) (w : World) (h : Rd w 2 A n (ens xs)) (hf : Falls (enBelow t) xs) (hn : n ≤ 4194304) :
    Calls Try.prog 41 #[.slice A n c, .string t] w fun e w' => e = .returned (.tuple #[.int .i64 ((posOf (enBelow t) xs : Nat) : Int), .bool (foundOf (enBelow t) (enIs t) xs)]) ∧ Below w.heap.size w w' := by
  go_enter Try.func41, Try.ntmps41
  go_wp2_with (go_at_call 67; refine (searchEntry _ _ _ _ _ _ h hf hn).mono ?_; rintro e w2 ⟨rfl, hb2⟩)
  go_ret2
  exact ⟨rfl, hb2⟩
end Go.Proofs.Ytfjlocfaibbobab
