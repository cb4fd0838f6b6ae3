/- Contracts of both ReadAt. -/
import Derived.Test.YtjombaiplnebmaaGreatDoorWalkT
open Go.RowKit
namespace Go.Proofs.YtjombaiplnebmaaGreatDoor
def ReadT (xs : List (Int × ByteArray)) (root : Int) (path : ByteArray) (s : ByteArray) (ok : Bool) : Prop :=
  ∃ q b, WalkT xs root path q b ∧ (s, ok) = (if b = true then readF (getL q xs).1 else (⟨#[]⟩, false))
theorem ReadT.same {xs : List (Int × ByteArray)} {root : Int} {path s s' : ByteArray} {ok ok' : Bool} (h : ReadT xs root path s ok) (h' : ReadT xs root path s' ok') : s = s' ∧ ok = ok' := by
  obtain ⟨q, b, hw, e⟩ := h
  obtain ⟨q', b', hw', e'⟩ := h'
  obtain ⟨rfl, rfl⟩ := hw.same hw'
  rw [← e'] at e
  injection e with e1 e2
  exact ⟨e1, e2⟩
theorem WalkT.stored {xs : List (Int × ByteArray)} {root q : Int} {path : ByteArray} (h : WalkT xs root path q true) : storeV xs = true := by
  rcases h with ⟨_, h, _⟩ | ⟨_, _, h⟩
  · exact h
  · cases h
theorem getT_of {xs : List (Int × ByteArray)} {t : Int} (h : storeV xs = true) : getT xs t = getL t xs := by unfold getT; rw [if_pos h]
theorem getT_size {xs : List (Int × ByteArray)} {t : Int} {M : Nat} (h : ∀ x ∈ xs, x.2.size ≤ M) : (getT xs t).1.size ≤ M := by
  unfold getT
  split
  · exact getL_size h
  · exact Nat.zero_le _
theorem readF_nil : readF ⟨#[]⟩ = (⟨#[]⟩, false) := readF_no (by rw [head1_short _ _ (by decide)]; rfl)
set_option maxRecDepth 8000 in
set_option maxHeartbeats 1600000 in
theorem specReadAt (A : Option Addr) (n c : Nat) (root : Int) (path : ByteArray) (xs : List (Int × ByteArray)) (w : World) (h : Rd w 2 A n (pcs xs)) (hx : ∀ x ∈ xs, x.2.size ≤ 1048576) (hn : n ≤ 1048576) (hp : path.size ≤ 1048576) :
    Calls Tryz.prog 6 #[.slice A n c, .int .i64 root, .string path] w fun e w' => ∃ s ok, e = .returned (.tuple #[.string s, .bool ok]) ∧ ReadT xs root path s ok ∧ Below w.heap.size w w' := by
  have HX := Lib.hid (show ∀ x ∈ xs, x.2.size ≤ maxLen from fun x hxx => Nat.le_trans (hx x hxx) (by unfold maxLen; omega))
  have HZ := Lib.hid hx
  clear hx
  go_enter Tryz.func6, Tryz.ntmps6
  go_wp2_with fail
  refine (specWalkTo _ _ _ root path xs _ h HZ.out hn hp).mono ?_
  rintro e w1 ⟨q, b, rfl, hq, hb1⟩
  have HQ := Lib.hid hq
  clear hq
  go_wp2_with fail
  refine (specGetText _ _ _ q xs _ (h.below hb1) HX.out (by omega)).mono ?_
  rintro e w2 ⟨rfl, hb2⟩
  have hB2 := below_step hb1 hb2
  have hs := getT_size (t := q) HZ.out
  cases b
  · have HN : Hid (ReadT xs root path ⟨#[]⟩ false) := Lib.hid ⟨q, false, HQ.out, rfl⟩
    go_wp2_with fail
    refine bodyPost_ret (v := .tuple #[.string ⟨#[]⟩, .bool false]) (by simp [results, Tryz.results6, go_sem]) rfl ?_
    first | exact ⟨_, false, rfl, HN.out, hB2⟩ | exact ⟨_, .inl ⟨rfl, HN.out, hB2⟩⟩
  · have HN : Hid (ReadT xs root path (readF (getT xs q).1).1 (readF (getT xs q).1).2) := Lib.hid ⟨q, true, HQ.out, by rw [if_pos rfl, getT_of HQ.out.stored]⟩
    generalize (getT xs q).2 = fl
    generalize (getT xs q).1 = s at *
    go_wp2_with fail
    refine (specReadFile s _ (by unfold maxLen; omega)).mono ?_
    rintro e w3 ⟨rfl, rfl⟩
    generalize (readF s).1 = s', (readF s).2 = ok at *
    go_wp2_with fail
    refine bodyPost_ret (v := .tuple #[.string s', .bool ok]) (by simp [results, Tryz.results6, go_sem]) rfl ?_
    exact ⟨s', ok, rfl, HN.out, hB2⟩
set_option maxRecDepth 8000 in
set_option maxHeartbeats 1600000 in
theorem fileOf (A : Option Addr) (n c : Nat) (t : Int) (xs : List (Int × ByteArray)) (w : World) (h : Rd w 2 A n (pcs xs)) (hv : storeV xs = true) (hx : ∀ x ∈ xs, x.2.size ≤ 1048576) (hn : n ≤ 1048576) :
    Calls Tryz.prog 22 #[.slice A n c, .int .i64 t] w fun e w' => e = .returned (.tuple #[.string (readF (getL t xs).1).1, .bool (readF (getL t xs).1).2]) ∧ Below w.heap.size w w' := by
  have hgs := getL_size (t := t) hx
  cases hg : (getL t xs).2
  · have HG := Lib.hid hg
    have hg1 : (getL t xs).1 = ⟨#[]⟩ := getL_off hg
    have HE : Hid (readF (getL t xs).1 = (⟨#[]⟩, false)) := Lib.hid (by rw [hg1]; exact readF_nil)
    clear hg hg1
    go_enter Tryz.func22, Tryz.ntmps22
    go_wp2_with fail
    refine (textOf _ _ _ t xs _ h hv (by omega)).mono ?_
    rintro e w1 ⟨rfl, hb1⟩
    rw [HG.out]
    go_wp2_with fail
    refine bodyPost_ret (v := .tuple #[.string ⟨#[]⟩, .bool false]) (by simp [results, Tryz.results22, go_sem]) rfl ?_
    exact ⟨by rw [HE.out], hb1⟩
  · have HG := Lib.hid hg
    clear hg
    go_enter Tryz.func22, Tryz.ntmps22
    go_wp2_with fail
    refine (textOf _ _ _ t xs _ h hv (by omega)).mono ?_
    rintro e w1 ⟨rfl, hb1⟩
    rw [HG.out]
    have HT : ∃ s, Hid ((getL t xs).1 = s) := ⟨_, Lib.hid rfl⟩
    obtain ⟨s, HT⟩ := HT
    rw [HT.out] at hgs ⊢
    go_wp2_with fail
    refine (implReadFile s _ (by unfold maxLen; omega)).mono ?_
    rintro e w2 ⟨rfl, rfl⟩
    have HS : ∃ r, Hid (readF s = r) := ⟨_, Lib.hid rfl⟩
    obtain ⟨⟨s', ok⟩, HS⟩ := HS
    rw [HS.out]
    go_wp2_with fail
    refine bodyPost_ret (v := .tuple #[.string s', .bool ok]) (by simp [results, Tryz.results22, go_sem]) rfl ?_
    exact ⟨by rw [HT.out, HS.out], hb1⟩
set_option maxRecDepth 8000 in
set_option maxHeartbeats 1600000 in
theorem implReadAt (A : Option Addr) (n c : Nat) (root : Int) (path : ByteArray) (xs : List (Int × ByteArray)) (mm : Int) (w : World) (h : Rd w 2 A n (pcs xs)) (hx : ∀ x ∈ xs, x.2.size ≤ 1048576) (hn : n ≤ 1048576) (hp : path.size ≤ 1048576) (hm : w.cell? ⟨0, 0, none⟩ = some (.int .i64 mm)) (hcell : w.cell? ⟨5, 15, none⟩ = some (.int .u8 4)) :
    Calls Tryz.prog 8 #[.slice A n c, .int .i64 root, .string path] w fun e w' => ∃ s ok, e = .returned (.tuple #[.string s, .bool ok]) ∧ ReadT xs root path s ok ∧ Below w.heap.size w w' := by
  have HZ := Lib.hid hx
  clear hx
  go_enter Tryz.func8, Tryz.ntmps8
  go_wp2_with fail
  refine (implWalkTo _ _ _ root path xs mm _ h HZ.out hn hp hm hcell).mono ?_
  rintro e w1 ⟨q, b, rfl, hq, hb1⟩
  have HQ := Lib.hid hq
  clear hq
  cases b
  · have HN : Hid (ReadT xs root path ⟨#[]⟩ false) := Lib.hid ⟨q, false, HQ.out, rfl⟩
    go_wp2_with fail
    refine bodyPost_ret (v := .tuple #[.string ⟨#[]⟩, .bool false]) (by simp [results, Tryz.results8, go_sem]) rfl ?_
    first | exact ⟨_, false, rfl, HN.out, hb1⟩ | exact ⟨_, .inl ⟨rfl, HN.out, hb1⟩⟩
  · have HN : Hid (ReadT xs root path (readF (getL q xs).1).1 (readF (getL q xs).1).2) := Lib.hid ⟨q, true, HQ.out, by rw [if_pos rfl]⟩
    go_wp2_with fail
    refine (fileOf _ _ _ q xs _ (h.below hb1) HQ.out.stored HZ.out hn).mono ?_
    rintro e w2 ⟨rfl, hb2⟩
    generalize (readF (getL q xs).1).1 = s', (readF (getL q xs).1).2 = ok at *
    go_wp2_with fail
    refine bodyPost_ret (v := .tuple #[.string s', .bool ok]) (by simp [results, Tryz.results8, go_sem]) rfl ?_
    exact ⟨s', ok, rfl, HN.out, below_step hb1 hb2⟩
end Go.Proofs.YtjombaiplnebmaaGreatDoor
