/- Contracts of what a law does with lists of texts: copies, compares, marks, looks. -/
import Derived.Test.YtjombaiplnebmaaDoorWords
import Derived.Test.YtjombaiplnebmaaDoorMem
import Derived.Deep.RegionWith
import Derived.Laws.BytesArg
open Go.RowKit
namespace Go.Proofs.YtjombaiplnebmaaDoor
theorem str_info : (Tryd.prog.info? 9).map (fun i => (i.zero, i.size, i.bytes)) = some (some (.string ⟨#[]⟩), 1, 16) := by kernel_rfl
theorem toList_ne {x y : ByteArray} (h : ¬ x = y) : (x.toList == y.toList) = false := by
  rw [beq_eq_false_iff_ne]
  intro e
  rw [Lib.toList_data, Lib.toList_data] at e
  exact h (ByteArray.ext (Array.toList_inj.1 e))
/-- The sum of the sizes. -/
def totS (xs : List ByteArray) : Nat := (xs.map ByteArray.size).sum
theorem totS_snoc (xs : List ByteArray) (x : ByteArray) : totS (xs ++ [x]) = totS xs + x.size := by simp [totS]
theorem totS_mem {xs : List ByteArray} {x : ByteArray} (h : x ∈ xs) : x.size ≤ totS xs := by
  induction xs with
  | nil => cases h
  | cons y ys ih =>
    unfold totS at ih ⊢
    rw [List.map_cons, List.sum_cons]
    rcases List.mem_cons.1 h with rfl | h
    · omega
    · have := ih h; omega
theorem totS_take {xs : List ByteArray} (k : Nat) : totS (xs.take k) ≤ totS xs := by
  unfold totS
  conv => rhs; rw [← List.take_append_drop k xs]
  rw [List.map_append, List.sum_append]
  omega
/-- The decimal digits of a number that is not 0, with fuel. -/
def markF : Nat → Nat → ByteArray
  | 0, _ => ⟨#[]⟩
  | f + 1, k => if k = 0 then ⟨#[]⟩ else markF f (k / 10) ++ ⟨#[UInt8.ofNat (48 + k % 10)]⟩
theorem markF_more : ∀ (f g k : Nat), k ≤ f → k ≤ g → markF f k = markF g k
  | 0, 0, _, _, _ => rfl
  | 0, g + 1, k, h, _ => by simp only [markF]; rw [if_pos (by omega)]
  | f + 1, 0, k, _, h => by simp only [markF]; rw [if_pos (by omega)]
  | f + 1, g + 1, k, hf, hg => by
    simp only [markF]
    split
    · rfl
    · rw [markF_more f g (k / 10) (by omega) (by omega)]
def markD (k : Nat) : ByteArray := markF k k
theorem markD_zero : markD 0 = ⟨#[]⟩ := rfl
theorem markD_step {k : Nat} (h : 0 < k) : markD k = markD (k / 10) ++ ⟨#[UInt8.ofNat (48 + k % 10)]⟩ := by
  unfold markD
  obtain ⟨f, rfl⟩ : ∃ f, k = f + 1 := ⟨k - 1, by omega⟩
  simp only [markF]
  rw [if_neg (by omega), markF_more f ((f + 1) / 10) _ (by omega) (by omega)]
theorem markF_size : ∀ f k : Nat, (markF f k).size ≤ f
  | 0, _ => Nat.le_refl _
  | f + 1, k => by
    simp only [markF]
    split
    · exact Nat.zero_le _
    · have := markF_size f (k / 10)
      rw [ByteArray.size_append]
      show _ + 1 ≤ _
      omega
theorem markD_size (k : Nat) : (markD k).size ≤ k := markF_size k k
def markT (k : Nat) : ByteArray := ⟨#[109]⟩ ++ markD k
theorem ba_append_assoc (a b c : ByteArray) : a ++ b ++ c = a ++ (b ++ c) := by
  apply ByteArray.ext
  simp [ByteArray.data_append, Array.append_assoc]
theorem ba_empty_append (a : ByteArray) : (⟨#[]⟩ : ByteArray) ++ a = a := by
  apply ByteArray.ext
  simp [ByteArray.data_append]
set_option maxHeartbeats 800000 in
theorem markText (k : Nat) (w : World) (h1 : 1 ≤ k) (h2 : k ≤ 16777216) :
    Calls Tryd.prog 41 #[.int .i64 (k : Int)] w fun e w' => e = .returned (.string (markT k)) ∧ Below w.heap.size w w' := by
  have hcv : ∀ (W : World) (d : Int), (convert 22 9 (.slice (some ⟨W.heap.size, 0, none⟩) 1 1)).run Tryd.prog (W.alloc (.cells #[.int .u8 d] 5)) = .ok (.string (strOfNums [d])) (W.alloc (.cells #[.int .u8 d] 5)) := fun W d =>
    run_convert_bytes_arg _ 22 5 Tryd.underlying22 Tryd.underlying5 W.heap.size 0 1 1 [d] rfl (fun i hi => by
      obtain rfl : i = 0 := by omega
      rw [cell_of_row _ _ _ _ 5 (0, 0) (heap_alloc_new W _)]
      rfl) 9 Tryd.underlying9
  have hkz := markD_size k
  go_enter Tryd.func41, Tryd.ntmps41
  go_wp2
  go_loopw [0, 3] (fun kv ov wr => ∃ (j : Nat) (o : ByteArray), kv = .int .i64 (j : Int) ∧ ov = .string o ∧ j ≤ k ∧ Hid (markD j ++ o = markD k) ∧ o.size ≤ k ∧ Below w.heap.size w wr) (fun kv _ _ => (intOf kv).toNat)
  case atStart => exact ⟨k, ⟨#[]⟩, rfl, rfl, Nat.le_refl _, Lib.hid (by apply ByteArray.ext; simp [ByteArray.data_append]), Nat.zero_le _, Below.refl _ _⟩
  case round =>
    obtain ⟨j, o, rfl, rfl, hj, heq, ho, hbel⟩ := hrel
    by_cases hlt : 0 < j
    · have hn := heq.out
      rw [markD_step hlt, ba_append_assoc] at hn
      have hsz : (⟨#[UInt8.ofNat (48 + j % 10)]⟩ ++ o : ByteArray).size ≤ k := by
        have := congrArg ByteArray.size hn
        rw [ByteArray.size_append] at this
        omega
      have hd : strOfNums [(48 : Int) + (j : Int) % 10] = ⟨#[UInt8.ofNat (48 + j % 10)]⟩ := by
        have e : ((48 : Int) + (j : Int) % 10).toNat = 48 + j % 10 := by omega
        apply ByteArray.ext
        apply Array.toList_inj.1
        rw [strOfNums_data]
        simp [e]
      have HN := Lib.hid hn
      have HD := Lib.hid hd
      have HZ := Lib.hid hsz
      have hone : (strOfNums [(48 : Int) + (j : Int) % 10]).size = 1 := by rw [strOfNums_size]; rfl
      clear hn hd heq hsz
      have hGs := hbel.size
      go_wp2
      go_roundw
      case rel => exact ⟨j / 10, _, rfl, rfl, by omega, Lib.hid (by rw [HD.out]; exact HN.out), by rw [HD.out]; exact HZ.out, hbel.alloc hGs _⟩
      case measure => simp [intOf]; omega
    · obtain rfl : j = 0 := by omega
      have hn := heq.out
      rw [markD_zero, ba_empty_append] at hn
      subst hn
      clear heq
      go_wp2
      go_ret
      exact ⟨rfl, hbel⟩
end Go.Proofs.YtjombaiplnebmaaDoor
