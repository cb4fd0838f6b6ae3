/- Contracts of what a law does with lists of texts: copies, compares, marks, looks. -/
import Derived.Test.YtjombaiplnebmaaGreatDoorWords
import Derived.Test.YtjombaiplnebmaaGreatDoorMem
import Derived.Deep.RegionWith
import Derived.Laws.BytesArg
open Go.RowKit
namespace Go.Proofs.YtjombaiplnebmaaGreatDoor
theorem str_info : (Tryz.prog.info? 9).map (fun i => (i.zero, i.size, i.bytes)) = some (some (.string ⟨#[]⟩), 1, 16) := by kernel_rfl
theorem toList_ne {x y : ByteArray} (h : ¬ x = y) : (x.toList == y.toList) = false := by
  rw [beq_eq_false_iff_ne]
  intro e
  rw [Lib.toList_data, Lib.toList_data] at e
  exact h (ByteArray.ext (Array.toList_inj.1 e))
/-- The sum of the sizes. -/
def totS (xs : List ByteArray) : Nat := (xs.map ByteArray.size).sum
theorem totS_snoc (xs : List ByteArray) (x : ByteArray) : totS (xs ++ [x]) = totS xs + x.size := by simp [totS]
theorem totS_mem {xs : List ByteArray} {x : ByteArray} (h : x ∈ xs) : x.size ≤ totS xs := by
  induction xs with
  | nil => cases h
  | cons y ys ih =>
    unfold totS at ih ⊢
    rw [List.map_cons, List.sum_cons]
    rcases List.mem_cons.1 h with rfl | h
    · omega
    · have := ih h; omega
theorem totS_take {xs : List ByteArray} (k : Nat) : totS (xs.take k) ≤ totS xs := by
  unfold totS
  conv => rhs; rw [← List.take_append_drop k xs]
  rw [List.map_append, List.sum_append]
  omega
set_option maxHeartbeats 800000 in
theorem eqStringS (A B : Option Addr) (n m c d : Nat) (xs ys : List ByteArray) (w : World) (ha : Rd w 1 A n (strs xs)) (hb : Rd w 1 B m (strs ys)) (hn : n ≤ 4194304) :
    Calls Tryz.prog 12 #[.slice A n c, .slice B m d] w fun e w' => e = .returned (.bool (decide (xs = ys))) ∧ ∃ k, w' = w.drewN k := by
  have hxl := ha.strLen
  have hyl := hb.strLen
  by_cases hnm : n = m
  · subst hnm
    have HX := Lib.hid hxl
    have HY := Lib.hid hyl
    clear hxl hyl
    go_enter Tryz.func12, Tryz.ntmps12
    go_wp2
    go_loopw [5] (fun i wr => ∃ k : Nat, k ≤ n ∧ i = .int .i64 k ∧ Hid (xs.take k = ys.take k) ∧ ∃ j, wr = w.drewN j) (fun i _ => n - (intOf i).toNat)
    case atStart => exact ⟨0, Nat.zero_le _, rfl, Lib.hid rfl, 0, rfl⟩
    case round =>
      obtain ⟨k, hk, rfl, heq, j, rfl⟩ := hrel
      by_cases hlt : k < n
      · obtain ⟨b, off, x, rfl, _, hx, hc⟩ := ha.strAt hlt
        obtain ⟨b', off', y, rfl, _, hy, hc'⟩ := hb.strAt hlt
        have HX1 := Lib.hid hx
        have HY1 := Lib.hid hy
        clear hx hy
        have hlt' : (k : Int) < (n : Int) := by omega
        by_cases hxy : x = y
        · subst hxy
          go_wp2
          go_quiet (fail)
          go_wp2
          go_roundw
          case rel => exact ⟨k + 1, by omega, by go_num, Lib.hid (by rw [take_snoc HX1.out, take_snoc HY1.out, heq.out]), _, by first | exact rfl | exact World.drewN_drewN _ _ _⟩
          case measure => simp [intOf]; omega
        · have hxy' := toList_ne hxy
          have HXY := Lib.hid hxy
          clear hxy
          go_wp2
          go_quiet (fail)
          go_wp2
          go_ret
          refine ⟨ret_bool (decide_eq_false ?_).symm, _, by first | exact rfl | exact World.drewN_drewN _ _ _⟩
          rintro rfl
          have := HX1.out.symm.trans HY1.out
          exact HXY.out (by injection this)
      · have hkn : k = n := by omega
        subst hkn
        go_wp2
        go_ret
        refine ⟨ret_bool (decide_eq_true ?_).symm, _, rfl⟩
        have h1 := heq.out
        rwa [List.take_of_length_le (by rw [HX.out]; exact Nat.le_refl _), List.take_of_length_le (by rw [HY.out]; exact Nat.le_refl _)] at h1
  · have hne : ¬ xs = ys := by rintro rfl; omega
    have HN := Lib.hid hne
    clear hne hxl hyl
    go_enter Tryz.func12, Tryz.ntmps12
    go_wp2
    go_ret
    exact ⟨ret_bool (decide_eq_false HN.out).symm, 0, rfl⟩
/-- The decimal digits of a number that is not 0, with fuel. -/
def markF : Nat → Nat → ByteArray
  | 0, _ => ⟨#[]⟩
  | f + 1, k => if k = 0 then ⟨#[]⟩ else markF f (k / 10) ++ ⟨#[UInt8.ofNat (48 + k % 10)]⟩
theorem markF_more : ∀ (f g k : Nat), k ≤ f → k ≤ g → markF f k = markF g k
  | 0, 0, _, _, _ => rfl
  | 0, g + 1, k, h, _ => by simp only [markF]; rw [if_pos (by omega)]
  | f + 1, 0, k, _, h => by simp only [markF]; rw [if_pos (by omega)]
  | f + 1, g + 1, k, hf, hg => by
    simp only [markF]
    split
    · rfl
    · rw [markF_more f g (k / 10) (by omega) (by omega)]
def markD (k : Nat) : ByteArray := markF k k
theorem markD_zero : markD 0 = ⟨#[]⟩ := rfl
theorem markD_step {k : Nat} (h : 0 < k) : markD k = markD (k / 10) ++ ⟨#[UInt8.ofNat (48 + k % 10)]⟩ := by
  unfold markD
  obtain ⟨f, rfl⟩ : ∃ f, k = f + 1 := ⟨k - 1, by omega⟩
  simp only [markF]
  rw [if_neg (by omega), markF_more f ((f + 1) / 10) _ (by omega) (by omega)]
theorem markF_size : ∀ f k : Nat, (markF f k).size ≤ f
  | 0, _ => Nat.le_refl _
  | f + 1, k => by
    simp only [markF]
    split
    · exact Nat.zero_le _
    · have := markF_size f (k / 10)
      rw [ByteArray.size_append]
      show _ + 1 ≤ _
      omega
theorem markD_size (k : Nat) : (markD k).size ≤ k := markF_size k k
def markT (k : Nat) : ByteArray := ⟨#[109]⟩ ++ markD k
theorem ba_append_assoc (a b c : ByteArray) : a ++ b ++ c = a ++ (b ++ c) := by
  apply ByteArray.ext
  simp [ByteArray.data_append, Array.append_assoc]
theorem ba_empty_append (a : ByteArray) : (⟨#[]⟩ : ByteArray) ++ a = a := by
  apply ByteArray.ext
  simp [ByteArray.data_append]
set_option maxHeartbeats 800000 in
theorem markText (k : Nat) (w : World) (h1 : 1 ≤ k) (h2 : k ≤ 16777216) :
    Calls Tryz.prog 26 #[.int .i64 (k : Int)] w fun e w' => e = .returned (.string (markT k)) ∧ Below w.heap.size w w' := by
  have hcv : ∀ (W : World) (d : Int), (convert 60 9 (.slice (some ⟨W.heap.size, 0, none⟩) 1 1)).run Tryz.prog (W.alloc (.cells #[.int .u8 d] 5)) = .ok (.string (strOfNums [d])) (W.alloc (.cells #[.int .u8 d] 5)) := fun W d =>
    run_convert_bytes_arg _ 60 5 Tryz.underlying60 Tryz.underlying5 W.heap.size 0 1 1 [d] rfl (fun i hi => by
      obtain rfl : i = 0 := by omega
      rw [cell_of_row _ _ _ _ 5 (0, 0) (heap_alloc_new W _)]
      rfl) 9 Tryz.underlying9
  have hkz := markD_size k
  go_enter Tryz.func26, Tryz.ntmps26
  go_wp2
  go_loopw [0, 3] (fun kv ov wr => ∃ (j : Nat) (o : ByteArray), kv = .int .i64 (j : Int) ∧ ov = .string o ∧ j ≤ k ∧ Hid (markD j ++ o = markD k) ∧ o.size ≤ k ∧ Below w.heap.size w wr) (fun kv _ _ => (intOf kv).toNat)
  case atStart => exact ⟨k, ⟨#[]⟩, rfl, rfl, Nat.le_refl _, Lib.hid (by apply ByteArray.ext; simp [ByteArray.data_append]), Nat.zero_le _, Below.refl _ _⟩
  case round =>
    obtain ⟨j, o, rfl, rfl, hj, heq, ho, hbel⟩ := hrel
    by_cases hlt : 0 < j
    · have hn := heq.out
      rw [markD_step hlt, ba_append_assoc] at hn
      have hsz : (⟨#[UInt8.ofNat (48 + j % 10)]⟩ ++ o : ByteArray).size ≤ k := by
        have := congrArg ByteArray.size hn
        rw [ByteArray.size_append] at this
        omega
      have hd : strOfNums [(48 : Int) + (j : Int) % 10] = ⟨#[UInt8.ofNat (48 + j % 10)]⟩ := by
        have e : ((48 : Int) + (j : Int) % 10).toNat = 48 + j % 10 := by omega
        apply ByteArray.ext
        apply Array.toList_inj.1
        rw [strOfNums_data]
        simp [e]
      have HN := Lib.hid hn
      have HD := Lib.hid hd
      have HZ := Lib.hid hsz
      have hone : (strOfNums [(48 : Int) + (j : Int) % 10]).size = 1 := by rw [strOfNums_size]; rfl
      clear hn hd heq hsz
      have hGs := hbel.size
      go_wp2
      go_roundw
      case rel => exact ⟨j / 10, _, rfl, rfl, by omega, Lib.hid (by rw [HD.out]; exact HN.out), by rw [HD.out]; exact HZ.out, hbel.alloc hGs _⟩
      case measure => simp [intOf]; omega
    · obtain rfl : j = 0 := by omega
      have hn := heq.out
      rw [markD_zero, ba_empty_append] at hn
      subst hn
      clear heq
      go_wp2
      go_ret
      exact ⟨rfl, hbel⟩
def marksS (k n : Nat) : List ByteArray := (List.range n).map fun i => markT (k + i)
theorem marksS_length (k n : Nat) : (marksS k n).length = n := by simp [marksS]
theorem marksS_at (k n j : Nat) (h : j < n) : (marksS k n)[j]? = some (markT (k + j)) := by simp [marksS, h]
theorem gtrans {a b c : World} {row : Option Nat} (h : a.grownBy b row) (k : b.grownBy c row) : a.grownBy c row :=
  ⟨k.os.trans h.os, k.tape.trans h.tape, k.output.trans h.output, Nat.le_trans h.size k.size, fun i hi hne => (k.block i (Nat.lt_of_lt_of_le hi h.size) hne).trans (h.block i hi hne)⟩
theorem gbelow {a b : World} (h : Below a.heap.size a b) (row : Option Nat) : a.grownBy b row := ⟨h.os, h.tape, h.output, h.size, fun i hi _ => h.block i hi⟩
set_option maxHeartbeats 800000 in
theorem markStringS (base : Nat) (v : Value) (n k : Nat) (xs : List ByteArray) (w : World) (h : w.ownsRow base 9 1 v n (strs xs)) (hn : n ≤ 4194304) (hk : 1 ≤ k ∧ k ≤ 8388608) :
    Calls Tryz.prog 14 #[v, .int .i64 (k : Int)] w fun e w' => e = .returned (.int .i64 ((k + n : Nat) : Int)) ∧ w'.ownsRow base 9 1 v n (strs (marksS k n)) ∧ w.grownBy w' v.ownBlock := by
  obtain ⟨k1, k2⟩ := hk
  rcases h.2 with ⟨rfl, rfl⟩ | ⟨g, cap, cur, rfl, _⟩
  · go_enter Tryz.func14, Tryz.ntmps14
    go_wp2
    go_loopw [1, 5] (fun x i wr => x = .int .i64 (k : Int) ∧ i = .int .i64 0 ∧ wr = w) (fun _ i _ => 0 - (intOf i).toNat)
    case atStart => exact ⟨rfl, rfl, rfl⟩
    case round =>
      obtain ⟨rfl, rfl, rfl⟩ := hrel
      go_wp2
      go_ret
      have e : strs (marksS k 0) = strs xs := by
        have h1 := h.1
        rw [show strs xs = [] from List.eq_nil_of_length_eq_zero (by simpa using h1)]
        rfl
      exact ⟨rfl, by rw [e]; exact h, World.grownBy.refl _ _⟩
  · have hxl : xs.length = n := by have := h.1; rw [strs_length] at this; omega
    have HX := Lib.hid hxl
    have hml := Lib.hid (show (strs (marksS k n)).length = (strs xs).length by rw [strs_length, strs_length, marksS_length, hxl])
    clear hxl
    go_enter Tryz.func14, Tryz.ntmps14
    go_wp2
    go_loopw [1, 5] (fun x i wr => ∃ j : Nat, j ≤ n ∧ i = .int .i64 j ∧ x = .int .i64 ((k + j : Nat) : Int) ∧ wr.ownsRow base 9 1 (.slice (some ⟨g, 0, none⟩) n cap) n (mix (strs (marksS k n)) (strs xs) j) ∧ w.grownBy wr (some g)) (fun _ i _ => n - (intOf i).toNat)
    case atStart => exact ⟨0, Nat.zero_le _, rfl, rfl, by rw [mix_zero]; exact h, World.grownBy.refl _ _⟩
    case round =>
      obtain ⟨j, hj, rfl, rfl, hown, hg⟩ := hrel
      by_cases hlt : j < n
      · go_wp2_with fail
        refine (markText (k + j) _ (by omega) (by omega)).mono ?_
        rintro e w2 ⟨rfl, hb2⟩
        have hown2 := own_below hown hb2
        obtain ⟨u, hu⟩ : ∃ u, w2.cell? ⟨g, j, none⟩ = some u := by
          rw [hown2.cellAt j (by omega), mix_get hml.out (by rw [strs_length, HX.out]; exact hlt)]
          exact ⟨_, List.getElem?_eq_getElem (by rw [strs_length, HX.out]; exact hlt)⟩
        have hfz := hown2.frozenAt j
        have hst := hown2.stored j (.string (markT (k + j)))
        have hst1 := hst.1
        rw [mix_set (show (strs (marksS k n))[j]? = some (.string (markT (k + j))) by simp [strs, marksS_at k n j hlt]) hml.out] at hst1
        have HST := Lib.hid hst1
        have HG := Lib.hid (gtrans (gtrans hg (gbelow hb2 _)) hst.2)
        clear hst hst1 hown hown2 hg
        go_wp2
        go_roundw
        case rel => exact ⟨j + 1, by omega, by go_num, by go_num, HST.out, HG.out⟩
        case measure => simp [intOf]; omega
      · have hjn : j = n := by omega
        subst hjn
        have e0 := mix_all (strs (marksS k j)) (strs xs) hml.out
        rw [strs_length, marksS_length] at e0
        rw [e0] at hown
        clear e0
        go_wp2
        go_ret
        exact ⟨rfl, hown, hg⟩
set_option maxHeartbeats 800000 in
theorem heldStringS (A : Option Addr) (n c k : Nat) (w : World) (h : Rd w 1 A n (strs (marksS k n))) (hn : n ≤ 4194304) (hk : 1 ≤ k ∧ k ≤ 8388608) :
    Calls Tryz.prog 15 #[.slice A n c, .int .i64 (k : Int)] w fun e w' => e = .returned (.int .i64 ((k + n : Nat) : Int)) ∧ Below w.heap.size w w' := by
  obtain ⟨k1, k2⟩ := hk
  go_enter Tryz.func15, Tryz.ntmps15
  go_wp2
  go_loopw [1, 5] (fun x i wr => ∃ j : Nat, j ≤ n ∧ i = .int .i64 j ∧ x = .int .i64 ((k + j : Nat) : Int) ∧ Below w.heap.size w wr) (fun _ i _ => n - (intOf i).toNat)
  case atStart => exact ⟨0, Nat.zero_le _, rfl, rfl, Below.refl _ _⟩
  case round =>
    obtain ⟨j, hj, rfl, rfl, hbel⟩ := hrel
    by_cases hlt : j < n
    · obtain ⟨b, off, x, rfl, hb, hx, hc⟩ := h.strAt hlt
      rw [marksS_at k n j hlt] at hx
      obtain rfl : markT (k + j) = x := by injection hx
      clear hx
      have hcr : wr.cell? ⟨b, off + j, none⟩ = some (.string (markT (k + j))) := (hbel.cell hb).trans hc
      have hbr : b < wr.heap.size := Nat.lt_of_lt_of_le hb hbel.size
      have hjn' : (j : Int) < (n : Int) := by omega
      clear hc
      go_wp2
      go_region_with (go_at_call 26; refine (markText (k + j) _ (by omega) (by omega)).mono ?_; rintro e w2 ⟨rfl, hb2⟩; have hc2 : w2.cell? ⟨b, off + j, none⟩ = some (.string (markT (k + j))) := (hb2.cell hbr).trans hcr)
      all_goals
        have hb3 := below_step hbel (below_step (below_drewN wr 1) hb2)
        go_wp2
        go_roundw
        case rel => exact ⟨j + 1, by omega, by go_num, by go_num, hb3⟩
        case measure => simp [intOf]; omega
    · have hjn : j = n := by omega
      subst hjn
      go_wp2
      go_ret
      exact ⟨rfl, hbel⟩
end Go.Proofs.YtjombaiplnebmaaGreatDoor
