/- Contracts of what a law does with lists of texts: copies, compares, marks, looks. -/
import Derived.Test.YtgnliaekngbmbaaWords
import Derived.Test.YtgnliaekngbmbaaMem
import Derived.Deep.RegionWith
import Derived.Laws.BytesArg
open Go.RowKit
namespace Go.Proofs.Ytgnliaekngbmbaa
theorem str_info : (Try.prog.info? 9).map (fun i => (i.zero, i.size, i.bytes)) = some (some (.string ⟨#[]⟩), 1, 16) := by kernel_rfl
theorem toList_ne {x y : ByteArray} (h : ¬ x = y) : (x.toList == y.toList) = false := by
  rw [beq_eq_false_iff_ne]
  intro e
  rw [Lib.toList_data, Lib.toList_data] at e
  exact h (ByteArray.ext (Array.toList_inj.1 e))
/-- The sum of the sizes. -/
def totS (xs : List ByteArray) : Nat := (xs.map ByteArray.size).sum
theorem totS_snoc (xs : List ByteArray) (x : ByteArray) : totS (xs ++ [x]) = totS xs + x.size := by simp [totS]
theorem totS_mem {xs : List ByteArray} {x : ByteArray} (h : x ∈ xs) : x.size ≤ totS xs := by
  induction xs with
  | nil => cases h
  | cons y ys ih =>
    unfold totS at ih ⊢
    rw [List.map_cons, List.sum_cons]
    rcases List.mem_cons.1 h with rfl | h
    · omega
    · have := ih h; omega
theorem totS_take {xs : List ByteArray} (k : Nat) : totS (xs.take k) ≤ totS xs := by
  unfold totS
  conv => rhs; rw [← List.take_append_drop k xs]
  rw [List.map_append, List.sum_append]
  omega
set_option maxHeartbeats 400000 in
theorem szStringS (A : Option Addr) (n c : Nat) (l : Int) (xs : List ByteArray) (w : World) (h : Rd w 1 A n (strs xs)) (hx : ∀ x ∈ xs, x.size ≤ maxLen) (hn : n ≤ maxLen) (hl : 0 ≤ l ∧ l ≤ 2097152) :
    Calls Try.prog 20 #[.slice A n c, .int .i64 l] w fun e w' => (∃ x : Int, e = .returned (.int .i64 x) ∧ (0 ≤ x → (n : Int) + totS xs = l - x) ∧ -1 ≤ x) ∧ w = w' := by
  obtain ⟨l0, l1⟩ := hl
  have hm : maxLen = 9223372036854775807 := by unfold maxLen; rfl
  rw [hm] at hn
  have HXL := Lib.hid h.strLen
  have HM := Lib.hid hm
  clear hm
  by_cases h1 : (n : Int) ≤ l
  · go_enter Try.func20, Try.ntmps20
    go_wp2
    go_loop [1, 5] (fun x i => ∃ (k : Nat) (y : Int), k ≤ n ∧ i = .int .i64 k ∧ x = .int .i64 y ∧ 0 ≤ y ∧ y ≤ l ∧ Hid ((n : Int) + totS (xs.take k) = l - y)) (fun _ i => n - (intOf i).toNat)
    case atStart => exact ⟨0, _, Nat.zero_le _, rfl, rfl, by omega, by omega, Lib.hid (by show (n : Int) + ((totS [] : Nat) : Int) = _; simp [totS]; omega)⟩
    case round =>
      obtain ⟨k, y, hk, rfl, rfl, y0, y1, HY⟩ := hrel
      by_cases hlt : k < n
      · obtain ⟨b, off, x, rfl, _, hxk, hc⟩ := h.strAt hlt
        have hxs := hx x (List.mem_of_getElem? hxk)
        rw [HM.out] at hxs
        have HS := Lib.hid (show totS (xs.take (k + 1)) = totS (xs.take k) + x.size by rw [take_snoc hxk, totS_snoc])
        clear hxk hx
        by_cases hs : (x.size : Int) ≤ y
        · go_wp2
          go_round
          case rel => exact ⟨k + 1, _, by omega, by go_num, rfl, by omega, by omega, Lib.hid (by have := HY.out; have := HS.out; omega)⟩
          case measure => simp [intOf]; omega
        · go_wp2
          go_ret
          exact ⟨⟨-1, rfl, fun h => by omega, by omega⟩, rfl⟩
      · have hkn : k = n := by omega
        subst hkn
        have hy := HY.out
        rw [List.take_of_length_le (by rw [HXL.out]; exact Nat.le_refl _)] at hy
        have HY' := Lib.hid hy
        clear hy hx
        go_wp2
        go_ret
        exact ⟨⟨y, rfl, fun _ => HY'.out, by omega⟩, rfl⟩
  · go_enter Try.func20, Try.ntmps20
    go_wp2
    go_ret
    exact ⟨⟨-1, rfl, fun h => by omega, by omega⟩, rfl⟩
set_option maxHeartbeats 400000 in
theorem toStringS (A : Option Addr) (n c : Nat) (xs : List ByteArray) (w : World) (h : Rd w 1 A n (strs xs)) (hn : n ≤ 4194304) :
    Calls Try.prog 22 #[.slice A n c] w fun e w' => ∃ v, e = .returned v ∧ w'.ownsRow w.heap.size 9 1 v n (strs xs) ∧ Below w.heap.size w w' := by
  obtain ⟨i0, hi0, hz0, hz1, hz2⟩ := info_parts str_info
  have hxl := Lib.hid h.strLen
  go_enter Try.func22, Try.ntmps22
  go_wp2_with (at_make; refine wpList_make_full _ rfl _ _ 33 rfl w.heap.size 9 i0 (.string ⟨#[]⟩) 1 Try.underlying33 hi0 hz0 hz1 .i64 .i64 _ _ n rfl rfl rfl rfl (by rw [hz2]; omega) (by unfold maxLen; omega) (Nat.le_refl _) ?_; intro w1 hown1 hg1)
  have hb1 : Below w.heap.size w w1 := (Below.refl _ _).grown hg1 (Nat.le_refl _) (by simp)
  clear hg1
  generalize (madeCells (Value.string ⟨#[]⟩).cells (n * 1)).toList = zs at hown1
  have hzl : Hid (zs.length = n) := by have := hown1.1; exact Lib.hid (by omega)
  generalize hG : w.heap.size = G at hown1 hb1 ⊢
  have HG := Lib.hid hG
  clear hG
  go_loopw [4] (fun i wr => ∃ k : Nat, k ≤ n ∧ i = .int .i64 k ∧ wr.ownsRow G 9 1 (.slice (some ⟨G, 0, none⟩) n n) n (mix (strs xs) zs k) ∧ Below G w wr) (fun i _ => n - (intOf i).toNat)
  case atStart => exact ⟨0, Nat.zero_le _, rfl, by rw [mix_zero]; exact hown1, hb1⟩
  case round =>
    obtain ⟨k, hk, rfl, hown, hbel⟩ := hrel
    by_cases hlt : k < n
    · obtain ⟨b, off, x, rfl, hb, hx, hc⟩ := h.strAt hlt
      have hc' : wr.cell? ⟨b, off + k, none⟩ = some (.string x) := (hbel.cell (by rw [← HG.out]; exact hb)).trans hc
      have hl : (strs xs).length = zs.length := by rw [strs_length, hxl.out, hzl.out]
      obtain ⟨v, hv⟩ : ∃ v, wr.cell? ⟨G, k, none⟩ = some v := by
        rw [hown.cellAt k (by omega), mix_get hl (by rw [hzl.out]; exact hlt)]
        exact ⟨_, List.getElem?_eq_getElem (by rw [hzl.out]; exact hlt)⟩
      have hfz := hown.frozenAt k
      have hst := (hown.stored k (.string x)).1
      rw [mix_set (show (strs xs)[k]? = some (.string x) by simp [strs, hx]) hl] at hst
      have HST := Lib.hid hst
      have HB := Lib.hid (hbel.setCell (p := ⟨G, k, none⟩) (Nat.le_refl _) (.string x))
      clear hst hl hx hc h hown hbel
      go_wp2
      go_roundw
      case rel => exact ⟨k + 1, by omega, by go_num, HST.out, HB.out⟩
      case measure => simp [intOf]; omega
    · have hkn : k = n := by omega
      subst hkn
      have e : mix (strs xs) zs k = strs xs := by have e0 := mix_all (strs xs) zs (by rw [strs_length, hxl.out, hzl.out]); rwa [strs_length, hxl.out] at e0
      rw [e] at hown
      go_wp2
      go_ret
      refine ⟨_, rfl, ?_, ?_⟩
      · rw [HG.out]; exact hown
      · rw [HG.out]; exact hbel
set_option maxHeartbeats 800000 in
theorem eqStringS (A B : Option Addr) (n m c d : Nat) (xs ys : List ByteArray) (w : World) (ha : Rd w 1 A n (strs xs)) (hb : Rd w 1 B m (strs ys)) (hn : n ≤ 4194304) :
    Calls Try.prog 24 #[.slice A n c, .slice B m d] w fun e w' => e = .returned (.bool (decide (xs = ys))) ∧ ∃ k, w' = w.drewN k := by
  have hxl := ha.strLen
  have hyl := hb.strLen
  by_cases hnm : n = m
  · subst hnm
    have HX := Lib.hid hxl
    have HY := Lib.hid hyl
    clear hxl hyl
    go_enter Try.func24, Try.ntmps24
    go_wp2
    go_loopw [5] (fun i wr => ∃ k : Nat, k ≤ n ∧ i = .int .i64 k ∧ Hid (xs.take k = ys.take k) ∧ ∃ j, wr = w.drewN j) (fun i _ => n - (intOf i).toNat)
    case atStart => exact ⟨0, Nat.zero_le _, rfl, Lib.hid rfl, 0, rfl⟩
    case round =>
      obtain ⟨k, hk, rfl, heq, j, rfl⟩ := hrel
      by_cases hlt : k < n
      · obtain ⟨b, off, x, rfl, _, hx, hc⟩ := ha.strAt hlt
        obtain ⟨b', off', y, rfl, _, hy, hc'⟩ := hb.strAt hlt
        have HX1 := Lib.hid hx
        have HY1 := Lib.hid hy
        clear hx hy
        have hlt' : (k : Int) < (n : Int) := by omega
        by_cases hxy : x = y
        · subst hxy
          go_wp2
          go_quiet (fail)
          go_wp2
          go_roundw
          case rel => exact ⟨k + 1, by omega, by go_num, Lib.hid (by rw [take_snoc HX1.out, take_snoc HY1.out, heq.out]), _, by first | exact rfl | exact World.drewN_drewN _ _ _⟩
          case measure => simp [intOf]; omega
        · have hxy' := toList_ne hxy
          have HXY := Lib.hid hxy
          clear hxy
          go_wp2
          go_quiet (fail)
          go_wp2
          go_ret
          refine ⟨ret_bool (decide_eq_false ?_).symm, _, by first | exact rfl | exact World.drewN_drewN _ _ _⟩
          rintro rfl
          have := HX1.out.symm.trans HY1.out
          exact HXY.out (by injection this)
      · have hkn : k = n := by omega
        subst hkn
        go_wp2
        go_ret
        refine ⟨ret_bool (decide_eq_true ?_).symm, _, rfl⟩
        have h1 := heq.out
        rwa [List.take_of_length_le (by rw [HX.out]; exact Nat.le_refl _), List.take_of_length_le (by rw [HY.out]; exact Nat.le_refl _)] at h1
  · have hne : ¬ xs = ys := by rintro rfl; omega
    have HN := Lib.hid hne
    clear hne hxl hyl
    go_enter Try.func24, Try.ntmps24
    go_wp2
    go_ret
    exact ⟨ret_bool (decide_eq_false HN.out).symm, 0, rfl⟩
/-- The decimal digits of a number that is not 0, with fuel. -/
def markF : Nat → Nat → ByteArray
  | 0, _ => ⟨#[]⟩
  | f + 1, k => if k = 0 then ⟨#[]⟩ else markF f (k / 10) ++ ⟨#[UInt8.ofNat (48 + k % 10)]⟩
theorem markF_more : ∀ (f g k : Nat), k ≤ f → k ≤ g → markF f k = markF g k
  | 0, 0, _, _, _ => rfl
  | 0, g + 1, k, h, _ => by simp only [markF]; rw [if_pos (by omega)]
  | f + 1, 0, k, _, h => by simp only [markF]; rw [if_pos (by omega)]
  | f + 1, g + 1, k, hf, hg => by
    simp only [markF]
    split
    · rfl
    · rw [markF_more f g (k / 10) (by omega) (by omega)]
def markD (k : Nat) : ByteArray := markF k k
theorem markD_zero : markD 0 = ⟨#[]⟩ := rfl
theorem markD_step {k : Nat} (h : 0 < k) : markD k = markD (k / 10) ++ ⟨#[UInt8.ofNat (48 + k % 10)]⟩ := by
  unfold markD
  obtain ⟨f, rfl⟩ : ∃ f, k = f + 1 := ⟨k - 1, by omega⟩
  simp only [markF]
  rw [if_neg (by omega), markF_more f ((f + 1) / 10) _ (by omega) (by omega)]
theorem markF_size : ∀ f k : Nat, (markF f k).size ≤ f
  | 0, _ => Nat.le_refl _
  | f + 1, k => by
    simp only [markF]
    split
    · exact Nat.zero_le _
    · have := markF_size f (k / 10)
      rw [ByteArray.size_append]
      show _ + 1 ≤ _
      omega
theorem markD_size (k : Nat) : (markD k).size ≤ k := markF_size k k
def markT (k : Nat) : ByteArray := ⟨#[109]⟩ ++ markD k
theorem ba_append_assoc (a b c : ByteArray) : a ++ b ++ c = a ++ (b ++ c) := by
  apply ByteArray.ext
  simp [ByteArray.data_append, Array.append_assoc]
theorem ba_empty_append (a : ByteArray) : (⟨#[]⟩ : ByteArray) ++ a = a := by
  apply ByteArray.ext
  simp [ByteArray.data_append]
set_option maxHeartbeats 800000 in
theorem markText (k : Nat) (w : World) (h1 : 1 ≤ k) (h2 : k ≤ 16777216) :
    Calls Try.prog 82 #[.int .i64 (k : Int)] w fun e w' => e = .returned (.string (markT k)) ∧ Below w.heap.size w w' := by
  have hcv : ∀ (W : World) (d : Int), (convert 22 9 (.slice (some ⟨W.heap.size, 0, none⟩) 1 1)).run Try.prog (W.alloc (.cells #[.int .u8 d] 5)) = .ok (.string (strOfNums [d])) (W.alloc (.cells #[.int .u8 d] 5)) := fun W d =>
    run_convert_bytes_arg _ 22 5 Try.underlying22 Try.underlying5 W.heap.size 0 1 1 [d] rfl (fun i hi => by
      obtain rfl : i = 0 := by omega
      rw [cell_of_row _ _ _ _ 5 (0, 0) (heap_alloc_new W _)]
      rfl) 9 Try.underlying9
  have hkz := markD_size k
  go_enter Try.func82, Try.ntmps82
  go_wp2
  go_loopw [0, 3] (fun kv ov wr => ∃ (j : Nat) (o : ByteArray), kv = .int .i64 (j : Int) ∧ ov = .string o ∧ j ≤ k ∧ Hid (markD j ++ o = markD k) ∧ o.size ≤ k ∧ Below w.heap.size w wr) (fun kv _ _ => (intOf kv).toNat)
  case atStart => exact ⟨k, ⟨#[]⟩, rfl, rfl, Nat.le_refl _, Lib.hid (by apply ByteArray.ext; simp [ByteArray.data_append]), Nat.zero_le _, Below.refl _ _⟩
  case round =>
    obtain ⟨j, o, rfl, rfl, hj, heq, ho, hbel⟩ := hrel
    by_cases hlt : 0 < j
    · have hn := heq.out
      rw [markD_step hlt, ba_append_assoc] at hn
      have hsz : (⟨#[UInt8.ofNat (48 + j % 10)]⟩ ++ o : ByteArray).size ≤ k := by
        have := congrArg ByteArray.size hn
        rw [ByteArray.size_append] at this
        omega
      have hd : strOfNums [(48 : Int) + (j : Int) % 10] = ⟨#[UInt8.ofNat (48 + j % 10)]⟩ := by
        have e : ((48 : Int) + (j : Int) % 10).toNat = 48 + j % 10 := by omega
        apply ByteArray.ext
        apply Array.toList_inj.1
        rw [strOfNums_data]
        simp [e]
      have HN := Lib.hid hn
      have HD := Lib.hid hd
      have HZ := Lib.hid hsz
      have hone : (strOfNums [(48 : Int) + (j : Int) % 10]).size = 1 := by rw [strOfNums_size]; rfl
      clear hn hd heq hsz
      have hGs := hbel.size
      go_wp2
      go_roundw
      case rel => exact ⟨j / 10, _, rfl, rfl, by omega, Lib.hid (by rw [HD.out]; exact HN.out), by rw [HD.out]; exact HZ.out, hbel.alloc hGs _⟩
      case measure => simp [intOf]; omega
    · obtain rfl : j = 0 := by omega
      have hn := heq.out
      rw [markD_zero, ba_empty_append] at hn
      subst hn
      clear heq
      go_wp2
      go_ret
      exact ⟨rfl, hbel⟩
end Go.Proofs.Ytgnliaekngbmbaa
