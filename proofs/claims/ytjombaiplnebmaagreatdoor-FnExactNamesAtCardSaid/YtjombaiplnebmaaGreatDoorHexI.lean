/- Contracts of the program's HexText and of what it calls in the library. -/
import Derived.Test.YtjombaiplnebmaaGreatDoorMpl
import Derived.Test.YtjombaiplnebmaaGreatDoorHexS
import Derived.Test.YtjombaiplnebmaaGreatDoorWords
import Derived.Test.YtjombaiplnebmaaGreatDoorMow
import Derived.Laws.Bits64b
import Derived.Laws.BytesArg
open Go.RowKit
namespace Go.Proofs.YtjombaiplnebmaaGreatDoor
theorem isPow16 (w : World) : Calls Tryz.prog 107 #[.int .i64 16] w fun e w' => e = .returned (.bool true) ∧ w = w' := by
  have h1 : bits .and .i64 16 15 = 0 := by decide
  go_enter Tryz.func107, Tryz.ntmps107
  go_wp2_with fail
  go_ret
  exact ⟨rfl, rfl⟩
theorem tz64of (x k idx : Nat) (w : World) (hx0 : ((x : Int) == 0) = false)
    (key : IntKind.u64.wrap (bits BinOp.and IntKind.u64 (x : Int) (IntKind.u64.wrap (-(x : Int))) * 285870213051353865) / 288230376151711744 = (idx : Int))
    (hi : idx < 64) (hk : k < 64) (hcell : w.cell? ⟨5, idx, none⟩ = some (.int .u8 k)) :
    Calls Tryz.prog 110 #[.int .u64 x] w fun e w' => e = .returned (.int .i64 k) ∧ w = w' := by
  go_enter Tryz.func110, Tryz.ntmps110
  go_wp2_with (simp only [key])
  go_ret
  exact ⟨rfl, rfl⟩
theorem tz16 (w : World) (hcell : w.cell? ⟨5, 15, none⟩ = some (.int .u8 4)) :
    Calls Tryz.prog 110 #[.int .u64 16] w fun e w' => e = .returned (.int .i64 4) ∧ w = w' :=
  tz64of 16 4 15 w (by decide) (by decide) (by decide) (by decide) hcell
theorem tzU16 (w : World) (hcell : w.cell? ⟨5, 15, none⟩ = some (.int .u8 4)) :
    Calls Tryz.prog 108 #[.int .u64 16] w fun e w' => e = .returned (.int .i64 4) ∧ w = w' := by
  go_enter Tryz.func108, Tryz.ntmps108
  go_wp2_with (go_at_call 110; refine (tz16 _ hcell).mono ?_; rintro e w' ⟨rfl, rfl⟩)
  go_ret
  exact ⟨rfl, rfl⟩
def byteV (l : List UInt8) : List Value := l.map fun c => Value.int .u8 (c.toNat : Int)
def digs36 : ByteArray := ⟨#[48, 49, 50, 51, 52, 53, 54, 55, 56, 57, 97, 98, 99, 100, 101, 102, 103, 104, 105, 106, 107, 108, 109, 110, 111, 112, 113, 114, 115, 116, 117, 118, 119, 120, 121, 122]⟩
theorem digs_at : ∀ d, (h : d < 16) → (⟨#[48, 49, 50, 51, 52, 53, 54, 55, 56, 57, 97, 98, 99, 100, 101, 102, 103, 104, 105, 106, 107, 108, 109, 110, 111, 112, 113, 114, 115, 116, 117, 118, 119, 120, 121, 122]⟩ : ByteArray)[d]'(Nat.lt_of_lt_of_le h (by decide)) = hexC d := by decide
theorem slice65 (W : World) (g k : Nat) (h1 : 1 ≤ k) (h : k ≤ 65) : (Instr.sliceAt 115 (.pointer (some ⟨g, 0, none⟩)) (some (.int .i64 ((k : Int) - 1))) none none).run Tryz.prog W = .ok (.slice (some ⟨g, k - 1, none⟩) (66 - k) (66 - k)) W := by
  have ha : Tryz.prog.arrayLen 115 = 65 := by kernel_rfl
  have he : Tryz.prog.elem 115 = 5 := by kernel_rfl
  have hbi : (Tryz.prog.info? 5).map (fun i => (i.zero, i.size, i.bytes)) = some (some (.int .u8 0), 1, 1) := by kernel_rfl
  obtain ⟨i0, hi0, _, hz1, _⟩ := info_parts hbi
  have hz : (sizeOf 5).run Tryz.prog W = .ok 1 W := by simp [sizeOf, typeInfo, hi0, hz1]
  have hk : ((k : Int) - 1).toNat = k - 1 := by omega
  have hn : ¬ 65 = k - 1 := by omega
  rw [run_sliceAt_array_l W 115 ⟨g, 0, none⟩ (by kernel_rfl) .i64 ((k : Int) - 1) (by omega) (by rw [ha]; omega), he, hz, ha, hk]
  simp only [Result.andThen_ok, slicedAt, if_neg hn, Addr.add, Nat.mul_one, Nat.zero_add]
  rw [show 65 - (k - 1) = 66 - k from by omega]
  by_cases h0 : k - 1 = 0
  · rw [if_pos h0, h0]
  · rw [if_neg h0]
theorem drop_set {xs : List Value} {k : Nat} {l : List UInt8} {c : UInt8} (h : xs.drop k = byteV l) (h1 : 1 ≤ k) (h2 : k ≤ xs.length) : (xs.set (k - 1) (.int .u8 (c.toNat : Int))).drop (k - 1) = byteV (c :: l) := by
  rw [List.drop_eq_getElem_cons (by rw [List.length_set]; omega), List.getElem_set_self, show k - 1 + 1 = k from by omega, List.drop_set_of_lt (by omega), h]
  rfl
theorem nums_str (l : List UInt8) : strOfNums (l.map fun c => (c.toNat : Int)) = ofL l := by
  refine ByteArray.ext (Array.toList_inj.1 ?_)
  rw [strOfNums_data, List.map_map]
  show l.map _ = l
  conv => rhs; rw [← List.map_id l]
  refine List.map_congr_left fun c _ => ?_
  simp
theorem convC (W : World) (base g k : Nat) (l : List UInt8) (xs : List Value) (h : W.ownsRow base 115 1 (.slice (some ⟨g, 0, none⟩) 65 65) 65 xs) (hx : xs.drop k = byteV l) (hk : k + l.length = 65) (q : Nat) :
    (convert 60 9 (.slice (some ⟨g, k, none⟩) l.length q)).run Tryz.prog W = .ok (.string (ofL l)) W := by
  rw [← nums_str]
  refine run_convert_bytes_arg W 60 5 Tryz.underlying60 Tryz.underlying5 g k l.length q _ (by rw [List.length_map]) (fun i hi => ?_) 9 Tryz.underlying9
  rw [h.cellAt (k + i) (by omega), ← List.getElem?_drop, hx]
  unfold byteV
  rw [List.getElem?_map, List.getElem?_eq_getElem hi, List.getD_eq_getElem?_getD, List.getElem?_map, List.getElem?_eq_getElem hi]
  rfl
theorem and15 (v : Nat) (h : v < 18446744073709551616) : bits .and .u64 (v : Int) 15 = ((v % 16 : Nat) : Int) := by
  have := bits_and_u64_nat v 15 h (by decide)
  rw [show v &&& 15 = v % 16 from Nat.and_two_pow_sub_one_eq_mod v 4] at this
  exact this
set_option maxRecDepth 8000 in
set_option maxHeartbeats 1600000 in
theorem formatBits16 (m : Nat) (w : World) (hm : m ≤ 16777212) (hcell : w.cell? ⟨5, 15, none⟩ = some (.int .u8 4)) :
    Calls Tryz.prog 103 #[.slice none 0 0, .int .u64 (m : Int), .int .i64 16, .bool false, .bool false] w fun e w' => e = .returned (.tuple #[.slice none 0 0, .string (ofL (hexL m))]) ∧ Below w.heap.size w w' := by
  have hb1 : Below w.heap.size w (w.alloc (.cells Tryz.zeroCells115 115)) := (Below.refl _ _).alloc (Nat.le_refl _) _
  have hz : Tryz.zeroCells115.size = 65 := by kernel_rfl
  have hown1 : (w.alloc (.cells Tryz.zeroCells115 115)).ownsRow w.heap.size 115 1 (.slice (some ⟨w.heap.size, 0, none⟩) 65 65) 65 Tryz.zeroCells115.toList :=
    ⟨by rw [Array.length_toList, hz], .inr ⟨w.heap.size, 65, _, rfl, Nat.le_refl _, heap_alloc_new w _, Nat.le_refl _, by unfold maxLen; omega, by rw [hz], List.take_of_length_le (by rw [Array.length_toList, hz]; omega)⟩⟩
  have hcell1 := (hb1.cell (p := ⟨5, 15, none⟩) (World.block_lt_of_cell? w _ hcell)).trans hcell
  go_enter Tryz.func103, Tryz.ntmps103
  go_wp2_with fail
  generalize Tryz.zeroCells115.toList = zs at *
  generalize w.alloc (.cells Tryz.zeroCells115 115) = w1 at *
  refine (isPow16 _).mono ?_
  rintro e w' ⟨rfl, rfl⟩
  go_wp2_with (go_at_call 108; refine (tzU16 _ hcell1).mono ?_; rintro e w' ⟨rfl, rfl⟩)
  go_loopw [1, 13] (fun u i wr => ∃ (v k : Nat) (l : List UInt8) (xs : List Value), u = .int .u64 (v : Int) ∧ v ≤ 16777212 ∧ i = .int .i64 (k : Int) ∧ k + l.length = 65 ∧ 1 ≤ k ∧ Hid (hexL m = hexL v ++ l) ∧ wr.ownsRow w.heap.size 115 1 (.slice (some ⟨w.heap.size, 0, none⟩) 65 65) 65 xs ∧ Hid (xs.drop k = byteV l) ∧ Below w.heap.size w wr) (fun u _ _ => (intOf u).toNat)
  case atStart => exact ⟨m, 65, [], zs, rfl, hm, rfl, rfl, by omega, Lib.hid (by rw [List.append_nil]), hown1, Lib.hid (List.drop_of_length_le (by rw [hown1.1]; omega)), hb1⟩
  case round =>
    obtain ⟨v, k, l, xs, rfl, hv, rfl, hkl, hk1, HI, hown, HX, hb⟩ := hrel
    have hxl := hown.1
    have hcl : wr.cell? ⟨w.heap.size, k - 1, none⟩ = some (xs[k - 1]'(by omega)) := by
      rw [hown.cellAt (k - 1) (by omega)]
      exact List.getElem?_eq_getElem _
    have hfz := hown.frozenAt (k - 1)
    by_cases h16 : v < 16
    · have hdg := digs_at v h16
      have hst := hown.stored (k - 1) (.int .u8 ((hexC v).toNat : Int))
      have hdr := drop_set (c := hexC v) HX.out hk1 (by omega)
      have hcv := convC _ w.heap.size w.heap.size (k - 1) (hexC v :: l) _ hst.1 hdr (by rw [List.length_cons]; omega) (66 - k)
      rw [show (hexC v :: l).length = 66 - k from by rw [List.length_cons]; omega] at hcv
      have hsl := fun W => slice65 W w.heap.size k hk1 (by omega)
      have HF : Hid (ofL (hexC v :: l) = ofL (hexL m)) := Lib.hid (by rw [HI.out, hexL_low h16]; rfl)
      have HB := Lib.hid (hb.grown hst.2 hb.size (fun j e => by injection e with e; omega))
      clear hst hdr
      go_wp2_with fail
      go_ret2
      exact ⟨by rw [HF.out]; rfl, HB.out⟩
    · have hand := and15 v (by omega)
      have hdg := digs_at (v % 16) (Nat.mod_lt _ (by decide))
      have hlt16 : v % 16 < 16 := Nat.mod_lt _ (by decide)
      have hst := hown.stored (k - 1) (.int .u8 ((hexC (v % 16)).toNat : Int))
      have HD := Lib.hid (drop_set (c := hexC (v % 16)) HX.out hk1 (by omega))
      have HB := Lib.hid (hb.grown hst.2 hb.size (fun j e => by injection e with e; omega))
      have HS := Lib.hid hst.1
      have HN : Hid (hexL m = hexL (v / 16) ++ (hexC (v % 16) :: l)) := Lib.hid (by rw [HI.out, hexL_high h16, List.append_assoc]; rfl)
      have HL : Hid (l.length < 6) := Lib.hid (by
        have h1 := congrArg List.length HN.out
        have h2 := hexL_len 5 m (by omega)
        rw [List.length_append, List.length_cons] at h1
        omega)
      clear hst
      go_wp2_with fail
      go_roundw
      case rel => exact ⟨v / 16, k - 1, _, _, by go_num, by omega, by go_num, by have := HL.out; rw [List.length_cons]; omega, by have := HL.out; omega, HN, HS.out, HD, HB.out⟩
      case measure => simp [intOf]; omega
theorem formatInt16 (m : Nat) (w : World) (hm : m ≤ 16777212) (hcell : w.cell? ⟨5, 15, none⟩ = some (.int .u8 4)) :
    Calls Tryz.prog 94 #[.int .i64 (m : Int), .int .i64 16] w fun e w' => e = .returned (.string (ofL (hexL m))) ∧ Below w.heap.size w w' := by
  go_enter Tryz.func94, Tryz.ntmps94
  go_wp2_with (go_at_call 103; refine (formatBits16 m _ hm hcell).mono ?_; rintro e w' ⟨rfl, hb⟩)
  go_ret
  exact ⟨rfl, hb⟩
theorem formatInt16' (m : Nat) (w : World) (hm : m ≤ 16777212) (hcell : w.cell? ⟨5, 15, none⟩ = some (.int .u8 4)) :
    Calls Tryz.prog 84 #[.int .i64 (m : Int), .int .i64 16] w fun e w' => e = .returned (.string (ofL (hexL m))) ∧ Below w.heap.size w w' := by
  go_enter Tryz.func84, Tryz.ntmps84
  go_wp2_with (go_at_call 94; refine (formatInt16 m _ hm hcell).mono ?_; rintro e w' ⟨rfl, hb⟩)
  go_ret
  exact ⟨rfl, hb⟩
theorem implHexText (n : Int) (w : World) (hcell : w.cell? ⟨5, 15, none⟩ = some (.int .u8 4)) :
    Calls Tryz.prog 70 #[.int .i64 n] w fun e w' => e = .returned (.string (hexT n)) ∧ Below w.heap.size w w' := by
  by_cases h : 0 ≤ n ∧ n ≤ 16777212
  · have hp : printB n = true := decide_eq_true h
    have HT := Lib.hid (hexT_in h.1 h.2)
    obtain ⟨m, rfl⟩ := Int.eq_ofNat_of_zero_le h.1
    have hm : m ≤ 16777212 := by omega
    clear h
    go_enter Tryz.func70, Tryz.ntmps70
    go_wp2_with (first | (go_at_call 83; refine (printValid _ _).mono ?_; rintro e w' ⟨rfl, rfl⟩; rw [hp]) | (go_at_call 84; refine (formatInt16' m _ hm hcell).mono ?_; rintro e w' ⟨rfl, hb⟩))
    go_ret
    exact ⟨by rw [HT.out]; rfl, hb⟩
  · have hp : printB n = false := decide_eq_false h
    have HT := Lib.hid (hexT_out h)
    clear h
    go_enter Tryz.func70, Tryz.ntmps70
    go_wp2_with (go_at_call 83; refine (printValid _ _).mono ?_; rintro e w' ⟨rfl, rfl⟩; rw [hp])
    go_ret
    exact ⟨ret_str HT.out.symm, Below.refl _ _⟩
end Go.Proofs.YtjombaiplnebmaaGreatDoor
