/- The texts WalkP HexS Own HexI as one. -/
import Derived.Test.YthoiljgpggldcaaReadP
import Derived.Test.YthoiljgpggldcaaGetT
import Derived.Test.YthoiljgpggldcaaM6
import Derived.Test.YthoiljgpggldcaaM8
import Derived.Test.YthoiljgpggldcaaHexP
import Derived.Test.YthoiljgpggldcaaWords
import Derived.Test.YthoiljgpggldcaaMem
import Derived.Laws.Bits64b
import Derived.Laws.BytesArg
/- Plain words: where names lead from a folder on. -/
open Go.RowKit
namespace Go.Proofs.Ythoiljgpggldcaa
def nameL (n : ByteArray) : List (ByteArray × Int) → Option Int
  | [] => none
  | x :: r => if x.1 = n then some x.2 else nameL n r
theorem nameL_none {n : ByteArray} : ∀ {ys : List (ByteArray × Int)}, (∀ x ∈ ys, x.1 ≠ n) → nameL n ys = none
  | [], _ => rfl
  | x :: r, h => by
    unfold nameL
    rw [if_neg (h x (List.mem_cons_self ..)), nameL_none fun y hy => h y (List.mem_cons_of_mem _ hy)]
theorem nameL_at {n : ByteArray} : ∀ {ys : List (ByteArray × Int)} {k : Nat} {x : ByteArray × Int}, (∀ j y, j < k → ys[j]? = some y → y.1 ≠ n) → ys[k]? = some x → x.1 = n → nameL n ys = some x.2
  | [], k, x, _, hx, _ => by simp at hx
  | y :: r, 0, x, _, hx, hp => by
    have e : y = x := by simpa using hx
    unfold nameL
    rw [e, if_pos hp]
  | y :: r, k + 1, x, hb, hx, hp => by
    unfold nameL
    rw [if_neg (hb 0 y (by omega) rfl), nameL_at (ys := r) (k := k) (x := x) (fun j z hj hz => hb (j + 1) z (by omega) (by rw [List.getElem?_cons_succ]; exact hz)) (by rw [List.getElem?_cons_succ] at hx; exact hx) hp]
theorem entries_find {ys : List (ByteArray × Int)} {n : ByteArray} (hv : entriesV ys = true) : (foundOf (enBelow n) (enIs n) ys = true → ∃ x, ys[posOf (enBelow n) ys]? = some x ∧ x.1 = n ∧ nameL n ys = some x.2) ∧ (foundOf (enBelow n) (enIs n) ys = false → nameL n ys = none) := by
  constructor
  · intro h
    obtain ⟨x, hx, hi⟩ := found_yes h
    have hp : x.1 = n := of_decide_eq_true hi
    refine ⟨x, hx, hp, nameL_at (fun j y hj hy e => ?_) hx hp⟩
    have hpb : enBelow n y = true := posOf_before hj hy
    have hpr : ltB y.1 n = true := hpb
    rw [e, ltB_self] at hpr
    cases hpr
  · intro h
    have hf : Falls (fun x => enBelow n x || enIs n x) ys := falls_of hv fun x y hl hp => by
      have h2 : enBelow n y = true ∨ enIs n y = true := by simpa using hp
      rcases h2 with h2 | h2
      · have : enBelow n x = true := bytesLess_trans _ _ _ hl h2
        simp [this]
      · have he : y.1 = n := of_decide_eq_true h2
        have : enBelow n x = true := by
          have hl' : ltB x.1 y.1 = true := hl
          rw [he] at hl'
          exact hl'
        simp [this]
    have hn := found_no hf (fun x hi => by
      have he : x.1 = n := of_decide_eq_true hi
      show ltB x.1 n = false
      rw [he]
      exact ltB_self n) h
    exact nameL_none fun x hx e => by
      have := hn x hx
      unfold enIs at this
      rw [decide_eq_true e] at this
      cases this
/-- Where names lead. -/
def WalkF (xs : List (Int × ByteArray)) : List ByteArray → Int → Int → Bool → Prop
  | [], t, q, b => q = (if (getL t xs).2 = true then t else -1) ∧ b = (getL t xs).2
  | n :: r, t, q, b => ∃ ys ok, ReadF (getL t xs).1 ys ok ∧ ((ok = true ∧ ∃ p, nameL n ys = some p ∧ WalkF xs r p q b) ∨ ((ok = false ∨ nameL n ys = none) ∧ q = -1 ∧ b = false))
theorem WalkF.same {xs : List (Int × ByteArray)} : ∀ {ps : List ByteArray} {t q q' : Int} {b b' : Bool}, WalkF xs ps t q b → WalkF xs ps t q' b' → q = q' ∧ b = b'
  | [], t, q, q', b, b', h, h' => ⟨h.1.trans h'.1.symm, h.2.trans h'.2.symm⟩
  | n :: r, t, q, q', b, b', h, h' => by
    obtain ⟨ys, ok, h1, h2⟩ := h
    obtain ⟨zs, ok', h3, h4⟩ := h'
    obtain ⟨rfl, rfl⟩ := h1.same h3
    rcases h2 with ⟨h5, p, h6, h7⟩ | ⟨h5, rfl, rfl⟩
    · rcases h4 with ⟨_, p', h8, h9⟩ | ⟨h8, _, _⟩
      · rw [h6] at h8
        obtain rfl := Option.some.inj h8
        exact WalkF.same h7 h9
      · rcases h8 with h8 | h8
        · rw [h5] at h8; cases h8
        · rw [h6] at h8; cases h8
    · rcases h4 with ⟨h8, p', h9, _⟩ | ⟨_, rfl, rfl⟩
      · rcases h5 with h5 | h5
        · rw [h5] at h8; cases h8
        · rw [h5] at h9; cases h9
      · exact ⟨rfl, rfl⟩
theorem walk_none {xs : List (Int × ByteArray)} {n : ByteArray} {r : List ByteArray} {t : Int} {ys : List (ByteArray × Int)} {ok : Bool} (h : ReadF (getL t xs).1 ys ok) (hn : ok = false ∨ nameL n ys = none) : WalkF xs (n :: r) t (-1) false := ⟨ys, ok, h, .inr ⟨hn, rfl, rfl⟩⟩
theorem walk_step {xs : List (Int × ByteArray)} {n : ByteArray} {r : List ByteArray} {t p q : Int} {b : Bool} {ys : List (ByteArray × Int)} (h : ReadF (getL t xs).1 ys true) (hn : nameL n ys = some p) (hw : WalkF xs r p q b) : WalkF xs (n :: r) t q b := ⟨ys, true, h, .inl ⟨rfl, p, hn, hw⟩⟩
theorem walk_end (xs : List (Int × ByteArray)) (t : Int) : WalkF xs [] t (if (getL t xs).2 = true then t else -1) (getL t xs).2 := ⟨rfl, rfl⟩
theorem readF_empty : ReadF ⟨#[]⟩ [] false := readF_bad fun es hv he => by
  have := folderT_list hv he
  cases this
end Go.Proofs.Ythoiljgpggldcaa
/- Contract of the specification's HexText. -/
open Go.RowKit
namespace Go.Proofs.Ythoiljgpggldcaa
def hexDs : ByteArray := ⟨#[48, 49, 50, 51, 52, 53, 54, 55, 56, 57, 97, 98, 99, 100, 101, 102]⟩
theorem hexDs_at : ∀ d, d < 16 → hexDs.extract d (d + 1) = ofL [hexC d] := by decide
theorem ofL_app (a b : List UInt8) : ofL a ++ ofL b = ofL (a ++ b) := by
  apply ByteArray.ext
  apply Array.toList_inj.1
  simp [ofL]
def hexP (n : Nat) : List UInt8 := if n < 16 then [] else hexL (n / 16)
theorem ofL_sz (l : List UInt8) : (ofL l).size = l.length := by
  show l.toArray.size = l.length
  rw [List.size_toArray]
theorem hexP_low {n : Nat} (h : n < 16) : hexP n = [] := if_pos h
theorem hexL_hexP (n : Nat) : hexL n = hexP n ++ [hexC (n % 16)] := by
  unfold hexP
  split
  · rename_i h
    rw [hexL_low h, Nat.mod_eq_of_lt h]
    rfl
  · rename_i h
    exact hexL_high h
set_option maxRecDepth 8000 in
set_option maxHeartbeats 800000 in
theorem specHexText (n : Int) (w : World) :
    Calls Try.prog 39 #[.int .i64 n] w fun e w' => e = .returned (.string (hexT n)) ∧ w = w' := by
  by_cases h : 0 ≤ n ∧ n ≤ 16777212
  · have hin : inB n 0 16777212 = true := decide_eq_true h
    obtain ⟨m, rfl⟩ := Int.eq_ofNat_of_zero_le h.1
    have hm : m ≤ 16777212 := by omega
    have HT := Lib.hid (hexT_in h.1 h.2)
    clear h
    have hd := hexDs_at (m % 16) (by omega)
    have hx : (⟨#[48, 49, 50, 51, 52, 53, 54, 55, 56, 57, 97, 98, 99, 100, 101, 102]⟩ : ByteArray).extract (m % 16) (m % 16 + 1) = ofL [hexC (m % 16)] := hd
    have hlt : m % 16 < 16 := Nat.mod_lt _ (by decide)
    go_enter Try.func39, Try.ntmps39
    go_wp2_with (go_at_call 48; refine (l1In _ 0 16777212 _).mono ?_; rintro e w' ⟨rfl, rfl⟩; rw [hin])
    go_loopw [0, 4] (fun a b wr => ∃ (v : Nat) (l : List UInt8), a = .int .i64 (v : Int) ∧ v ≤ 16777212 ∧ b = .string (ofL l) ∧ l.length ≤ 6 ∧ Hid (hexL m = hexP v ++ l) ∧ wr = w) (fun a _ _ => (intOf a).toNat)
    case atStart => exact ⟨m, [hexC (m % 16)], rfl, hm, congrArg Value.string hx, by simp, Lib.hid (hexL_hexP m), rfl⟩
    case round =>
      obtain ⟨v, l, rfl, hv, rfl, hl, HI, rfl⟩ := hrel
      by_cases hv16 : v < 16
      · have HR : Hid (hexL m = l) := Lib.hid (by rw [HI.out, hexP_low hv16]; rfl)
        go_wp2_with fail
        go_ret
        exact ⟨ret_str (by rw [HT.out]; show ofL l = ofL (hexL m); rw [HR.out]), rfl⟩
      · have hd2 := hexDs_at (v / 16 % 16) (Nat.mod_lt _ (by decide))
        have hx2 : (⟨#[48, 49, 50, 51, 52, 53, 54, 55, 56, 57, 97, 98, 99, 100, 101, 102]⟩ : ByteArray).extract (v / 16 % 16) (v / 16 % 16 + 1) = ofL [hexC (v / 16 % 16)] := hd2
        have hlt2 : v / 16 % 16 < 16 := Nat.mod_lt _ (by decide)
        have HN : Hid (hexL m = hexP (v / 16) ++ (hexC (v / 16 % 16) :: l)) := Lib.hid (by
          rw [HI.out]
          show hexP v ++ l = _
          rw [show hexP v = hexL (v / 16) from if_neg hv16, hexL_hexP (v / 16), List.append_assoc]
          rfl)
        have HA : Hid (ofL [hexC (v / 16 % 16)] ++ ofL l = ofL (hexC (v / 16 % 16) :: l)) := Lib.hid (ofL_app _ _)
        have hsz : (ofL [hexC (v / 16 % 16)]).size = 1 := rfl
        have hsz2 : (ofL l).size = l.length := ofL_sz l
        have HL : Hid (l.length < 6) := Lib.hid (by
          have h1 := congrArg List.length HN.out
          have h2 := hexL_len 5 m (by omega)
          rw [List.length_append, List.length_cons] at h1
          omega)
        go_wp2_with fail
        go_roundw
        case rel => exact ⟨v / 16, _, by go_num, by omega, by rw [HA.out], by have := HL.out; rw [List.length_cons]; omega, HN, trivial⟩
        case measure => simp [intOf]; omega
  · have hin : inB n 0 16777212 = false := decide_eq_false h
    have HT := Lib.hid (hexT_out h)
    clear h
    go_enter Try.func39, Try.ntmps39
    go_wp2_with (go_at_call 48; refine (l1In _ 0 16777212 _).mono ?_; rintro e w' ⟨rfl, rfl⟩; rw [hin])
    go_ret
    exact ⟨ret_str HT.out.symm, rfl⟩
end Go.Proofs.Ythoiljgpggldcaa
/- Rows that the call owns do not meet. Plain facts. -/
open Go.RowKit
namespace Go.Proofs.Ythoiljgpggldcaa
theorem own_ne {w w' : World} {base base' : Nat} {e e' : TypeId} {s s' n n' : Nat} {v v' : Value} {xs xs' : List Value} (h : w.ownsRow base e s v n xs) (h' : w'.ownsRow base' e' s' v' n' xs') (hle : w.heap.size ≤ base') : v.ownBlock = none ∨ v.ownBlock ≠ v'.ownBlock := by
  cases hv : v.ownBlock with
  | none => exact .inl rfl
  | some k =>
    refine .inr fun e => ?_
    have h1 := (h.lt k hv).2
    have h2 := (h'.lt k e.symm).1
    omega
theorem own_ne_symm {v v' : Value} (h : v.ownBlock = none ∨ v.ownBlock ≠ v'.ownBlock) : v'.ownBlock = none ∨ v'.ownBlock ≠ v.ownBlock := by
  cases hv : v'.ownBlock with
  | none => exact .inl rfl
  | some k =>
    refine .inr fun e => ?_
    rcases h with h | h
    · rw [h] at e; cases e
    · exact h (by rw [hv, e])
end Go.Proofs.Ythoiljgpggldcaa
/- Contracts of the program's HexText and of what it calls in the library. -/
open Go.RowKit
namespace Go.Proofs.Ythoiljgpggldcaa
def byteV (l : List UInt8) : List Value := l.map fun c => Value.int .u8 (c.toNat : Int)
def digs36 : ByteArray := ⟨#[48, 49, 50, 51, 52, 53, 54, 55, 56, 57, 97, 98, 99, 100, 101, 102, 103, 104, 105, 106, 107, 108, 109, 110, 111, 112, 113, 114, 115, 116, 117, 118, 119, 120, 121, 122]⟩
theorem digs_at : ∀ d, (h : d < 16) → (⟨#[48, 49, 50, 51, 52, 53, 54, 55, 56, 57, 97, 98, 99, 100, 101, 102, 103, 104, 105, 106, 107, 108, 109, 110, 111, 112, 113, 114, 115, 116, 117, 118, 119, 120, 121, 122]⟩ : ByteArray)[d]'(Nat.lt_of_lt_of_le h (by decide)) = hexC d := by decide
theorem drop_set {xs : List Value} {k : Nat} {l : List UInt8} {c : UInt8} (h : xs.drop k = byteV l) (h1 : 1 ≤ k) (h2 : k ≤ xs.length) : (xs.set (k - 1) (.int .u8 (c.toNat : Int))).drop (k - 1) = byteV (c :: l) := by
  rw [List.drop_eq_getElem_cons (by rw [List.length_set]; omega), List.getElem_set_self, show k - 1 + 1 = k from by omega, List.drop_set_of_lt (by omega), h]
  rfl
theorem nums_str (l : List UInt8) : strOfNums (l.map fun c => (c.toNat : Int)) = ofL l := by
  refine ByteArray.ext (Array.toList_inj.1 ?_)
  rw [strOfNums_data, List.map_map]
  show l.map _ = l
  conv => rhs; rw [← List.map_id l]
  refine List.map_congr_left fun c _ => ?_
  simp
end Go.Proofs.Ythoiljgpggldcaa
