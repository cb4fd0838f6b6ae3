/- Contracts of both NamesAt. -/
import Derived.Test.YtjombaiplnebmaaGreatDoorReadAt
import Derived.Test.YtjombaiplnebmaaGreatDoorMow
import Derived.Test.YtjombaiplnebmaaGreatDoorStrs
import Derived.Test.YtjombaiplnebmaaGreatDoorMap
open Go.RowKit
namespace Go.Proofs.YtjombaiplnebmaaGreatDoor
def NamesT (xs : List (Int × ByteArray)) (root : Int) (path : ByteArray) (ns : List ByteArray) (ok : Bool) : Prop :=
  ∃ q b, WalkT xs root path q b ∧ ((b = false ∧ ns = [] ∧ ok = false) ∨ (b = true ∧ ∃ ys, ReadF (getL q xs).1 ys ok ∧ ns = ys.map (·.1)))
theorem NamesT.same {xs : List (Int × ByteArray)} {root : Int} {path : ByteArray} {ns ns' : List ByteArray} {ok ok' : Bool} (h : NamesT xs root path ns ok) (h' : NamesT xs root path ns' ok') : ns = ns' ∧ ok = ok' := by
  obtain ⟨q, b, hw, e⟩ := h
  obtain ⟨q', b', hw', e'⟩ := h'
  obtain ⟨rfl, rfl⟩ := hw.same hw'
  rcases e with ⟨rfl, rfl, rfl⟩ | ⟨rfl, ys, hr, rfl⟩
  · rcases e' with ⟨_, rfl, rfl⟩ | ⟨h, _⟩
    · exact ⟨rfl, rfl⟩
    · cases h
  · rcases e' with ⟨h, _⟩ | ⟨_, ys', hr', rfl⟩
    · cases h
    · obtain ⟨rfl, rfl⟩ := hr.same hr'
      exact ⟨rfl, rfl⟩
theorem NamesT.len {xs : List (Int × ByteArray)} {root : Int} {path : ByteArray} {ns : List ByteArray} {ok : Bool} (h : NamesT xs root path ns ok) : ns.length ≤ 3 := by
  obtain ⟨q, b, hw, e⟩ := h
  rcases e with ⟨_, rfl, _⟩ | ⟨_, ys, hr, rfl⟩
  · exact Nat.zero_le _
  · rw [List.length_map]; exact hr.len
theorem names_snoc {ys : List (ByteArray × Int)} {k : Nat} {s : ByteArray} {p : Int} (h : ys[k]? = some (s, p)) : strs ((ys.take k).map (·.1)) ++ (#[Value.string s] : Array Value).toList = strs ((ys.take (k + 1)).map (·.1)) := by
  rw [take_snoc h, List.map_append, strs_append]
  rfl
def blk (v : Value) (a b : Nat) : Prop := ∀ g, v.ownBlock = some g → g = a ∨ b ≤ g
theorem blk_nil (a b : Nat) : blk (.slice none 0 0) a b := fun g hg => by cases hg
theorem blk_app {v v' : Value} {a b n : Nat} (h : blk v a b) (h' : v'.ownBlock = v.ownBlock ∨ v'.ownBlock = some n) (hn : b ≤ n) : blk v' a b := fun g hg => by
  rcases h' with h' | h'
  · exact h g (h' ▸ hg)
  · rw [h'] at hg
    obtain rfl := Option.some.inj hg
    exact .inr hn
theorem blk_ne {w3 : World} {v v3 : Value} {a base n : Nat} {e : TypeId} {size : Nat} {xs : List Value} (h : blk v a w3.heap.size) (h3 : w3.ownsRow base e size v3 n xs) (ha : a < base) : v3.ownBlock = none ∨ v3.ownBlock ≠ v.ownBlock := by
  cases hv : v3.ownBlock with
  | none => exact .inl rfl
  | some g =>
    refine .inr fun e => ?_
    have h1 := h3.lt g hv
    rcases h g e.symm with h2 | h2 <;> omega
set_option maxRecDepth 8000 in
set_option maxHeartbeats 1600000 in
theorem specNamesAt (A : Option Addr) (n c : Nat) (root : Int) (path : ByteArray) (xs : List (Int × ByteArray)) (w : World) (h : Rd w 2 A n (pcs xs)) (hx : ∀ x ∈ xs, x.2.size ≤ 1048576) (hn : n ≤ 1048576) (hp : path.size ≤ 1048576) :
    Calls Tryz.prog 10 #[.slice A n c, .int .i64 root, .string path] w fun e w' => ∃ v ns ok, e = .returned (.tuple #[v, .bool ok]) ∧ NamesT xs root path ns ok ∧ w'.ownsRow w.heap.size 9 1 v ns.length (strs ns) ∧ Below w.heap.size w w' := by
  have HX := Lib.hid (show ∀ x ∈ xs, x.2.size ≤ maxLen from fun x hxx => Nat.le_trans (hx x hxx) (by unfold maxLen; omega))
  have HZ := Lib.hid hx
  clear hx
  have hb0 : Below w.heap.size w (w.alloc (.cells #[] 9)) := (Below.refl _ _).alloc (Nat.le_refl _) _
  have ho0 := own_empty w 9 1
  have hs0 : w.heap.size < (w.alloc (.cells #[] 9)).heap.size := by simp
  go_enter Tryz.func10, Tryz.ntmps10
  go_wp2_with fail
  generalize w.alloc (.cells #[] 9) = w0 at *
  refine (specWalkTo _ _ _ root path xs _ (h.below hb0) HZ.out hn hp).mono ?_
  rintro e w1 ⟨q, b, rfl, hq, hb1⟩
  have HQ := Lib.hid hq
  clear hq
  have hB1 := below_step hb0 hb1
  go_wp2_with fail
  refine (specGetText _ _ _ q xs _ (h.below hB1) HX.out (by omega)).mono ?_
  rintro e w2 ⟨rfl, hb2⟩
  have hB2 := below_step hB1 hb2
  have hs2 : w.heap.size < w2.heap.size := by have := hb1.size; have := hb2.size; omega
  have ho2 := own_below (own_below ho0 hb1) hb2
  have hs := getT_size (t := q) HZ.out
  have HT : ∃ s, Hid ((getT xs q).1 = s) := ⟨_, Lib.hid rfl⟩
  obtain ⟨s, HT⟩ := HT
  generalize (getT xs q).2 = fl
  rw [HT.out] at hs ⊢
  go_wp2_with fail
  refine (specReadFolder s _ hs).mono ?_
  rintro e w3 ⟨v3, ys, ok, rfl, hR, hown3, hb3⟩
  have hB3 := below_step hB2 hb3
  have ho3 := own_below ho2 hb3
  have hl3 := hR.len
  have HR := Lib.hid hR
  clear hR
  obtain ⟨A3, c3, rfl, _⟩ := own_slice hown3
  cases b
  · have HN : Hid (NamesT xs root path [] false) := Lib.hid ⟨q, false, HQ.out, .inl ⟨rfl, rfl, rfl⟩⟩
    go_wp2_with fail
    refine bodyPost_ret (v := .tuple #[.slice (some ⟨w.heap.size, 0, none⟩) 0 0, .bool false]) (by simp [results, Tryz.results10, go_sem]) rfl ?_
    exact ⟨_, [], false, rfl, HN.out, ho3, hB3⟩
  · have HW : Hid (NamesT xs root path (ys.map (·.1)) ok) := Lib.hid ⟨q, true, HQ.out, .inr ⟨rfl, ys, by rw [← getT_of HQ.out.stored, HT.out]; exact HR.out, rfl⟩⟩
    cases ok
    · have HN : Hid (NamesT xs root path [] false) := Lib.hid (by have := HW.out; rw [(HR.out.no rfl).1] at this; exact this)
      go_wp2_with fail
      refine bodyPost_ret (v := .tuple #[.slice (some ⟨w.heap.size, 0, none⟩) 0 0, .bool false]) (by simp [results, Tryz.results10, go_sem]) rfl ?_
      exact ⟨_, [], false, rfl, HN.out, ho3, hB3⟩
    · clear HR
      have HBK := Lib.hid (fun (v : Value) (hv : blk v w.heap.size w3.heap.size) => blk_ne hv hown3 hs2)
      go_wp2_with fail
      go_loopw [8, 15] (fun v i wr => ∃ k : Nat, k ≤ ys.length ∧ i = .int .i64 (k : Int) ∧ wr.ownsRow w.heap.size 9 1 v k (strs ((ys.take k).map (·.1))) ∧ blk v w.heap.size w3.heap.size ∧ wr.ownsRow w2.heap.size 50 2 (.slice A3 ys.length c3) ys.length (ens ys) ∧ Below w.heap.size w wr ∧ w3.heap.size ≤ wr.heap.size) (fun _ i _ => ys.length - (intOf i).toNat)
      case atStart => exact ⟨0, Nat.zero_le _, rfl, ho3, fun g hg => .inl (Option.some.inj hg).symm, hown3, hB3, Nat.le_refl _⟩
      case round =>
        obtain ⟨k, hk, rfl, hov, hbl, hoe, hB, hsz⟩ := hrel
        by_cases hlt : k < ys.length
        · obtain ⟨b, off, s', p, hA, hbb, hxk, hc0, hc1⟩ := (Rd.own hoe).enAt hlt
          subst hA
          have HF := Lib.hid (names_snoc hxk)
          clear hxk
          have hltI : (k : Int) < (ys.length : Int) := by omega
          go_wp2_with (at_builtin; refine wpList_app1 _ rfl (.tmp 48) (.tmp 54) _ rfl w.heap.size 9 1 16 (.string ⟨#[]⟩) Tryz.underlying30 str_info rfl (by omega) (by omega) _ k _ rfl hov #[.string s'] rfl (one_str _) rfl (by omega) hB.size ?_; intro v4 w4 hown4 hg4 hbl4)
          rw [HF.out] at hown4
          have hB4 := hB.grown hg4 hB.size (fun j e => (hov.lt j e).1)
          have hoe4 := hoe.kept hg4 (HBK.out _ hbl)
          have hg4s := hg4.size
          go_roundw
          case rel => exact ⟨k + 1, by omega, by go_num, hown4, blk_app hbl hbl4 (by omega), hoe4, hB4, by omega⟩
          case measure => simp [intOf]; omega
        · obtain rfl : k = ys.length := by omega
          rw [List.take_of_length_le (Nat.le_refl _)] at hov
          have hml : (ys.map (·.1)).length = ys.length := List.length_map ..
          have HO : Hid (wr.ownsRow w.heap.size 9 1 _ (ys.map (·.1)).length (strs (ys.map (·.1)))) := Lib.hid (by rw [hml]; exact hov)
          obtain ⟨A8, c8, rfl, _⟩ := own_slice hov
          clear hov hml
          generalize ys.map (·.1) = ns at *
          generalize ys.length = m at *
          go_wp2_with fail
          refine bodyPost_ret (v := .tuple #[.slice A8 m c8, .bool true]) (by simp [results, Tryz.results10, go_sem]) rfl ?_
          exact ⟨_, ns, true, rfl, HW.out, HO.out, hB⟩
set_option maxRecDepth 8000 in
set_option maxHeartbeats 1600000 in
theorem implNamesAt (A : Option Addr) (n c : Nat) (root : Int) (path : ByteArray) (xs : List (Int × ByteArray)) (mm : Int) (w : World) (h : Rd w 2 A n (pcs xs)) (hx : ∀ x ∈ xs, x.2.size ≤ 1048576) (hn : n ≤ 1048576) (hp : path.size ≤ 1048576) (hm : w.cell? ⟨0, 0, none⟩ = some (.int .i64 mm)) (hcell : w.cell? ⟨5, 15, none⟩ = some (.int .u8 4)) :
    Calls Tryz.prog 11 #[.slice A n c, .int .i64 root, .string path] w fun e w' => ∃ v ns ok, e = .returned (.tuple #[v, .bool ok]) ∧ NamesT xs root path ns ok ∧ w'.ownsRow w.heap.size 9 1 v ns.length (strs ns) ∧ Below w.heap.size w w' := by
  have HZ := Lib.hid hx
  clear hx
  go_enter Tryz.func11, Tryz.ntmps11
  go_wp2_with fail
  refine (implWalkTo _ _ _ root path xs mm _ h HZ.out hn hp hm hcell).mono ?_
  rintro e w1 ⟨q, b, rfl, hq, hb1⟩
  have HQ := Lib.hid hq
  clear hq
  cases b
  · have HN : Hid (NamesT xs root path [] false) := Lib.hid ⟨q, false, HQ.out, .inl ⟨rfl, rfl, rfl⟩⟩
    go_wp2_with fail
    refine bodyPost_ret (v := .tuple #[.slice none 0 0, .bool false]) (by simp [results, Tryz.results11, go_sem]) rfl ?_
    exact ⟨_, [], false, rfl, HN.out, World.ownsRow_nil _ _ _ _, hb1⟩
  · have hm1 := (hb1.cell (p := ⟨0, 0, none⟩) (World.block_lt_of_cell? w _ hm)).trans hm
    have hcell1 := (hb1.cell (p := ⟨5, 15, none⟩) (World.block_lt_of_cell? w _ hcell)).trans hcell
    have HV := Lib.hid HQ.out.stored
    go_wp2_with fail
    refine (folderOf _ _ _ q xs mm _ (h.below hb1) HV.out HZ.out hn hm1 hcell1).mono ?_
    rintro e w3 ⟨v3, ys, ok, rfl, hR, hown3, hb3⟩
    have hB3 := below_step hb1 hb3
    have hl3 := hR.len
    have HW : Hid (NamesT xs root path (ys.map (·.1)) ok) := Lib.hid ⟨q, true, HQ.out, .inr ⟨rfl, ys, hR, rfl⟩⟩
    obtain ⟨A3, c3, rfl, _⟩ := own_slice hown3
    cases ok
    · have HN : Hid (NamesT xs root path [] false) := Lib.hid (by have := HW.out; rw [(hR.no rfl).1] at this; exact this)
      clear hR
      go_wp2_with fail
      refine bodyPost_ret (v := .tuple #[.slice none 0 0, .bool false]) (by simp [results, Tryz.results11, go_sem]) rfl ?_
      exact ⟨_, [], false, rfl, HN.out, World.ownsRow_nil _ _ _ _, hB3⟩
    · clear hR
      have HBK := Lib.hid (fun (v : Value) (hv : blk v w3.heap.size w3.heap.size) => (show (Value.slice A3 ys.length c3).ownBlock = none ∨ (Value.slice A3 ys.length c3).ownBlock ≠ v.ownBlock from by
        cases hq : (Value.slice A3 ys.length c3).ownBlock with
        | none => exact .inl rfl
        | some g =>
          refine .inr fun e => ?_
          have h1 := hown3.lt g hq
          rcases hv g e.symm with h2 | h2 <;> omega))
      go_wp2_with fail
      go_loopw [11, 13, 33] (fun v _ i wr => ∃ k : Nat, k ≤ ys.length ∧ i = .int .i64 (k : Int) ∧ wr.ownsRow w.heap.size 9 1 v k (strs ((ys.take k).map (·.1))) ∧ blk v w3.heap.size w3.heap.size ∧ wr.ownsRow w1.heap.size 50 2 (.slice A3 ys.length c3) ys.length (ens ys) ∧ Below w.heap.size w wr ∧ w3.heap.size ≤ wr.heap.size) (fun _ _ i _ => ys.length - (intOf i).toNat)
      case atStart => exact ⟨0, Nat.zero_le _, rfl, World.ownsRow_nil _ _ _ _, blk_nil _ _, hown3, hB3, Nat.le_refl _⟩
      case round =>
        obtain ⟨k, hk, rfl, hov, hbl, hoe, hB, hsz⟩ := hrel
        by_cases hlt : k < ys.length
        · obtain ⟨b, off, s', p, hA, hbb, hxk, hc0, hc1⟩ := (Rd.own hoe).enAt hlt
          subst hA
          have HF := Lib.hid (names_snoc hxk)
          clear hxk
          have hltI : (k : Int) < (ys.length : Int) := by omega
          have hba : Below wr.heap.size wr (wr.alloc (.cells #[.string s', .int .i64 p] 50)) := (Below.refl _ _).alloc (Nat.le_refl _) _
          have hB2 := below_step hB hba
          have e0 : (wr.alloc (.cells #[.string s', .int .i64 p] 50)).cell? ⟨wr.heap.size, 0, none⟩ = some (.string s') := cell_of_row _ _ 0 _ 50 (0, 0) (heap_alloc_new wr _)
          have hov2 := own_below hov hba
          have hoe2 := own_below hoe hba
          have hsz2 := hba.size
          go_wp2_with (at_builtin; refine wpList_app1 _ rfl (.tmp 37) (.tmp 40) _ rfl w.heap.size 9 1 16 (.string ⟨#[]⟩) Tryz.underlying30 str_info rfl (by omega) (by omega) _ k _ rfl hov2 #[.string s'] rfl (one_str _) (by simp [Act.eval]) (by omega) hB2.size ?_; intro v4 w4 hown4 hg4 hbl4)
          rw [HF.out] at hown4
          have hB4 := hB2.grown hg4 hB2.size (fun j e => (hov2.lt j e).1)
          have hoe4 := hoe2.kept hg4 (HBK.out _ hbl)
          have hg4s := hg4.size
          go_roundw
          case rel => exact ⟨k + 1, by omega, by go_num, hown4, blk_app hbl hbl4 (by omega), hoe4, hB4, by omega⟩
          case measure => simp [intOf]; omega
        · obtain rfl : k = ys.length := by omega
          rw [List.take_of_length_le (Nat.le_refl _)] at hov
          have hml : (ys.map (·.1)).length = ys.length := List.length_map ..
          have HO : Hid (wr.ownsRow w.heap.size 9 1 _ (ys.map (·.1)).length (strs (ys.map (·.1)))) := Lib.hid (by rw [hml]; exact hov)
          obtain ⟨A8, c8, rfl, _⟩ := own_slice hov
          clear hov hml
          generalize ys.map (·.1) = ns at *
          generalize ys.length = m at *
          go_wp2_with fail
          refine bodyPost_ret (v := .tuple #[.slice A8 m c8, .bool true]) (by simp [results, Tryz.results11, go_sem]) rfl ?_
          exact ⟨_, ns, true, rfl, HW.out, HO.out, hB⟩
end Go.Proofs.YtjombaiplnebmaaGreatDoor
