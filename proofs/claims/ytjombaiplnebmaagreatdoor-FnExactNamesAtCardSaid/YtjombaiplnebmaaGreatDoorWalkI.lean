/- Contracts of both WalkTo. -/
import Derived.Test.YtjombaiplnebmaaGreatDoorWalkS
import Derived.Test.YtjombaiplnebmaaGreatDoorReadFi
import Derived.Test.YtjombaiplnebmaaGreatDoorPartsS
import Derived.Test.YtjombaiplnebmaaGreatDoorPartsI
open Go.RowKit
namespace Go.Proofs.YtjombaiplnebmaaGreatDoor
theorem getL_off {t : Int} : ∀ {xs : List (Int × ByteArray)}, (getL t xs).2 = false → (getL t xs).1 = ⟨#[]⟩
  | [], _ => rfl
  | x :: r, h => by
    unfold getL at h ⊢
    split
    · rename_i e
      rw [if_pos e] at h
      cases h
    · rename_i e
      rw [if_neg e] at h
      exact getL_off h
set_option maxRecDepth 8000 in
theorem folderOf (A : Option Addr) (n c : Nat) (t : Int) (xs : List (Int × ByteArray)) (m : Int) (w : World) (h : Rd w 2 A n (pcs xs)) (hv : storeV xs = true) (hx : ∀ x ∈ xs, x.2.size ≤ 1048576) (hn : n ≤ 1048576) (hm : w.cell? ⟨0, 0, none⟩ = some (.int .i64 m)) (hcell : w.cell? ⟨5, 15, none⟩ = some (.int .u8 4)) :
    Calls Tryz.prog 25 #[.slice A n c, .int .i64 t] w fun e w' => ∃ v ys ok, e = .returned (.tuple #[v, .bool ok]) ∧ ReadF (getL t xs).1 ys ok ∧ w'.ownsRow w.heap.size 50 2 v ys.length (ens ys) ∧ Below w.heap.size w w' := by
  have hgs := getL_size (t := t) hx
  cases hg : (getL t xs).2
  · have HG := Lib.hid hg
    have hg1 : (getL t xs).1 = ⟨#[]⟩ := getL_off hg
    have HE : Hid (ReadF (getL t xs).1 [] false) := Lib.hid (by rw [hg1]; exact readF_empty)
    clear hg hg1
    go_enter Tryz.func25, Tryz.ntmps25
    go_wp2_with fail
    refine (textOf _ _ _ t xs _ h hv (by omega)).mono ?_
    rintro e w1 ⟨rfl, hb1⟩
    rw [HG.out]
    go_wp2_with fail
    refine bodyPost_ret (v := .tuple #[.slice none 0 0, .bool false]) (by simp [results, Tryz.results25, go_sem]) rfl ?_
    exact ⟨_, [], false, rfl, HE.out, World.ownsRow_nil _ _ _ _, hb1⟩
  · have HG := Lib.hid hg
    clear hg
    go_enter Tryz.func25, Tryz.ntmps25
    go_wp2_with fail
    refine (textOf _ _ _ t xs _ h hv (by omega)).mono ?_
    rintro e w1 ⟨rfl, hb1⟩
    have hm1 := (hb1.cell (p := ⟨0, 0, none⟩) (World.block_lt_of_cell? w _ hm)).trans hm
    have hcell1 := (hb1.cell (p := ⟨5, 15, none⟩) (World.block_lt_of_cell? w _ hcell)).trans hcell
    rw [HG.out]
    have HT : ∃ s, Hid ((getL t xs).1 = s) := ⟨_, Lib.hid rfl⟩
    obtain ⟨s, HT⟩ := HT
    rw [HT.out] at hgs ⊢
    go_wp2_with fail
    refine (implReadFolder s m _ hgs hm1 hcell1).mono ?_
    rintro e w2 ⟨v2, ys, ok, rfl, hR, hown, hb2⟩
    go_wp2_with fail
    refine bodyPost_ret (v := .tuple #[v2, .bool ok]) (by simp [results, Tryz.results25, go_sem]) rfl ?_
    rw [HT.out]
    exact ⟨_, ys, ok, rfl, hR, own_base hown hb1.size, below_step hb1 hb2⟩
set_option maxRecDepth 8000 in
theorem printNamed (A : Option Addr) (n c : Nat) (s : ByteArray) (ys : List (ByteArray × Int)) (w : World) (h : Rd w 2 A n (ens ys)) (hv : entriesV ys = true) (hn : n ≤ 1048576) :
    Calls Tryz.prog 34 #[.slice A n c, .string s] w fun e w' => ∃ p b, e = .returned (.tuple #[.int .i64 p, .bool b]) ∧ ((b = true ∧ nameL s ys = some p) ∨ (b = false ∧ nameL s ys = none)) ∧ Below w.heap.size w w' := by
  have HX := Lib.hid h.enLen
  have hle := posOf_le (enBelow s) ys
  obtain ⟨hf1, hf2⟩ := entries_find (n := s) hv
  have HF := Lib.hid (entries_falls hv s)
  go_enter Tryz.func34, Tryz.ntmps34
  go_wp2_with fail
  refine (findEntryC _ _ _ s ys _ h HF.out (by omega)).mono ?_
  rintro e w1 ⟨rfl, hb1⟩
  cases hfo : foundOf (enBelow s) (enIs s) ys
  · have HN := Lib.hid (hf2 hfo)
    clear hf1 hf2 hfo hv hle
    generalize posOf (enBelow s) ys = q at *
    go_wp2_with fail
    refine bodyPost_ret (v := .tuple #[.int .i64 (-1), .bool false]) (by simp [results, Tryz.results34, go_sem]) rfl ?_
    first | exact ⟨-1, false, rfl, .inr ⟨rfl, HN.out⟩, hb1⟩ | exact ⟨-1, .inl ⟨rfl, HN.out, hb1⟩⟩
  · obtain ⟨x, hxk, hxn, hnm⟩ := hf1 hfo
    obtain ⟨hql, _⟩ := List.getElem?_eq_some_iff.1 hxk
    rw [HX.out] at hql
    have HN := Lib.hid hnm
    clear hf1 hf2 hfo hv hle hnm
    generalize posOf (enBelow s) ys = q at *
    obtain ⟨b, off, s', p, rfl, hbb, hxk', hc0, hc1⟩ := (h.below hb1).enAt hql
    rw [hxk] at hxk'
    obtain rfl := Option.some.inj hxk'
    have hqi : (q : Int) < (n : Int) := by omega
    clear hxk hxk'
    go_wp2_with fail
    refine bodyPost_ret (v := .tuple #[.int .i64 p, .bool true]) (by simp [results, Tryz.results34, go_sem]) rfl ?_
    first | exact ⟨p, true, rfl, .inl ⟨rfl, HN.out⟩, hb1⟩ | exact ⟨p, .inr ⟨rfl, HN.out, hb1⟩⟩
end Go.Proofs.YtjombaiplnebmaaGreatDoor
