/- Contract of the program's PathParts. -/
import Derived.Test.YtjombaiplnebmaaGreatDoorMpl
import Derived.Test.YtjombaiplnebmaaGreatDoorPathI
import Derived.Test.YtjombaiplnebmaaGreatDoorMsh
import Derived.Test.YtjombaiplnebmaaGreatDoorFiles
open Go.RowKit
namespace Go.Proofs.YtjombaiplnebmaaGreatDoor
theorem splitB_sizes (sep : ByteArray) : ∀ (k : Nat) (s : ByteArray), ∀ x ∈ Lib.splitB sep 0 k s, x.size ≤ s.size
  | 0, s, x, hx => by
    rw [Lib.splitB_zero, List.mem_singleton] at hx
    rw [hx]
    exact Nat.le_refl _
  | k + 1, s, x, hx => by
    unfold Lib.splitB at hx
    split at hx
    · rw [List.mem_singleton] at hx
      rw [hx]
      exact Nat.le_refl _
    · rcases List.mem_cons.1 hx with rfl | hx
      · rw [ByteArray.size_extract]; omega
      · have := splitB_sizes sep k _ x hx
        rw [ByteArray.size_extract] at this
        omega
theorem own_split (W : World) (done : List ByteArray) (N : Nat) (h : done.length ≤ N) (hN : N ≤ maxLen) : (W.alloc (.cells (Lib.cellsOf done N) 9)).ownsRow W.heap.size 9 1 (.slice (some ⟨W.heap.size, 0, none⟩) done.length N) done.length (strs done) := by
  refine ⟨by rw [strs_length]; omega, .inr ⟨W.heap.size, N, _, rfl, Nat.le_refl _, heap_alloc_new W _, h, hN, by rw [Lib.cellsOf_size h]; omega, ?_⟩⟩
  unfold Lib.cellsOf strs
  rw [Nat.mul_one, List.take_append_of_le_length (by rw [List.length_map]; exact Nat.le_refl _), List.take_of_length_le (by rw [List.length_map]; exact Nat.le_refl _)]
theorem slash_yes (path : ByteArray) (h : path = slash) : (path.toList == [47]) = true := by rw [h, Lib.toList_data]; rfl
theorem slash_no {path : ByteArray} (h : path ≠ slash) : (path.toList == [47]) = false := by
  rw [beq_eq_false_iff_ne]
  intro e
  rw [Lib.toList_data] at e
  exact h (ByteArray.ext (Array.toList_inj.1 e))
theorem str_ne {x y : ByteArray} (h : x ≠ y) : (x.toList == y.toList) = false := by
  rw [beq_eq_false_iff_ne]
  intro e
  rw [Lib.toList_data, Lib.toList_data] at e
  exact h (ByteArray.ext (Array.toList_inj.1 e))
set_option maxHeartbeats 1600000 in
theorem implPathParts (path : ByteArray) (m : Int) (w : World) (hp : path.size ≤ 1048576) (hm : w.cell? ⟨0, 0, none⟩ = some (.int .i64 m)) :
    Calls Tryz.prog 32 #[.string path] w fun e w' => ∃ v, e = .returned (.tuple #[v, .bool (partsP path).2]) ∧ w'.ownsRow w.heap.size 9 1 v (partsP path).1.length (strs (partsP path).1) ∧ Below w.heap.size w w' := by
  have hnil : w.ownsRow w.heap.size 9 1 (.slice none 0 0) 0 (strs []) := ⟨rfl, .inl ⟨rfl, rfl⟩⟩
  by_cases h1 : path = slash
  · have hP : partsP path = ([], true) := by unfold partsP; rw [if_pos h1]
    have HP := Lib.hid hP
    have he := slash_yes path h1
    clear hP h1
    go_enter Tryz.func32, Tryz.ntmps32
    go_wp2_with fail
    refine bodyPost_ret (v := .tuple #[.slice none 0 0, .bool true]) (by simp [results, Tryz.results32, go_sem]) rfl ?_
    rw [HP.out]
    exact ⟨_, rfl, hnil, Below.refl _ _⟩
  · have he := slash_no h1
    have HD : Hid (partsP path = if head1 path 47 = true ∧ joinP (partsI (cut1 path 47)) = path then (partsI (cut1 path 47), true) else ([], false)) := Lib.hid (by unfold partsP; rw [if_neg h1])
    have hcs := cut1_size path 47
    clear h1
    go_enter Tryz.func32, Tryz.ntmps32
    go_wp2_with fail
    refine (cutPrefix1 path 47 _ (by unfold maxLen; omega)).mono ?_
    rintro e w1 ⟨rfl, rfl⟩
    cases hh : head1 path 47
    · have HP : Hid (partsP path = ([], false)) := Lib.hid (by rw [HD.out, if_neg (by rw [hh]; simp)])
      clear hh
      generalize cut1 path 47 = nm at *
      go_wp2_with fail
      refine bodyPost_ret (v := .tuple #[.slice none 0 0, .bool false]) (by simp [results, Tryz.results32, go_sem]) rfl ?_
      rw [HP.out]
      exact ⟨_, rfl, hnil, Below.refl _ _⟩
    · have HD2 : Hid (partsP path = if joinP (partsI (cut1 path 47)) = path then (partsI (cut1 path 47), true) else ([], false)) := Lib.hid (by rw [HD.out, hh]; simp)
      clear hh HD
      generalize cut1 path 47 = nm at *
      have hlen := Lib.splitB_length_le ⟨#[47]⟩ 0 (min 4 (nm.size + 1) - 1) nm
      have hsizes := splitB_sizes ⟨#[47]⟩ (min 4 (nm.size + 1) - 1) nm
      have HS : Hid (∀ x ∈ partsI nm, x.size ≤ maxLen) := Lib.hid (fun x hx => Nat.le_trans (hsizes x hx) (by unfold maxLen; omega))
      have hll : (partsI nm).length ≤ min 4 (nm.size + 1) := Nat.le_trans hlen (by omega)
      have hown := own_split w (partsI nm) (min 4 (nm.size + 1)) hll (by unfold maxLen; omega)
      have hb : Below w.heap.size w (w.alloc (.cells (Lib.cellsOf (partsI nm) (min 4 (nm.size + 1))) 9)) := (Below.refl _ _).alloc (Nat.le_refl _) _
      clear hlen hsizes
      go_wp2_with fail
      refine (Tryz.strings_SplitN nm ⟨#[47]⟩ 4 m _ (by omega) hm (by decide) (by omega) (by omega)).mono ?_
      rintro e w2 ⟨rfl, hw2⟩
      have hl4 : (partsI nm).length ≤ 4 := by omega
      have HO : Hid (w2.ownsRow w.heap.size 9 1 (.slice (some ⟨w.heap.size, 0, none⟩) (partsI nm).length (min 4 (nm.size + 1))) (partsI nm).length (strs (partsI nm))) := Lib.hid (by rw [hw2]; exact hown)
      have hb2 : Below w.heap.size w w2 := by rw [hw2]; exact hb
      clear hw2 hown hb
      generalize hN : min 4 (nm.size + 1) = N at *
      have hQ : Lib.splitB ⟨#[47]⟩ 0 (N - 1) nm = partsI nm := by unfold partsI; rw [hN]
      rw [hQ]
      clear hQ hN
      generalize partsI nm = xs at *
      go_wp2_with fail
      refine (implJoinPath _ _ _ xs _ (Rd.own HO.out) hll HS.out (by omega)).mono ?_
      rintro e w3 ⟨rfl, hb3⟩
      by_cases hj : joinP xs = path
      · have HP : Hid (partsP path = (xs, true)) := Lib.hid (by rw [HD2.out, if_pos hj])
        have hje : ((joinP xs).toList == path.toList) = true := by rw [hj]; simp
        have hjn : ((joinP xs).toList != path.toList) = false := by rw [hj]; simp
        clear hj
        generalize joinP xs = J at *
        go_wp2_with fail
        refine bodyPost_ret (v := .tuple #[.slice (some ⟨w.heap.size, 0, none⟩) xs.length N, .bool true]) (by simp [results, Tryz.results32, go_sem]) rfl ?_
        rw [HP.out]
        exact ⟨_, rfl, own_below HO.out hb3, below_step hb2 hb3⟩
      · have HP : Hid (partsP path = ([], false)) := Lib.hid (by rw [HD2.out, if_neg hj])
        have hje : ((joinP xs).toList == path.toList) = false := str_ne hj
        have hjn : ((joinP xs).toList != path.toList) = true := by rw [bne, hje]; rfl
        clear hj
        generalize joinP xs = J at *
        go_wp2_with fail
        refine bodyPost_ret (v := .tuple #[.slice none 0 0, .bool false]) (by simp [results, Tryz.results32, go_sem]) rfl ?_
        rw [HP.out]
        exact ⟨_, rfl, ⟨rfl, .inl ⟨rfl, rfl⟩⟩, below_step hb2 hb3⟩
end Go.Proofs.YtjombaiplnebmaaGreatDoor
