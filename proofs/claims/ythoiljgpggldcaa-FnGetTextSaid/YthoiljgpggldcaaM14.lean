/- The texts PartsI PartsS as one. -/
import Derived.Test.YthoiljgpggldcaaPartsP
import Derived.Test.YthoiljgpggldcaaM5
import Derived.Test.YthoiljgpggldcaaM2
import Derived.Test.YthoiljgpggldcaaM3
import Derived.Test.YthoiljgpggldcaaCut
import Derived.Deep.RegionLaw
/- Contract of the program's PathParts. -/
open Go.RowKit
namespace Go.Proofs.Ythoiljgpggldcaa
theorem slash_yes (path : ByteArray) (h : path = slash) : (path.toList == [47]) = true := by rw [h, Lib.toList_data]; rfl
theorem slash_no {path : ByteArray} (h : path ≠ slash) : (path.toList == [47]) = false := by
  rw [beq_eq_false_iff_ne]
  intro e
  rw [Lib.toList_data] at e
  exact h (ByteArray.ext (Array.toList_inj.1 e))
theorem str_ne {x y : ByteArray} (h : x ≠ y) : (x.toList == y.toList) = false := by
  rw [beq_eq_false_iff_ne]
  intro e
  rw [Lib.toList_data, Lib.toList_data] at e
  exact h (ByteArray.ext (Array.toList_inj.1 e))
end Go.Proofs.Ythoiljgpggldcaa
/- Contract of the specification's PathParts. -/
open Go.RowKit
namespace Go.Proofs.Ythoiljgpggldcaa
theorem partsP_len (path : ByteArray) : (partsP path).1.length ≤ 4 := by
  unfold partsP
  split
  · exact Nat.zero_le _
  · split
    · have := Lib.splitB_length_le ⟨#[47]⟩ 0 (min 4 ((cut1 path 47).size + 1) - 1) (cut1 path 47)
      have h : (partsI (cut1 path 47)).length ≤ min 4 ((cut1 path 47).size + 1) - 1 + 1 := this
      show (partsI (cut1 path 47)).length ≤ 4
      omega
    · exact Nat.zero_le _
def strL (L : List (List UInt8)) : List Value := strs (L.map ofL)
theorem strL_length (L : List (List UInt8)) : (strL L).length = L.length := by simp [strL, strs]
theorem strL_snoc (L : List (List UInt8)) (l : List UInt8) : strL (L ++ [l]) = strL L ++ [.string (ofL l)] := by simp [strL, strs]
theorem strL_set (P : List (List UInt8)) (l m : List UInt8) : (strL (P ++ [l])).set P.length (.string (ofL m)) = strL (P ++ [m]) := by
  rw [strL_snoc, strL_snoc, List.set_append_right _ _ (Nat.le_of_eq (strL_length P)), strL_length, Nat.sub_self]
  rfl
theorem ofL_add (l : List UInt8) (x : ByteArray) : ofL l ++ x = ofL (l ++ x.data.toList) := by
  refine ByteArray.ext (Array.toList_inj.1 ?_)
  rw [ofL_data]
  simp [ofL_data]
theorem ofL_size (l : List UInt8) : (ofL l).size = l.length := by
  show l.toArray.size = l.length
  rw [List.size_toArray]
theorem one_byte (s : ByteArray) (k : Nat) (h : k < s.size) : (s.extract k (k + 1)).data.toList = [s[k]] := by
  have e := bts_extract s k (k + 1)
  unfold bts at e
  rw [e]
  have hk : k < s.data.toList.length := by rw [Array.length_toList]; exact h
  rw [List.drop_eq_getElem_cons hk, show k + 1 - k = 1 from by omega, List.take_succ_cons, List.take_zero]
  rfl
theorem fold_snoc (s : ByteArray) (k : Nat) (h : k < s.size) : (s.data.toList.take (k + 1)).foldl stepP [] = stepP ((s.data.toList.take k).foldl stepP []) s[k] := by
  have hk : k < s.data.toList.length := by rw [Array.length_toList]; exact h
  rw [take_snoc (List.getElem?_eq_getElem hk), List.foldl_append]
  rfl
set_option maxRecDepth 4000 in
set_option maxHeartbeats 3200000 in
theorem specPathParts (path : ByteArray) (w : World) (hp : path.size ≤ 1048576) :
    Calls Try.prog 40 #[.string path] w fun e w' => ∃ v, e = .returned (.tuple #[v, .bool (partsP path).2]) ∧ w'.ownsRow w.heap.size 9 1 v (partsP path).1.length (strs (partsP path).1) ∧ Below w.heap.size w w' := by
  have hb0 : Below w.heap.size w (w.alloc (.cells #[] 9)) := (Below.refl _ _).alloc (Nat.le_refl _) _
  by_cases h1 : path = slash
  · have HP : Hid (partsP path = ([], true)) := Lib.hid (by unfold partsP; rw [if_pos h1])
    have he := slash_yes path h1
    clear h1
    go_enter Try.func40, Try.ntmps40
    go_wp2_with fail
    refine bodyPost_ret (v := .tuple #[.slice (some ⟨w.heap.size, 0, none⟩) 0 0, .bool true]) (by simp [results, Try.results40, go_sem]) rfl ?_
    rw [HP.out]
    exact ⟨_, rfl, own_empty w 9 1, hb0⟩
  · have he := slash_no h1
    have HS := Lib.hid (partsP_spec h1)
    clear h1
    go_enter Try.func40, Try.ntmps40
    go_wp2_with fail
    go_loopw [4, 5] (fun v i wr => ∃ (k : Nat) (L : List (List UInt8)), k ≤ path.size ∧ i = .int .i64 (k : Int) ∧ Hid (L = (path.data.toList.take k).foldl stepP []) ∧ L.length ≤ k ∧ Hid (∀ l ∈ L, l.length ≤ k) ∧ wr.ownsRow w.heap.size 9 1 v L.length (strL L) ∧ Below w.heap.size w wr) (fun _ i _ => path.size - (intOf i).toNat)
    case atStart => exact ⟨0, [], Nat.zero_le _, rfl, Lib.hid rfl, Nat.le_refl _, Lib.hid (fun l h => by cases h), own_empty w 9 1, hb0⟩
    case round =>
      obtain ⟨k, L, hk, rfl, HL, hLk, HZ, hown, hb⟩ := hrel
      by_cases hlt : k < path.size
      · have hF := fold_snoc path k hlt
        rw [← HL.out] at hF
        have hO := one_byte path k hlt
        by_cases hc : path[k] = 47
        · have hF' : Hid (L ++ [[]] = (path.data.toList.take (k + 1)).foldl stepP []) := Lib.hid (by rw [hF]; unfold stepP; rw [if_pos hc])
          have hcn : (path[k]).toNat = 47 := by rw [hc]; rfl
          clear hF hO hc
          go_wp2_with (at_builtin; refine wpList_app1 _ rfl (.tmp 20) (.tmp 21) _ rfl w.heap.size 9 1 16 (.string ⟨#[]⟩) Try.underlying65 str_info rfl (by omega) (by omega) _ L.length _ rfl hown _ rfl (one_str _) rfl (by omega) hb.size ?_; intro v4 w4 hown4 hg4 _)
          have hb4 := hb.grown hg4 hb.size (fun k e => (hown.lt k e).1)
          go_roundw
          case rel => exact ⟨k + 1, L ++ [[]], by omega, by go_num, hF', by rw [List.length_append]; simp; omega, Lib.hid (fun l hl => by rcases List.mem_append.1 hl with hl | hl; exact Nat.le_succ_of_le (HZ.out l hl); rw [List.mem_singleton.1 hl]; exact Nat.zero_le _), by rw [strL_snoc, List.length_append]; exact hown4, hb4⟩
          case measure => simp [intOf]; omega
        · have hcn : ¬ (path[k]).toNat = 47 := fun e => hc (UInt8.toNat_inj.1 e)
          rcases List.eq_nil_or_concat L with hL | ⟨P, l, hL⟩
          · have hF' : Hid (L = (path.data.toList.take (k + 1)).foldl stepP []) := Lib.hid (by rw [hF]; unfold stepP; rw [if_neg hc, hL]; rfl)
            have hl0 : L.length = 0 := by rw [hL]; rfl
            obtain ⟨A6, c6, rfl, _⟩ := own_slice hown
            have HO := Lib.hid hown
            clear hF hO hc hL hown
            generalize hLn : L.length = n at *
            subst hl0
            go_wp2_with fail
            go_roundw
            case rel => exact ⟨k + 1, L, by omega, by go_num, hF', by omega, Lib.hid (fun l hl => Nat.le_succ_of_le (HZ.out l hl)), by rw [hLn]; exact HO.out, hb⟩
            case measure => simp [intOf]; omega
          · rw [List.concat_eq_append] at hL
            subst hL
            have hlk : l.length ≤ k := HZ.out l (List.mem_append.2 (.inr (List.mem_singleton.2 rfl)))
            have hF' : Hid (P ++ [l ++ [path[k]]] = (path.data.toList.take (k + 1)).foldl stepP []) := Lib.hid (by rw [hF]; unfold stepP; rw [if_neg hc]; simp)
            have hZ' : Hid (∀ y ∈ P ++ [l ++ [path[k]]], y.length ≤ k + 1) := Lib.hid (fun y hy => by
              rcases List.mem_append.1 hy with hy | hy
              · exact Nat.le_succ_of_le (HZ.out y (List.mem_append.2 (.inl hy)))
              · rw [List.mem_singleton.1 hy, List.length_append]
                simp
                omega)
            have hPl : (P ++ [l]).length = P.length + 1 := by simp
            rw [hPl] at hown hLk
            obtain ⟨g, cap, _, rfl, _, hgb⟩ := own_at hown (by omega)
            have hcell : wr.cell? ⟨g, P.length, none⟩ = some (.string (ofL l)) := by
              rw [hown.cellAt P.length (by omega), strL_snoc, List.getElem?_append_right (Nat.le_of_eq (strL_length P)), strL_length, Nat.sub_self]
              rfl
            have hfz := hown.frozenAt P.length
            obtain ⟨q, hq1, hq2, hq3, hq4, hq5, hq6⟩ : ∃ q : Nat, IntKind.i64.wrap ((k : Int) + 1) = (q : Int) ∧ (k : Int) ≤ (q : Int) ∧ (q : Int) ≤ (path.size : Int) ∧ q = k + 1 ∧ k ≤ q ∧ q ≤ path.size := ⟨k + 1, (IntWalk.i64_in _ (by omega)).trans (by omega), by omega, by omega, rfl, by omega, by omega⟩
            have hst := hown.stored P.length (.string (ofL l ++ path.extract k q))
            have hst1 := hst.1
            have hadd : ofL l ++ path.extract k q = ofL (l ++ [path[k]]) := by rw [ofL_add, hq4, hO]
            have hst2 := hst1
            rw [show (strL (P ++ [l])).set P.length (.string (ofL l ++ path.extract k q)) = strL (P ++ [l ++ [path[k]]]) from by rw [hadd, strL_set]] at hst2
            have HST := Lib.hid hst2
            have HADD := Lib.hid hadd
            have HGR := Lib.hid (hb.grown hst.2 hb.size (fun j e => by injection e with e; omega))
            have hsl : (ofL l).size ≤ 1048576 := by rw [ofL_size]; omega
            have hcat : ¬ 9223372036854775807 < (ofL l).size + (q - k) := by omega
            have hq7 := Lib.hid hq4
            have hw0 : IntKind.i64.wrap (P.length : Int) = (P.length : Int) := IntWalk.i64_in _ (by omega)
            have hw1 : IntKind.i64.wrap ((P.length : Int) + 1 - 1) = (P.length : Int) := (IntWalk.i64_in _ (by omega)).trans (by omega)
            have hp0 : (0 : Int) ≤ (P.length : Int) := Int.natCast_nonneg _
            have hpp : (P.length : Int) < (P.length : Int) + 1 := by omega
            clear hF hO hc hst hst1 hst2 hown hadd hq4
            have HPL : Hid ((P ++ [l ++ [path[k]]]).length = P.length + 1) := Lib.hid (by simp)
            generalize P.length = n at *
            go_wp2_with fail
            go_region_law (fail)
            go_wp2_with fail
            go_roundw
            case rel => exact ⟨k + 1, P ++ [l ++ [path[k]]], by omega, by rw [hq7.out], hF', by rw [HPL.out]; omega, hZ', by rw [HPL.out]; exact World.ownsRow.drew HST.out, below_to HGR.out HGR.out.size (below_drewN _ 1)⟩
            case measure => have := hq7.out; simp [intOf]; omega
      · obtain rfl : k = path.size := by omega
        have hfull : path.data.toList.take path.size = path.data.toList := List.take_of_length_le (Nat.le_of_eq (Array.length_toList ..))
        have HM : Hid (L.map ofL = partsS path) := Lib.hid (by rw [HL.out, hfull]; rfl)
        have hlen2 : (L.map ofL).length = L.length := List.length_map ..
        have HX : Hid (∀ x ∈ L.map ofL, x.size ≤ maxLen) := Lib.hid (fun x hx => by
          obtain ⟨l, hl, rfl⟩ := List.mem_map.1 hx
          have := HZ.out l hl
          rw [ofL_size]
          unfold maxLen
          omega)
        obtain ⟨A6, c6, rfl, _⟩ := own_slice hown
        have hr : Rd wr 1 A6 L.length (strs (L.map ofL)) := Rd.own hown
        clear hfull
        by_cases hE : path = ⟨#[]⟩
        · have HP : Hid (partsP path = ([], false)) := Lib.hid (by rw [HS.out, if_neg (fun h => h.1 hE)])
          have hemp : path.toList.isEmpty = true := by rw [hE, Lib.toList_data]; rfl
          clear hE
          go_wp2_with fail
          refine bodyPost_ret (v := .tuple #[.slice (some ⟨wr.heap.size, 0, none⟩) 0 0, .bool false]) (by simp [results, Try.results40, go_sem]) rfl ?_
          rw [HP.out]
          exact ⟨_, rfl, own_base (own_empty wr 9 1) hb.size, hb.alloc hb.size _⟩
        · have hemp : path.toList.isEmpty = false := by
            rw [Lib.toList_data]
            cases hq : path.data.toList.isEmpty
            · rfl
            · exact absurd (ByteArray.ext (Array.toList_inj.1 (List.isEmpty_iff.1 hq))) hE
          go_wp2_with fail
          refine (specJoinPath _ _ _ (L.map ofL) _ hr HX.out (by omega)).mono ?_
          rintro e w3 ⟨rfl, rfl⟩
          rw [HM.out]
          by_cases hj : joinP (partsS path) = path
          · have HP : Hid (partsP path = (partsS path, true)) := Lib.hid (by rw [HS.out, if_pos ⟨hE, hj⟩])
            have hje : ((joinP (partsS path)).toList == path.toList) = true := by rw [hj]; simp
            have hjn : ((joinP (partsS path)).toList != path.toList) = false := by rw [hj]; simp
            clear hj hE
            generalize joinP (partsS path) = J at *
            have HO := Lib.hid hown
            clear hown hr
            generalize hLn : L.length = n at *
            go_wp2_with fail
            refine bodyPost_ret (v := .tuple #[.slice A6 n c6, .bool true]) (by simp [results, Try.results40, go_sem]) rfl ?_
            rw [HP.out]
            have ho := HO.out
            unfold strL at ho
            rw [HM.out] at ho
            exact ⟨_, rfl, by rw [show (partsS path, true).1.length = n from by rw [← hlen2, HM.out]]; exact ho, hb⟩
          · have HP : Hid (partsP path = ([], false)) := Lib.hid (by rw [HS.out, if_neg (fun h => hj h.2)])
            have hje : ((joinP (partsS path)).toList == path.toList) = false := str_ne hj
            have hjn : ((joinP (partsS path)).toList != path.toList) = true := by rw [bne, hje]; rfl
            clear hj hE
            generalize joinP (partsS path) = J at *
            generalize L.length = n at *
            go_wp2_with fail
            refine bodyPost_ret (v := .tuple #[.slice (some ⟨wr.heap.size, 0, none⟩) 0 0, .bool false]) (by simp [results, Try.results40, go_sem]) rfl ?_
            rw [HP.out]
            exact ⟨_, rfl, own_base (own_empty wr 9 1) hb.size, hb.alloc hb.size _⟩
end Go.Proofs.Ythoiljgpggldcaa
