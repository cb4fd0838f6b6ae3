/- Contracts of both JoinStores. -/
import Derived.Test.YtfjlocfaibbobabJoinP
import Derived.Test.YtfjlocfaibbobabPutTS
import Derived.Deep.QuietTactic
import Derived.BigQuiet
open Go.RowKit
namespace Go.Proofs.Ytfjlocfaibbobab
def joinT (xs ys : List (Int × ByteArray)) : List (Int × ByteArray) × Bool :=
  if storeV xs = true ∧ storeV ys = true then (match joinS xs ys with
    | some js => (js, true)
    | none => ([], false)) else ([], false)
theorem joinT_no {xs ys : List (Int × ByteArray)} (h : ¬ (storeV xs = true ∧ storeV ys = true)) : joinT xs ys = ([], false) := if_neg h
theorem joinT_none {xs ys : List (Int × ByteArray)} (h1 : storeV xs = true) (h2 : storeV ys = true) (h : joinS xs ys = none) : joinT xs ys = ([], false) := by
  unfold joinT
  rw [if_pos ⟨h1, h2⟩, h]
theorem joinT_some {xs ys js : List (Int × ByteArray)} (h1 : storeV xs = true) (h2 : storeV ys = true) (h : joinS xs ys = some js) : joinT xs ys = (js, true) := by
  unfold joinT
  rw [if_pos ⟨h1, h2⟩, h]
theorem joinS_len : ∀ (r out js : List (Int × ByteArray)), joinS out r = some js → js.length ≤ out.length + r.length
  | [], out, js, h => by
    injection h with h
    rw [h]
    exact Nat.le_add_right _ _
  | x :: r, out, js, h => by
    unfold joinS at h
    split at h
    · have h1 := joinS_len r _ js h
      have h2 := putT_len (xs := out) (s := x.2)
      rw [List.length_cons]
      omega
    · cases h
theorem joinT_len (xs ys : List (Int × ByteArray)) : (joinT xs ys).1.length ≤ xs.length + ys.length := by
  unfold joinT
  split
  · split
    · rename_i js h
      exact joinS_len _ _ _ h
    · exact Nat.zero_le _
  · exact Nat.zero_le _
theorem drop_cons {α : Type} {l : List α} {k : Nat} {x : α} (h : l[k]? = some x) : l.drop k = x :: l.drop (k + 1) := by
  obtain ⟨hl, hx⟩ := List.getElem?_eq_some_iff.1 h
  rw [List.drop_eq_getElem_cons hl, hx]
set_option maxRecDepth 8000 in
set_option maxHeartbeats 3200000 in
theorem specJoinStores (A B : Option Addr) (n m c d : Nat) (xs ys : List (Int × ByteArray)) (w : World) (ha : Rd w 2 A n (pcs xs)) (hb : Rd w 2 B m (pcs ys)) (hx : ∀ x ∈ xs, x.2.size ≤ maxLen) (hy : ∀ x ∈ ys, x.2.size ≤ maxLen) (hn : n ≤ 1048576) (hm : m ≤ 1048576) :
    Calls Try.prog 37 #[.slice A n c, .slice B m d] w fun e w' => ∃ v, e = .returned (.tuple #[v, .bool (joinT xs ys).2]) ∧ w'.ownsRow w.heap.size 47 2 v (joinT xs ys).1.length (pcs (joinT xs ys).1) ∧ Below w.heap.size w w' := by
  have HL := Lib.hid ha.pcLen
  have HM := Lib.hid hb.pcLen
  have HX := Lib.hid hx
  have HY := Lib.hid hy
  clear hx hy
  go_enter Try.func37, Try.ntmps37
  go_wp2_with fail
  refine (specStoreValid _ _ _ xs _ ha HX.out (by omega)).mono ?_
  rintro e w1 ⟨rfl, k1, hw1⟩
  have hb1 : Below w.heap.size w w1 := by rw [hw1]; exact below_drewN _ _
  clear hw1
  have ha1 := ha.below hb1
  have hbb1 := hb.below hb1
  cases hv : storeV xs
  · have HJ := Lib.hid (joinT_no (xs := xs) (ys := ys) (by rw [hv]; simp))
    clear hv
    go_wp2_with fail
    refine bodyPost_ret (v := .tuple #[.slice (some ⟨w1.heap.size, 0, none⟩) 0 0, .bool false]) (by simp [results, Try.results37, go_sem]) rfl ?_
    rw [HJ.out]
    exact ⟨_, rfl, own_base (own_empty w1 47 2) hb1.size, hb1.alloc hb1.size _⟩
  · have HV := Lib.hid hv
    clear hv
    go_wp2_with fail
    refine (specStoreValid _ _ _ ys _ hbb1 HY.out (by omega)).mono ?_
    rintro e w2 ⟨rfl, k2, hw2⟩
    have hb2 : Below w1.heap.size w1 w2 := by rw [hw2]; exact below_drewN _ _
    clear hw2
    have hB2 := below_step hb1 hb2
    have ha2 := ha1.below hb2
    have hbb2 := hbb1.below hb2
    cases hv2 : storeV ys
    · have HJ := Lib.hid (joinT_no (xs := xs) (ys := ys) (by rw [hv2]; simp))
      clear hv2
      go_wp2_with fail
      refine bodyPost_ret (v := .tuple #[.slice (some ⟨w2.heap.size, 0, none⟩) 0 0, .bool false]) (by simp [results, Try.results37, go_sem]) rfl ?_
      rw [HJ.out]
      exact ⟨_, rfl, own_base (own_empty w2 47 2) hB2.size, hB2.alloc hB2.size _⟩
    · have HV2 := Lib.hid hv2
      have hlx := goodAll_len HV.out
      have hly := goodAll_len hv2
      rw [HL.out] at hlx
      rw [HM.out] at hly
      clear hv2
      go_wp2_with (at_builtin; refine wpList_appS _ rfl (.tmp 20) (.tmp 21) _ rfl w2.heap.size 47 2 24 _ Try.underlying43 pcs_info rfl (by omega) (by omega) _ 0 _ rfl (own_empty w2 47 2) _ _ _ (pcs xs) rfl (ha2.alloc _) (pcs_one _) (by omega) (by simp) ?_; intro v4 w4 hown4 hg4 hbk4; have hb4 : Below w2.heap.size w2 w4 := below_app ((Below.refl _ _).alloc (Nat.le_refl _) _) (own_empty w2 47 2) hg4 (by simp); rw [List.nil_append, Nat.zero_add] at hown4)
      have hB4 := below_step hB2 hb4
      have hbk : v4.ownBlock ≠ none := fun e => by rcases hbk4 with h | h <;> rw [h] at e <;> cases e
      have hown5 := own_base hown4 hB2.size
      go_loopw [6, 7, 8, 9, 10] (fun v i _ _ _ wr => ∃ (k : Nat) (os : List (Int × ByteArray)), i = .int .i64 (k : Int) ∧ k ≤ m ∧ os.length ≤ 40 + k ∧ Hid (joinS xs ys = joinS os (ys.drop k)) ∧ Hid (∀ x ∈ os, x.2.size ≤ maxLen) ∧ wr.ownsRow w.heap.size 47 2 v os.length (pcs os) ∧ v.ownBlock ≠ none ∧ Below w.heap.size w wr) (fun _ i _ _ _ _ => m - (intOf i).toNat)
      case atStart => exact ⟨0, xs, rfl, Nat.zero_le _, by rw [HL.out]; omega, Lib.hid rfl, HX, by rw [HL.out]; exact hown5, hbk, hB4⟩
      case round =>
        obtain ⟨k, os, rfl, hk, hos, HJ, HO, hown, hbk', hB⟩ := hrel
        by_cases hlt : k < m
        · obtain ⟨b, off, y, t, rfl, hbb, hyk, hc0, hc1⟩ := (hb.below hB).pcAt hlt
          have hts : t.size ≤ maxLen := HY.out _ (List.mem_of_getElem? hyk)
          have hpl := putT_len (xs := os) (s := t)
          have HPM : Hid (∀ x ∈ (putT os t).1, x.2.size ≤ maxLen) := Lib.hid (fun x hx => by
            rcases putT_mem x hx with h | h
            · exact HO.out x h
            · rw [h]; exact hts)
          have HJ' : Hid (joinS xs ys = if (putT os t).2.2 = true then joinS (putT os t).1 (ys.drop (k + 1)) else none) := Lib.hid (by rw [HJ.out, drop_cons hyk]; rfl)
          have hltI : (k : Int) < (m : Int) := by omega
          clear hyk
          go_wp2_with fail
          refine (specPutText _ _ _ t os _ hown hbk' HO.out hts (by omega)).mono ?_
          rintro e w6 ⟨v6, rfl, hown6, hb6, hbk6⟩
          have hB6 := below_step hB hb6
          have hown7 := own_base hown6 hB.size
          clear hown6
          generalize putT os t = r at *
          obtain ⟨zs, pr, bb⟩ := r
          cases bb
          · have HN := Lib.hid (joinT_none HV.out HV2.out (HJ'.out.trans (if_neg (by simp))))
            go_wp2_with fail
            refine bodyPost_ret (v := .tuple #[.slice (some ⟨w6.heap.size, 0, none⟩) 0 0, .bool false]) (by simp [results, Try.results37, go_sem]) rfl ?_
            rw [HN.out]
            exact ⟨_, rfl, own_base (own_empty w6 47 2) hB6.size, hB6.alloc hB6.size _⟩
          · have HJ2 : Hid (joinS xs ys = joinS zs (ys.drop (k + 1))) := Lib.hid (HJ'.out.trans (if_pos rfl))
            dsimp only at hpl hown7
            go_wp2_with fail
            go_roundw
            case rel => exact ⟨k + 1, zs, by go_num, by omega, by omega, HJ2, HPM, hown7, hbk6, hB6⟩
            case measure => simp [intOf]; omega
        · obtain rfl : k = m := by omega
          have HN := Lib.hid (joinT_some HV.out HV2.out (by rw [HJ.out, List.drop_of_length_le (by rw [HM.out]; exact Nat.le_refl _)]; rfl : joinS xs ys = some os))
          obtain ⟨A6, c6, rfl, _⟩ := own_slice hown
          go_wp2_with fail
          refine bodyPost_ret (v := .tuple #[.slice A6 os.length c6, .bool true]) (by simp [results, Try.results37, go_sem]) rfl ?_
          rw [HN.out]
          exact ⟨_, rfl, hown, hB⟩
set_option maxRecDepth 8000 in
set_option maxHeartbeats 3200000 in
theorem implJoinStores (A B : Option Addr) (n m c d : Nat) (xs ys : List (Int × ByteArray)) (w : World) (ha : Rd w 2 A n (pcs xs)) (hb : Rd w 2 B m (pcs ys)) (hx : ∀ x ∈ xs, x.2.size ≤ maxLen) (hy : ∀ x ∈ ys, x.2.size ≤ maxLen) (hn : n ≤ 1048576) (hm : m ≤ 1048576) :
    Calls Try.prog 38 #[.slice A n c, .slice B m d] w fun e w' => ∃ v, e = .returned (.tuple #[v, .bool (joinT xs ys).2]) ∧ w'.ownsRow w.heap.size 47 2 v (joinT xs ys).1.length (pcs (joinT xs ys).1) ∧ Below w.heap.size w w' := by
  have HL := Lib.hid ha.pcLen
  have HM := Lib.hid hb.pcLen
  have HX := Lib.hid hx
  have HY := Lib.hid hy
  clear hx hy
  go_enter Try.func38, Try.ntmps38
  go_wp2_with fail
  refine (implStoreValid _ _ _ xs _ ha HX.out).mono ?_
  rintro e w1 ⟨rfl, hb1⟩
  have ha1 := ha.below hb1
  have hbb1 := hb.below hb1
  cases hv : storeV xs
  · have HJ := Lib.hid (joinT_no (xs := xs) (ys := ys) (by rw [hv]; simp))
    clear hv
    go_wp2_with fail
    refine bodyPost_ret (v := .tuple #[.slice none 0 0, .bool false]) (by simp [results, Try.results38, go_sem]) rfl ?_
    rw [HJ.out]
    exact ⟨_, rfl, World.ownsRow_nil _ _ _ _, hb1⟩
  · have HV := Lib.hid hv
    clear hv
    go_wp2_with fail
    refine (implStoreValid _ _ _ ys _ hbb1 HY.out).mono ?_
    rintro e w2 ⟨rfl, hb2⟩
    have hB2 := below_step hb1 hb2
    have ha2 := ha1.below hb2
    cases hv2 : storeV ys
    · have HJ := Lib.hid (joinT_no (xs := xs) (ys := ys) (by rw [hv2]; simp))
      clear hv2
      go_wp2_with fail
      refine bodyPost_ret (v := .tuple #[.slice none 0 0, .bool false]) (by simp [results, Try.results38, go_sem]) rfl ?_
      rw [HJ.out]
      exact ⟨_, rfl, World.ownsRow_nil _ _ _ _, hB2⟩
    · have HV2 := Lib.hid hv2
      have hlx := goodAll_len HV.out
      have hly := goodAll_len hv2
      rw [HL.out] at hlx
      rw [HM.out] at hly
      have HS := Lib.hid (join_same ys xs HV.out (gd_all hv2))
      have HYO := Lib.hid (gd_all hv2)
      clear hv2
      go_wp2_with fail
      refine (cloneP _ _ _ xs _ ha2 (by omega)).mono ?_
      rintro e w4 ⟨v4, rfl, hown4, hb4⟩
      have hB4 := below_step hB2 hb4
      have hown5 := own_base hown4 hB2.size
      go_wp2_with fail
      go_loopw [6, 8, 9, 10, 23] (fun v _ _ _ i wr => ∃ (k : Nat) (js : List (Int × ByteArray)), i = .int .i64 (k : Int) ∧ k ≤ m ∧ js.length ≤ 40 + k ∧ Hid (joinI xs ys = joinI js (ys.drop k)) ∧ Hid (piecesV 80 js = true) ∧ wr.ownsRow w.heap.size 47 2 v js.length (pcs js) ∧ Below w.heap.size w wr) (fun _ _ _ _ i _ => m - (intOf i).toNat)
      case atStart => exact ⟨0, xs, rfl, Nat.zero_le _, by rw [HL.out]; omega, Lib.hid rfl, Lib.hid (pieces_more (m := 40) HV.out (by rw [HL.out]; omega)), by rw [HL.out]; exact hown5, hB4⟩
      case round =>
        obtain ⟨k, js, rfl, hk, hjs, HJ, HP, hown, hB⟩ := hrel
        by_cases hlt : k < m
        · obtain ⟨b, off, y, t, rfl, hbb, hyk, hc0, hc1⟩ := (hb.below hB).pcAt hlt
          have hltI : (k : Int) < (m : Int) := by omega
          have HOK := Lib.hid (HYO.out _ (List.mem_of_getElem? hyk))
          have HJ' : Hid (joinI xs ys = joinI js ((y, t) :: ys.drop (k + 1))) := Lib.hid (by rw [HJ.out, drop_cons hyk])
          have hff := pieces_falls HP.out y
          have hle := posOf_le (pcBelow y) js
          obtain ⟨A6, c6, rfl, hc6⟩ := own_slice hown
          clear hyk
          have hba : Below wr.heap.size wr (wr.alloc (.cells #[.int .i64 y, .string t] 47)) := (Below.refl _ _).alloc (Nat.le_refl _) _
          have hB5 := below_step hB hba
          have hown5 := own_below hown hba
          have e0 : (wr.alloc (.cells #[.int .i64 y, .string t] 47)).cell? ⟨wr.heap.size, 0, none⟩ = some (.int .i64 y) := cell_of_row _ _ 0 _ 47 (0, 0) (heap_alloc_new wr _)
          have e1 : (wr.alloc (.cells #[.int .i64 y, .string t] 47)).cell? ⟨wr.heap.size, 1, none⟩ = some (.string t) := cell_of_row _ _ 1 _ 47 (0, 0) (heap_alloc_new wr _)
          go_wp2_with fail
          generalize (wr.alloc (.cells #[.int .i64 y, .string t] 47)) = w6 at *
          refine (findPieceC _ _ _ y js _ (Rd.own hown5) hff (by omega)).mono ?_
          rintro e w7 ⟨rfl, hb7⟩
          have hB7 := below_step hB5 hb7
          have hown7 := own_below hown5 hb7
          have e0 := (hb7.cell (p := ⟨wr.heap.size, 0, none⟩) (World.block_lt_of_cell? _ _ e0)).trans e0
          have e1 := (hb7.cell (p := ⟨wr.heap.size, 1, none⟩) (World.block_lt_of_cell? _ _ e1)).trans e1
          cases hfo : foundOf (pcBelow y) (pcIs y) js
          · have HI : Hid (joinI xs ys = joinI (putAt js (y, t)) (ys.drop (k + 1))) := Lib.hid (by
              rw [HJ'.out]
              show (if foundOf (pcBelow y) (pcIs y) js = true then _ else _) = _
              rw [hfo, if_neg (by simp)])
            have HP' := Lib.hid (pieces_put (m := 80) (m' := 80) (x := (y, t)) HP.out HOK.out hfo (by omega))
            have hpl : (putAt js (y, t)).length = js.length + 1 := putAt_len
            have hba8 : Below w7.heap.size w7 (w7.alloc (.cells #[.int .i64 y, .string t] 47)) := (Below.refl _ _).alloc (Nat.le_refl _) _
            have hB8 := below_step hB7 hba8
            have hown8 := own_below hown7 hba8
            have hne8 : (Value.slice A6 js.length c6).ownBlock ≠ some w7.heap.size := fun e => by
              have := (hown7.lt _ e).2
              omega
            have qq := insertP w.heap.size js.length c6 (posOf (pcBelow y) js) w7.heap.size A6 js (y, t) _ hown8 (heap_alloc_new w7 _) hne8 hle (by omega) hB8.size
            have HQ : Hid (putAt js (y, t) = js.take (posOf (pcBelow y) js) ++ [(y, t)] ++ js.drop (posOf (pcBelow y) js)) := Lib.hid rfl
            clear hfo
            go_wp2_with fail
            refine qq.mono ?_
            rintro e w9 ⟨v9, rfl, hown9, hg9⟩
            rw [← HQ.out, ← hpl] at hown9
            have hB9 : Below w.heap.size w w9 := hB8.grown hg9 hB8.size (fun j e => (hown8.lt j e).1)
            have hz : (putAt js (y, t)).length ≤ 40 + (k + 1) := by omega
            clear qq hown8 hba8 hne8 HQ hpl
            generalize putAt js (y, t) = zs at *
            go_wp2_with fail
            go_roundw
            case rel => exact ⟨k + 1, zs, by go_num, by omega, hz, HI, HP', hown9, hB9⟩
            case measure => simp [intOf]; omega
          · obtain ⟨x, hxk, hxi⟩ := found_yes hfo
            obtain ⟨hql, _⟩ := List.getElem?_eq_some_iff.1 hxk
            obtain ⟨y2, t2⟩ := x
            obtain ⟨b2, off2, y', t', e2, _, hxk', hd0, hd1⟩ := (Rd.own hown7).pcAt hql
            rw [hxk] at hxk'
            injection hxk' with hxk'
            injection hxk' with e3 e4
            subst e3 e4
            subst e2
            have hqi : ((posOf (pcBelow y) js : Nat) : Int) < (js.length : Int) := by omega
            by_cases hts : t2 = t
            · have HI : Hid (joinI xs ys = joinI js (ys.drop (k + 1))) := Lib.hid (by
                rw [HJ'.out]
                show (if foundOf (pcBelow y) (pcIs y) js = true then (if (js[posOf (pcBelow y) js]?).map (·.2) = some t then _ else none) else _) = _
                rw [hfo, if_pos rfl, hxk, if_pos (by rw [← hts]; rfl)])
              subst hts
              have heq : (t2.toList == t2.toList) = true := by simp
              have hneq : (t2.toList != t2.toList) = false := by simp
              clear hfo hxk hxi
              generalize posOf (pcBelow y) js = q at *
              go_wp2_with fail
              go_quiet (fail)
              go_wp2_with fail
              go_roundw
              case rel => exact ⟨k + 1, js, by go_num, by omega, by omega, HI, HP, own_below hown7 (below_drewN _ _), below_to hB7 hB7.size (below_drewN _ _)⟩
              case measure => simp [intOf]; omega
            · have HN : Hid (joinT xs ys = ([], false)) := Lib.hid (joinT_none HV.out HV2.out (by
                rw [← HS.out, HJ'.out]
                show fewer (if foundOf (pcBelow y) (pcIs y) js = true then (if (js[posOf (pcBelow y) js]?).map (·.2) = some t then _ else none) else _) = _
                rw [hfo, if_pos rfl, hxk, show (if Option.map (fun x : Int × ByteArray => x.2) (some (y2, t2)) = some t then joinI js (ys.drop (k + 1)) else none) = none from if_neg (fun e => hts (Option.some.inj e))]
                rfl))
              have hneq0 : (t2.toList == t.toList) = false := by
                rw [beq_eq_false_iff_ne]
                intro e
                rw [Lib.toList_data, Lib.toList_data] at e
                exact hts (ByteArray.ext (Array.toList_inj.1 e))
              have hneq : (t2.toList != t.toList) = true := by rw [bne, hneq0]; rfl
              clear hfo hxk hxi hts
              generalize posOf (pcBelow y) js = q at *
              go_wp2_with fail
              go_quiet (fail)
              go_wp2_with fail
              refine bodyPost_ret (v := .tuple #[.slice none 0 0, .bool false]) (by simp [results, Try.results38, go_sem]) rfl ?_
              rw [HN.out]
              exact ⟨_, rfl, World.ownsRow_nil _ _ _ _, below_to hB7 hB7.size (below_drewN _ _)⟩
        · obtain rfl : k = m := by omega
          have HK : Hid (joinI xs ys = some js) := Lib.hid (by rw [HJ.out, List.drop_of_length_le (by rw [HM.out]; exact Nat.le_refl _)]; rfl)
          obtain ⟨A6, c6, rfl, _⟩ := own_slice hown
          by_cases h40 : 40 < js.length
          · have HN := Lib.hid (joinT_none HV.out HV2.out (by rw [← HS.out, HK.out]; exact if_pos h40))
            go_wp2_with fail
            refine bodyPost_ret (v := .tuple #[.slice none 0 0, .bool false]) (by simp [results, Try.results38, go_sem]) rfl ?_
            rw [HN.out]
            exact ⟨_, rfl, World.ownsRow_nil _ _ _ _, hB⟩
          · have HN := Lib.hid (joinT_some HV.out HV2.out (by rw [← HS.out, HK.out]; exact if_neg h40))
            go_wp2_with fail
            refine bodyPost_ret (v := .tuple #[.slice A6 js.length c6, .bool true]) (by simp [results, Try.results38, go_sem]) rfl ?_
            rw [HN.out]
            exact ⟨_, rfl, hown, hB⟩
end Go.Proofs.Ytfjlocfaibbobab
