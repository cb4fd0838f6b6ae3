/- What is drawn: a store. -/
import Derived.Test.YthoiljgpggldcaaStepS
open Go.RowKit
namespace Go.Proofs.Ythoiljgpggldcaa
theorem pcs_set0 : ∀ {xs : List (Int × ByteArray)} {k : Nat} {p z : Int} {s : ByteArray}, xs[k]? = some (p, s) → (pcs xs).set (k * 2) (.int .i64 z) = pcs (xs.set k (z, s))
  | [], k, _, _, _, h => by simp at h
  | x :: r, 0, p, z, s, h => by
    obtain rfl : x = (p, s) := by simpa using h
    simp [pcs]
  | x :: r, k + 1, p, z, s, h => by
    have := pcs_set0 (z := z) (show r[k]? = some (p, s) by simpa using h)
    have e : pcs (x :: r) = .int .i64 x.1 :: .string x.2 :: pcs r := by simp [pcs]
    have e2 : pcs (x :: r.set k (z, s)) = .int .i64 x.1 :: .string x.2 :: pcs (r.set k (z, s)) := by simp [pcs]
    rw [List.set_cons_succ, e, e2, show (k + 1) * 2 = k * 2 + 1 + 1 from by omega, List.set_cons_succ, List.set_cons_succ, this]
theorem pcs_set1 : ∀ {xs : List (Int × ByteArray)} {k : Nat} {p : Int} {s t : ByteArray}, xs[k]? = some (p, s) → (pcs xs).set (k * 2 + 1) (.string t) = pcs (xs.set k (p, t))
  | [], k, _, _, _, h => by simp at h
  | x :: r, 0, p, s, t, h => by
    obtain rfl : x = (p, s) := by simpa using h
    simp [pcs]
  | x :: r, k + 1, p, s, t, h => by
    have := pcs_set1 (t := t) (show r[k]? = some (p, s) by simpa using h)
    have e : pcs (x :: r) = .int .i64 x.1 :: .string x.2 :: pcs r := by simp [pcs]
    have e2 : pcs (x :: r.set k (p, t)) = .int .i64 x.1 :: .string x.2 :: pcs (r.set k (p, t)) := by simp [pcs]
    rw [List.set_cons_succ, e, e2, show (k + 1) * 2 + 1 = k * 2 + 1 + 1 + 1 from by omega, List.set_cons_succ, List.set_cons_succ, this]
/-- What is known of the pieces of a store that is drawn. -/
def ShopL (ys : List (Int × ByteArray)) : Prop := ys ≠ [] ∧ ys.length ≤ 41 ∧ ∀ x ∈ ys, x.2.size ≤ 60
theorem shop_good {ys : List (Int × ByteArray)} (h : Good ys) : ShopL ys := ⟨h.2, Nat.le_trans (storeV_len h.1) (by omega), storeV_size h.1⟩
theorem shop_set {ys : List (Int × ByteArray)} {k : Nat} {p z : Int} {s t : ByteArray} (h : Good ys) (hk : ys[k]? = some (p, s)) (ht : t = s ∨ t.size ≤ 60) : ShopL (ys.set k (z, t)) := by
  obtain ⟨h1, h2, h3⟩ := shop_good h
  refine ⟨fun e => h1 (List.eq_nil_of_length_eq_zero (by have := congrArg List.length e; simpa using this)), by rw [List.length_set]; exact h2, fun x hx => ?_⟩
  rcases List.mem_or_eq_of_mem_set hx with hx | rfl
  · exact h3 x hx
  · rcases ht with rfl | ht
    · show t.size ≤ 60
      exact h3 (p, t) (List.mem_of_getElem? hk)
    · exact ht
theorem shop_app {ys : List (Int × ByteArray)} {k : Nat} {p : Int} {s : ByteArray} (h : Good ys) (hk : ys[k]? = some (p, s)) : ShopL (ys ++ [(p, s)]) := by
  have hl := storeV_len h.1
  obtain ⟨h1, h2, h3⟩ := shop_good h
  refine ⟨by simp, by rw [List.length_append, List.length_singleton]; omega, fun x hx => ?_⟩
  rcases List.mem_append.1 hx with hx | hx
  · exact h3 x hx
  · obtain rfl := List.mem_singleton.1 hx
    exact h3 _ (List.mem_of_getElem? hk)
def DrawnSt (w : World) (R p : Nat) (e : Ending) (w' : World) : Prop := ∃ v ys q, e = .returned (.tuple #[v, .int .i64 q]) ∧ ShopL ys ∧ St w' w.heap.size v ys ∧ Rdr w' R (p + 100) ∧ w.grownBy w' (some R)
set_option maxRecDepth 20000 in
set_option maxHeartbeats 20000000 in
theorem l20Store (w : World) (R p : Nat) (m : Int) (h : Rdr w R p) (hp : p ≤ 700000) :
    Calls Try.prog 13 #[.pointer (some ⟨R, 0, none⟩), .int .i64 m] w (DrawnSt w R p) := by
  have hRlt := h.lt
  have hb0 : Below w.heap.size w (w.alloc (.cells #[] 28)) := (Below.refl _ _).alloc (Nat.le_refl _) _
  have hownE := own_empty w 28 2
  go_enter Try.func13, Try.ntmps13
  go_wp2_with fail
  refine (specEmptyRoot w.heap.size 0 _ [] _ hownE (fun e => by cases e) (fun _ h => by cases h) (by omega)).mono ?_
  rintro e w1 ⟨v1, rfl, hown1, hb1, hbk1⟩
  have hB1 := below_step hb0 hb1
  have HS1 := Lib.hid (St.own (own_base hown1 (show w.heap.size ≤ _ from hb0.size)) hbk1)
  have HG1 : Hid (Good (putT [] (folderT [])).1) := Lib.hid ⟨(putT_kept rfl).1, putT_none (by kernel_rfl)⟩
  have hR1 := h.below hB1
  have hg1 := grown_below hB1 (some R)
  clear hown1 hbk1 hb1 hb0 hownE
  generalize (putT [] (folderT [])).1 = xs0, (putT [] (folderT [])).2.1 = q0, (putT [] (folderT [])).2.2 = ok0 at *
  go_wp2_with fail
  refine (pick _ R p 6 hR1 (by omega)).mono ?_
  rintro e w2 ⟨x, rfl, x0, _, x1, hR2, hg2⟩
  obtain ⟨k0, rfl⟩ := Int.eq_ofNat_of_zero_le x0
  have hk0 : k0 ≤ 5 := by have := x1 (by omega); omega
  clear x0 x1
  have hg12 := grown_trans' hg1 hg2
  have HS2 := Lib.hid (HS1.out.grown hg2 hRlt)
  go_wp2_with fail
  go_loopw [6, 7, 9] (fun v q i wr => ∃ (k : Nat) (u : Int) (ys : List (Int × ByteArray)), q = .int .i64 u ∧ i = .int .i64 (k : Int) ∧ k ≤ 5 ∧ Hid (Good ys) ∧ Hid (St wr w.heap.size v ys) ∧ Rdr wr R (p + 60 - 10 * k) ∧ w.grownBy wr (some R)) (fun _ _ i _ => (intOf i).toNat)
  case atStart => exact ⟨k0, q0, xs0, rfl, rfl, hk0, HG1, HS2, hR2.mono (by omega), hg12⟩
  case round =>
    obtain ⟨k, u, ys, rfl, rfl, hk, HG, HS, hR, hg⟩ := hrel
    by_cases hj : 0 < k
    · go_wp2_with fail
      refine (l20Step _ _ u ys wr R _ hR (by omega) HS.out HG.out hRlt).mono ?_
      rintro e w5 ⟨v5, ys5, q5, ok5, rfl, hg5, hs5, hR5, hgr5⟩
      have HG5 := Lib.hid hg5
      have HS5 := Lib.hid hs5
      clear hg5 hs5
      go_wp2_with fail
      go_roundw
      case rel => exact ⟨k - 1, q5, ys5, rfl, by go_num, by omega, HG5, HS5, hR5.mono (by omega), grown_trans' hg hgr5⟩
      case measure => simp [intOf]; omega
    · obtain rfl : k = 0 := by omega
      go_wp2_with fail
      refine (odd _ R _ m hR (by omega)).mono ?_
      rintro e w6 ⟨b, rfl, hR6, hg6⟩
      have HS6 := Lib.hid (HS.out.grown hg6 hRlt)
      have hg06 := grown_trans' hg hg6
      cases b
      · go_wp2_with fail
        refine bodyPost_ret (v := .tuple #[u6, .int .i64 u]) (by simp [results, Try.results13, go_sem]) rfl ?_
        exact ⟨_, ys, u, rfl, shop_good HG.out, HS6.out, hR6.mono (by omega), hg06⟩
      · go_wp2_with fail
        refine (pick _ R _ 3 hR6 (by omega)).mono ?_
        rintro e w7 ⟨x, rfl, x0, _, x1, hR7, hg7⟩
        obtain ⟨_, _, hl1, hl2⟩ := HG.out.big
        obtain ⟨g, c, rfl, h1, h2, h3, h4⟩ := HS6.out.grown hg7 hRlt
        have hg07 := grown_trans' hg06 hg7
        have hw07 : w.heap.size ≤ w7.heap.size := hg07.size
        have hcase : x = 0 ∨ x = 1 ∨ x = 2 := by have := x1 (by omega); omega
        clear x0 x1 hg7
        generalize hly : ys.length = n at *
        rcases hcase with rfl | rfl | rfl
        · go_wp2_with (at_builtin; refine wpList_appS _ rfl (.tmp 46) (.tmp 47) _ rfl w7.heap.size 28 2 24 _ Try.underlying23 pcs_info rfl (by omega) (by omega) _ 0 _ rfl (own_empty w7 28 2) _ _ _ (pcs ys) rfl (h2.alloc _) (pcs_one _) (by omega) (by simp) ?_; intro v4 w4 hown4 hg4 hbk4; have hb4 : Below w7.heap.size w7 w4 := below_app ((Below.refl _ _).alloc (Nat.le_refl _) _) (own_empty w7 28 2) hg4 (by simp); rw [List.nil_append, Nat.zero_add] at hown4; obtain ⟨g4, c4, rfl, hgb4, hnc4⟩ := own_at2 hown4 (by omega))
          have hRB : R < w7.heap.size := hR7.lt
          have hB4 := hb4
          have hR4 := hR7.below hb4
          have hg74 := grown_trans' hg07 (grown_below hb4 (some R))
          clear hg4 hbk4 hb4
          refine (pick _ R _ (n : Int) hR4 (by omega)).mono ?_
          rintro e w8 ⟨x, rfl, x0, _, x1, hR8, hg8⟩
          obtain ⟨j, rfl⟩ := Int.eq_ofNat_of_zero_le x0
          have hj : j < n := by have := x1 (by omega); omega
          clear x0 x1
          go_wp2_with fail
          refine (pick_tab _ R _ w8.heap.size 2 _ _ (intB (-1) 5) (hR8.below ((Below.refl _ _).alloc (Nat.le_refl _) _)) (by omega) (heap_alloc_new w8 _) (Nat.ne_of_gt hR8.lt) rfl (by omega) (by kernel_rfl)).mono ?_
          rintro e w9 ⟨x9, v9, rfl, hx9, hv9, hcell9, hR9, hg9⟩
          obtain ⟨z, rfl, _, _⟩ := intB_of hv9
          have hown9 := own_rdr2 ((own_rdr2 hown4 hg8 hRB).alloc _) hg9 hRB
          obtain ⟨b9, o9, p9, s9, e9, hb9, hxj, hd0, hd1⟩ := (Rd.own hown9).pcAt hj
          injection e9 with e9
          injection e9 with e9 e9'
          subst e9 e9'
          rw [Nat.zero_add] at hd0 hd1
          have hf := hown9.frozenAt (j * 2)
          have HST := Lib.hid (hown9.stored (j * 2) (.int .i64 z))
          have HXJ := Lib.hid hxj
          have hgA := grown_trans' hg74 (grown_trans' hg8 (grown_trans' (World.grownBy_alloc _ _ _) hg9))
          have hji : (j : Int) < (n : Int) := by omega
          clear hxj hown4 hown9 hg8 hg9
          go_wp2_with fail
          refine bodyPost_ret (v := .tuple #[.slice (some ⟨g4, 0, none⟩) n c4, .int .i64 u]) (by simp [results, Try.results13, go_sem]) rfl ?_
          have hso := HST.out.1
          rw [pcs_set0 HXJ.out] at hso
          refine ⟨_, ys.set j (z, s9), u, rfl, shop_set HG.out HXJ.out (Or.inl rfl), (St.own hso (fun e => by cases e)).mono hw07, (rdr_app hR9 HST.out.2 hRB (fun k e => by injection e with e; omega)).mono (by omega), grown_app hgA HST.out.2 (fun k e => by injection e with e; omega)⟩
        · obtain ⟨b9, o9, pp, ss, e9, hb9, hx0, hd0, hd1⟩ := h2.pcAt hl2
          injection e9 with e9
          injection e9 with e9 e9'
          subst e9 e9'
          rw [Nat.zero_mul, Nat.zero_add] at hd0 hd1
          have HX0 := Lib.hid hx0
          clear hx0
          have HT : Hid (∀ W : World, Below w7.heap.size w7 W → Rd W 2 (some ⟨g, 0, none⟩) n (pcs ys)) := Lib.hid (fun W hW => h2.below hW)
          have HCW : Hid (∀ W : World, Below w7.heap.size w7 W → W.cell? ⟨g, 0, none⟩ = some (.int .i64 pp) ∧ W.cell? ⟨g, 1, none⟩ = some (.string ss)) := Lib.hid (fun W hW => ⟨(hW.cell (p := ⟨g, 0, none⟩) (World.block_lt_of_cell? _ _ hd0)).trans hd0, (hW.cell (p := ⟨g, 1, none⟩) (World.block_lt_of_cell? _ _ hd1)).trans hd1⟩)
          have HBW : Hid (∀ (W W' : World) (row : Option Nat), Below w7.heap.size w7 W → W.grownBy W' row → (∀ q, row = some q → w7.heap.size ≤ q) → Below w7.heap.size w7 W') := Lib.hid (fun W W' row h1 h2 h3 => h1.grown h2 h1.size h3)
          have hD : Below w7.heap.size w7 w7.drew := below_drewN w7 1
          have P1 := Lib.hid (hD.alloc (Nat.le_refl _) (.cells #[] 28))
          have P2 := Lib.hid (P1.out.alloc P1.out.size (.cells #[.int .i64 pp, .string ss] 28))
          have P3 := Lib.hid (hD.alloc (Nat.le_refl _) (.cells #[.int .i64 pp, .string ss] 28))
          have P4 := Lib.hid (P3.out.alloc P3.out.size (.cells #[] 28))
          have Q1 : Hid ((w7.drew.alloc (.cells #[] 28)).ownsRow w7.heap.size 28 2 (.slice (some ⟨w7.heap.size, 0, none⟩) 0 0) 0 []) := Lib.hid (own_empty w7.drew 28 2)
          have Q2 := Lib.hid (Q1.out.alloc (.cells #[.int .i64 pp, .string ss] 28))
          have Q3 := Lib.hid (own_base (own_empty (w7.drew.alloc (.cells #[.int .i64 pp, .string ss] 28)) 28 2) P3.out.size)
          clear hD
          have hnI : (0 : Int) < (n : Int) := by omega
          go_wp2_with fail
          go_region_law (first | (refine step_appS (w7.drew.alloc (.cells #[] 28)) rfl (.tmp 63) (.tmp 64) _ rfl w7.heap.size 28 2 24 _ Try.underlying23 pcs_info rfl (by omega) (by omega) _ 0 [] (by simp [Act.eval]) Q1.out (some ⟨g, 0, none⟩) n c (pcs ys) (by simp [Act.eval]) (HT.out _ P1.out) (pcs_one _) (by omega) P1.out.size ?_; intro v8 w8 hown8 hg8 hbk8; rw [List.nil_append, Nat.zero_add] at hown8; have hB8 : Below w7.heap.size w7 w8 := HBW.out _ _ _ P1.out hg8 (fun q e => (World.ownsRow.lt Q1.out q e).1); have hc8 := (HCW.out w8 hB8).1; have hd8 := (HCW.out w8 hB8).2) | (refine step_appS ((w7.drew.alloc (.cells #[] 28)).alloc (.cells #[.int .i64 pp, .string ss] 28)) rfl (.tmp 63) (.tmp 64) _ rfl w7.heap.size 28 2 24 _ Try.underlying23 pcs_info rfl (by omega) (by omega) _ 0 [] (by simp [Act.eval]) Q2.out (some ⟨g, 0, none⟩) n c (pcs ys) (by simp [Act.eval]) (HT.out _ P2.out) (pcs_one _) (by omega) P2.out.size ?_; intro v8 w8 hown8 hg8 hbk8; rw [List.nil_append, Nat.zero_add] at hown8; have hB8 : Below w7.heap.size w7 w8 := HBW.out _ _ _ P2.out hg8 (fun q e => (World.ownsRow.lt Q2.out q e).1); have hc8 := (HCW.out w8 hB8).1; have hd8 := (HCW.out w8 hB8).2; have HPR : Rd w8 2 (some ⟨w7.heap.size + 1, 0, none⟩) 1 [.int .i64 pp, .string ss] := rd_two (grown_heap0 hg8 (heap_two w7.drew (.cells #[] 28) (.cells #[.int .i64 pp, .string ss] 28)).2 (fun e => by injection e with e; simp at e))) | (refine step_appS ((w7.drew.alloc (.cells #[.int .i64 pp, .string ss] 28)).alloc (.cells #[] 28)) rfl (.tmp 63) (.tmp 64) _ rfl w7.heap.size 28 2 24 _ Try.underlying23 pcs_info rfl (by omega) (by omega) _ 0 [] (by simp [Act.eval]) Q3.out (some ⟨g, 0, none⟩) n c (pcs ys) (by simp [Act.eval]) (HT.out _ P4.out) (pcs_one _) (by omega) P4.out.size ?_; intro v8 w8 hown8 hg8 hbk8; rw [List.nil_append, Nat.zero_add] at hown8; have hB8 : Below w7.heap.size w7 w8 := HBW.out _ _ _ P4.out hg8 (fun q e => (World.ownsRow.lt Q3.out q e).1); have hc8 := (HCW.out w8 hB8).1; have hd8 := (HCW.out w8 hB8).2; have HPR : Rd w8 2 (some ⟨w7.heap.size, 0, none⟩) 1 [.int .i64 pp, .string ss] := rd_two (grown_heap0 hg8 (heap_two w7.drew (.cells #[.int .i64 pp, .string ss] 28) (.cells #[] 28)).1 (fun e => by injection e with e; simp at e))) | (refine step_app1 w8 rfl (.tmp 65) (.tmp 69) _ rfl w7.heap.size 28 2 24 _ Try.underlying23 pcs_info rfl (by omega) (by omega) v8 n (pcs ys) (by simp [Act.eval]) hown8 #[.int .i64 pp, .string ss] rfl (one_pc _ _) (by simp [Act.eval]) (by omega) hB8.size ?_; intro v10 w10 hown10 hg10 _; have hB10 : Below w7.heap.size w7 w10 := hB8.grown hg10 hB8.size (fun q e => (hown8.lt q e).1)) | (refine step_appS w8 rfl (.tmp 65) (.tmp 69) _ rfl w7.heap.size 28 2 24 _ Try.underlying23 pcs_info rfl (by omega) (by omega) v8 n (pcs ys) (by simp [Act.eval]) hown8 (some ⟨w7.heap.size + 1, 0, none⟩) 1 1 [.int .i64 pp, .string ss] (by simp [Act.eval]) HPR (one_pc _ _) (by omega) hB8.size ?_; intro v10 w10 hown10 hg10 _; have hB10 : Below w7.heap.size w7 w10 := hB8.grown hg10 hB8.size (fun q e => (hown8.lt q e).1)) | (refine step_appS w8 rfl (.tmp 65) (.tmp 69) _ rfl w7.heap.size 28 2 24 _ Try.underlying23 pcs_info rfl (by omega) (by omega) v8 n (pcs ys) (by simp [Act.eval]) hown8 (some ⟨w7.heap.size, 0, none⟩) 1 1 [.int .i64 pp, .string ss] (by simp [Act.eval]) HPR (one_pc _ _) (by omega) hB8.size ?_; intro v10 w10 hown10 hg10 _; have hB10 : Below w7.heap.size w7 w10 := hB8.grown hg10 hB8.size (fun q e => (hown8.lt q e).1)))
          all_goals
            have HO := Lib.hid hown10
            have hB10 := hB10
            clear hown8 hown10 hg8 hg10
            obtain ⟨g10, c10, rfl, hgb10, hnc10⟩ := own_at2 HO.out (by omega)
            go_wp2_with fail
            refine bodyPost_ret (v := .tuple #[.slice (some ⟨g10, 0, none⟩) (n + 1) c10, .int .i64 u]) (by simp [results, Try.results13, go_sem]) rfl ?_
            have hso := HO.out
            rw [show pcs ys ++ [Value.int .i64 pp, Value.string ss] = pcs (ys ++ [(pp, ss)]) from by simp [pcs]] at hso
            exact ⟨_, ys ++ [(pp, ss)], u, rfl, shop_app HG.out HX0.out, (St.own hso (fun e => by cases e)).mono hw07, (hR7.below hB10).mono (by omega), grown_trans' hg07 (grown_below hB10 _)⟩
        · obtain ⟨j, hjn⟩ : ∃ j, j + 1 = n := ⟨n - 1, by omega⟩
          have hj : j < n := by omega
          have hsub : (n : Int) - 1 = (j : Int) := by omega
          have HJN := Lib.hid hjn
          clear hjn
          go_wp2_with (at_builtin; refine wpList_appS _ rfl (.tmp 35) (.tmp 36) _ rfl w7.heap.size 28 2 24 _ Try.underlying23 pcs_info rfl (by omega) (by omega) _ 0 _ rfl (own_empty w7 28 2) _ _ _ (pcs ys) rfl (h2.alloc _) (pcs_one _) (by omega) (by simp) ?_; intro v4 w4 hown4 hg4 hbk4; have hb4 : Below w7.heap.size w7 w4 := below_app ((Below.refl _ _).alloc (Nat.le_refl _) _) (own_empty w7 28 2) hg4 (by simp); rw [List.nil_append, Nat.zero_add] at hown4; obtain ⟨g4, c4, rfl, hgb4, hnc4⟩ := own_at2 hown4 (by omega); obtain ⟨b9, o9, p9, s9, e9, hb9, hxj, hd0, hd1⟩ := (Rd.own hown4).pcAt hj; injection e9 with e9; injection e9 with e9 e9b; subst e9 e9b; rw [Nat.zero_add] at hd0 hd1; have hf := hown4.frozenAt (j * 2 + 1); have HST := Lib.hid (hown4.stored (j * 2 + 1) (.string ⟨#[116, 117, 114, 110, 101, 100]⟩)); have HXJ := Lib.hid hxj; have hji : (j : Int) < (n : Int) := Int.ofNat_lt.2 hj; clear hxj hown4)
          have hRB : R < w7.heap.size := hR7.lt
          have hR4 := hR7.below hb4
          have hg74 := grown_trans' hg07 (grown_below hb4 (some R))
          refine bodyPost_ret (v := .tuple #[.slice (some ⟨g4, 0, none⟩) n c4, .int .i64 u]) (by simp [results, Try.results13, go_sem]) rfl ?_
          have hso := HST.out.1
          rw [pcs_set1 HXJ.out] at hso
          refine ⟨_, ys.set j (p9, _), u, rfl, shop_set HG.out HXJ.out (Or.inr (by decide)), (St.own hso (fun e => by cases e)).mono hw07, (rdr_app hR4 HST.out.2 hRB (fun k e => by injection e with e; omega)).mono (by omega), grown_app hg74 HST.out.2 (fun k e => by injection e with e; omega)⟩
end Go.Proofs.Ythoiljgpggldcaa
