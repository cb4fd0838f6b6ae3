/- Contract of the specification's PutText, of a row of the call's own. -/
import Derived.Test.YthoiljgpggldcaaPutT
import Derived.Test.YthoiljgpggldcaaM3
import Derived.Test.YthoiljgpggldcaaCut
import Derived.Test.YthoiljgpggldcaaDraw2
import Derived.Deep.RegionLaw
open Go.RowKit
namespace Go.Proofs.Ythoiljgpggldcaa
theorem printP_ge {s : ByteArray} (h : textV (bts s) = true) : 0 ≤ printP s := by
  rw [printP_yes h]
  exact (printTo_bd _).1
theorem one_pc (p : Int) (s : ByteArray) : ∀ u ∈ (#[Value.int .i64 p, Value.string s] : Array Value).toList, u.oneCell' = true := by
  intro u hu
  simp at hu
  rcases hu with rfl | rfl <;> rfl
theorem own_blkP {w : World} {base n : Nat} {e : TypeId} {v : Value} {xs : List Value} (h : w.ownsRow base e 2 v n xs) (hn : 0 < n) : v.ownBlock ≠ none := by
  rcases h.2 with ⟨_, h0⟩ | ⟨g, cap, _, rfl, _⟩
  · omega
  · exact fun e => by cases e
theorem grown_heap0 {a b : World} {row : Option Nat} {g : Nat} {o : Obj} (h : a.grownBy b row) (ho : a.heap[g]? = some o) (hne : some g ≠ row) : b.heap[g]? = some o := (h.block g (Array.getElem?_eq_some_iff.1 ho).1 hne).trans ho
theorem rd_two {W : World} {G : Nat} {p : Int} {s : ByteArray} {t : TypeId} (h : W.heap[G]? = some (.cells #[.int .i64 p, .string s] t (0, 0))) : Rd W 2 (some ⟨G, 0, none⟩) 1 [.int .i64 p, .string s] :=
  ⟨rfl, fun _ => ⟨G, 0, rfl, (Array.getElem?_eq_some_iff.1 h).1, fun j u hj => by
    rw [Nat.zero_add, cell_of_row W G j _ _ (0, 0) h, ← Array.getElem?_toList]
    exact hj⟩⟩
set_option maxRecDepth 40000 in
set_option maxHeartbeats 20000000 in
theorem specPutText0 (g n c : Nat) (s : ByteArray) (xs : List (Int × ByteArray)) (w : World) (h : Rd w 2 (some ⟨g, 0, none⟩) n (pcs xs)) (hc : n ≤ c) (hx : ∀ x ∈ xs, x.2.size ≤ maxLen) (hs : s.size ≤ maxLen) (hn : n ≤ 4194000) (hcm : c ≤ maxLen) :
    Calls Try.prog 29 #[.slice (some ⟨g, 0, none⟩) n c, .string s] w fun e w' => ∃ v, e = .returned (.tuple #[v, .int .i64 (putT xs s).2.1, .bool (putT xs s).2.2]) ∧ w'.ownsRow w.heap.size 28 2 v (putT xs s).1.length (pcs (putT xs s).1) ∧ Below w.heap.size w w' ∧ v.ownBlock ≠ none := by
  have HL := Lib.hid h.pcLen
  have HX := Lib.hid hx
  clear hx
  unfold maxLen at hcm
  go_enter Try.func29, Try.ntmps29
  go_wp2_with fail
  refine (specStoreValid _ _ _ xs _ h HX.out (by omega)).mono ?_
  rintro e w1 ⟨rfl, k1, hw1⟩
  have hb1 : Below w.heap.size w w1 := by rw [hw1]; exact below_drewN _ _
  have hr := h.below hb1
  clear hw1
  cases hv : storeV xs
  · have HP := Lib.hid (putT_bad (s := s) hv)
    clear hv
    go_wp2_with fail
    refine bodyPost_ret (v := .tuple #[.slice (some ⟨w1.heap.size, 0, none⟩) 0 0, .int .i64 (-1), .bool false]) (by simp [results, Try.results29, go_sem]) rfl ?_
    rw [HP.out]
    exact ⟨_, rfl, own_base (own_empty w1 28 2) hb1.size, hb1.alloc hb1.size _, fun e => by cases e⟩
  · have HV := Lib.hid hv
    have hle := posOf_le (pcBelow (printP s)) xs
    clear hv
    go_wp2_with (go_at_call 17; refine (specPrintOf s _ hs).mono ?_; rintro e w' ⟨rfl, rfl⟩)
    go_loopw [8] (fun i W => ∃ k : Nat, i = .int .i64 (k : Int) ∧ k ≤ n ∧ Hid (∀ j x, j < k → xs[j]? = some x → pcBelow (printP s) x = true) ∧ W = w1) (fun i _ => n - (intOf i).toNat)
    case atStart => exact ⟨0, rfl, Nat.zero_le _, Lib.hid (fun j _ hj => by omega), rfl⟩
    case round =>
      obtain ⟨k, rfl, hk, HB, hW⟩ := hrel
      obtain rfl := hW.symm
      by_cases hlt : k < n
      · obtain ⟨bb, off, y, t, e1, _, hxk, hd0, hd1⟩ := hr.pcAt hlt
        injection e1 with e1
        injection e1 with e1 e2
        subst e1 e2
        rw [Nat.zero_add] at hd0 hd1
        have hkn' : (k : Int) < (n : Int) := by omega
        by_cases hyp : y < printP s
        · have HB' : Hid (∀ j x, j < k + 1 → xs[j]? = some x → pcBelow (printP s) x = true) := Lib.hid (fun j x hj hx => by
            rcases Nat.lt_or_ge j k with h3 | h3
            · exact HB.out j x h3 hx
            · obtain rfl : j = k := by omega
              rw [hxk] at hx
              obtain rfl := Option.some.inj hx
              exact decide_eq_true hyp)
          clear hxk
          go_wp2_with fail
          go_roundw
          case rel => exact ⟨k + 1, by go_num, by omega, HB', trivial⟩
          case measure => simp [intOf]; omega
        · have HE := Lib.hid (show posOf (pcBelow (printP s)) xs = k from posOf_is (by rw [HL.out]; omega) HB.out (fun x hxx => by rw [hxk] at hxx; obtain rfl := Option.some.inj hxx; exact decide_eq_false hyp))
          have HXK := Lib.hid (show xs[posOf (pcBelow (printP s)) xs]? = some (y, t) by rw [HE.out]; exact hxk)
          clear hxk
          by_cases hyq : y = printP s
          · have HF : Hid (foundOf (pcBelow (printP s)) (pcIs (printP s)) xs = true) := Lib.hid (by unfold foundOf; rw [HXK.out]; show (y == printP s) = true; rw [hyq]; simp)
            have hyb : (y == printP s) = true := by rw [hyq]; simp
            clear hyq
            cases ht : textV (bts s)
            · have HT0 := Lib.hid (printP_no ht)
              have HP := Lib.hid (putT_no HV.out ht)
              have hlt0 : printP s < 0 := by rw [HT0.out]; omega
              clear ht
              go_wp2_with (at_builtin; refine wpList_appS _ rfl (.tmp 68) (.tmp 69) _ rfl w1.heap.size 28 2 24 _ Try.underlying23 pcs_info rfl (by omega) (by omega) _ 0 _ rfl (own_empty w1 28 2) _ _ _ (pcs xs) rfl (hr.alloc _) (pcs_one _) (by omega) (by simp) ?_; intro v4 w4 hown4 hg4 hbk4; have hb4 : Below w1.heap.size w1 w4 := below_app ((Below.refl _ _).alloc (Nat.le_refl _) _) (own_empty w1 28 2) hg4 (by simp); rw [List.nil_append, Nat.zero_add] at hown4)
              refine bodyPost_ret (v := .tuple #[v4, .int .i64 (-1), .bool false]) (by simp [results, Try.results29, go_sem]) rfl ?_
              rw [HP.out]
              refine ⟨_, rfl, ?_, below_step hb1 hb4, fun e => by rcases hbk4 with h | h <;> rw [h] at e <;> cases e⟩
              dsimp only
              rw [HL.out]
              exact own_base hown4 hb1.size

            · have HTV := Lib.hid ht
              have hge0 := printP_ge ht
              clear ht
              by_cases hts : t = s
              · have HP := Lib.hid (putT_here HV.out HTV.out HF.out HXK.out hts)
                subst hts
                have heq : (t.toList == t.toList) = true := by simp
                have hneq : (t.toList != t.toList) = false := by simp
                go_wp2_with (at_builtin; refine wpList_appS _ rfl (.tmp 73) (.tmp 74) _ rfl w1.heap.size 28 2 24 _ Try.underlying23 pcs_info rfl (by omega) (by omega) _ 0 _ rfl (own_empty w1 28 2) _ _ _ (pcs xs) rfl (hr.alloc _) (pcs_one _) (by omega) (by simp) ?_; intro v4 w4 hown4 hg4 hbk4; have hb4 : Below w1.heap.size w1 w4 := below_app ((Below.refl _ _).alloc (Nat.le_refl _) _) (own_empty w1 28 2) hg4 (by simp); rw [List.nil_append, Nat.zero_add] at hown4)
                refine bodyPost_ret (v := .tuple #[v4, .int .i64 (printP t), .bool true]) (by simp [results, Try.results29, go_sem]) rfl ?_
                rw [HP.out]
                refine ⟨_, rfl, ?_, below_step hb1 hb4, fun e => by rcases hbk4 with h | h <;> rw [h] at e <;> cases e⟩
                dsimp only
                rw [HL.out]
                exact own_base hown4 hb1.size

              · have HP := Lib.hid (putT_other HV.out HTV.out HF.out HXK.out hts)
                have hneq0 : (t.toList == s.toList) = false := by
                  rw [beq_eq_false_iff_ne]
                  intro e
                  rw [Lib.toList_data, Lib.toList_data] at e
                  exact hts (ByteArray.ext (Array.toList_inj.1 e))
                have hneq : (t.toList != s.toList) = true := by rw [bne, hneq0]; rfl
                clear hts
                go_wp2_with (at_builtin; refine wpList_appS _ rfl (.tmp 68) (.tmp 69) _ rfl w1.heap.size 28 2 24 _ Try.underlying23 pcs_info rfl (by omega) (by omega) _ 0 _ rfl (own_empty w1 28 2) _ _ _ (pcs xs) rfl (hr.alloc _) (pcs_one _) (by omega) (by simp) ?_; intro v4 w4 hown4 hg4 hbk4; have hb4 : Below w1.heap.size w1 w4 := below_app ((Below.refl _ _).alloc (Nat.le_refl _) _) (own_empty w1 28 2) hg4 (by simp); rw [List.nil_append, Nat.zero_add] at hown4)
                refine bodyPost_ret (v := .tuple #[v4, .int .i64 (-1), .bool false]) (by simp [results, Try.results29, go_sem]) rfl ?_
                rw [HP.out]
                refine ⟨_, rfl, ?_, below_step hb1 hb4, fun e => by rcases hbk4 with h | h <;> rw [h] at e <;> cases e⟩
                dsimp only
                rw [HL.out]
                exact own_base hown4 hb1.size

          · have HF : Hid (foundOf (pcBelow (printP s)) (pcIs (printP s)) xs = false) := Lib.hid (by unfold foundOf; rw [HXK.out]; show (y == printP s) = false; simp [hyq])
            have hyb : (y == printP s) = false := by simp [hyq]
            clear hyq
            cases ht : textV (bts s)
            · have HT0 := Lib.hid (printP_no ht)
              have HP := Lib.hid (putT_no HV.out ht)
              have hlt0 : printP s < 0 := by rw [HT0.out]; omega
              clear ht
              go_wp2_with (at_builtin; refine wpList_appS _ rfl (.tmp 68) (.tmp 69) _ rfl w1.heap.size 28 2 24 _ Try.underlying23 pcs_info rfl (by omega) (by omega) _ 0 _ rfl (own_empty w1 28 2) _ _ _ (pcs xs) rfl (hr.alloc _) (pcs_one _) (by omega) (by simp) ?_; intro v4 w4 hown4 hg4 hbk4; have hb4 : Below w1.heap.size w1 w4 := below_app ((Below.refl _ _).alloc (Nat.le_refl _) _) (own_empty w1 28 2) hg4 (by simp); rw [List.nil_append, Nat.zero_add] at hown4)
              refine bodyPost_ret (v := .tuple #[v4, .int .i64 (-1), .bool false]) (by simp [results, Try.results29, go_sem]) rfl ?_
              rw [HP.out]
              refine ⟨_, rfl, ?_, below_step hb1 hb4, fun e => by rcases hbk4 with h | h <;> rw [h] at e <;> cases e⟩
              dsimp only
              rw [HL.out]
              exact own_base hown4 hb1.size

            · have HTV := Lib.hid ht
              have hge0 := printP_ge ht
              clear ht
              by_cases h40 : n = 40
              · have HP := Lib.hid (putT_full HV.out HTV.out HF.out (by rw [HL.out]; exact h40))
                have h40i : ((n : Int) == 40) = true := by rw [h40]; rfl
                have H40 := Lib.hid h40
                clear h40
                go_wp2_with (at_builtin; refine wpList_appS _ rfl (.tmp 68) (.tmp 69) _ rfl w1.heap.size 28 2 24 _ Try.underlying23 pcs_info rfl (by omega) (by omega) _ 0 _ rfl (own_empty w1 28 2) _ _ _ (pcs xs) rfl (hr.alloc _) (pcs_one _) (by omega) (by simp) ?_; intro v4 w4 hown4 hg4 hbk4; have hb4 : Below w1.heap.size w1 w4 := below_app ((Below.refl _ _).alloc (Nat.le_refl _) _) (own_empty w1 28 2) hg4 (by simp); rw [List.nil_append, Nat.zero_add] at hown4)
                refine bodyPost_ret (v := .tuple #[v4, .int .i64 (-1), .bool false]) (by simp [results, Try.results29, go_sem]) rfl ?_
                rw [HP.out]
                refine ⟨_, rfl, ?_, below_step hb1 hb4, fun e => by rcases hbk4 with h | h <;> rw [h] at e <;> cases e⟩
                dsimp only
                rw [HL.out]
                exact own_base hown4 hb1.size

              · have HP := Lib.hid (putT_new HV.out HTV.out HF.out (by rw [HL.out]; exact h40))
                have HIL : Hid ((insP xs s).length = n + 1) := Lib.hid (by rw [insP_len, HL.out])
                have h40i : ((n : Int) == 40) = false := by simp; omega
                have hk0 : (0 : Int) ≤ (k : Int) := Int.natCast_nonneg _
                have hkn : (k : Int) ≤ (n : Int) := by omega
                have hnc : (n : Int) ≤ (c : Int) := by omega
                have hkc : (k : Int) ≤ (c : Int) := by omega
                have hck : ¬ c = k := by omega
                have HT : Hid (∀ W : World, Below w1.heap.size w1 W → Rd W 2 (some ⟨g, 0, none⟩) k (pcs (xs.take k))) := Lib.hid (fun W hW => by
                  have := (hr.below hW).pcCut 0 k (by omega)
                  rw [List.drop_zero, Nat.zero_mul, Nat.add_zero] at this
                  exact this)
                have HBW : Hid (∀ (W W' : World) (row : Option Nat), Below w1.heap.size w1 W → W.grownBy W' row → (∀ q, row = some q → w1.heap.size ≤ q) → Below w1.heap.size w1 W') := Lib.hid (fun W W' row h1 h2 h3 => h1.grown h2 h1.size h3)
                have HYR : Hid (∀ W : World, Below w1.heap.size w1 W → Rd W 2 (some ⟨g, k * 2, none⟩) (n - k) (pcs (xs.drop k))) := Lib.hid (fun W hW => by
                  have := (hr.below hW).pcCut k (n - k) (by omega)
                  rw [Nat.zero_add, List.take_of_length_le (by rw [List.length_drop, HL.out]; exact Nat.le_refl _)] at this
                  exact this)
                have hD : Below w1.heap.size w1 w1.drew := below_drewN w1 1
                have P1 := Lib.hid (hD.alloc (Nat.le_refl _) (.cells #[] 28))
                have P2 := Lib.hid (P1.out.alloc P1.out.size (.cells #[.int .i64 (printP s), .string s] 28))
                have P3 := Lib.hid (hD.alloc (Nat.le_refl _) (.cells #[.int .i64 (printP s), .string s] 28))
                have P4 := Lib.hid (P3.out.alloc P3.out.size (.cells #[] 28))
                have Q1 : Hid ((w1.drew.alloc (.cells #[] 28)).ownsRow w1.heap.size 28 2 (.slice (some ⟨w1.heap.size, 0, none⟩) 0 0) 0 []) := Lib.hid (own_empty w1.drew 28 2)
                have Q2 := Lib.hid (Q1.out.alloc (.cells #[.int .i64 (printP s), .string s] 28))
                have Q3 := Lib.hid (own_base (own_empty (w1.drew.alloc (.cells #[.int .i64 (printP s), .string s] 28)) 28 2) P3.out.size)
                clear hD
                go_wp2_with fail
                go_region_law (first | (refine step_appS (w1.drew.alloc (.cells #[] 28)) rfl (.tmp 77) (.tmp 80) _ rfl w1.heap.size 28 2 24 _ Try.underlying23 pcs_info rfl (by omega) (by omega) _ 0 [] (by simp [Act.eval]) Q1.out (some ⟨g, 0, none⟩) k c (pcs (xs.take k)) (by simp [Act.eval]) (HT.out _ P1.out) (pcs_one _) (by omega) P1.out.size ?_; intro v8 w8 hown8 hg8 hbk8; rw [List.nil_append, Nat.zero_add] at hown8; have hB8 : Below w1.heap.size w1 w8 := HBW.out _ _ _ P1.out hg8 (fun q e => (World.ownsRow.lt Q1.out q e).1)) | (refine step_appS ((w1.drew.alloc (.cells #[] 28)).alloc (.cells #[.int .i64 (printP s), .string s] 28)) rfl (.tmp 77) (.tmp 80) _ rfl w1.heap.size 28 2 24 _ Try.underlying23 pcs_info rfl (by omega) (by omega) _ 0 [] (by simp [Act.eval]) Q2.out (some ⟨g, 0, none⟩) k c (pcs (xs.take k)) (by simp [Act.eval]) (HT.out _ P2.out) (pcs_one _) (by omega) P2.out.size ?_; intro v8 w8 hown8 hg8 hbk8; rw [List.nil_append, Nat.zero_add] at hown8; have hB8 : Below w1.heap.size w1 w8 := HBW.out _ _ _ P2.out hg8 (fun q e => (World.ownsRow.lt Q2.out q e).1); have HPR : Rd w8 2 (some ⟨w1.heap.size + 1, 0, none⟩) 1 [.int .i64 (printP s), .string s] := rd_two (grown_heap0 hg8 (heap_two w1.drew (.cells #[] 28) (.cells #[.int .i64 (printP s), .string s] 28)).2 (fun e => by injection e with e; simp at e))) | (refine step_appS ((w1.drew.alloc (.cells #[.int .i64 (printP s), .string s] 28)).alloc (.cells #[] 28)) rfl (.tmp 77) (.tmp 80) _ rfl w1.heap.size 28 2 24 _ Try.underlying23 pcs_info rfl (by omega) (by omega) _ 0 [] (by simp [Act.eval]) Q3.out (some ⟨g, 0, none⟩) k c (pcs (xs.take k)) (by simp [Act.eval]) (HT.out _ P4.out) (pcs_one _) (by omega) P4.out.size ?_; intro v8 w8 hown8 hg8 hbk8; rw [List.nil_append, Nat.zero_add] at hown8; have hB8 : Below w1.heap.size w1 w8 := HBW.out _ _ _ P4.out hg8 (fun q e => (World.ownsRow.lt Q3.out q e).1); have HPR : Rd w8 2 (some ⟨w1.heap.size, 0, none⟩) 1 [.int .i64 (printP s), .string s] := rd_two (grown_heap0 hg8 (heap_two w1.drew (.cells #[.int .i64 (printP s), .string s] 28) (.cells #[] 28)).1 (fun e => by injection e with e; simp at e))) | (refine step_app1 w8 rfl (.tmp 81) (.tmp 85) _ rfl w1.heap.size 28 2 24 _ Try.underlying23 pcs_info rfl (by omega) (by omega) v8 k (pcs (xs.take k)) (by simp [Act.eval]) hown8 #[.int .i64 (printP s), .string s] rfl (one_pc _ _) (by simp [Act.eval]) (by omega) hB8.size ?_; intro v10 w10 hown10 hg10 _; have hB10 : Below w1.heap.size w1 w10 := hB8.grown hg10 hB8.size (fun q e => (hown8.lt q e).1)) | (refine step_appS w8 rfl (.tmp 81) (.tmp 85) _ rfl w1.heap.size 28 2 24 _ Try.underlying23 pcs_info rfl (by omega) (by omega) v8 k (pcs (xs.take k)) (by simp [Act.eval]) hown8 (some ⟨w1.heap.size + 1, 0, none⟩) 1 1 [.int .i64 (printP s), .string s] (by simp [Act.eval]) HPR (one_pc _ _) (by omega) hB8.size ?_; intro v10 w10 hown10 hg10 _; have hB10 : Below w1.heap.size w1 w10 := hB8.grown hg10 hB8.size (fun q e => (hown8.lt q e).1)) | (refine step_appS w8 rfl (.tmp 81) (.tmp 85) _ rfl w1.heap.size 28 2 24 _ Try.underlying23 pcs_info rfl (by omega) (by omega) v8 k (pcs (xs.take k)) (by simp [Act.eval]) hown8 (some ⟨w1.heap.size, 0, none⟩) 1 1 [.int .i64 (printP s), .string s] (by simp [Act.eval]) HPR (one_pc _ _) (by omega) hB8.size ?_; intro v10 w10 hown10 hg10 _; have hB10 : Below w1.heap.size w1 w10 := hB8.grown hg10 hB8.size (fun q e => (hown8.lt q e).1)) | (refine step_appS w10 rfl (.tmp 86) (.tmp 89) _ rfl w1.heap.size 28 2 24 _ Try.underlying23 pcs_info rfl (by omega) (by omega) v10 (k + 1) _ (by simp [Act.eval]) hown10 (some ⟨g, k * 2, none⟩) (n - k) (c - k) (pcs (xs.drop k)) (by simp [Act.eval]) (HYR.out _ hB10) (pcs_one _) (by omega) hB10.size ?_; intro v12 w12 hown12 hg12 _; have hB12 : Below w1.heap.size w1 w12 := hB10.grown hg12 hB10.size (fun q e => (hown10.lt q e).1)))
                all_goals
                  have hl12 : k + 1 + (n - k) = n + 1 := by omega
                  have hown13 := own_base hown12 hb1.size
                  rw [hl12] at hown13
                  have HO : Hid (w12.ownsRow w.heap.size 28 2 v12 (n + 1) (pcs (insP xs s))) := Lib.hid (by
                    have e : pcs (xs.take k) ++ [.int .i64 (printP s), .string s] ++ pcs (xs.drop k) = pcs (insP xs s) := by
                      unfold insP
                      rw [HE.out, pcs_append, pcs_append]
                      rfl
                    rw [← e]
                    exact hown13)
                  have HBK : Hid (v12.ownBlock ≠ none) := Lib.hid (own_blkP hown12 (by omega))
                  clear hown8 hown10 hown12 hown13 hg8 hg10 hg12
                  go_wp2_with fail
                  refine bodyPost_ret (v := .tuple #[v12, .int .i64 (printP s), .bool true]) (by simp [results, Try.results29, go_sem]) rfl ?_
                  rw [HP.out]
                  refine ⟨_, rfl, ?_, below_step hb1 hB12, HBK.out⟩
                  dsimp only
                  rw [HIL.out]
                  exact HO.out

      · obtain rfl : k = n := by omega
        have HE := Lib.hid (show posOf (pcBelow (printP s)) xs = k from posOf_is (by rw [HL.out]; omega) HB.out (fun x hxx => by have := (List.getElem?_eq_some_iff.1 hxx).1; rw [HL.out] at this; omega))
        have HF : Hid (foundOf (pcBelow (printP s)) (pcIs (printP s)) xs = false) := Lib.hid (by unfold foundOf; rw [HE.out, List.getElem?_eq_none (by rw [HL.out]; omega)])
        cases ht : textV (bts s)
        · have HT0 := Lib.hid (printP_no ht)
          have HP := Lib.hid (putT_no HV.out ht)
          have hlt0 : printP s < 0 := by rw [HT0.out]; omega
          clear ht
          go_wp2_with (at_builtin; refine wpList_appS _ rfl (.tmp 68) (.tmp 69) _ rfl w1.heap.size 28 2 24 _ Try.underlying23 pcs_info rfl (by omega) (by omega) _ 0 _ rfl (own_empty w1 28 2) _ _ _ (pcs xs) rfl (hr.alloc _) (pcs_one _) (by omega) (by simp) ?_; intro v4 w4 hown4 hg4 hbk4; have hb4 : Below w1.heap.size w1 w4 := below_app ((Below.refl _ _).alloc (Nat.le_refl _) _) (own_empty w1 28 2) hg4 (by simp); rw [List.nil_append, Nat.zero_add] at hown4)
          refine bodyPost_ret (v := .tuple #[v4, .int .i64 (-1), .bool false]) (by simp [results, Try.results29, go_sem]) rfl ?_
          rw [HP.out]
          refine ⟨_, rfl, ?_, below_step hb1 hb4, fun e => by rcases hbk4 with h | h <;> rw [h] at e <;> cases e⟩
          dsimp only
          rw [HL.out]
          exact own_base hown4 hb1.size

        · have HTV := Lib.hid ht
          have hge0 := printP_ge ht
          clear ht
          by_cases h40 : k = 40
          · have HP := Lib.hid (putT_full HV.out HTV.out HF.out (by rw [HL.out]; exact h40))
            have h40i : ((k : Int) == 40) = true := by rw [h40]; rfl
            have H40 := Lib.hid h40
            clear h40
            go_wp2_with (at_builtin; refine wpList_appS _ rfl (.tmp 68) (.tmp 69) _ rfl w1.heap.size 28 2 24 _ Try.underlying23 pcs_info rfl (by omega) (by omega) _ 0 _ rfl (own_empty w1 28 2) _ _ _ (pcs xs) rfl (hr.alloc _) (pcs_one _) (by omega) (by simp) ?_; intro v4 w4 hown4 hg4 hbk4; have hb4 : Below w1.heap.size w1 w4 := below_app ((Below.refl _ _).alloc (Nat.le_refl _) _) (own_empty w1 28 2) hg4 (by simp); rw [List.nil_append, Nat.zero_add] at hown4)
            refine bodyPost_ret (v := .tuple #[v4, .int .i64 (-1), .bool false]) (by simp [results, Try.results29, go_sem]) rfl ?_
            rw [HP.out]
            refine ⟨_, rfl, ?_, below_step hb1 hb4, fun e => by rcases hbk4 with h | h <;> rw [h] at e <;> cases e⟩
            dsimp only
            rw [HL.out]
            exact own_base hown4 hb1.size

          · have HP := Lib.hid (putT_new HV.out HTV.out HF.out (by rw [HL.out]; exact h40))
            have HIL : Hid ((insP xs s).length = k + 1) := Lib.hid (by rw [insP_len, HL.out])
            have h40i : ((k : Int) == 40) = false := by simp; omega
            by_cases hck : k = c
            · subst hck
              have HT : Hid (∀ W : World, Below w1.heap.size w1 W → Rd W 2 (some ⟨g, 0, none⟩) k (pcs (xs.take k))) := Lib.hid (fun W hW => by
                have := (hr.below hW).pcCut 0 k (by omega)
                rw [List.drop_zero, Nat.zero_mul, Nat.add_zero] at this
                exact this)
              have HBW : Hid (∀ (W W' : World) (row : Option Nat), Below w1.heap.size w1 W → W.grownBy W' row → (∀ q, row = some q → w1.heap.size ≤ q) → Below w1.heap.size w1 W') := Lib.hid (fun W W' row h1 h2 h3 => h1.grown h2 h1.size h3)
              have HYR : Hid (∀ W : World, Below w1.heap.size w1 W → Rd W 2 (some ⟨g, 0, none⟩) 0 (pcs (xs.drop k))) := Lib.hid (fun W _ => ⟨by rw [pcs_length, List.length_drop, HL.out]; omega, fun h => by omega⟩)
              have hD : Below w1.heap.size w1 w1.drew := below_drewN w1 1
              have P1 := Lib.hid (hD.alloc (Nat.le_refl _) (.cells #[] 28))
              have P2 := Lib.hid (P1.out.alloc P1.out.size (.cells #[.int .i64 (printP s), .string s] 28))
              have P3 := Lib.hid (hD.alloc (Nat.le_refl _) (.cells #[.int .i64 (printP s), .string s] 28))
              have P4 := Lib.hid (P3.out.alloc P3.out.size (.cells #[] 28))
              have Q1 : Hid ((w1.drew.alloc (.cells #[] 28)).ownsRow w1.heap.size 28 2 (.slice (some ⟨w1.heap.size, 0, none⟩) 0 0) 0 []) := Lib.hid (own_empty w1.drew 28 2)
              have Q2 := Lib.hid (Q1.out.alloc (.cells #[.int .i64 (printP s), .string s] 28))
              have Q3 := Lib.hid (own_base (own_empty (w1.drew.alloc (.cells #[.int .i64 (printP s), .string s] 28)) 28 2) P3.out.size)
              clear hD
              go_wp2_with fail
              go_region_law (first | (refine step_appS (w1.drew.alloc (.cells #[] 28)) rfl (.tmp 77) (.tmp 80) _ rfl w1.heap.size 28 2 24 _ Try.underlying23 pcs_info rfl (by omega) (by omega) _ 0 [] (by simp [Act.eval]) Q1.out (some ⟨g, 0, none⟩) k k (pcs (xs.take k)) (by simp [Act.eval]) (HT.out _ P1.out) (pcs_one _) (by omega) P1.out.size ?_; intro v8 w8 hown8 hg8 hbk8; rw [List.nil_append, Nat.zero_add] at hown8; have hB8 : Below w1.heap.size w1 w8 := HBW.out _ _ _ P1.out hg8 (fun q e => (World.ownsRow.lt Q1.out q e).1)) | (refine step_appS ((w1.drew.alloc (.cells #[] 28)).alloc (.cells #[.int .i64 (printP s), .string s] 28)) rfl (.tmp 77) (.tmp 80) _ rfl w1.heap.size 28 2 24 _ Try.underlying23 pcs_info rfl (by omega) (by omega) _ 0 [] (by simp [Act.eval]) Q2.out (some ⟨g, 0, none⟩) k k (pcs (xs.take k)) (by simp [Act.eval]) (HT.out _ P2.out) (pcs_one _) (by omega) P2.out.size ?_; intro v8 w8 hown8 hg8 hbk8; rw [List.nil_append, Nat.zero_add] at hown8; have hB8 : Below w1.heap.size w1 w8 := HBW.out _ _ _ P2.out hg8 (fun q e => (World.ownsRow.lt Q2.out q e).1); have HPR : Rd w8 2 (some ⟨w1.heap.size + 1, 0, none⟩) 1 [.int .i64 (printP s), .string s] := rd_two (grown_heap0 hg8 (heap_two w1.drew (.cells #[] 28) (.cells #[.int .i64 (printP s), .string s] 28)).2 (fun e => by injection e with e; simp at e))) | (refine step_appS ((w1.drew.alloc (.cells #[.int .i64 (printP s), .string s] 28)).alloc (.cells #[] 28)) rfl (.tmp 77) (.tmp 80) _ rfl w1.heap.size 28 2 24 _ Try.underlying23 pcs_info rfl (by omega) (by omega) _ 0 [] (by simp [Act.eval]) Q3.out (some ⟨g, 0, none⟩) k k (pcs (xs.take k)) (by simp [Act.eval]) (HT.out _ P4.out) (pcs_one _) (by omega) P4.out.size ?_; intro v8 w8 hown8 hg8 hbk8; rw [List.nil_append, Nat.zero_add] at hown8; have hB8 : Below w1.heap.size w1 w8 := HBW.out _ _ _ P4.out hg8 (fun q e => (World.ownsRow.lt Q3.out q e).1); have HPR : Rd w8 2 (some ⟨w1.heap.size, 0, none⟩) 1 [.int .i64 (printP s), .string s] := rd_two (grown_heap0 hg8 (heap_two w1.drew (.cells #[.int .i64 (printP s), .string s] 28) (.cells #[] 28)).1 (fun e => by injection e with e; simp at e))) | (refine step_app1 w8 rfl (.tmp 81) (.tmp 85) _ rfl w1.heap.size 28 2 24 _ Try.underlying23 pcs_info rfl (by omega) (by omega) v8 k (pcs (xs.take k)) (by simp [Act.eval]) hown8 #[.int .i64 (printP s), .string s] rfl (one_pc _ _) (by simp [Act.eval]) (by omega) hB8.size ?_; intro v10 w10 hown10 hg10 _; have hB10 : Below w1.heap.size w1 w10 := hB8.grown hg10 hB8.size (fun q e => (hown8.lt q e).1)) | (refine step_appS w8 rfl (.tmp 81) (.tmp 85) _ rfl w1.heap.size 28 2 24 _ Try.underlying23 pcs_info rfl (by omega) (by omega) v8 k (pcs (xs.take k)) (by simp [Act.eval]) hown8 (some ⟨w1.heap.size + 1, 0, none⟩) 1 1 [.int .i64 (printP s), .string s] (by simp [Act.eval]) HPR (one_pc _ _) (by omega) hB8.size ?_; intro v10 w10 hown10 hg10 _; have hB10 : Below w1.heap.size w1 w10 := hB8.grown hg10 hB8.size (fun q e => (hown8.lt q e).1)) | (refine step_appS w8 rfl (.tmp 81) (.tmp 85) _ rfl w1.heap.size 28 2 24 _ Try.underlying23 pcs_info rfl (by omega) (by omega) v8 k (pcs (xs.take k)) (by simp [Act.eval]) hown8 (some ⟨w1.heap.size, 0, none⟩) 1 1 [.int .i64 (printP s), .string s] (by simp [Act.eval]) HPR (one_pc _ _) (by omega) hB8.size ?_; intro v10 w10 hown10 hg10 _; have hB10 : Below w1.heap.size w1 w10 := hB8.grown hg10 hB8.size (fun q e => (hown8.lt q e).1)) | (refine step_appS w10 rfl (.tmp 86) (.tmp 89) _ rfl w1.heap.size 28 2 24 _ Try.underlying23 pcs_info rfl (by omega) (by omega) v10 (k + 1) _ (by simp [Act.eval]) hown10 (some ⟨g, 0, none⟩) 0 0 (pcs (xs.drop k)) (by simp [Act.eval]) (HYR.out _ hB10) (pcs_one _) (by omega) hB10.size ?_; intro v12 w12 hown12 hg12 _; have hB12 : Below w1.heap.size w1 w12 := hB10.grown hg12 hB10.size (fun q e => (hown10.lt q e).1)))
              all_goals
                have hl12 : k + 1 + (0) = k + 1 := by omega
                have hown13 := own_base hown12 hb1.size
                rw [hl12] at hown13
                have HO : Hid (w12.ownsRow w.heap.size 28 2 v12 (k + 1) (pcs (insP xs s))) := Lib.hid (by
                  have e : pcs (xs.take k) ++ [.int .i64 (printP s), .string s] ++ pcs (xs.drop k) = pcs (insP xs s) := by
                    unfold insP
                    rw [HE.out, pcs_append, pcs_append]
                    rfl
                  rw [← e]
                  exact hown13)
                have HBK : Hid (v12.ownBlock ≠ none) := Lib.hid (own_blkP hown12 (by omega))
                clear hown8 hown10 hown12 hown13 hg8 hg10 hg12
                go_wp2_with fail
                refine bodyPost_ret (v := .tuple #[v12, .int .i64 (printP s), .bool true]) (by simp [results, Try.results29, go_sem]) rfl ?_
                rw [HP.out]
                refine ⟨_, rfl, ?_, below_step hb1 hB12, HBK.out⟩
                dsimp only
                rw [HIL.out]
                exact HO.out
            · have hk0 : (0 : Int) ≤ (k : Int) := Int.natCast_nonneg _
              have hkn : (k : Int) ≤ (k : Int) := by omega
              have hnc : (k : Int) ≤ (c : Int) := by omega
              have hkc : (k : Int) ≤ (c : Int) := by omega
              have HT : Hid (∀ W : World, Below w1.heap.size w1 W → Rd W 2 (some ⟨g, 0, none⟩) k (pcs (xs.take k))) := Lib.hid (fun W hW => by
                have := (hr.below hW).pcCut 0 k (by omega)
                rw [List.drop_zero, Nat.zero_mul, Nat.add_zero] at this
                exact this)
              have HBW : Hid (∀ (W W' : World) (row : Option Nat), Below w1.heap.size w1 W → W.grownBy W' row → (∀ q, row = some q → w1.heap.size ≤ q) → Below w1.heap.size w1 W') := Lib.hid (fun W W' row h1 h2 h3 => h1.grown h2 h1.size h3)
              have HYR : Hid (∀ W : World, Below w1.heap.size w1 W → Rd W 2 (some ⟨g, k * 2, none⟩) (k - k) (pcs (xs.drop k))) := Lib.hid (fun W hW => by
                have := (hr.below hW).pcCut k (k - k) (by omega)
                rw [Nat.zero_add, List.take_of_length_le (by rw [List.length_drop, HL.out]; exact Nat.le_refl _)] at this
                exact this)
              have hck2 : ¬ c = k := fun e => hck e.symm
              have hD : Below w1.heap.size w1 w1.drew := below_drewN w1 1
              have P1 := Lib.hid (hD.alloc (Nat.le_refl _) (.cells #[] 28))
              have P2 := Lib.hid (P1.out.alloc P1.out.size (.cells #[.int .i64 (printP s), .string s] 28))
              have P3 := Lib.hid (hD.alloc (Nat.le_refl _) (.cells #[.int .i64 (printP s), .string s] 28))
              have P4 := Lib.hid (P3.out.alloc P3.out.size (.cells #[] 28))
              have Q1 : Hid ((w1.drew.alloc (.cells #[] 28)).ownsRow w1.heap.size 28 2 (.slice (some ⟨w1.heap.size, 0, none⟩) 0 0) 0 []) := Lib.hid (own_empty w1.drew 28 2)
              have Q2 := Lib.hid (Q1.out.alloc (.cells #[.int .i64 (printP s), .string s] 28))
              have Q3 := Lib.hid (own_base (own_empty (w1.drew.alloc (.cells #[.int .i64 (printP s), .string s] 28)) 28 2) P3.out.size)
              clear hD
              go_wp2_with fail
              go_region_law (first | (refine step_appS (w1.drew.alloc (.cells #[] 28)) rfl (.tmp 77) (.tmp 80) _ rfl w1.heap.size 28 2 24 _ Try.underlying23 pcs_info rfl (by omega) (by omega) _ 0 [] (by simp [Act.eval]) Q1.out (some ⟨g, 0, none⟩) k c (pcs (xs.take k)) (by simp [Act.eval]) (HT.out _ P1.out) (pcs_one _) (by omega) P1.out.size ?_; intro v8 w8 hown8 hg8 hbk8; rw [List.nil_append, Nat.zero_add] at hown8; have hB8 : Below w1.heap.size w1 w8 := HBW.out _ _ _ P1.out hg8 (fun q e => (World.ownsRow.lt Q1.out q e).1)) | (refine step_appS ((w1.drew.alloc (.cells #[] 28)).alloc (.cells #[.int .i64 (printP s), .string s] 28)) rfl (.tmp 77) (.tmp 80) _ rfl w1.heap.size 28 2 24 _ Try.underlying23 pcs_info rfl (by omega) (by omega) _ 0 [] (by simp [Act.eval]) Q2.out (some ⟨g, 0, none⟩) k c (pcs (xs.take k)) (by simp [Act.eval]) (HT.out _ P2.out) (pcs_one _) (by omega) P2.out.size ?_; intro v8 w8 hown8 hg8 hbk8; rw [List.nil_append, Nat.zero_add] at hown8; have hB8 : Below w1.heap.size w1 w8 := HBW.out _ _ _ P2.out hg8 (fun q e => (World.ownsRow.lt Q2.out q e).1); have HPR : Rd w8 2 (some ⟨w1.heap.size + 1, 0, none⟩) 1 [.int .i64 (printP s), .string s] := rd_two (grown_heap0 hg8 (heap_two w1.drew (.cells #[] 28) (.cells #[.int .i64 (printP s), .string s] 28)).2 (fun e => by injection e with e; simp at e))) | (refine step_appS ((w1.drew.alloc (.cells #[.int .i64 (printP s), .string s] 28)).alloc (.cells #[] 28)) rfl (.tmp 77) (.tmp 80) _ rfl w1.heap.size 28 2 24 _ Try.underlying23 pcs_info rfl (by omega) (by omega) _ 0 [] (by simp [Act.eval]) Q3.out (some ⟨g, 0, none⟩) k c (pcs (xs.take k)) (by simp [Act.eval]) (HT.out _ P4.out) (pcs_one _) (by omega) P4.out.size ?_; intro v8 w8 hown8 hg8 hbk8; rw [List.nil_append, Nat.zero_add] at hown8; have hB8 : Below w1.heap.size w1 w8 := HBW.out _ _ _ P4.out hg8 (fun q e => (World.ownsRow.lt Q3.out q e).1); have HPR : Rd w8 2 (some ⟨w1.heap.size, 0, none⟩) 1 [.int .i64 (printP s), .string s] := rd_two (grown_heap0 hg8 (heap_two w1.drew (.cells #[.int .i64 (printP s), .string s] 28) (.cells #[] 28)).1 (fun e => by injection e with e; simp at e))) | (refine step_app1 w8 rfl (.tmp 81) (.tmp 85) _ rfl w1.heap.size 28 2 24 _ Try.underlying23 pcs_info rfl (by omega) (by omega) v8 k (pcs (xs.take k)) (by simp [Act.eval]) hown8 #[.int .i64 (printP s), .string s] rfl (one_pc _ _) (by simp [Act.eval]) (by omega) hB8.size ?_; intro v10 w10 hown10 hg10 _; have hB10 : Below w1.heap.size w1 w10 := hB8.grown hg10 hB8.size (fun q e => (hown8.lt q e).1)) | (refine step_appS w8 rfl (.tmp 81) (.tmp 85) _ rfl w1.heap.size 28 2 24 _ Try.underlying23 pcs_info rfl (by omega) (by omega) v8 k (pcs (xs.take k)) (by simp [Act.eval]) hown8 (some ⟨w1.heap.size + 1, 0, none⟩) 1 1 [.int .i64 (printP s), .string s] (by simp [Act.eval]) HPR (one_pc _ _) (by omega) hB8.size ?_; intro v10 w10 hown10 hg10 _; have hB10 : Below w1.heap.size w1 w10 := hB8.grown hg10 hB8.size (fun q e => (hown8.lt q e).1)) | (refine step_appS w8 rfl (.tmp 81) (.tmp 85) _ rfl w1.heap.size 28 2 24 _ Try.underlying23 pcs_info rfl (by omega) (by omega) v8 k (pcs (xs.take k)) (by simp [Act.eval]) hown8 (some ⟨w1.heap.size, 0, none⟩) 1 1 [.int .i64 (printP s), .string s] (by simp [Act.eval]) HPR (one_pc _ _) (by omega) hB8.size ?_; intro v10 w10 hown10 hg10 _; have hB10 : Below w1.heap.size w1 w10 := hB8.grown hg10 hB8.size (fun q e => (hown8.lt q e).1)) | (refine step_appS w10 rfl (.tmp 86) (.tmp 89) _ rfl w1.heap.size 28 2 24 _ Try.underlying23 pcs_info rfl (by omega) (by omega) v10 (k + 1) _ (by simp [Act.eval]) hown10 (some ⟨g, k * 2, none⟩) (k - k) (c - k) (pcs (xs.drop k)) (by simp [Act.eval]) (HYR.out _ hB10) (pcs_one _) (by omega) hB10.size ?_; intro v12 w12 hown12 hg12 _; have hB12 : Below w1.heap.size w1 w12 := hB10.grown hg12 hB10.size (fun q e => (hown10.lt q e).1)))
              all_goals
                have hl12 : k + 1 + (k - k) = k + 1 := by omega
                have hown13 := own_base hown12 hb1.size
                rw [hl12] at hown13
                have HO : Hid (w12.ownsRow w.heap.size 28 2 v12 (k + 1) (pcs (insP xs s))) := Lib.hid (by
                  have e : pcs (xs.take k) ++ [.int .i64 (printP s), .string s] ++ pcs (xs.drop k) = pcs (insP xs s) := by
                    unfold insP
                    rw [HE.out, pcs_append, pcs_append]
                    rfl
                  rw [← e]
                  exact hown13)
                have HBK : Hid (v12.ownBlock ≠ none) := Lib.hid (own_blkP hown12 (by omega))
                clear hown8 hown10 hown12 hown13 hg8 hg10 hg12
                go_wp2_with fail
                refine bodyPost_ret (v := .tuple #[v12, .int .i64 (printP s), .bool true]) (by simp [results, Try.results29, go_sem]) rfl ?_
                rw [HP.out]
                refine ⟨_, rfl, ?_, below_step hb1 hB12, HBK.out⟩
                dsimp only
                rw [HIL.out]
                exact HO.out

theorem specPutText (base n : Nat) (v : Value) (s : ByteArray) (xs : List (Int × ByteArray)) (w : World) (h : w.ownsRow base 28 2 v n (pcs xs)) (hbk : v.ownBlock ≠ none) (hx : ∀ x ∈ xs, x.2.size ≤ maxLen) (hs : s.size ≤ maxLen) (hn : n ≤ 4194000) :
    Calls Try.prog 29 #[v, .string s] w fun e w' => ∃ v', e = .returned (.tuple #[v', .int .i64 (putT xs s).2.1, .bool (putT xs s).2.2]) ∧ w'.ownsRow w.heap.size 28 2 v' (putT xs s).1.length (pcs (putT xs s).1) ∧ Below w.heap.size w w' ∧ v'.ownBlock ≠ none := by
  rcases h.2 with ⟨rfl, _⟩ | ⟨g, c, cur, rfl, _, _, hc, hcm, _⟩
  · exact absurd rfl hbk
  · exact specPutText0 g n c s xs w (Rd.own h) hc hx hs hn hcm
end Go.Proofs.Ythoiljgpggldcaa
