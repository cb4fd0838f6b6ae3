/- The texts WalkS St as one. -/
import Derived.Test.YthoiljgpggldcaaM9
import Derived.Test.YthoiljgpggldcaaReadFo
import Derived.Test.YthoiljgpggldcaaM2
import Derived.Deep.QuietTactic
import Derived.BigQuiet
import Derived.Test.YthoiljgpggldcaaPutTS
import Derived.Test.YthoiljgpggldcaaJoinP
/- Contract of the specification's walk along names. -/
open Go.RowKit
namespace Go.Proofs.Ythoiljgpggldcaa
theorem getL_size {t : Int} {M : Nat} : ∀ {xs : List (Int × ByteArray)}, (∀ x ∈ xs, x.2.size ≤ M) → (getL t xs).1.size ≤ M
  | [], _ => Nat.zero_le _
  | x :: r, h => by
    unfold getL
    split
    · exact h x (List.mem_cons_self ..)
    · exact getL_size fun y hy => h y (List.mem_cons_of_mem _ hy)
theorem drop_consW {α : Type} {l : List α} {k : Nat} {x : α} (h : l[k]? = some x) : l.drop k = x :: l.drop (k + 1) := by
  obtain ⟨hl, hx⟩ := List.getElem?_eq_some_iff.1 h
  rw [List.drop_eq_getElem_cons hl, hx]
theorem toList_new {x y : ByteArray} (h : ¬ x = y) : (x.toList == y.toList) = false := by
  rw [beq_eq_false_iff_ne]
  intro e
  rw [Lib.toList_data, Lib.toList_data] at e
  exact h (ByteArray.ext (Array.toList_inj.1 e))
set_option maxRecDepth 8000 in
set_option maxHeartbeats 3200000 in
theorem l9Walk (A B : Option Addr) (n m c d : Nat) (xs : List (Int × ByteArray)) (ps : List ByteArray) (t : Int) (w : World) (ha : Rd w 2 A n (pcs xs)) (hb : Rd w 1 B m (strs ps)) (hx : ∀ x ∈ xs, x.2.size ≤ 1048576) (hn : n ≤ 1048576) (hm : m ≤ 1048576) :
    Calls Try.prog 41 #[.slice A n c, .int .i64 t, .slice B m d] w fun e w' => ∃ q b, e = .returned (.tuple #[.int .i64 q, .bool b]) ∧ WalkF xs ps t q b ∧ Below w.heap.size w w' := by
  have HX := Lib.hid hx
  have HM := Lib.hid hb.strLen
  clear hx
  go_enter Try.func41, Try.ntmps41
  go_wp2_with fail
  go_loopw [1, 8, 9, 10, 11, 12, 13, 14] (fun p i _ _ _ _ _ _ wr => ∃ (k : Nat) (u : Int), p = .int .i64 u ∧ i = .int .i64 (k : Int) ∧ k ≤ m ∧ Hid (∀ q b, WalkF xs (ps.drop k) u q b → WalkF xs ps t q b) ∧ Below w.heap.size w wr) (fun _ i _ _ _ _ _ _ _ => m - (intOf i).toNat)
  case atStart => exact ⟨0, t, rfl, rfl, Nat.zero_le _, Lib.hid (fun q b h => h), Below.refl _ _⟩
  case round =>
    obtain ⟨k, u, rfl, rfl, hk, HW, hB⟩ := hrel
    have har := ha.below hB
    have hbr := hb.below hB
    by_cases hlt : k < m
    · obtain ⟨b, off, nm, rfl, hbb, hpk, hc0⟩ := hbr.strAt hlt
      have hltI : (k : Int) < (m : Int) := by omega
      have HD := Lib.hid (drop_consW hpk)
      have hgs := getL_size (t := u) HX.out
      clear hpk
      go_wp2_with (go_at_call 22; refine (l4Get _ _ _ u xs _ har (by omega)).mono ?_; rintro e w2 ⟨rfl, rfl⟩)
      refine (specReadFolder (getL u xs).1 _ hgs).mono ?_
      rintro e w3 ⟨v3, ys, ok, rfl, hR, hown3, hb3⟩
      have hB3 := below_step hB hb3
      obtain ⟨A3, c3, rfl, _⟩ := own_slice hown3
      have hr3 := Rd.own hown3
      have hl3 := hR.len
      have hc3 : w3.cell? ⟨b, off + k, none⟩ = some (.string nm) := (hb3.cell (p := ⟨b, off + k, none⟩) (World.block_lt_of_cell? _ _ hc0)).trans hc0
      have HR := Lib.hid hR
      clear hR hc0
      cases ok
      · have hz : ys.length = 0 := by rw [(HR.out.no rfl).1]; rfl
        have HN := Lib.hid (HW.out _ _ (by rw [HD.out]; exact walk_none HR.out (.inl rfl)))
        generalize ys.length = z at *
        subst hz
        go_wp2_with fail
        go_loopw [1, 13, 14] (fun p f j W => p = .int .i64 u ∧ f = .bool false ∧ j = .int .i64 0 ∧ W = w3) (fun _ _ _ _ => 0)
        case atStart => exact ⟨rfl, rfl, rfl, rfl⟩
        case round =>
          obtain ⟨rfl, rfl, rfl, hW⟩ := hrel
          obtain rfl := hW.symm
          go_wp2_with fail
          refine bodyPost_ret (v := .tuple #[.int .i64 (-1), .bool false]) (by simp [results, Try.results41, go_sem]) rfl ?_
          first | exact ⟨-1, false, rfl, HN.out, hB3⟩ | exact ⟨-1, .inl ⟨rfl, HN.out, hB3⟩⟩
      · go_wp2_with fail
        go_loopw [1, 13, 14] (fun p f j W => ∃ i : Nat, p = .int .i64 u ∧ f = .bool false ∧ j = .int .i64 (i : Int) ∧ i ≤ ys.length ∧ Hid (∀ a y, a < i → ys[a]? = some y → y.1 ≠ nm) ∧ Rd W 2 A3 ys.length (ens ys) ∧ W.cell? ⟨b, off + k, none⟩ = some (.string nm) ∧ Below w.heap.size w W) (fun _ _ j _ => ys.length - (intOf j).toNat)
        case atStart => exact ⟨0, rfl, rfl, rfl, Nat.zero_le _, Lib.hid (fun a y h => by omega), hr3, hc3, hB3⟩
        case round =>
          obtain ⟨i, rfl, rfl, rfl, hi, HNO, hrw, hcw, hBw⟩ := hrel
          by_cases hil : i < ys.length
          · obtain ⟨b2, off2, s, p, rfl, hbb2, hyk, hd0, hd1⟩ := hrw.enAt hil
            have hilI : (i : Int) < (ys.length : Int) := by omega
            by_cases hst : s = nm
            · have HP := Lib.hid (nameL_at HNO.out hyk hst)
              have heq : (s.toList == nm.toList) = true := by rw [hst]; simp
              have HW' : Hid (∀ q b, WalkF xs (ps.drop (k + 1)) p q b → WalkF xs ps t q b) := Lib.hid (fun q b h => HW.out q b (by rw [HD.out]; exact walk_step HR.out HP.out h))
              clear hyk hst
              go_wp2_with fail
              go_quiet (fail)
              go_wp2_with fail
              go_roundw
              case rel => exact ⟨k + 1, p, rfl, by go_num, by omega, HW', below_to hBw hBw.size (below_drewN _ _)⟩
              case measure => simp [intOf]; omega
            · have heq := toList_new hst
              have HNO' : Hid (∀ a y, a < i + 1 → ys[a]? = some y → y.1 ≠ nm) := Lib.hid (fun a y ha hy => by
                rcases Nat.lt_or_ge a i with h | h
                · exact HNO.out a y h hy
                · obtain rfl : a = i := by omega
                  rw [hyk] at hy
                  obtain rfl := Option.some.inj hy
                  exact hst)
              clear hyk hst
              go_wp2_with fail
              go_quiet (fail)
              go_wp2_with fail
              go_roundw
              case rel => exact ⟨i + 1, rfl, rfl, by go_num, by omega, HNO', hrw.drewN _, hcw, below_to hBw hBw.size (below_drewN _ _)⟩
              case measure => simp [intOf]; omega
          · have hie : i = ys.length := by omega
            have HN := Lib.hid (HW.out _ _ (by rw [HD.out]; exact walk_none HR.out (.inr (nameL_none (fun y hy => by
              obtain ⟨a, ha⟩ := List.getElem?_of_mem hy
              obtain ⟨hal, _⟩ := List.getElem?_eq_some_iff.1 ha
              exact HNO.out a y (by omega) ha)))))
            clear hie
            have hilI : ¬ (i : Int) < (ys.length : Int) := by omega
            go_wp2_with fail
            refine bodyPost_ret (v := .tuple #[.int .i64 (-1), .bool false]) (by simp [results, Try.results41, go_sem]) rfl ?_
            first | exact ⟨-1, false, rfl, HN.out, hBw⟩ | exact ⟨-1, .inl ⟨rfl, HN.out, hBw⟩⟩
    · obtain rfl : k = m := by omega
      have HN := Lib.hid (HW.out _ _ (by rw [List.drop_of_length_le (by rw [HM.out]; exact Nat.le_refl _)]; exact walk_end xs u))
      cases hg : (getL u xs).2
      · have HG := Lib.hid hg
        rw [hg] at HN
        clear hg
        go_wp2_with (go_at_call 22; refine (l4Get _ _ _ u xs _ har (by omega)).mono ?_; rintro e w2 ⟨rfl, rfl⟩; rw [HG.out])
        go_ret2
        exact ⟨-1, false, rfl, HN.out, hB⟩
      · have HG := Lib.hid hg
        rw [hg] at HN
        clear hg
        go_wp2_with (go_at_call 22; refine (l4Get _ _ _ u xs _ har (by omega)).mono ?_; rintro e w2 ⟨rfl, rfl⟩; rw [HG.out])
        go_ret2
        exact ⟨u, true, rfl, HN.out, hB⟩
end Go.Proofs.Ythoiljgpggldcaa
/- Stores that are valid and not empty, in the world. -/
open Go.RowKit
namespace Go.Proofs.Ythoiljgpggldcaa
theorem storeV_len {xs : List (Int × ByteArray)} (h : storeV xs = true) : xs.length ≤ 40 := goodAll_len h
theorem storeV_size {xs : List (Int × ByteArray)} (h : storeV xs = true) : ∀ x ∈ xs, x.2.size ≤ 60 := fun x hx => by
  have h1 := (pieceOk_is (gd_all h x hx)).1
  unfold textV at h1
  rw [Bool.and_eq_true] at h1
  have h2 := of_decide_eq_true h1.2
  rw [bts_length] at h2
  exact h2
theorem printP_text {s : ByteArray} (h : textV (bts s) = true) : pieceOk (printP s, s) = true := by
  unfold pieceOk
  rw [h]
  simp
theorem putT_kept {xs : List (Int × ByteArray)} {s : ByteArray} (h : storeV xs = true) : storeV (putT xs s).1 = true ∧ (xs ≠ [] → (putT xs s).1 ≠ []) := by
  unfold putT
  rw [if_pos h]
  split
  · rename_i ht
    split
    · split <;> exact ⟨h, id⟩
    · rename_i hf
      split
      · exact ⟨h, id⟩
      · rename_i hl
        have hl1 := storeV_len h
        refine ⟨pieces_put (m := 40) (m' := 40) (x := (printP s, s)) h (printP_text ht) (by simpa using hf) (by omega), fun _ e => ?_⟩
        have := congrArg List.length e
        rw [insP_len] at this
        simp at this
  · exact ⟨h, id⟩
theorem putT_none {s : ByteArray} (ht : textV (bts s) = true) : (putT [] s).1 ≠ [] := by
  have hf : foundOf (pcBelow (printP s)) (pcIs (printP s)) ([] : List (Int × ByteArray)) = false := rfl
  rw [putT_new (by rfl) ht hf (by simp)]
  intro e
  have := congrArg List.length e
  rw [insP_len] at this
  simp at this
/-- A store in the world: at the start of a block from base on. -/
def St (w : World) (base : Nat) (v : Value) (xs : List (Int × ByteArray)) : Prop := ∃ g c, v = .slice (some ⟨g, 0, none⟩) xs.length c ∧ base ≤ g ∧ Rd w 2 (some ⟨g, 0, none⟩) xs.length (pcs xs) ∧ xs.length ≤ c ∧ c ≤ maxLen
theorem St.keep {w w' : World} {base : Nat} {v : Value} {xs : List (Int × ByteArray)} (h : St w base v xs) (hb : Below w.heap.size w w') : St w' base v xs := by
  obtain ⟨g, c, rfl, h1, h2, h3, h4⟩ := h
  exact ⟨g, c, rfl, h1, h2.below hb, h3, h4⟩
theorem St.mono {w : World} {base base' : Nat} {v : Value} {xs : List (Int × ByteArray)} (h : St w base v xs) (hb : base' ≤ base) : St w base' v xs := by
  obtain ⟨g, c, rfl, h1, h2, h3, h4⟩ := h
  exact ⟨g, c, rfl, Nat.le_trans hb h1, h2, h3, h4⟩
theorem St.own {w : World} {base n : Nat} {e : TypeId} {v : Value} {xs : List (Int × ByteArray)} (h : w.ownsRow base e 2 v n (pcs xs)) (hbk : v.ownBlock ≠ none) : St w base v xs := by
  have hl : xs.length = n := by have := h.1; rw [pcs_length] at this; omega
  rcases h.2 with ⟨rfl, _⟩ | ⟨g, c, cur, rfl, hg, _, hc, hcm, _⟩
  · exact absurd rfl hbk
  · subst hl
    exact ⟨g, c, rfl, (h.lt g rfl).1, Rd.own h, hc, hcm⟩
theorem St.grown {w w' : World} {base R : Nat} {v : Value} {xs : List (Int × ByteArray)} (h : St w base v xs) (hg : w.grownBy w' (some R)) (hR : R < base) : St w' base v xs := by
  obtain ⟨g, c, rfl, h1, h2, h3, h4⟩ := h
  refine ⟨g, c, rfl, h1, ⟨h2.1, fun h0 => ?_⟩, h3, h4⟩
  obtain ⟨b, off, e, hb, hc⟩ := h2.2 h0
  obtain ⟨rfl, rfl⟩ : g = b ∧ 0 = off := by
    injection e with e
    injection e with e1 e2
    exact ⟨e1, e2⟩
  refine ⟨g, 0, rfl, Nat.lt_of_lt_of_le hb hg.size, fun j u hj => ?_⟩
  rw [← hc j u hj]
  unfold World.cell?
  rw [hg.block g hb (fun e => by injection e with e; omega)]
def Good (xs : List (Int × ByteArray)) : Prop := storeV xs = true ∧ xs ≠ []
theorem Good.put {xs : List (Int × ByteArray)} {s : ByteArray} (h : Good xs) : Good (putT xs s).1 := ⟨(putT_kept h.1).1, (putT_kept h.1).2 h.2⟩
theorem Good.big {xs : List (Int × ByteArray)} (h : Good xs) : (∀ x ∈ xs, x.2.size ≤ maxLen) ∧ (∀ x ∈ xs, x.2.size ≤ 1048576) ∧ xs.length ≤ 40 ∧ 0 < xs.length :=
  ⟨fun x hx => Nat.le_trans (storeV_size h.1 x hx) (by unfold maxLen; omega), fun x hx => Nat.le_trans (storeV_size h.1 x hx) (by omega), storeV_len h.1, List.length_pos_iff.2 h.2⟩
/-- PutText on a store that is good leads to one that is good. -/
theorem goodPut (base : Nat) (v : Value) (s : ByteArray) (xs : List (Int × ByteArray)) (w : World) (h : St w base v xs) (hg : Good xs) (hs : s.size ≤ maxLen) :
    Calls Try.prog 29 #[v, .string s] w fun e w' => ∃ v' ys q ok, e = .returned (.tuple #[v', .int .i64 q, .bool ok]) ∧ Good ys ∧ St w' w.heap.size v' ys ∧ Below w.heap.size w w' := by
  obtain ⟨g, c, rfl, h1, h2, h3, h4⟩ := h
  obtain ⟨hx, _, hl, _⟩ := hg.big
  refine (specPutText0 g xs.length c s xs w h2 h3 hx hs (by omega) h4).mono ?_
  rintro e w' ⟨v', rfl, hown, hb, hbk⟩
  exact ⟨v', _, _, _, rfl, hg.put, St.own hown hbk, hb⟩
end Go.Proofs.Ythoiljgpggldcaa
