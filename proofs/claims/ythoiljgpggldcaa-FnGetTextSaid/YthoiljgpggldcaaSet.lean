/- Contract of the specification's l10Set: what it leaves is a store that is good. -/
import Derived.Test.YthoiljgpggldcaaM11
import Derived.Test.YthoiljgpggldcaaReadFB
import Derived.Test.YthoiljgpggldcaaM12
import Derived.Test.YthoiljgpggldcaaM10
import Derived.Test.YthoiljgpggldcaaM7
import Derived.Test.YthoiljgpggldcaaM13
import Derived.Deep.QuietTactic
import Derived.BigQuiet
open Go.RowKit
namespace Go.Proofs.Ythoiljgpggldcaa
theorem St.lt {w : World} {base : Nat} {v : Value} {xs : List (Int × ByteArray)} (h : St w base v xs) (hg : Good xs) : base ≤ w.heap.size := by
  obtain ⟨g, c, rfl, h1, h2, h3, h4⟩ := h
  obtain ⟨b, off, e, hb, _⟩ := h2.2 (List.length_pos_iff.2 hg.2)
  injection e with e
  injection e with e1 e2
  omega
theorem entries_small {ys : List (ByteArray × Int)} (h : entriesV ys = true) : ∀ x ∈ ys, x.1.size ≤ maxLen := fun x hx => by
  have h1 := (entriesV_ok h x hx).word
  unfold wordV at h1
  rw [Bool.and_eq_true] at h1
  have h2 := (of_decide_eq_true h1.1).2
  rw [bts_length] at h2
  unfold maxLen
  omega
theorem putE_small {ys : List (ByteArray × Int)} {t : ByteArray} {p : Int} (h : ∀ x ∈ ys, x.1.size ≤ maxLen) (ht : t.size ≤ maxLen) : ∀ x ∈ (putE ys t p).1, x.1.size ≤ maxLen := fun x hx => by
  rcases putE_mem x hx with h1 | rfl
  · exact h x h1
  · exact ht
def Stored (w : World) (base : Nat) (e : Ending) (w' : World) : Prop := ∃ v' ys q ok, e = .returned (.tuple #[v', .int .i64 q, .bool ok]) ∧ Good ys ∧ St w' base v' ys ∧ Below w.heap.size w w'
theorem stored_of {w w' : World} {base : Nat} {v : Value} {ys : List (Int × ByteArray)} {q : Int} {ok : Bool} (hg : Good ys) (h : St w' base v ys) (hb : Below w.heap.size w w') : Stored w base (.returned (.tuple #[v, .int .i64 q, .bool ok])) w' := ⟨v, ys, q, ok, rfl, hg, h, hb⟩
set_option maxRecDepth 8000 in
set_option maxHeartbeats 6400000 in
theorem l10Set (leaf : Int) (base : Nat) : ∀ (ps : List ByteArray) (B : Option Addr) (m d : Nat) (print : Int) (v : Value) (xs : List (Int × ByteArray)) (w : World), St w base v xs → Good xs → Rd w 1 B m (strs ps) → m ≤ d → m ≤ 1048576 → (∀ p ∈ ps, p.size ≤ maxLen) →
    Calls Try.prog 44 #[v, .int .i64 print, .slice B m d, .int .i64 leaf] w (Stored w base) := by
  intro ps
  induction ps with
  | nil =>
    intro B m d print v xs w h hg hr hd hm hp
    have hm0 : m = 0 := by have := hr.strLen; simpa using this.symm
    subst hm0
    obtain ⟨g, c, rfl, h1, h2, h3, h4⟩ := h
    generalize hlx : xs.length = n at *
    go_enter Try.func44, Try.ntmps44
    go_wp2_with fail
    refine bodyPost_ret (v := .tuple #[.slice (some ⟨g, 0, none⟩) n c, .int .i64 leaf, .bool true]) (by simp [results, Try.results44, go_sem]) rfl ?_
    exact stored_of hg ⟨g, c, by rw [hlx], h1, by rw [hlx]; exact h2, by omega, h4⟩ (Below.refl _ _)
  | cons p0 ps ih =>
    intro B m d print v xs w h hg hr hd hm hp
    have hbw := h.lt hg
    have hml : m = ps.length + 1 := by have := hr.strLen; simpa using this.symm
    obtain ⟨b, off, nm, rfl, hbb, hpk, hc0⟩ := hr.strAt (show 0 < m by omega)
    obtain rfl : p0 = nm := by simpa using hpk
    have HT : Hid (Rd w 1 (some ⟨b, off + 1, none⟩) (m - 1) (strs ps)) := Lib.hid (by
      have := hr.strCut 1 (m - 1) (by omega)
      rw [List.drop_succ_cons, List.drop_zero, List.take_of_length_le (by omega)] at this
      exact this)
    have hc1 : w.cell? ⟨b, off, none⟩ = some (.string p0) := hc0
    have HP := Lib.hid hp
    have hp0 : p0.size ≤ maxLen := hp p0 (List.mem_cons_self ..)
    have IH := Lib.hid ih
    have HML := Lib.hid hml
    have hno : ((m : Int) == 0) = false := by simp; omega
    have hno2 : decide ((m : Int) = 0) = false := decide_eq_false (by omega)
    have hmI : (0 : Int) < (m : Int) := by omega
    clear hpk hc0 hml hp ih
    have HSt := Lib.hid h
    have HG := Lib.hid hg
    obtain ⟨g, c, rfl, h1, h2, h3, h4⟩ := h
    obtain ⟨hx1, hx2, hl1, hl2⟩ := hg.big
    have HX2 := Lib.hid hx2
    clear hg hx1 hx2
    generalize hlx : xs.length = n at *
    have hgs := getL_size (t := print) HX2.out
    have hb0 : Below w.heap.size w (w.alloc (.cells #[] 63)) := (Below.refl _ _).alloc (Nat.le_refl _) _
    by_cases hpr : 0 ≤ print
    case' pos =>
      go_enter Try.func44, Try.ntmps44
      go_wp2_with (go_at_call 22; refine (l4Get _ _ _ print xs _ (h2.below hb0) (by omega)).mono ?_; rintro e w2 ⟨rfl, rfl⟩)
      refine (specReadFolderB (getL print xs).1 _ hgs).mono ?_
      rintro e W0 ⟨v3, ys, ok, rfl, hR, hown3, hb3, hbk3⟩
      have hB3 := below_step hb0 hb3
      have hown := own_base hown3 hb0.size
      cases ok
      case' false =>
        go_wp2_with fail
        refine bodyPost_ret (v := .tuple #[.slice (some ⟨g, 0, none⟩) n c, .int .i64 (-1), .bool false]) (by simp [results, Try.results44, go_sem]) rfl ?_
        exact stored_of HG.out (HSt.out.keep hB3) hB3
      case' true =>
        have HY := Lib.hid (entries_small (hR.yes rfl).1)
        have hyl : ys.length ≤ 3 := hR.len
        clear hR hown3 hb3
        obtain ⟨A3, c3, rfl, _⟩ := own_slice hown
        go_wp2_with fail
    case' neg =>
      obtain ⟨ys, hys⟩ : ∃ ys : List (ByteArray × Int), ys = [] := ⟨_, rfl⟩
      have hown : (w.alloc (.cells #[] 63)).ownsRow w.heap.size 63 2 (.slice (some ⟨w.heap.size, 0, none⟩) 0 0) ys.length (ens ys) := by rw [hys]; exact own_empty w 63 2
      have hbk3 : (Value.slice (some ⟨w.heap.size, 0, none⟩) 0 0).ownBlock ≠ none := fun e => by cases e
      have HY : Hid (∀ x ∈ ys, x.1.size ≤ maxLen) := Lib.hid (by rw [hys]; exact fun _ h => by cases h)
      have hyl : ys.length ≤ 3 := by rw [hys]; exact Nat.zero_le _
      have hB3 := hb0
      clear hys
      go_enter Try.func44, Try.ntmps44
      go_wp2_with fail
      generalize hv3 : Value.slice (some ⟨w.heap.size, 0, none⟩) 0 0 = v3 at *
      obtain ⟨A3, c3, rfl, _⟩ := own_slice hown
      clear hv3
      generalize w.alloc (.cells #[] 63) = W0 at *
    all_goals
      have hbk3 := Lib.hid hbk3
      go_loopw [16, 17] (fun q i wr => ∃ (k : Nat) (u : Int), q = .int .i64 u ∧ i = .int .i64 (k : Int) ∧ k ≤ ys.length ∧ Below W0.heap.size W0 wr) (fun _ i _ => ys.length - (intOf i).toNat)
      case atStart => exact ⟨0, -1, rfl, rfl, Nat.zero_le _, Below.refl _ _⟩
      case round =>
        obtain ⟨k, u, rfl, rfl, hk, hbr⟩ := hrel
        have hB := below_step hB3 hbr
        have hownr := own_below hown hbr
        have hcr := (hB.cell (p := ⟨b, off, none⟩) (World.block_lt_of_cell? _ _ hc1)).trans hc1
        by_cases hlt : k < ys.length
        · obtain ⟨b2, off2, s, p, rfl, hbb2, hyk, hd0, hd1⟩ := (Rd.own hownr).enAt hlt
          have hltI : (k : Int) < (ys.length : Int) := by omega
          clear hyk
          cases hst : (s.toList == p0.toList)
          all_goals
            have hne : (s.toList != p0.toList) = !(s.toList == p0.toList) := rfl
            rw [hst] at hne
            go_wp2_with fail
            go_quiet (fail)
            go_wp2_with fail
            go_roundw
            case rel => exact ⟨k + 1, _, rfl, by go_num, by omega, below_to hbr hbr.size (below_drewN _ _)⟩
            case measure => simp [intOf]; omega
        · have hltI : ¬ (k : Int) < (ys.length : Int) := by omega
          have hl2 := h2.below hB
          have hgu := getL_size (t := u) HX2.out
          have HGO : ∃ old there, Hid (getL u xs = (old, there)) := ⟨_, _, Lib.hid rfl⟩
          obtain ⟨old, there, HGO⟩ := HGO
          rw [HGO.out] at hgu
          dsimp only at hgu
          by_cases hm1 : m = 1
          case' pos =>
            have hq1 : ((m : Int) == 1) = true := by rw [hm1]; rfl
            have hq2 : decide ((m : Int) = 1) = true := decide_eq_true (by omega)
            by_cases hu : 0 ≤ u
            case' pos =>
              cases there
              case' false =>
                clear hm1
                go_wp2_with (go_at_call 22; refine (l4Get _ _ _ u xs _ hl2 (by omega)).mono ?_; rintro e w5 ⟨rfl, rfl⟩; rw [HGO.out])
                refine bodyPost_ret (v := .tuple #[.slice (some ⟨g, 0, none⟩) n c, .int .i64 (-1), .bool false]) (by simp [results, Try.results44, go_sem]) rfl ?_
                exact stored_of HG.out (HSt.out.keep hB) hB
              case' true =>
                clear hm1
                go_wp2_with (go_at_call 22; refine (l4Get _ _ _ u xs _ hl2 (by omega)).mono ?_; rintro e w5 ⟨rfl, rfl⟩; rw [HGO.out])
                refine (specTextKind old _ hgu).mono ?_
                rintro e w6 ⟨nk, rfl, _, hbT⟩
                have hcr := (hbT.cell (p := ⟨b, off, none⟩) (World.block_lt_of_cell? _ _ hcr)).trans hcr
                have hB := below_step hB hbT
                have hownr := own_below hownr hbT
                cases hkn : (nk == 1)
                case' false =>
                  have hkn2 : (nk != 1) = true := by rw [bne, hkn]; rfl
                  go_wp2_with fail
                  refine bodyPost_ret (v := .tuple #[.slice (some ⟨g, 0, none⟩) n c, .int .i64 (-1), .bool false]) (by simp [results, Try.results44, go_sem]) rfl ?_
                  exact stored_of HG.out (HSt.out.keep hB) hB
                case' true =>
                  have hkn2 : (nk != 1) = false := by rw [bne, hkn]; rfl
                  go_wp2_with fail
            case' neg =>
              clear hm1
              go_wp2_with (go_at_call 22; refine (l4Get _ _ _ u xs _ hl2 (by omega)).mono ?_; rintro e w5 ⟨rfl, rfl⟩; rw [HGO.out])
          case' neg =>
            have hq1 : ((m : Int) == 1) = false := by simp; omega
            have hq2 : decide ((m : Int) = 1) = false := decide_eq_false (by omega)
            go_wp2_with (go_at_call 22; refine (l4Get _ _ _ u xs _ hl2 (by omega)).mono ?_; rintro e w5 ⟨rfl, rfl⟩; rw [HGO.out])
          all_goals
            refine (IH.out _ _ _ u _ xs _ (HSt.out.keep hB) HG.out (by first | exact HT.out.below hB | exact ⟨by have := HML.out; rw [strs_length]; omega, fun hh => by omega⟩) (by omega) (by omega) (fun y hy => HP.out y (List.mem_cons_of_mem _ hy))).mono ?_
            rintro e w6 ⟨v6, xs6, q6, ok6, rfl, hg6, hs6, hb6⟩
            have hB6 := below_step hB hb6
            have hc6 := (hb6.cell (p := ⟨b, off, none⟩) (World.block_lt_of_cell? _ _ hcr)).trans hcr
            have HG6 := Lib.hid hg6
            have HS6 := Lib.hid hs6
            clear hg6 hs6
            have hown6 := own_below hownr hb6
            cases ok6
            · go_wp2_with fail
              refine bodyPost_ret (v := .tuple #[v6, .int .i64 (-1), .bool false]) (by simp [results, Try.results44, go_sem]) rfl ?_
              exact stored_of HG6.out HS6.out hB6
            · go_wp2_with fail
              refine (specPutEntry _ _ _ p0 q6 ys _ hown6 hbk3 HY.out hp0 (by omega)).mono ?_
              rintro e w7 ⟨v7, rfl, hown7, hb7, hbk7⟩
              have hB7 := below_step hB6 hb7
              have hl7 := putE_len (xs := ys) (t := p0) (p := q6)
              have HY7 := Lib.hid (putE_small (p := q6) HY.out hp0)
              have HS7 := Lib.hid (HS6.out.keep hb7)
              generalize (putE ys p0 q6).1 = zs, (putE ys p0 q6).2 = fine at *
              cases fine
              · go_wp2_with fail
                refine bodyPost_ret (v := .tuple #[v6, .int .i64 (-1), .bool false]) (by simp [results, Try.results44, go_sem]) rfl ?_
                exact stored_of HG6.out HS7.out hB7
              · obtain ⟨A7, c7, rfl, _⟩ := own_slice hown7
                go_wp2_with fail
                refine (specFolderText _ _ _ zs _ (Rd.own hown7) HY7.out (by omega)).mono ?_
                rintro e w8 ⟨rfl, k8, hw8⟩
                have hb8 : Below w7.heap.size w7 w8 := by rw [hw8]; exact below_drewN _ _
                clear hw8
                have hB8 := below_step hB7 hb8
                have hz : (folderT zs).size ≤ maxLen := Nat.le_trans (folderT_size zs) (by unfold maxLen; omega)
                have HS8 := Lib.hid (HS7.out.keep hb8)
                have hbw8 : base ≤ w8.heap.size := by have := hB8.size; omega
                generalize folderT zs = fs at *
                go_wp2_with fail
                refine (goodPut base v6 fs xs6 _ HS8.out HG6.out hz).mono ?_
                rintro e w9 ⟨v9, ys9, q9, ok9, rfl, hg9, hs9, hb9⟩
                have HF := Lib.hid (stored_of (q := q9) (ok := ok9) hg9 (hs9.mono hbw8) (below_step hB8 hb9))
                clear hg9 hs9
                go_wp2_with fail
                refine bodyPost_ret (v := .tuple #[v9, .int .i64 q9, .bool ok9]) (by simp [results, Try.results44, go_sem]) rfl ?_
                exact HF.out
end Go.Proofs.Ythoiljgpggldcaa
