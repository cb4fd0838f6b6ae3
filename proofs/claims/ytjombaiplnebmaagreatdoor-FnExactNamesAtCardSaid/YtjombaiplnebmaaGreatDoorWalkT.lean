/- Contracts of both WalkTo. -/
import Derived.Test.YtjombaiplnebmaaGreatDoorWalkI
open Go.RowKit
namespace Go.Proofs.YtjombaiplnebmaaGreatDoor
def WalkT (xs : List (Int × ByteArray)) (root : Int) (path : ByteArray) (q : Int) (b : Bool) : Prop :=
  ((partsP path).2 = true ∧ storeV xs = true ∧ WalkF xs (partsP path).1 root q b) ∨ (((partsP path).2 = false ∨ storeV xs = false) ∧ q = -1 ∧ b = false)
theorem WalkT.same {xs : List (Int × ByteArray)} {root q q' : Int} {path : ByteArray} {b b' : Bool} (h : WalkT xs root path q b) (h' : WalkT xs root path q' b') : q = q' ∧ b = b' := by
  rcases h with ⟨h1, h2, h3⟩ | ⟨h1, rfl, rfl⟩
  · rcases h' with ⟨_, _, h6⟩ | ⟨h4, _, _⟩
    · exact h3.same h6
    · rcases h4 with h4 | h4
      · rw [h1] at h4; cases h4
      · rw [h2] at h4; cases h4
  · rcases h' with ⟨h4, h5, _⟩ | ⟨_, rfl, rfl⟩
    · rcases h1 with h1 | h1
      · rw [h1] at h4; cases h4
      · rw [h1] at h5; cases h5
    · exact ⟨rfl, rfl⟩
set_option maxRecDepth 8000 in
set_option maxHeartbeats 1600000 in
theorem specWalkTo (A : Option Addr) (n c : Nat) (root : Int) (path : ByteArray) (xs : List (Int × ByteArray)) (w : World) (h : Rd w 2 A n (pcs xs)) (hx : ∀ x ∈ xs, x.2.size ≤ 1048576) (hn : n ≤ 1048576) (hp : path.size ≤ 1048576) :
    Calls Tryz.prog 17 #[.slice A n c, .int .i64 root, .string path] w fun e w' => ∃ q b, e = .returned (.tuple #[.int .i64 q, .bool b]) ∧ WalkT xs root path q b ∧ Below w.heap.size w w' := by
  have HX := Lib.hid (show ∀ x ∈ xs, x.2.size ≤ maxLen from fun x hxx => Nat.le_trans (hx x hxx) (by unfold maxLen; omega))
  have HZ := Lib.hid hx
  clear hx
  have hpl := partsP_len path
  cases hd : (partsP path).2
  · have HN : Hid (WalkT xs root path (-1) false) := Lib.hid (.inr ⟨.inl hd, rfl, rfl⟩)
    have HD := Lib.hid hd
    clear hd
    go_enter Tryz.func17, Tryz.ntmps17
    go_wp2_with fail
    refine (specPathParts path _ hp).mono ?_
    rintro e w1 ⟨v1, rfl, hown1, hb1⟩
    rw [HD.out]
    go_wp2_with fail
    refine bodyPost_ret (v := .tuple #[.int .i64 (-1), .bool false]) (by simp [results, Tryz.results17, go_sem]) rfl ?_
    first | exact ⟨-1, false, rfl, HN.out, hb1⟩ | exact ⟨-1, .inl ⟨rfl, HN.out, hb1⟩⟩
  · have HD := Lib.hid hd
    cases hv : storeV xs
    · have HN : Hid (WalkT xs root path (-1) false) := Lib.hid (.inr ⟨.inr hv, rfl, rfl⟩)
      have HV := Lib.hid hv
      clear hd hv
      go_enter Tryz.func17, Tryz.ntmps17
      go_wp2_with fail
      refine (specPathParts path _ hp).mono ?_
      rintro e w1 ⟨v1, rfl, hown1, hb1⟩
      rw [HD.out]
      go_wp2_with fail
      refine (specStoreValid _ _ _ xs _ (h.below hb1) HX.out (by omega)).mono ?_
      rintro e w2 ⟨rfl, k2, rfl⟩
      rw [HV.out]
      go_wp2_with fail
      refine bodyPost_ret (v := .tuple #[.int .i64 (-1), .bool false]) (by simp [results, Tryz.results17, go_sem]) rfl ?_
      first | exact ⟨-1, false, rfl, HN.out, below_to hb1 hb1.size (below_drewN _ _)⟩ | exact ⟨-1, .inl ⟨rfl, HN.out, below_to hb1 hb1.size (below_drewN _ _)⟩⟩
    · have HV := Lib.hid hv
      have HW : Hid (∀ q b, WalkF xs (partsP path).1 root q b → WalkT xs root path q b) := Lib.hid (fun q b hw => .inl ⟨hd, hv, hw⟩)
      clear hd hv
      go_enter Tryz.func17, Tryz.ntmps17
      go_wp2_with fail
      refine (specPathParts path _ hp).mono ?_
      rintro e w1 ⟨v1, rfl, hown1, hb1⟩
      rw [HD.out]
      obtain ⟨A1, c1, rfl, _⟩ := own_slice hown1
      go_wp2_with fail
      refine (specStoreValid _ _ _ xs _ (h.below hb1) HX.out (by omega)).mono ?_
      rintro e w2 ⟨rfl, k2, hw2⟩
      have hb2 : Below w1.heap.size w1 w2 := by rw [hw2]; exact below_drewN _ _
      clear hw2
      have hB2 := below_step hb1 hb2
      rw [HV.out]
      go_wp2_with fail
      refine (l9Walk _ _ _ _ _ _ xs (partsP path).1 root _ ((h.below hb1).below hb2) ((Rd.own hown1).below hb2) HZ.out hn (by omega)).mono ?_
      rintro e w3 ⟨q, b, rfl, hq, hb3⟩
      have HQ := Lib.hid (HW.out q b hq)
      go_wp2_with fail
      refine bodyPost_ret (v := .tuple #[.int .i64 q, .bool b]) (by simp [results, Tryz.results17, go_sem]) rfl ?_
      exact ⟨q, b, rfl, HQ.out, below_step hB2 hb3⟩
set_option maxRecDepth 8000 in
set_option maxHeartbeats 3200000 in
theorem implWalkTo (A : Option Addr) (n c : Nat) (root : Int) (path : ByteArray) (xs : List (Int × ByteArray)) (mm : Int) (w : World) (h : Rd w 2 A n (pcs xs)) (hx : ∀ x ∈ xs, x.2.size ≤ 1048576) (hn : n ≤ 1048576) (hp : path.size ≤ 1048576) (hm : w.cell? ⟨0, 0, none⟩ = some (.int .i64 mm)) (hcell : w.cell? ⟨5, 15, none⟩ = some (.int .u8 4)) :
    Calls Tryz.prog 21 #[.slice A n c, .int .i64 root, .string path] w fun e w' => ∃ q b, e = .returned (.tuple #[.int .i64 q, .bool b]) ∧ WalkT xs root path q b ∧ Below w.heap.size w w' := by
  have HX := Lib.hid (show ∀ x ∈ xs, x.2.size ≤ maxLen from fun x hxx => Nat.le_trans (hx x hxx) (by unfold maxLen; omega))
  have HZ := Lib.hid hx
  clear hx
  have hpl := partsP_len path
  cases hd : (partsP path).2
  · have HN : Hid (WalkT xs root path (-1) false) := Lib.hid (.inr ⟨.inl hd, rfl, rfl⟩)
    have HD := Lib.hid hd
    clear hd
    go_enter Tryz.func21, Tryz.ntmps21
    go_wp2_with fail
    refine (implPathParts path mm _ hp hm).mono ?_
    rintro e w1 ⟨v1, rfl, hown1, hb1⟩
    rw [HD.out]
    go_wp2_with fail
    refine bodyPost_ret (v := .tuple #[.int .i64 (-1), .bool false]) (by simp [results, Tryz.results21, go_sem]) rfl ?_
    first | exact ⟨-1, false, rfl, HN.out, hb1⟩ | exact ⟨-1, .inl ⟨rfl, HN.out, hb1⟩⟩
  · have HD := Lib.hid hd
    cases hv : storeV xs
    · have HN : Hid (WalkT xs root path (-1) false) := Lib.hid (.inr ⟨.inr hv, rfl, rfl⟩)
      have HV := Lib.hid hv
      clear hd hv
      go_enter Tryz.func21, Tryz.ntmps21
      go_wp2_with fail
      refine (implPathParts path mm _ hp hm).mono ?_
      rintro e w1 ⟨v1, rfl, hown1, hb1⟩
      rw [HD.out]
      go_wp2_with fail
      refine (implStoreValid _ _ _ xs _ (h.below hb1) HX.out).mono ?_
      rintro e w2 ⟨rfl, hb2⟩
      rw [HV.out]
      go_wp2_with fail
      refine bodyPost_ret (v := .tuple #[.int .i64 (-1), .bool false]) (by simp [results, Tryz.results21, go_sem]) rfl ?_
      first | exact ⟨-1, false, rfl, HN.out, below_step hb1 hb2⟩ | exact ⟨-1, .inl ⟨rfl, HN.out, below_step hb1 hb2⟩⟩
    · have HV := Lib.hid hv
      have HWT : Hid (∀ q b, WalkF xs (partsP path).1 root q b → WalkT xs root path q b) := Lib.hid (fun q b hw => .inl ⟨hd, hv, hw⟩)
      clear hd hv
      go_enter Tryz.func21, Tryz.ntmps21
      go_wp2_with fail
      refine (implPathParts path mm _ hp hm).mono ?_
      rintro e w1 ⟨v1, rfl, hown1, hb1⟩
      rw [HD.out]
      obtain ⟨A1, c1, rfl, _⟩ := own_slice hown1
      have HPS : ∃ ps, Hid ((partsP path).1 = ps) := ⟨_, Lib.hid rfl⟩
      obtain ⟨ps, HPS⟩ := HPS
      rw [HPS.out] at hown1 hpl ⊢
      have HW0 : Hid (∀ q b, WalkF xs ps root q b → WalkT xs root path q b) := Lib.hid (by rw [← HPS.out]; exact HWT.out)
      clear HWT HPS
      go_wp2_with fail
      refine (implStoreValid _ _ _ xs _ (h.below hb1) HX.out).mono ?_
      rintro e w2 ⟨rfl, hb2⟩
      rw [HV.out]
      have hB2 := below_step hb1 hb2
      have hps := (Rd.own hown1).below hb2
      have HM := Lib.hid hps.strLen
      go_wp2_with fail
      go_loopw [10, 12, 13, 14, 15, 16, 34] (fun p _ _ _ _ _ i wr => ∃ (k : Nat) (u : Int), p = .int .i64 u ∧ i = .int .i64 (k : Int) ∧ k ≤ ps.length ∧ Hid (∀ q b, WalkF xs (ps.drop k) u q b → WalkT xs root path q b) ∧ Rd wr 1 A1 ps.length (strs ps) ∧ Below w.heap.size w wr) (fun _ _ _ _ _ _ i _ => ps.length - (intOf i).toNat)
      case atStart => exact ⟨0, root, rfl, rfl, Nat.zero_le _, HW0, hps, hB2⟩
      case round =>
        obtain ⟨k, u, rfl, rfl, hk, HW, hbr, hB⟩ := hrel
        have har := h.below hB
        have hm1 := (hB.cell (p := ⟨0, 0, none⟩) (World.block_lt_of_cell? w _ hm)).trans hm
        have hcell1 := (hB.cell (p := ⟨5, 15, none⟩) (World.block_lt_of_cell? w _ hcell)).trans hcell
        by_cases hlt : k < ps.length
        · obtain ⟨b, off, nm, rfl, hbb, hpk, hc0⟩ := hbr.strAt hlt
          have hltI : (k : Int) < (ps.length : Int) := by omega
          have HDR := Lib.hid (drop_consW hpk)
          clear hpk
          go_wp2_with fail
          refine (folderOf _ _ _ u xs mm _ har HV.out HZ.out hn hm1 hcell1).mono ?_
          rintro e w3 ⟨v3, ys, ok, rfl, hR, hown3, hb3⟩
          have hB3 := below_step hB hb3
          obtain ⟨A3, c3, rfl, _⟩ := own_slice hown3
          have hl3 := hR.len
          have HR := Lib.hid hR
          clear hR
          cases ok
          · have HN := Lib.hid (HW.out _ _ (by rw [HDR.out]; exact walk_none HR.out (.inl rfl)))
            go_wp2_with fail
            refine bodyPost_ret (v := .tuple #[.int .i64 (-1), .bool false]) (by simp [results, Tryz.results21, go_sem]) rfl ?_
            first | exact ⟨-1, false, rfl, HN.out, hB3⟩ | exact ⟨-1, .inl ⟨rfl, HN.out, hB3⟩⟩
          · have HYV := Lib.hid (HR.out.yes rfl).1
            go_wp2_with fail
            refine (printNamed _ _ _ nm ys _ (Rd.own hown3) HYV.out (by omega)).mono ?_
            rintro e w4 ⟨p, b4, rfl, hcase, hb4⟩
            have hB4 := below_step hB3 hb4
            have hbr4 := (hbr.below hb3).below hb4
            have HCS := Lib.hid hcase
            clear hcase
            cases b4
            · have HN := Lib.hid (HW.out (-1) false (by
                rcases HCS.out with ⟨h1, _⟩ | ⟨_, h2⟩
                · cases h1
                · rw [HDR.out]; exact walk_none HR.out (.inr h2)))
              go_wp2_with fail
              refine bodyPost_ret (v := .tuple #[.int .i64 (-1), .bool false]) (by simp [results, Tryz.results21, go_sem]) rfl ?_
              first | exact ⟨-1, false, rfl, HN.out, hB4⟩ | exact ⟨-1, .inl ⟨rfl, HN.out, hB4⟩⟩
            · have HW' : Hid (∀ q b, WalkF xs (ps.drop (k + 1)) p q b → WalkT xs root path q b) := Lib.hid (fun q b hw => by
                rcases HCS.out with ⟨_, h2⟩ | ⟨h1, _⟩
                · exact HW.out q b (by rw [HDR.out]; exact walk_step HR.out h2 hw)
                · cases h1)
              go_wp2_with fail
              go_roundw
              case rel => exact ⟨k + 1, p, rfl, by go_num, by omega, HW', hbr4, hB4⟩
              case measure => simp [intOf]; omega
        · have hke : k = ps.length := by omega
          have HN := Lib.hid (HW.out _ _ (by rw [List.drop_of_length_le (by omega)]; exact walk_end xs u))
          clear hke
          have hltI : ¬ (k : Int) < (ps.length : Int) := by omega
          cases hg : (getL u xs).2
          · have HG := Lib.hid hg
            rw [hg] at HN
            clear hg
            go_wp2_with fail
            refine (textOf _ _ _ u xs _ har HV.out (by omega)).mono ?_
            rintro e w5 ⟨rfl, hb5⟩
            rw [HG.out]
            go_wp2_with fail
            refine bodyPost_ret (v := .tuple #[.int .i64 (-1), .bool false]) (by simp [results, Tryz.results21, go_sem]) rfl ?_
            first | exact ⟨-1, false, rfl, HN.out, below_step hB hb5⟩ | exact ⟨-1, .inl ⟨rfl, HN.out, below_step hB hb5⟩⟩
          · have HG := Lib.hid hg
            rw [hg] at HN
            clear hg
            go_wp2_with fail
            refine (textOf _ _ _ u xs _ har HV.out (by omega)).mono ?_
            rintro e w5 ⟨rfl, hb5⟩
            rw [HG.out]
            go_wp2_with fail
            refine bodyPost_ret (v := .tuple #[.int .i64 u, .bool true]) (by simp [results, Tryz.results21, go_sem]) rfl ?_
            first | exact ⟨u, true, rfl, HN.out, below_step hB hb5⟩ | exact ⟨u, .inr ⟨rfl, HN.out, below_step hB hb5⟩⟩
end Go.Proofs.YtjombaiplnebmaaGreatDoor
