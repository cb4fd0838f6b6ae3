/- Contract of the program's ReadFolder. -/
import Derived.Test.YtjombaiplnebmaaGreatDoorReadFo
import Derived.Test.YtjombaiplnebmaaGreatDoorMsh
open Go.RowKit
namespace Go.Proofs.YtjombaiplnebmaaGreatDoor
def strSz : Value → Nat
  | .string s => s.size
  | _ => 0
theorem head_list {s : ByteArray} {c : UInt8} {r : List UInt8} (h : s.data.toList = c :: r) : head1 s c = true := by
  unfold head1 bts
  rw [h]
  exact decide_eq_true rfl
theorem cutC (r : ByteArray) (c : UInt8) (m : Int) (w : World) (hs : r.size ≤ 1048576) (hm : w.cell? ⟨0, 0, none⟩ = some (.int .i64 m)) (a d : List UInt8) (b : Bool) (h : Lib.cut r.data.toList [c] = (a, d, b)) :
    Calls Tryz.prog 53 #[.string r, .string ⟨#[c]⟩] w fun e w' => e = .returned (.tuple #[.string (ofL a), .string (ofL d), .bool b]) ∧ ∃ n, w' = w.drewN n := by
  refine (Tryz.strings_Cut r ⟨#[c]⟩ m w (by omega) hm).mono ?_
  rintro e w' ⟨rfl, hw⟩
  refine ⟨?_, hw⟩
  show Ending.returned (.tuple #[.string (ofL (Lib.cut r.data.toList [c]).1), .string (ofL (Lib.cut r.data.toList [c]).2.1), .bool (Lib.cut r.data.toList [c]).2.2]) = _
  rw [h]
theorem cut_list {s : ByteArray} {c : UInt8} (h : head1 s c = true) : (cut1 s c).data.toList = s.data.toList.drop 1 := by
  rw [cut1_yes h, ex_ofL, ofL_data, List.take_of_length_le]
  rw [List.length_drop, Array.length_toList]
  exact Nat.le_refl _
set_option maxRecDepth 8000 in
set_option maxHeartbeats 3200000 in
theorem implReadFolder (s : ByteArray) (m : Int) (w : World) (hs : s.size ≤ 1048576) (hm : w.cell? ⟨0, 0, none⟩ = some (.int .i64 m)) (hcell : w.cell? ⟨5, 15, none⟩ = some (.int .u8 4)) :
    Calls Tryz.prog 39 #[.string s] w fun e w' => ∃ v ys ok, e = .returned (.tuple #[v, .bool ok]) ∧ ReadF s ys ok ∧ w'.ownsRow w.heap.size 50 2 v ys.length (ens ys) ∧ Below w.heap.size w w' := by
  cases hh : head1 s 100
  · have HH := Lib.hid hh
    have HR : Hid (ReadF s [] false) := Lib.hid (readF_bad fun es hv he => by
      have := head_list (folderT_list hv he)
      rw [hh] at this
      cases this)
    clear hh
    go_enter Tryz.func39, Tryz.ntmps39
    go_wp2_with (go_at_call 43; refine (cutPrefix1 _ _ _ (by unfold maxLen; omega)).mono ?_; rintro e w' ⟨rfl, rfl⟩; rw [HH.out])
    refine bodyPost_ret (v := .tuple #[.slice none 0 0, .bool false]) (by simp [results, Tryz.results39, go_sem]) rfl ?_
    exact ⟨_, [], false, rfl, HR.out, World.ownsRow_nil _ _ _ _, Below.refl _ _⟩
  · have HH := Lib.hid hh
    have HC := Lib.hid (cut_list hh)
    have hcs := cut1_size s 100
    clear hh
    go_enter Tryz.func39, Tryz.ntmps39
    go_wp2_with (go_at_call 43; refine (cutPrefix1 _ _ _ (by unfold maxLen; omega)).mono ?_; rintro e w' ⟨rfl, rfl⟩; rw [HH.out])
    go_loopw [4, 6, 7, 8, 9, 10, 11, 12] (fun rest v _ _ _ _ _ _ wr => ∃ (r : ByteArray) (ys : List (ByteArray × Int)), rest = .string r ∧ Hid (FoldAt s ys r.data.toList) ∧ r.size ≤ s.size ∧ ys.length ≤ 3 ∧ Hid (∀ x ∈ ys, x.1.size ≤ maxLen) ∧ wr.ownsRow w.heap.size 50 2 v ys.length (ens ys) ∧ Below w.heap.size w wr) (fun rest _ _ _ _ _ _ _ _ => strSz rest)
    case atStart => exact ⟨_, [], rfl, Lib.hid (by rw [HC.out]; exact foldAt_start s), by omega, Nat.zero_le _, Lib.hid (fun _ h => by cases h), World.ownsRow_nil _ _ _ _, Below.refl _ _⟩
    case round =>
      obtain ⟨r, ys, rfl, HF, hr, hy3, HX, hown, hB⟩ := hrel
      by_cases hr0 : r = ⟨#[]⟩
      · subst hr0
        have HE : Hid (FoldAt s ys []) := HF
        obtain ⟨A6, c6, rfl, _⟩ := own_slice hown
        have hcr := (hB.cell (p := ⟨5, 15, none⟩) (World.block_lt_of_cell? w _ hcell)).trans hcell
        go_wp2_with fail
        refine (implFolderText _ _ _ ys _ (Rd.own hown) HX.out hcr).mono ?_
        rintro e w2 ⟨rfl, hb2⟩
        by_cases hf : folderT ys = s
        · have hs0 : s ≠ ⟨#[]⟩ := fun e => by
            have h2 := HH.out
            rw [e] at h2
            cases h2
          have heq : (s.toList == s.toList) = true := by simp
          have hneq : (s.toList != s.toList) = false := by simp
          have HR := Lib.hid (foldAt_end hs0 hf)
          rw [hf]
          clear hs0 hf
          go_wp2_with fail
          refine bodyPost_ret (v := .tuple #[.slice A6 ys.length c6, .bool true]) (by simp [results, Tryz.results39, go_sem]) rfl ?_
          exact ⟨_, ys, true, rfl, HR.out, own_below hown hb2, below_step hB hb2⟩
        · have HR := Lib.hid (foldAt_not HE.out hf)
          have hneq := toList_eqh hf
          have hneq2 : ((folderT ys).toList != s.toList) = true := by rw [bne, hneq]; rfl
          clear hf
          go_wp2_with fail
          refine bodyPost_ret (v := .tuple #[.slice none 0 0, .bool false]) (by simp [results, Tryz.results39, go_sem]) rfl ?_
          exact ⟨_, [], false, rfl, HR.out, World.ownsRow_nil _ _ _ _, below_step hB hb2⟩
      · have hem := isE_of hr0
        have hne : r.data.toList ≠ [] := fun e => hr0 (ByteArray.ext (Array.toList_inj.1 e))
        have hcr := (hB.cell (p := ⟨5, 15, none⟩) (World.block_lt_of_cell? w _ hcell)).trans hcell
        have hmr := (hB.cell (p := ⟨0, 0, none⟩) (World.block_lt_of_cell? w _ hm)).trans hm
        obtain ⟨A6, c6, rfl, _⟩ := own_slice hown
        rcases cut_cases 59 r.data.toList with ⟨P, D, e1, hP, hcut⟩ | ⟨hno, hcut⟩
        · have hlen := congrArg List.length e1
          rw [Array.length_toList, List.length_append, List.length_cons] at hlen
          have hlen : r.size = P.length + (D.length + 1) := hlen
          have hFA := HF.out
          rw [e1] at hFA
          have HC1 := Lib.hid hcut
          have HR1 : Hid (Lib.cut r.data.toList [59] = (P, D, true)) := HC1
          clear hcut e1 hr0 hne
          rcases cut_cases 61 P with ⟨N, C, e2, hN, hcut2⟩ | ⟨hno2, hcut2⟩
          · have hl2 := congrArg List.length e2
            rw [List.length_append, List.length_cons] at hl2
            have HC2 : Hid (Lib.cut (ofL P).data.toList [61] = (N, C, true)) := Lib.hid hcut2
            have hzP : (ofL P).size ≤ 1048576 := by rw [ofL_sz]; omega
            have hC : ∀ x ∈ C, x ≠ 59 := fun x hx => hP x (by rw [e2]; exact List.mem_append.2 (.inr (List.mem_cons.2 (.inr hx))))
            have hFB := hFA
            rw [e2, List.append_assoc, List.cons_append] at hFB
            have HN := Lib.hid (foldAt_step hFB hN hC)
            by_cases h3 : ys.length = 3
            · have HR := Lib.hid (foldAt_full hFA (by simp) h3)
              have h3i : ((ys.length : Int) == 3) = true := by rw [h3]; rfl
              clear h3 hFA hFB hP hN hC e2 hcut2
              go_wp2_with fail
              refine (cutC r 59 m _ (by omega) hmr P D true HR1.out).mono ?_
              rintro e w2 ⟨rfl, k2, rfl⟩
              go_wp2_with fail
              refine (cutC (ofL P) 61 m (wr.drewN k2) (by first | exact hzP | omega) hmr N C true HC2.out).mono ?_
              rintro e w3 ⟨rfl, k3, rfl⟩
              go_wp2_with fail
              refine bodyPost_ret (v := .tuple #[.slice none 0 0, .bool false]) (by simp [results, Tryz.results39, go_sem]) rfl ?_
              exact ⟨_, [], false, rfl, HR.out, World.ownsRow_nil _ _ _ _, below_to hB hB.size (by first | exact below_drewN _ _ | exact below_step (below_drewN _ _) (below_drewN _ _))⟩
            · have h3i : ((ys.length : Int) == 3) = false := by simp; omega
              clear hFA hFB hP hN hC e2 hcut2
              go_wp2_with fail
              refine (cutC r 59 m _ (by omega) hmr P D true HR1.out).mono ?_
              rintro e w2 ⟨rfl, k2, rfl⟩
              go_wp2_with fail
              refine (cutC (ofL P) 61 m (wr.drewN k2) (by first | exact hzP | omega) hmr N C true HC2.out).mono ?_
              rintro e w3 ⟨rfl, k3, rfl⟩
              have hB3 : Below w.heap.size w ((wr.drewN k2).drewN k3) := below_to hB hB.size (below_step (below_drewN wr k2) (below_drewN _ k3))
              have hown3 : ((wr.drewN k2).drewN k3).ownsRow w.heap.size 50 2 _ ys.length (ens ys) := hown
              have hc3 : ((wr.drewN k2).drewN k3).cell? ⟨5, 15, none⟩ = some (.int .u8 4) := hcr
              go_wp2_with fail
              first
                | refine (implReadHex (ofL C) ((wr.drewN k2).drewN k3) (by rw [ofL_sz]; unfold maxLen; omega) hc3).mono ?_
                | refine (implReadHex (ofL C) (wr.drewN (k2 + k3)) (by rw [ofL_sz]; unfold maxLen; omega) hc3).mono ?_
              rintro e w4 ⟨rfl, hb4'⟩
              have hB4 := below_to hB hB.size (show Below wr.heap.size wr w4 by first | exact below_step (below_drewN _ _) hb4' | exact below_step (below_step (below_drewN wr k2) (below_drewN _ k3)) hb4')
              have hown4 := own_below hown (show Below wr.heap.size wr w4 by first | exact below_step (below_drewN _ _) hb4' | exact below_step (below_step (below_drewN wr k2) (below_drewN _ k3)) hb4')
              go_wp2_with (at_builtin; refine wpList_app1 _ rfl (.tmp 45) (.tmp 50) _ rfl w.heap.size 50 2 24 _ Tryz.underlying46 ens_info rfl (by omega) (by omega) _ ys.length _ rfl hown4 #[.string (ofL N), .int .i64 (readH (ofL C))] rfl (one_en _ _) rfl (by omega) hB4.size ?_; intro v5 w5 hown5 hg5 _)
              rw [show ens ys ++ (#[Value.string (ofL N), Value.int .i64 (readH (ofL C))] : Array Value).toList = ens (ys ++ [(ofL N, readH (ofL C))]) from by simp [ens]] at hown5
              have hB5 := hB4.grown hg5 hB4.size (fun j e => (hown4.lt j e).1)
              have HX' : Hid (∀ x ∈ ys ++ [(ofL N, readH (ofL C))], x.1.size ≤ maxLen) := Lib.hid (fun x hx => by
                rcases List.mem_append.1 hx with hx | hx
                · exact HX.out x hx
                · rw [List.mem_singleton.1 hx]
                  show (ofL N).size ≤ maxLen
                  rw [ofL_sz]
                  unfold maxLen
                  omega)
              have hlz : (ys ++ [(ofL N, readH (ofL C))]).length = ys.length + 1 := by rw [List.length_append]; rfl
              rw [← hlz] at hown5
              generalize ys ++ [(ofL N, readH (ofL C))] = zs at *
              have hz3 : zs.length ≤ 3 := by omega
              have hD : (ofL D).size < r.size := by rw [ofL_sz]; omega
              clear hlz
              go_roundw
              case rel => exact ⟨ofL D, zs, rfl, HN, by omega, hz3, HX', hown5, hB5⟩
              case measure => simp [strSz]; exact hD
          · have HR := Lib.hid (foldAt_part hFA hP hno2)
            have hzP : (ofL P).size ≤ 1048576 := by rw [ofL_sz]; omega
            have HC2 : Hid (Lib.cut (ofL P).data.toList [61] = (P, [], false)) := Lib.hid hcut2
            clear hFA hP hno2 hcut2
            go_wp2_with fail
            refine (cutC r 59 m _ (by omega) hmr P D true HR1.out).mono ?_
            rintro e w2 ⟨rfl, k2, rfl⟩
            go_wp2_with fail
            refine (cutC (ofL P) 61 m (wr.drewN k2) (by first | exact hzP | omega) hmr P [] false HC2.out).mono ?_
            rintro e w3 ⟨rfl, k3, rfl⟩
            go_wp2_with fail
            refine bodyPost_ret (v := .tuple #[.slice none 0 0, .bool false]) (by simp [results, Tryz.results39, go_sem]) rfl ?_
            exact ⟨_, [], false, rfl, HR.out, World.ownsRow_nil _ _ _ _, below_to hB hB.size (by first | exact below_drewN _ _ | exact below_step (below_drewN _ _) (below_drewN _ _))⟩
        · have HR := Lib.hid (foldAt_no59 HF.out hne hno)
          have HC1 : Hid (Lib.cut r.data.toList [59] = (r.data.toList, [], false)) := Lib.hid hcut
          have HC2 : ∃ a d b, Hid (Lib.cut (ofL r.data.toList).data.toList [61] = (a, d, b)) := ⟨_, _, _, Lib.hid rfl⟩
          obtain ⟨a, d, b, HC2⟩ := HC2
          have hzP : (ofL r.data.toList).size ≤ 1048576 := by rw [ofL_of]; omega
          clear hno hcut hne hr0
          go_wp2_with fail
          refine (cutC r 59 m _ (by omega) hmr _ _ false HC1.out).mono ?_
          rintro e w2 ⟨rfl, k2, rfl⟩
          go_wp2_with fail
          refine (cutC (ofL r.data.toList) 61 m (wr.drewN k2) (by first | exact hzP | omega) hmr a d b HC2.out).mono ?_
          rintro e w3 ⟨rfl, k3, rfl⟩
          go_wp2_with fail
          refine bodyPost_ret (v := .tuple #[.slice none 0 0, .bool false]) (by simp [results, Tryz.results39, go_sem]) rfl ?_
          exact ⟨_, [], false, rfl, HR.out, World.ownsRow_nil _ _ _ _, below_to hB hB.size (by first | exact below_drewN _ _ | exact below_step (below_drewN _ _) (below_drewN _ _))⟩
end Go.Proofs.YtjombaiplnebmaaGreatDoor
