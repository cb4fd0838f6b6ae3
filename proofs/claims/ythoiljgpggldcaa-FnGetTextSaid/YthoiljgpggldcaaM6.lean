/- The texts Ents FindE EntryV as one. -/
import Derived.Test.YthoiljgpggldcaaWords
import Derived.Test.YthoiljgpggldcaaMem
import Derived.Test.YthoiljgpggldcaaM2
import Derived.Deep.RegionLaw
import Derived.Test.YthoiljgpggldcaaM1
import Derived.BigQuiet
import Derived.Deep.QuietTactic
/- Contracts of what a law does with lists of entrys: sizes, copies, compares. -/
open Go.RowKit
namespace Go.Proofs.Ythoiljgpggldcaa
def totE (xs : List (ByteArray × Int)) : Nat := (xs.map fun x => x.1.size).sum
theorem totE_snoc (xs : List (ByteArray × Int)) (x : (ByteArray × Int)) : totE (xs ++ [x]) = totE xs + x.1.size := by simp [totE]
theorem totE_mem {xs : List (ByteArray × Int)} {x : (ByteArray × Int)} (h : x ∈ xs) : x.1.size ≤ totE xs := by
  induction xs with
  | nil => cases h
  | cons y ys ih =>
    unfold totE at ih ⊢
    rw [List.map_cons, List.sum_cons]
    rcases List.mem_cons.1 h with rfl | h
    · omega
    · have := ih h; omega
theorem ens_info : (Try.prog.info? 63).map (fun i => (i.zero, i.size, i.bytes)) = some (some (.agg #[.string ⟨#[]⟩, .int .i64 0]), 2, 24) := by kernel_rfl
theorem ens_cell0 {xs : List (ByteArray × Int)} {k : Nat} {x : (ByteArray × Int)} (h : xs[k]? = some x) : (ens xs)[k * 2]? = some (.string x.1) := by
  unfold ens
  rw [flat2_get, if_pos (by omega), show k * 2 / 2 = k from by omega, h]
  rfl
theorem ens_cell1 {xs : List (ByteArray × Int)} {k : Nat} {x : (ByteArray × Int)} (h : xs[k]? = some x) : (ens xs)[k * 2 + 1]? = some (.int .i64 x.2) := by
  unfold ens
  rw [flat2_get, if_neg (by omega), show (k * 2 + 1) / 2 = k from by omega, h]
  rfl
end Go.Proofs.Ythoiljgpggldcaa
/- Contracts: where a name belongs (slices.BinarySearchFunc, cmp.Compare). -/
open Go.RowKit
namespace Go.Proofs.Ythoiljgpggldcaa
def cmpB (a b : ByteArray) : Int := if ltB a b = true then -1 else if ltB b a = true then 1 else 0
def enIs (t : ByteArray) (x : ByteArray × Int) : Bool := decide (x.1 = t)
theorem cmpB_pre (s : ByteArray) (p : Int) (t : ByteArray) : decide (cmpB s t < 0) = enBelow t (s, p) := by
  unfold cmpB enBelow
  cases h : ltB s t
  · rw [if_neg (by simp)]; split <;> simp
  · rw [if_pos rfl]; simp
theorem toList_in {x y : ByteArray} (e : x.toList = y.toList) : x = y := by
  rw [Lib.toList_data, Lib.toList_data] at e
  exact ByteArray.ext (Array.toList_inj.1 e)
theorem ltB_irrefl (a : ByteArray) : ltB a a = false := by
  have := bytesLess_total a.toList a.toList
  unfold ltB
  rw [beq_self_eq_true, Bool.or_true] at this
  simpa using this.symm
theorem ltB_neither {a b : ByteArray} (h1 : ltB a b = false) (h2 : ltB b a = false) : a = b := by
  have := bytesLess_total a.toList b.toList
  unfold ltB at h1 h2
  rw [h1, h2, Bool.false_or] at this
  exact toList_in (by simpa using this)
theorem cmpB_is (s : ByteArray) (p : Int) (t : ByteArray) : (cmpB s t == 0) = enIs t (s, p) := by
  unfold cmpB enIs
  cases h : ltB s t
  · rw [if_neg (by simp)]
    cases h2 : ltB t s
    · rw [if_neg (by simp), ltB_neither h h2]
      simp
    · rw [if_pos rfl]
      have hne : s ≠ t := fun e => by rw [e, ltB_irrefl] at h2; cases h2
      exact (show ((1 : Int) == 0) = false by decide).trans (decide_eq_false hne).symm
  · rw [if_pos rfl]
    have hne : s ≠ t := fun e => by rw [e, ltB_irrefl] at h; cases h
    exact (show ((-1 : Int) == 0) = false by decide).trans (decide_eq_false hne).symm

end Go.Proofs.Ythoiljgpggldcaa
/- Contracts of what says whether entries are valid. -/
open Go.RowKit
namespace Go.Proofs.Ythoiljgpggldcaa
theorem Calls.flipEntry {P : Program} {f : FuncId} {args : Array Value} {W : World} {v v' : Value} (h : Calls P f args W fun e w' => e = .returned v ∧ W = w') (hv : v = v') : Calls P f args W fun e w' => e = .returned v' ∧ w' = W :=
  h.mono fun _ _ ⟨he, hw⟩ => ⟨by rw [he, hv], hw.symm⟩
theorem Rd.enFrom {w : World} {n k b off : Nat} {xs : List (ByteArray × Int)} (h : Rd w 2 (some ⟨b, off, none⟩) n (ens xs)) (hk : k < n) : ∃ s p, xs[k]? = some (s, p) ∧ w.cell? ⟨b, off + k * 2, none⟩ = some (.string s) ∧ w.cell? ⟨b, off + k * 2 + 1, none⟩ = some (.int .i64 p) := by
  obtain ⟨b', off', s, p, e, _, h1, h2, h3⟩ := h.enAt hk
  injection e with e
  injection e with e1 e2
  subst e1 e2
  exact ⟨s, p, h1, h2, h3⟩
set_option maxRecDepth 4000 in
set_option maxHeartbeats 3200000 in
theorem specEntriesValid (A : Option Addr) (n c : Nat) (xs : List (ByteArray × Int)) (w : World) (h : Rd w 2 A n (ens xs)) (hx : ∀ x ∈ xs, x.1.size ≤ maxLen) (hn : n ≤ 4194304) :
    Calls Try.prog 38 #[.slice A n c] w fun e w' => e = .returned (.bool (entriesV xs)) ∧ ∃ k, w' = w.drewN k := by
  have HL := Lib.hid h.enLen
  have HX := Lib.hid hx
  clear hx
  go_enter Try.func38, Try.ntmps38
  go_wp2
  go_loopw [3] (fun i wr => ∃ k : Nat, k ≤ n ∧ i = .int .i64 k ∧ Hid (∀ i, i < k → goodAt entryOk entryLt xs i = true) ∧ ∃ j, wr = w.drewN j) (fun i _ => n - (intOf i).toNat)
  case atStart => exact ⟨0, Nat.zero_le _, rfl, Lib.hid (fun i hi => absurd hi (Nat.not_lt_zero _)), 0, rfl⟩
  case round =>
    obtain ⟨k, hk, rfl, HG, j, hwr⟩ := hrel
    have hr : Rd wr 2 A n (ens xs) := by rw [hwr]; exact h.drewN j
    have HW := Lib.hid hwr
    clear hwr
    by_cases hlt : k < n
    · obtain ⟨b, off, s, p, rfl, _, hxk, hc0, hc1⟩ := hr.enAt hlt
      have hsm := HX.out _ (List.mem_of_getElem? hxk)
      dsimp only at hsm
      have hlt' : (k : Int) < (n : Int) := by omega
      cases hv : wordV (bts s)
      · have H1 := Lib.hid (fun W => Calls.flipEntry (specWordValid s W hsm) (v' := .bool false) (by rw [hv]))
        have H2 := H1
        have HB : Hid (entriesV xs = false) := Lib.hid (goodAll_bad (by rw [HL.out]; exact hlt) (goodAt_bad hxk (by unfold entryOk; dsimp only; rw [hv, Bool.false_and])))
        clear hxk hv
        go_wp2
        go_quiet (first | (go_at_call 47; exact Calls.quiet_of_same (H1.out _)) | (go_at_call 48; exact Calls.quiet_of_same (H2.out _)))
        go_wp2
        go_ret
        exact ⟨ret_bool HB.out.symm, _, by first | exact HW.out | rw [HW.out, World.drewN_drewN]⟩
      · have H1 := Lib.hid (fun W => Calls.flipEntry (specWordValid s W hsm) (v' := .bool true) (by rw [hv]))
        cases hp : printB p
        · have H2 := Lib.hid (fun W => Calls.flipEntry (l1In p 0 16777212 W) (v' := .bool false) (by rw [← hp]; rfl))
          have HB : Hid (entriesV xs = false) := Lib.hid (goodAll_bad (by rw [HL.out]; exact hlt) (goodAt_bad hxk (by unfold entryOk; dsimp only; rw [hp, Bool.and_false])))
          clear hxk hv hp
          go_wp2
          go_quiet (first | (go_at_call 47; exact Calls.quiet_of_same (H1.out _)) | (go_at_call 48; exact Calls.quiet_of_same (H2.out _)))
          go_wp2
          go_ret
          exact ⟨ret_bool HB.out.symm, _, by first | exact HW.out | rw [HW.out, World.drewN_drewN]⟩
        · have H2 := Lib.hid (fun W => Calls.flipEntry (l1In p 0 16777212 W) (v' := .bool true) (by rw [← hp]; rfl))
          have HO : Hid (entryOk (s, p) = true) := Lib.hid (by unfold entryOk; dsimp only; rw [hv, hp]; rfl)
          clear hv hp
          rcases Nat.eq_zero_or_pos k with hk0 | hk0
          · have HK : Hid (goodAt entryOk entryLt xs k = true) := Lib.hid (by subst hk0; exact goodAt_zero hxk HO.out)
            have hk0' : decide (0 < (k : Int)) = false := decide_eq_false (by omega)
            have hk0n : decide (0 < k) = false := decide_eq_false (by omega)
            clear hxk hk0
            go_wp2
            go_quiet (first | (go_at_call 47; exact Calls.quiet_of_same (H1.out _)) | (go_at_call 48; exact Calls.quiet_of_same (H2.out _)))
            go_wp2
            go_roundw
            case rel => exact ⟨k + 1, by omega, by go_num, Lib.hid (fun i hi => by rcases Nat.lt_succ_iff_lt_or_eq.1 hi with hi | rfl; exact HG.out i hi; exact HK.out), _, by first | exact HW.out | rw [HW.out, World.drewN_drewN]⟩
            case measure => simp [intOf]; omega
          · obtain ⟨k', hkk⟩ : ∃ k', k = k' + 1 := ⟨k - 1, by omega⟩
            obtain ⟨t, q, hyk, hd0, hd1⟩ := hr.enFrom (show k' < n by omega)
            have hk0' : decide (0 < (k : Int)) = true := decide_eq_true (by omega)
            have hw : IntKind.i64.wrap ((k : Int) - 1) = (k' : Int) := by
              rw [show ((k : Int) - 1) = (k' : Int) from by omega]
              exact IntWalk.i64_in _ (by omega)
            have HKK := Lib.hid hkk
            have hk'n : (k' : Int) < (n : Int) := by omega
            have hk'0 : (0 : Int) ≤ (k' : Int) := Int.natCast_nonneg _
            have HS : Hid (goodAt entryOk entryLt xs k = entryLt (t, q) (s, p)) := Lib.hid (by subst hkk; exact goodAt_succ hxk hyk HO.out)
            clear hkk hxk hyk
            cases hl : Go.Op.bytesLess t.toList s.toList
            · have hl2 : (Go.Op.bytesLess s.toList t.toList || s.toList == t.toList) = true := by rw [bytesLess_total, hl]; rfl
              have HB : Hid (entriesV xs = false) := Lib.hid (goodAll_bad (by rw [HL.out]; exact hlt) (HS.out.trans hl))
              go_wp2
              go_quiet (first | (go_at_call 47; exact Calls.quiet_of_same (H1.out _)) | (go_at_call 48; exact Calls.quiet_of_same (H2.out _)))
              go_wp2
              go_ret
              exact ⟨ret_bool HB.out.symm, _, by first | exact HW.out | rw [HW.out, World.drewN_drewN]⟩
            · have hl2 : (Go.Op.bytesLess s.toList t.toList || s.toList == t.toList) = false := by rw [bytesLess_total, hl]; rfl
              have HK : Hid (goodAt entryOk entryLt xs k = true) := Lib.hid (HS.out.trans hl)
              go_wp2
              go_quiet (first | (go_at_call 47; exact Calls.quiet_of_same (H1.out _)) | (go_at_call 48; exact Calls.quiet_of_same (H2.out _)))
              go_wp2
              go_roundw
              case rel => exact ⟨k + 1, by omega, by go_num, Lib.hid (fun i hi => by rcases Nat.lt_succ_iff_lt_or_eq.1 hi with hi | rfl; exact HG.out i hi; exact HK.out), _, by first | exact HW.out | rw [HW.out, World.drewN_drewN]⟩
              case measure => simp [intOf]; omega
    · have hkn : k = n := by omega
      subst hkn
      have HE : Hid (entriesV xs = decide (k ≤ 3)) := Lib.hid (by unfold entriesV; rw [goodAll_ok (fun i hi => HG.out i (by rw [HL.out] at hi; exact hi)), HL.out])
      by_cases hm : k ≤ 3
      · have HF := Lib.hid (HE.out.trans (decide_eq_true hm))
        have hm' : decide ((k : Int) ≤ 3) = true := decide_eq_true (by omega)
        go_wp2
        go_ret
        exact ⟨ret_bool HF.out.symm, _, HW.out⟩
      · have HF := Lib.hid (HE.out.trans (decide_eq_false hm))
        have hm' : decide ((k : Int) ≤ 3) = false := decide_eq_false (by omega)
        go_wp2
        go_ret
        exact ⟨ret_bool HF.out.symm, _, HW.out⟩
end Go.Proofs.Ythoiljgpggldcaa
