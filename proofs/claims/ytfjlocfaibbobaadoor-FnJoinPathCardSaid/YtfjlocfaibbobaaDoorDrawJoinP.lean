/- What is drawn: the parts of a path. -/
import Derived.Test.YtfjlocfaibbobaaDoorBelowP
import Derived.Test.YtfjlocfaibbobaaDoorPartsI
import Derived.Test.YtfjlocfaibbobaaDoorAppend
import Derived.Test.YtfjlocfaibbobaaDoorStrs
import Derived.Test.YtfjlocfaibbobaaDoorDraw4
import Derived.Test.YtfjlocfaibbobaaDoorPrints
open Go.RowKit
namespace Go.Proofs.YtfjlocfaibbobaaDoor
theorem slB_short : ∀ {xs : List ByteArray}, xs.length ≤ 3 → (∀ x ∈ xs, x.size ≤ 9) → (slB xs).size ≤ 30 := by
  intro xs hl hs
  have hd : (slB xs).size = (slB xs).data.toList.length := (Array.length_toList ..).symm
  rw [hd, slB_data]
  have h : ∀ ys : List ByteArray, (∀ x ∈ ys, x.size ≤ 9) → (ys.map fun x => (47 : UInt8) :: x.data.toList).flatten.length ≤ 10 * ys.length := by
    intro ys
    induction ys with
    | nil => intro _; exact Nat.le_refl _
    | cons y ys ih =>
      intro hy
      have h1 := hy y (List.mem_cons_self ..)
      have h2 := ih (fun z hz => hy z (List.mem_cons_of_mem _ hz))
      have h3 : y.data.toList.length = y.size := Array.length_toList ..
      rw [List.map_cons, List.flatten_cons, List.length_append, List.length_cons, List.length_cons]
      omega
  have := h xs hs
  omega
theorem joinP_short {xs : List ByteArray} (hs : ∀ x ∈ xs, x.size ≤ 9) : (joinP xs).size ≤ 30 := by
  unfold joinP
  split
  · rename_i ho
    split
    · decide
    · exact slB_short (pathOk_parts ho).1 hs
  · decide
def DrawnJ (w : World) (e : Ending) (w' : World) : Prop := ∃ (v : Value) (k : Nat) (ys : List ByteArray), e = .returned v ∧ k ≤ 5 ∧ (∀ y ∈ ys, y.size ≤ 9) ∧ w'.ownsRow w.heap.size 9 1 v k (strs ys) ∧ Below w.heap.size w w'
set_option maxRecDepth 8000 in
set_option maxHeartbeats 800000 in
theorem drawJoinPath (A : Option Addr) (n c : Nat) (xs : List Int) (w : World) (h : Rd w 1 A n (byts xs)) (hc : n ≤ c) (hx : ∀ x ∈ xs, (Lit.int .u8 x).wf = true) :
    Calls Tryd.prog 20 #[.slice A n c] w (DrawnJ w) := by
  go_enter Tryd.func20, Tryd.ntmps20
  go_wp2_with (go_at_call 48; refine (l20Open A n c xs _ h hc hx).mono ?_; rintro e w1 ⟨R, rfl, hR, hr, hb⟩)
  refine (pick _ R _ 5 (hr.below ((Below.refl _ _).alloc (Nat.le_refl _) _)) (by omega)).mono ?_
  rintro e w2 ⟨x, rfl, x0, _, x1, hR2, hg2⟩
  obtain ⟨k0, rfl⟩ := Int.eq_ofNat_of_zero_le x0
  have hk0 : k0 ≤ 4 := by have := x1 (by omega); omega
  clear x0 x1
  have hRlt := hr.lt
  have hown1 := own_rdr (own_empty w1 9 1) hg2 hRlt
  have hg1' := grown_trans' (World.grownBy_alloc w1 (.cells #[] 9) (some R)) hg2
  clear hg2
  go_wp2_with fail
  go_loopw [4, 5] (fun v i wr => ∃ (j n : Nat) (es : List ByteArray), i = .int .i64 (j : Int) ∧ j + n ≤ 4 ∧ j ≤ 4 ∧ Hid (∀ x ∈ es, x.size ≤ 9) ∧ wr.ownsRow w1.heap.size 9 1 v n (strs es) ∧ Rdr wr R (1 + 2 * (4 - j)) ∧ w1.grownBy wr (some R)) (fun _ i _ => (intOf i).toNat)
  case atStart => exact ⟨k0, 0, [], rfl, by omega, hk0, Lib.hid (fun _ h => by cases h), hown1, hR2.mono (by omega), hg1'⟩
  case round =>
    obtain ⟨j, m, es, rfl, hjn, hj4, HS, hown, hRj, hg⟩ := hrel
    by_cases hj : 0 < j
    · go_wp2_with fail
      refine (l20Word _ R _ 14 hRj (by omega)).mono ?_
      rintro e w3 ⟨s, rfl, hs9, hR3, hg3⟩
      have hown3 := own_rdr hown hg3 hRlt
      have hgg3 := grown_trans' hg hg3
      have hG3 : w1.heap.size ≤ w3.heap.size := hgg3.size
      clear hown hg hg3
      go_wp2_with (at_builtin; refine wpList_app1 _ rfl (.tmp 15) (.tmp 18) _ rfl w1.heap.size 9 1 16 (.string ⟨#[]⟩) Tryd.underlying26 str_info rfl (by omega) (by omega) _ m _ rfl hown3 _ rfl (one_str _) rfl (by omega) hG3 ?_; intro v4 w4 hown4 hg4 _)
      rw [show strs es ++ (#[Value.string s] : Array Value).toList = strs (es ++ [s]) from by simp [strs]] at hown4
      have hR4 := rdr_app hR3 hg4 hRlt (fun k e => (hown3.lt k e).1)
      have hg4' := grown_app hgg3 hg4 (fun k e => (hown3.lt k e).1)
      go_wp2_with fail
      go_roundw
      case rel => exact ⟨j - 1, m + 1, _, by go_num, by omega, by omega, Lib.hid (fun x hx => by rcases List.mem_append.1 hx with hx | hx; exact HS.out x hx; rw [List.mem_singleton.1 hx]; exact hs9), hown4, hR4.mono (by omega), hg4'⟩
      case measure => simp [intOf]; omega
    · obtain rfl : j = 0 := by omega
      go_wp2_with fail
      go_ret
      exact ⟨_, m, es, rfl, by omega, HS.out, own_base hown hb.size, below_rdr hb hR hg⟩
end Go.Proofs.YtfjlocfaibbobaaDoor
