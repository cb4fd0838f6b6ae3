/- The texts PutE Draw3 Draw4 Plain as one. -/
import Derived.Test.YthoiljgpggldcaaPutE1
import Derived.Test.YthoiljgpggldcaaPutE2
import Derived.Test.YthoiljgpggldcaaPutE3
import Derived.Test.YthoiljgpggldcaaPutE4
import Derived.Test.YthoiljgpggldcaaPutE5
import Derived.Test.YthoiljgpggldcaaDraw2
import Derived.Laws.BytesArg
import Derived.Test.YthoiljgpggldcaaMem
/- Contract of the specification's PutEntry, of a row of the call's own. -/
open Go.RowKit
namespace Go.Proofs.Ythoiljgpggldcaa
theorem specPutEntry (base n : Nat) (v : Value) (t : ByteArray) (p : Int) (xs : List (ByteArray × Int)) (w : World) (h : w.ownsRow base 63 2 v n (ens xs)) (hbk : v.ownBlock ≠ none) (hx : ∀ x ∈ xs, x.1.size ≤ maxLen) (ht : t.size ≤ maxLen) (hn : n ≤ 4194000) :
    Calls Try.prog 52 #[v, .agg #[.string t, .int .i64 p]] w fun e w' => ∃ v', e = .returned (.tuple #[v', .bool (putE xs t p).2]) ∧ w'.ownsRow w.heap.size 63 2 v' (putE xs t p).1.length (ens (putE xs t p).1) ∧ Below w.heap.size w w' ∧ v'.ownBlock ≠ none := by
  rcases h.2 with ⟨rfl, _⟩ | ⟨g, c, cur, rfl, _, _, hc, hcm, _⟩
  · exact absurd rfl hbk
  · have hr := Rd.own h
    have hle : enPos t xs ≤ n := by rw [← hr.enLen]; exact posOf_le _ _
    by_cases hh : enHere t xs = true
    · by_cases hcc : enPos t xs + 1 = c
      · exact specPutEntry2 g n c t p xs w hr hc hx ht hn hcm ⟨hh, hcc⟩
      · exact specPutEntry3 g n c t p xs w hr hc hx ht hn hcm ⟨hh, hcc⟩
    · have hf : enHere t xs = false := by simpa using hh
      by_cases hp : enPos t xs < n
      · exact specPutEntry1 g n c t p xs w hr hc hx ht hn hcm ⟨hp, hf⟩
      · by_cases hcn : c = n
        · exact specPutEntry4 g n c t p xs w hr hc hx ht hn hcm ⟨by omega, hcn⟩
        · exact specPutEntry5 g n c t p xs w hr hc hx ht hn hcm ⟨by omega, hcn⟩
end Go.Proofs.Ythoiljgpggldcaa
/- What is drawn: texts. -/
open Go.RowKit
namespace Go.Proofs.Ythoiljgpggldcaa
def zs61 : Array Value := madeCells #[.int .u8 0] 61
def z61 : ByteArray := strOfNums (List.replicate 61 0)
theorem z61_size : z61.size = 61 := by unfold z61; rw [strOfNums_size, List.length_replicate]
def Z61 (W : World) (g : Nat) : Prop := ∀ i, i < 61 → W.cell? ⟨g, 0 + i, none⟩ = some (.int .u8 0)
theorem zs61_at : ∀ i, i < 61 → zs61[i]? = some (.int .u8 0) := by
  intro i hi
  unfold zs61 madeCells
  simp [hi, Nat.mod_one]
theorem z61_new (W : World) (t : TypeId) : Z61 (W.alloc (.cells zs61 t)) W.heap.size := by
  intro i hi
  rw [Nat.zero_add, cell_of_row _ _ i zs61 t (0, 0) (heap_alloc_new W _)]
  exact zs61_at i hi
theorem z61_grown {a b : World} {R : Nat} (h : a.grownBy b (some R)) (g : Nat) (hne : g ≠ R) (hlt : g < a.heap.size) : Z61 b g = Z61 a g := by
  unfold Z61
  refine propext ⟨fun H i hi => ?_, fun H i hi => ?_⟩
  · rw [← H i hi]; exact (World.cell?_of_block (w := a) (h.block g hlt (fun e => hne (by injection e)))).symm
  · rw [← H i hi]; exact World.cell?_of_block (w := a) (h.block g hlt (fun e => hne (by injection e)))
theorem cell_grown {a b : World} {R : Nat} (h : a.grownBy b (some R)) (g j : Nat) (hne : g ≠ R) (hlt : g < a.heap.size) : b.cell? ⟨g, j, none⟩ = a.cell? ⟨g, j, none⟩ :=
  World.cell?_of_block (w := a) (h.block g hlt (fun e => hne (by injection e)))
end Go.Proofs.Ythoiljgpggldcaa
/- What is drawn: the draws of texts and prints for the laws. -/
open Go.RowKit
namespace Go.Proofs.Ythoiljgpggldcaa
theorem below_rdr {w w1 w2 : World} {R : Nat} (hb : Below w.heap.size w w1) (hR : w.heap.size ≤ R) (hg : w1.grownBy w2 (some R)) : Below w.heap.size w w2 :=
  hb.grown hg hb.size (fun k e => by injection e with e; omega)
end Go.Proofs.Ythoiljgpggldcaa
/- Plain laws of prints, lists and trees: no program in sight. -/
open Go.RowKit
namespace Go.Proofs.Ythoiljgpggldcaa

theorem mul_cancel_mod {k i x y : Int} (hk : (k * i) % 16777213 = 1) (hx : 0 ≤ x ∧ x ≤ 16777212) (hy : 0 ≤ y ∧ y ≤ 16777212) (h : (x * k) % 16777213 = (y * k) % 16777213) : x = y := by
  have h1 : ((x * k) * i) % 16777213 = ((y * k) * i) % 16777213 := by rw [Int.mul_emod, h, ← Int.mul_emod]
  rw [Int.mul_assoc, Int.mul_assoc, Int.mul_emod, hk, Int.mul_emod y, hk] at h1
  omega
theorem add_cancel_mod {x y d : Int} (h : (x + d) % 16777213 = (y + d) % 16777213) : x % 16777213 = y % 16777213 := by
  rw [Int.emod_eq_emod_iff_emod_sub_eq_zero] at h ⊢
  have e : x + d - (y + d) = x - y := by omega
  rwa [e] at h
theorem pairP_bd {a b : Int} : -1 ≤ pairP a b ∧ pairP a b ≤ 16777212 := by
  unfold pairP
  split <;> omega
theorem pairP_nonneg {a b : Int} (a0 : 0 ≤ a) (a1 : a ≤ 16777212) (b0 : 0 ≤ b) (b1 : b ≤ 16777212) : 0 ≤ pairP a b := by
  have h := pairP_yes a0 a1 b0 b1
  omega
theorem pairP_inj1 {a b c : Int} (ha : 0 ≤ a ∧ a ≤ 16777212) (hc : 0 ≤ c ∧ c ≤ 16777212) (hb : 0 ≤ b ∧ b ≤ 16777212) (h : pairP a b = pairP c b) : a = c := by
  have h1 := (pairP_yes ha.1 ha.2 hb.1 hb.2).symm.trans (h.trans (pairP_yes hc.1 hc.2 hb.1 hb.2))
  have hk : ((7919 : Int) * 7018930) % 16777213 = 1 := by simp
  exact mul_cancel_mod hk ha hc (add_cancel_mod (add_cancel_mod h1))
theorem pairP_inj2 {a b c : Int} (ha : 0 ≤ a ∧ a ≤ 16777212) (hc : 0 ≤ c ∧ c ≤ 16777212) (hb : 0 ≤ b ∧ b ≤ 16777212) (h : pairP b a = pairP b c) : a = c := by
  have h1 := (pairP_yes hb.1 hb.2 ha.1 ha.2).symm.trans (h.trans (pairP_yes hb.1 hb.2 hc.1 hc.2))
  have hk : ((104729 : Int) * 243018) % 16777213 = 1 := by simp
  have h2 := add_cancel_mod h1
  rw [Int.add_comm, Int.add_comm (b * 7919)] at h2
  exact mul_cancel_mod hk ha hc (add_cancel_mod h2)

/-! Lists of prints. -/
def pairTo (xs : List Int) : Int := xs.foldl pairP 5
def listP (xs : List Int) : Int := if 20 < xs.length then -1 else pairTo xs
theorem pairTo_snoc (xs : List Int) (x : Int) : pairTo (xs ++ [x]) = pairP (pairTo xs) x := by
  unfold pairTo
  rw [List.foldl_append]
  rfl
theorem pairP_neg1 (x : Int) : pairP (-1) x = -1 := if_neg (by omega)
theorem pairP_bad {a x : Int} (h : printB x = false) : pairP a x = -1 := by
  unfold printB at h
  exact if_neg (fun h' => (of_decide_eq_false h) ⟨h'.2.2.1, h'.2.2.2⟩)
theorem foldl_neg1 (xs : List Int) : xs.foldl pairP (-1) = -1 := by
  induction xs with
  | nil => rfl
  | cons x xs ih => rw [List.foldl_cons, pairP_neg1, ih]
theorem foldl_bad {xs : List Int} (h : xs.all printB = false) (a : Int) : xs.foldl pairP a = -1 := by
  induction xs generalizing a with
  | nil => simp at h
  | cons x xs ih =>
    rw [List.foldl_cons]
    cases hx : printB x
    · rw [pairP_bad hx, foldl_neg1]
    · exact ih (by simpa [hx] using h) _
theorem pairTo_bad {xs : List Int} (h : xs.all printB = false) : pairTo xs = -1 := foldl_bad h 5
theorem printB_of {n : Int} (h : printB n = true) : 0 ≤ n ∧ n ≤ 16777212 := of_decide_eq_true h
theorem foldl_ok {xs : List Int} (h : xs.all printB = true) (a : Int) (ha : 0 ≤ a ∧ a ≤ 16777212) : 0 ≤ xs.foldl pairP a ∧ xs.foldl pairP a ≤ 16777212 := by
  induction xs generalizing a with
  | nil => exact ha
  | cons x xs ih =>
    rw [List.foldl_cons]
    rw [List.all_cons, Bool.and_eq_true] at h
    obtain ⟨x0, x1⟩ := printB_of h.1
    exact ih h.2 _ ⟨pairP_nonneg ha.1 ha.2 x0 x1, pairP_bd.2⟩
theorem pairTo_ok {xs : List Int} (h : xs.all printB = true) : 0 ≤ pairTo xs ∧ pairTo xs ≤ 16777212 := foldl_ok h 5 (by omega)
theorem pairTo_neg {xs : List Int} (h : pairTo xs < 0) : pairTo xs = -1 := by
  cases hx : xs.all printB
  · exact pairTo_bad hx
  · have := pairTo_ok hx; omega
theorem pairTo_stays {xs : List Int} {k : Nat} (h : pairTo (xs.take k) = -1) : pairTo xs = -1 := by
  rw [← List.take_append_drop k xs]
  unfold pairTo at h ⊢
  rw [List.foldl_append, h, foldl_neg1]
theorem listP_big {xs : List Int} (h : 20 < xs.length) : listP xs = -1 := if_pos h
theorem listP_small {xs : List Int} (h : ¬ 20 < xs.length) : listP xs = pairTo xs := if_neg h

/-! Trees. -/
def leavesV (xs : List Int) : Bool := decide (1 ≤ xs.length ∧ xs.length ≤ 16) && xs.all printB
def levelUp : List Int → List Int
  | a :: b :: r => pairP a b :: levelUp r
  | [a] => [a]
  | [] => []
theorem levelUp_length : ∀ xs : List Int, (levelUp xs).length = (xs.length + 1) / 2
  | [] => by simp [levelUp]
  | [_] => by simp [levelUp]
  | _ :: _ :: r => by
    have := levelUp_length r
    simp only [levelUp, List.length_cons, this]
    omega
theorem levelUp_get2 : ∀ (xs : List Int) (k : Nat) (a b : Int), xs[2 * k]? = some a → xs[2 * k + 1]? = some b → (levelUp xs)[k]? = some (pairP a b)
  | [], _, _, _, h, _ => by simp at h
  | [_], 0, _, _, _, h => by simp at h
  | [_], k + 1, _, _, h, _ => by simp at h
  | _ :: _ :: _, 0, _, _, h, h' => by
    simp only [Nat.mul_zero, List.getElem?_cons_zero, Option.some.injEq, Nat.zero_add, List.getElem?_cons_succ] at h h'
    subst h h'
    rfl
  | _ :: _ :: r, k + 1, a, b, h, h' => by
    have e1 : 2 * (k + 1) = 2 * k + 1 + 1 := by omega
    rw [e1, List.getElem?_cons_succ, List.getElem?_cons_succ] at h
    rw [e1, List.getElem?_cons_succ, List.getElem?_cons_succ] at h'
    simp only [levelUp, List.getElem?_cons_succ]
    exact levelUp_get2 r k a b h h'
theorem levelUp_get1 : ∀ (xs : List Int) (k : Nat) (a : Int), xs[2 * k]? = some a → xs[2 * k + 1]? = none → (levelUp xs)[k]? = some a
  | [], _, _, h, _ => by simp at h
  | [_], 0, _, h, _ => by simpa [levelUp] using h
  | [_], k + 1, _, h, _ => by simp at h
  | _ :: _ :: _, 0, _, _, h' => by simp at h'
  | _ :: _ :: r, k + 1, a, h, h' => by
    have e1 : 2 * (k + 1) = 2 * k + 1 + 1 := by omega
    rw [e1, List.getElem?_cons_succ, List.getElem?_cons_succ] at h
    rw [e1, List.getElem?_cons_succ, List.getElem?_cons_succ] at h'
    simp only [levelUp, List.getElem?_cons_succ]
    exact levelUp_get1 r k a h h'
theorem levelUp_ok : ∀ {xs : List Int}, xs.all printB = true → (levelUp xs).all printB = true
  | [], _ => rfl
  | [_], h => h
  | a :: b :: r, h => by
    rw [List.all_cons, List.all_cons, Bool.and_eq_true, Bool.and_eq_true] at h
    obtain ⟨a0, a1⟩ := printB_of h.1
    obtain ⟨b0, b1⟩ := printB_of h.2.1
    simp only [levelUp, List.all_cons, Bool.and_eq_true]
    exact ⟨printB_yes (pairP_nonneg a0 a1 b0 b1) pairP_bd.2, levelUp_ok h.2.2⟩
/-- The top of a tree, with fuel. -/
def rootF : Nat → List Int → Int
  | 0, xs => xs.headD 0
  | f + 1, xs => if xs.length ≤ 1 then xs.headD 0 else rootF f (levelUp xs)
theorem rootF_more : ∀ (f g : Nat) (xs : List Int), xs.length ≤ f + 1 → xs.length ≤ g + 1 → rootF f xs = rootF g xs
  | 0, 0, _, _, _ => rfl
  | 0, g + 1, xs, h, _ => by simp only [rootF]; rw [if_pos (by omega)]
  | f + 1, 0, xs, _, h => by simp only [rootF]; rw [if_pos (by omega)]
  | f + 1, g + 1, xs, hf, hg => by
    simp only [rootF]
    split
    · rfl
    · have := levelUp_length xs
      exact rootF_more f g _ (by omega) (by omega)
def topOf (xs : List Int) : Int := rootF xs.length xs
theorem topOf_one (a : Int) : topOf [a] = a := rfl
theorem topOf_short {xs : List Int} (h : xs.length ≤ 1) : topOf xs = xs.headD 0 := by
  unfold topOf
  cases hl : xs.length with
  | zero => rfl
  | succ n => simp only [rootF]; rw [if_pos (by omega)]
theorem topOf_up {xs : List Int} (h : 2 ≤ xs.length) : topOf (levelUp xs) = topOf xs := by
  unfold topOf
  have hl := levelUp_length xs
  obtain ⟨n, hn⟩ : ∃ n, xs.length = n + 1 := ⟨xs.length - 1, by omega⟩
  rw [hn]
  simp only [rootF]
  rw [if_neg (by omega)]
  exact rootF_more _ _ _ (by omega) (by omega)
def treeR (xs : List Int) : Int := if leavesV xs = true then topOf xs else -1
theorem treeR_yes {xs : List Int} (h : leavesV xs = true) : treeR xs = topOf xs := if_pos h
theorem treeR_no {xs : List Int} (h : leavesV xs = false) : treeR xs = -1 := if_neg (by rw [h]; simp)
end Go.Proofs.Ythoiljgpggldcaa
