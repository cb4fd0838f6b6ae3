/- The texts Open InsP CloneP as one. -/
import Derived.Test.YthoiljgpggldcaaMem
import Derived.ProofKit
import Derived.OpenShut
import Derived.ShutString
import Derived.ChangeOld
import Derived.SliceStrings
import Derived.Deep.SlicePairs
import Derived.Test.YthoiljgpggldcaaIns
import Derived.Test.YthoiljgpggldcaaM2
import Derived.Test.YthoiljgpggldcaaCut
import Derived.Test.YthoiljgpggldcaaM3
/- Arguments of a law, opened: a slice that came in reads as a list. Plain facts, over whatever program. -/
open Go.RowKit Go.ChangeShapes Go.WideShapes Go.ChangeAt
namespace Go.Proofs.Ythoiljgpggldcaa

def byts (xs : List Int) : List Value := xs.map (Value.int .u8)
def strOf : Value → ByteArray
  | .string s => s
  | _ => ByteArray.empty

section
variable {H : Type} {enc : TypeId × Value → H} {P : Program} {W : World}

theorem addr_plain {a : Addr} {v : Value} (h : W.cell? (a.add 0) = some v) : a.spot = none := by
  have := World.cell?_spot h
  simpa [Addr.add] using this
theorem add_mk (b off i : Nat) : (⟨b, off, none⟩ : Addr).add i = ⟨b, off + i, none⟩ := by unfold Addr.add; split <;> simp_all

/-- What a list of cells behind an address comes to. -/
theorem rd_of_cells {size : Nat} {a : Addr} {n : Nat} {xs : List Value} (hs : 0 < size) (hl : xs.length = n * size) (h : ∀ j u, xs[j]? = some u → W.cell? (a.add j) = some u) : Rd W size (some a) n xs := by
  refine ⟨hl, fun hn => ?_⟩
  have h0 : 0 < xs.length := by rw [hl]; exact Nat.mul_pos hn hs
  have hc := h 0 _ (List.getElem?_eq_getElem h0)
  have hp := addr_plain hc
  obtain ⟨b, off, spot⟩ := a
  dsimp only at hp
  subst hp
  refine ⟨b, off, rfl, ?_, fun j u hu => ?_⟩
  · have := World.block_lt_of_cell? W _ hc
    rw [add_mk] at this
    exact this
  · rw [← add_mk]
    exact h j u hu

theorem open_rd_num {t e : TypeId} {k : IntKind} {A : Option Addr} {n c : Nat} {d : DataW H} {p : List MemPlace} (ht : P.underlying t = some (.slice e)) (he : P.underlying e = some (.int k)) (hc : P.cellsOf e = 1)
    (h : DataW.Trod enc P W 0 (fun _ => true) true t (.slice A n c) d p) : n ≤ c ∧ c ≤ maxLen ∧ ∃ xs : List Int, Rd W 1 A n (xs.map (Value.int k)) ∧ ∀ x ∈ xs, (Lit.int k x).wf = true := by
  obtain ⟨fuel, hf⟩ := h
  rcases open_ints ht he hc hf with ⟨hcs, _⟩ | ⟨x, l, c', zs, hcs, _, hl, hm, hz, _, hcell, hwz⟩
  · simp [Value.cells] at hcs
    obtain ⟨rfl, rfl, rfl⟩ := hcs
    exact ⟨Nat.le_refl _, Nat.zero_le _, [], ⟨by simp, fun h => absurd h (by omega)⟩, by simp⟩
  · simp [Value.cells] at hcs
    obtain ⟨rfl, rfl, rfl⟩ := hcs
    simp only [if_true] at hz
    refine ⟨hl, hm, zs.take n, rd_of_cells (by omega) (by rw [List.length_map, List.length_take, Nat.mul_one]; omega) (fun j u hu => ?_), fun x hx => hwz x (List.mem_of_mem_take hx)⟩
    rw [List.getElem?_map, Option.map_eq_some_iff] at hu
    obtain ⟨y, hy, rfl⟩ := hu
    rw [List.getElem?_take] at hy
    split at hy
    · have hj : j < zs.length := (List.getElem?_eq_some_iff.1 hy).1
      rw [hcell j hj, List.getD_eq_getElem?_getD, hy]
      rfl
    · cases hy

theorem open_rd_strs {t e : TypeId} {A : Option Addr} {n c : Nat} {d : DataW H} {p : List MemPlace} (ht : P.underlying t = some (.slice e)) (he : P.underlying e = some .string) (hc : P.cellsOf e = 1)
    (h : DataW.Trod enc P W 0 (fun _ => true) true t (.slice A n c) d p) : n ≤ c ∧ c ≤ maxLen ∧ ∃ ss : List ByteArray, Rd W 1 A n (strs ss) ∧ ∀ s ∈ ss, s.size ≤ maxLen := by
  obtain ⟨fuel, hf⟩ := h
  rcases open_strings ht he hc hf with ⟨hcs, _⟩ | ⟨x, l, c', zs, hcs, _, hl, hm, hz, _, hcell, hwz⟩
  · simp [Value.cells] at hcs
    obtain ⟨rfl, rfl, rfl⟩ := hcs
    exact ⟨Nat.le_refl _, Nat.zero_le _, [], ⟨by simp [strs], fun h => absurd h (by omega)⟩, by simp⟩
  · simp [Value.cells] at hcs
    obtain ⟨rfl, rfl, rfl⟩ := hcs
    simp only [if_true] at hz
    refine ⟨hl, hm, zs.take n, rd_of_cells (by omega) (by rw [strs_length, List.length_take, Nat.mul_one]; omega) (fun j u hu => ?_), fun x hx => hwz x (List.mem_of_mem_take hx)⟩
    unfold strs at hu
    rw [List.getElem?_map, Option.map_eq_some_iff] at hu
    obtain ⟨y, hy, rfl⟩ := hu
    rw [List.getElem?_take] at hy
    split at hy
    · have hj : j < zs.length := (List.getElem?_eq_some_iff.1 hy).1
      rw [hcell j hj, List.getD_eq_getElem?_getD, hy]
      rfl
    · cases hy

theorem open_rd_pairs {t e : TypeId} {f0 f1 : Field} {A : Option Addr} {n c : Nat} {d : DataW H} {p : List MemPlace} (ht : P.underlying t = some (.slice e)) (he : P.underlying e = some (.struct #[f0, f1]))
    (ce : P.cellsOf e = 2) (o0 : f0.offset = 0) (o1 : f1.offset = 1) (c0 : P.cellsOf f0.type = 1) (c1 : P.cellsOf f1.type = 1)
    (h : DataW.Trod enc P W 0 (fun _ => true) true t (.slice A n c) d p) :
    n ≤ c ∧ c ≤ maxLen ∧ ∃ ps : List (Value × Value), Rd W 2 A n (ps.flatMap fun p => [p.1, p.2]) ∧
      ∀ p ∈ ps, (∃ k y, DataW.trod enc P W 0 (fun _ => true) true k f0.type [p.1] = some y) ∧ (∃ k y, DataW.trod enc P W 0 (fun _ => true) true k f1.type [p.2] = some y) := by
  obtain ⟨fuel, hf⟩ := h
  rcases Go.Deep.open_slice_pairs ht he ce o0 o1 c0 c1 hf with ⟨hcs, _⟩ | ⟨x, l, c', m, k, V0, V1, D0, D1, P0, P1, hcs, _, hl, hm, hmm, _, hcell⟩
  · simp [Value.cells] at hcs
    obtain ⟨rfl, rfl, rfl⟩ := hcs
    exact ⟨Nat.le_refl _, Nat.zero_le _, [], ⟨by simp, fun h => absurd h (by omega)⟩, by simp⟩
  · simp [Value.cells] at hcs
    obtain ⟨rfl, rfl, rfl⟩ := hcs
    simp only [if_true] at hmm
    refine ⟨hl, hm, (List.range n).map (fun i => (V0 i, V1 i)), rd_of_cells (by omega) (by rw [flat2_length, List.length_map, List.length_range]) (fun j u hu => ?_), fun q hq => ?_⟩
    · rw [flat2_get] at hu
      by_cases hj : j / 2 < n
      · simp only [List.getElem?_map, List.getElem?_range hj, Option.map_some] at hu
        obtain ⟨h0, h1, _⟩ := hcell (j / 2) (by omega)
        split at hu
        · simp only [Option.some.injEq] at hu
          subst hu
          rw [← h0]; congr 2; omega
        · simp only [Option.some.injEq] at hu
          subst hu
          rw [← h1]; congr 2; omega
      · have : ((List.range n).map (fun i => (V0 i, V1 i)))[j / 2]? = none := by simp; omega
        rw [this] at hu
        simp at hu
    · obtain ⟨i, hi, rfl⟩ := List.mem_map.1 hq
      obtain ⟨_, _, h2, h3⟩ := hcell i (by have := List.mem_range.1 hi; omega)
      exact ⟨⟨_, _, h2⟩, ⟨_, _, h3⟩⟩
end

theorem open_pcs {H : Type} {enc : TypeId × Value → H} {P : Program} {W : World} {t e : TypeId} {f0 f1 : Field} {A : Option Addr} {n c : Nat} {d : DataW H} {p : List MemPlace} (ht : P.underlying t = some (.slice e)) (he : P.underlying e = some (.struct #[f0, f1]))
    (ce : P.cellsOf e = 2) (o0 : f0.offset = 0) (o1 : f1.offset = 1) (c0 : P.cellsOf f0.type = 1) (c1 : P.cellsOf f1.type = 1) (hi : P.underlying f0.type = some (.int .i64)) (hs : P.underlying f1.type = some .string)
    (h : DataW.Trod enc P W 0 (fun _ => true) true t (.slice A n c) d p) :
    n ≤ c ∧ c ≤ maxLen ∧ ∃ ps : List (Int × ByteArray), Rd W 2 A n (pcs ps) ∧ ∀ p ∈ ps, (Lit.int .i64 p.1).wf = true ∧ p.2.size ≤ maxLen := by
  obtain ⟨h1, h2, ps, hr, hp⟩ := open_rd_pairs ht he ce o0 o1 c0 c1 h
  have hq : ∀ q ∈ ps, q = (Value.int .i64 (intOf q.1), Value.string (strOf q.2)) ∧ (Lit.int .i64 (intOf q.1)).wf = true ∧ (strOf q.2).size ≤ maxLen := by
    rintro ⟨q0, q1⟩ hq
    obtain ⟨⟨_, _, h0⟩, ⟨_, _, h1⟩⟩ := hp _ hq
    obtain ⟨n, e0, _, hw⟩ := DataW.trod_int hi h0
    obtain ⟨s, e1, _, hw1⟩ := DataW.trod_string hs h1
    simp at e0 e1
    subst e0 e1
    exact ⟨rfl, hw, hw1⟩
  refine ⟨h1, h2, ps.map (fun q => (intOf q.1, strOf q.2)), ?_, ?_⟩
  · have : (ps.flatMap fun p => [p.1, p.2]) = pcs (ps.map (fun q => (intOf q.1, strOf q.2))) := by
      unfold pcs
      rw [List.flatMap_map]
      refine flatMap_congr' (fun q hq' => ?_)
      conv => lhs; rw [(hq q hq').1]
    rwa [this] at hr
  · intro q hq'
    obtain ⟨q', hq'', rfl⟩ := List.mem_map.1 hq'
    exact (hq q' hq'').2

theorem open_ens {H : Type} {enc : TypeId × Value → H} {P : Program} {W : World} {t e : TypeId} {f0 f1 : Field} {A : Option Addr} {n c : Nat} {d : DataW H} {p : List MemPlace} (ht : P.underlying t = some (.slice e)) (he : P.underlying e = some (.struct #[f0, f1]))
    (ce : P.cellsOf e = 2) (o0 : f0.offset = 0) (o1 : f1.offset = 1) (c0 : P.cellsOf f0.type = 1) (c1 : P.cellsOf f1.type = 1) (hs : P.underlying f0.type = some .string) (hi : P.underlying f1.type = some (.int .i64))
    (h : DataW.Trod enc P W 0 (fun _ => true) true t (.slice A n c) d p) :
    n ≤ c ∧ c ≤ maxLen ∧ ∃ ps : List (ByteArray × Int), Rd W 2 A n (ens ps) ∧ ∀ p ∈ ps, p.1.size ≤ maxLen ∧ (Lit.int .i64 p.2).wf = true := by
  obtain ⟨h1, h2, ps, hr, hp⟩ := open_rd_pairs ht he ce o0 o1 c0 c1 h
  have hq : ∀ q ∈ ps, q = (Value.string (strOf q.1), Value.int .i64 (intOf q.2)) ∧ (strOf q.1).size ≤ maxLen ∧ (Lit.int .i64 (intOf q.2)).wf = true := by
    rintro ⟨q0, q1⟩ hq
    obtain ⟨⟨_, _, h0⟩, ⟨_, _, h1⟩⟩ := hp _ hq
    obtain ⟨n, e0, _, hw⟩ := DataW.trod_int hi h1
    obtain ⟨s, e1, _, hw1⟩ := DataW.trod_string hs h0
    simp at e0 e1
    subst e0 e1
    exact ⟨rfl, hw1, hw⟩
  refine ⟨h1, h2, ps.map (fun q => (strOf q.1, intOf q.2)), ?_, ?_⟩
  · have : (ps.flatMap fun p => [p.1, p.2]) = ens (ps.map (fun q => (strOf q.1, intOf q.2))) := by
      unfold ens
      rw [List.flatMap_map]
      refine flatMap_congr' (fun q hq' => ?_)
      conv => lhs; rw [(hq q hq').1]
    rwa [this] at hr
  · intro q hq'
    obtain ⟨q', hq'', rfl⟩ := List.mem_map.1 hq'
    exact (hq q' hq'').2
end Go.Proofs.Ythoiljgpggldcaa
/- Contract of slices.Insert at pieces: one more among those of a row of the call's own. -/
open Go.RowKit
namespace Go.Proofs.Ythoiljgpggldcaa
end Go.Proofs.Ythoiljgpggldcaa
/- Contract: a copy of pieces (slices.Clone). -/
open Go.RowKit
namespace Go.Proofs.Ythoiljgpggldcaa
end Go.Proofs.Ythoiljgpggldcaa
