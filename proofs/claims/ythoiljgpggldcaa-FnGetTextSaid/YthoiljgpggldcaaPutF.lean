/- What holds while a row is made of three, in whatever order. -/
import Derived.Test.YthoiljgpggldcaaM6
import Derived.Test.YthoiljgpggldcaaM1
import Derived.Test.YthoiljgpggldcaaCut
import Derived.Test.YthoiljgpggldcaaM3
import Derived.Test.YthoiljgpggldcaaOrders
open Go.RowKit
namespace Go.Proofs.Ythoiljgpggldcaa
set_option linter.unusedVariables false
theorem fle {l : Array Bool} {i j : Nat} {b : Bool} (h : i ≠ j) : (l.setIfInBounds i true).getD j false = l.getD j false := by
  rw [Array.getD_eq_getD_getElem?, Array.getElem?_setIfInBounds_ne h, ← Array.getD_eq_getD_getElem?]
theorem flt {l : Array Bool} {i : Nat} (h : i < l.size) : (l.setIfInBounds i true).getD i false = true := by
  rw [Array.getD_eq_getD_getElem?, Array.getElem?_setIfInBounds_self]
  simp [h]
theorem flo {l : Array Bool} {i : Nat} (h : l.getD i true = false) : l.getD i false = false := by
  rw [Array.getD_eq_getD_getElem?] at h ⊢
  cases e : l[i]?
  · rw [e] at h; cases h
  · rw [e] at h; exact h
theorem fln {a b : Bool} (h : a = true → b = true) (hb : b = false) : a = false := by
  cases a
  · rfl
  · rw [h rfl] at hb; cases hb
theorem rd_pair {W : World} {gb : Nat} {t : ByteArray} {p : Int} (h0 : W.cell? ⟨gb, 0, none⟩ = some (.string t)) (h1 : W.cell? ⟨gb, 1, none⟩ = some (.int .i64 p)) : Rd W 2 (some ⟨gb, 0, none⟩) 1 (ens [(t, p)]) := by
  refine ⟨rfl, fun _ => ⟨gb, 0, rfl, World.block_lt_of_cell? W _ h0, fun j u hu => ?_⟩⟩
  match j, hu with
  | 0, hu => obtain rfl := Option.some.inj hu; exact h0
  | 1, hu => obtain rfl := Option.some.inj hu; exact h1
  | j + 2, hu => simp [ens] at hu
theorem cell_row {a b : World} {row : Option Nat} (h : a.grownBy b row) {gb j : Nat} {v : Value} (hv : a.cell? ⟨gb, j, none⟩ = some v) (hne : row ≠ some gb) : b.cell? ⟨gb, j, none⟩ = some v := by
  rw [← hv]
  exact World.cell?_of_block (w := a) (h.block gb (World.block_lt_of_cell? a _ hv) (fun e => hne e.symm))
def PutF (w0 : World) (g n c k m : Nat) (vr : Value) (t : ByteArray) (p : Int) (tk ys : List (ByteArray × Int)) (l : Array Bool) (v50 v51 v52 v53 v54 v55 v56 v57 v58 v59 v8 : Value) (wr : World) : Prop :=
  l.size = 11 ∧ Below w0.heap.size w0 wr ∧ ((l.getD 7 false = true → l.getD 4 false = true) ∧ (l.getD 9 false = true → l.getD 7 false = true) ∧ (l.getD 10 false = true → l.getD 9 false = true)) ∧
  (l.getD 0 false = true → (l.getD 4 false = false → wr.ownsRow w0.heap.size 63 2 v50 0 [])) ∧
  (l.getD 1 false = true → v51 = .slice (some ⟨g, 0, none⟩) n c) ∧
  (l.getD 2 false = true → v52 = .int .i64 (k : Int)) ∧
  (l.getD 3 false = true → v53 = .slice (some ⟨g, 0, none⟩) k c) ∧
  (l.getD 4 false = true → (l.getD 7 false = false → wr.ownsRow w0.heap.size 63 2 v54 k (ens tk))) ∧
  (l.getD 5 false = true → v55 = .agg #[.string t, .int .i64 p]) ∧
  (l.getD 6 false = true → (l.getD 7 false = false → ∃ gb, v56 = .slice (some ⟨gb, 0, none⟩) 1 1 ∧ w0.heap.size ≤ gb ∧ wr.cell? ⟨gb, 0, none⟩ = some (.string t) ∧ wr.cell? ⟨gb, 1, none⟩ = some (.int .i64 p) ∧ (l.getD 0 false = true → l.getD 4 false = false → v50.ownBlock ≠ some gb) ∧ (l.getD 4 false = true → v54.ownBlock ≠ some gb))) ∧
  (l.getD 7 false = true → (l.getD 9 false = false → wr.ownsRow w0.heap.size 63 2 v57 (k + 1) (ens (tk ++ [(t, p)])))) ∧
  (l.getD 8 false = true → v58 = vr) ∧
  (l.getD 9 false = true → wr.ownsRow w0.heap.size 63 2 v59 (k + 1 + m) (ens (tk ++ [(t, p)] ++ ys))) ∧
  (l.getD 10 false = true → wr.ownsRow w0.heap.size 63 2 v8 (k + 1 + m) (ens (tk ++ [(t, p)] ++ ys)))
theorem PutF.below {w0 wr w' : World} {g n c k m : Nat} {vr : Value} {t : ByteArray} {p : Int} {tk ys : List (ByteArray × Int)} {l : Array Bool} {v50 v51 v52 v53 v54 v55 v56 v57 v58 v59 v8 : Value} (h : PutF w0 g n c k m vr t p tk ys l v50 v51 v52 v53 v54 v55 v56 v57 v58 v59 v8 wr) (hb : Below wr.heap.size wr w') : PutF w0 g n c k m vr t p tk ys l v50 v51 v52 v53 v54 v55 v56 v57 v58 v59 v8 w' := by
  obtain ⟨hs, hB, hcl, a0, a1, a2, a3, a4, a5, a6, a7, a8, a9, a10⟩ := h
  refine ⟨hs, below_step hB hb, hcl, fun e e4 => own_below (a0 e e4) hb, a1, a2, a3, fun e e7 => own_below (a4 e e7) hb, a5, fun e e7 => ?_, fun e e9 => own_below (a7 e e9) hb, a8, fun e => own_below (a9 e) hb, fun e => own_below (a10 e) hb⟩
  obtain ⟨gb, h1, h2, h3, h4, h5, h6⟩ := a6 e e7
  exact ⟨gb, h1, h2, (hb.cell (p := ⟨gb, 0, none⟩) (World.block_lt_of_cell? wr _ h3)).trans h3, (hb.cell (p := ⟨gb, 1, none⟩) (World.block_lt_of_cell? wr _ h4)).trans h4, h5, h6⟩
theorem PutF.s1 {w0 wr : World} {g n c k m : Nat} {vr : Value} {t : ByteArray} {p : Int} {tk ys : List (ByteArray × Int)} {l : Array Bool} {v50 v51 v52 v53 v54 v55 v56 v57 v58 v59 v8 u : Value} (h : PutF w0 g n c k m vr t p tk ys l v50 v51 v52 v53 v54 v55 v56 v57 v58 v59 v8 wr) (hu : u = .slice (some ⟨g, 0, none⟩) n c) : PutF w0 g n c k m vr t p tk ys (l.setIfInBounds 1 true) v50 u v52 v53 v54 v55 v56 v57 v58 v59 v8 wr := by
  obtain ⟨hs, hB, hcl, a0, a1, a2, a3, a4, a5, a6, a7, a8, a9, a10⟩ := h
  unfold PutF
  rw [fle (b := true) (show 1 ≠ 0 by omega), fle (b := true) (show 1 ≠ 2 by omega), fle (b := true) (show 1 ≠ 3 by omega), fle (b := true) (show 1 ≠ 4 by omega), fle (b := true) (show 1 ≠ 5 by omega), fle (b := true) (show 1 ≠ 6 by omega), fle (b := true) (show 1 ≠ 7 by omega), fle (b := true) (show 1 ≠ 8 by omega), fle (b := true) (show 1 ≠ 9 by omega), fle (b := true) (show 1 ≠ 10 by omega)]
  exact ⟨by rw [Array.size_setIfInBounds]; exact hs, hB, hcl, a0, fun _ => hu, a2, a3, a4, a5, a6, a7, a8, a9, a10⟩
theorem PutF.s2 {w0 wr : World} {g n c k m : Nat} {vr : Value} {t : ByteArray} {p : Int} {tk ys : List (ByteArray × Int)} {l : Array Bool} {v50 v51 v52 v53 v54 v55 v56 v57 v58 v59 v8 u : Value} (h : PutF w0 g n c k m vr t p tk ys l v50 v51 v52 v53 v54 v55 v56 v57 v58 v59 v8 wr) (hu : u = .int .i64 (k : Int)) : PutF w0 g n c k m vr t p tk ys (l.setIfInBounds 2 true) v50 v51 u v53 v54 v55 v56 v57 v58 v59 v8 wr := by
  obtain ⟨hs, hB, hcl, a0, a1, a2, a3, a4, a5, a6, a7, a8, a9, a10⟩ := h
  unfold PutF
  rw [fle (b := true) (show 2 ≠ 0 by omega), fle (b := true) (show 2 ≠ 1 by omega), fle (b := true) (show 2 ≠ 3 by omega), fle (b := true) (show 2 ≠ 4 by omega), fle (b := true) (show 2 ≠ 5 by omega), fle (b := true) (show 2 ≠ 6 by omega), fle (b := true) (show 2 ≠ 7 by omega), fle (b := true) (show 2 ≠ 8 by omega), fle (b := true) (show 2 ≠ 9 by omega), fle (b := true) (show 2 ≠ 10 by omega)]
  exact ⟨by rw [Array.size_setIfInBounds]; exact hs, hB, hcl, a0, a1, fun _ => hu, a3, a4, a5, a6, a7, a8, a9, a10⟩
theorem PutF.s3 {w0 wr : World} {g n c k m : Nat} {vr : Value} {t : ByteArray} {p : Int} {tk ys : List (ByteArray × Int)} {l : Array Bool} {v50 v51 v52 v53 v54 v55 v56 v57 v58 v59 v8 u : Value} (h : PutF w0 g n c k m vr t p tk ys l v50 v51 v52 v53 v54 v55 v56 v57 v58 v59 v8 wr) (hu : u = .slice (some ⟨g, 0, none⟩) k c) : PutF w0 g n c k m vr t p tk ys (l.setIfInBounds 3 true) v50 v51 v52 u v54 v55 v56 v57 v58 v59 v8 wr := by
  obtain ⟨hs, hB, hcl, a0, a1, a2, a3, a4, a5, a6, a7, a8, a9, a10⟩ := h
  unfold PutF
  rw [fle (b := true) (show 3 ≠ 0 by omega), fle (b := true) (show 3 ≠ 1 by omega), fle (b := true) (show 3 ≠ 2 by omega), fle (b := true) (show 3 ≠ 4 by omega), fle (b := true) (show 3 ≠ 5 by omega), fle (b := true) (show 3 ≠ 6 by omega), fle (b := true) (show 3 ≠ 7 by omega), fle (b := true) (show 3 ≠ 8 by omega), fle (b := true) (show 3 ≠ 9 by omega), fle (b := true) (show 3 ≠ 10 by omega)]
  exact ⟨by rw [Array.size_setIfInBounds]; exact hs, hB, hcl, a0, a1, a2, fun _ => hu, a4, a5, a6, a7, a8, a9, a10⟩
theorem PutF.s5 {w0 wr : World} {g n c k m : Nat} {vr : Value} {t : ByteArray} {p : Int} {tk ys : List (ByteArray × Int)} {l : Array Bool} {v50 v51 v52 v53 v54 v55 v56 v57 v58 v59 v8 u : Value} (h : PutF w0 g n c k m vr t p tk ys l v50 v51 v52 v53 v54 v55 v56 v57 v58 v59 v8 wr) (hu : u = .agg #[.string t, .int .i64 p]) : PutF w0 g n c k m vr t p tk ys (l.setIfInBounds 5 true) v50 v51 v52 v53 v54 u v56 v57 v58 v59 v8 wr := by
  obtain ⟨hs, hB, hcl, a0, a1, a2, a3, a4, a5, a6, a7, a8, a9, a10⟩ := h
  unfold PutF
  rw [fle (b := true) (show 5 ≠ 0 by omega), fle (b := true) (show 5 ≠ 1 by omega), fle (b := true) (show 5 ≠ 2 by omega), fle (b := true) (show 5 ≠ 3 by omega), fle (b := true) (show 5 ≠ 4 by omega), fle (b := true) (show 5 ≠ 6 by omega), fle (b := true) (show 5 ≠ 7 by omega), fle (b := true) (show 5 ≠ 8 by omega), fle (b := true) (show 5 ≠ 9 by omega), fle (b := true) (show 5 ≠ 10 by omega)]
  exact ⟨by rw [Array.size_setIfInBounds]; exact hs, hB, hcl, a0, a1, a2, a3, a4, fun _ => hu, a6, a7, a8, a9, a10⟩
theorem PutF.s8 {w0 wr : World} {g n c k m : Nat} {vr : Value} {t : ByteArray} {p : Int} {tk ys : List (ByteArray × Int)} {l : Array Bool} {v50 v51 v52 v53 v54 v55 v56 v57 v58 v59 v8 u : Value} (h : PutF w0 g n c k m vr t p tk ys l v50 v51 v52 v53 v54 v55 v56 v57 v58 v59 v8 wr) (hu : u = vr) : PutF w0 g n c k m vr t p tk ys (l.setIfInBounds 8 true) v50 v51 v52 v53 v54 v55 v56 v57 u v59 v8 wr := by
  obtain ⟨hs, hB, hcl, a0, a1, a2, a3, a4, a5, a6, a7, a8, a9, a10⟩ := h
  unfold PutF
  rw [fle (b := true) (show 8 ≠ 0 by omega), fle (b := true) (show 8 ≠ 1 by omega), fle (b := true) (show 8 ≠ 2 by omega), fle (b := true) (show 8 ≠ 3 by omega), fle (b := true) (show 8 ≠ 4 by omega), fle (b := true) (show 8 ≠ 5 by omega), fle (b := true) (show 8 ≠ 6 by omega), fle (b := true) (show 8 ≠ 7 by omega), fle (b := true) (show 8 ≠ 9 by omega), fle (b := true) (show 8 ≠ 10 by omega)]
  exact ⟨by rw [Array.size_setIfInBounds]; exact hs, hB, hcl, a0, a1, a2, a3, a4, a5, a6, a7, fun _ => hu, a9, a10⟩
theorem PutF.s10 {w0 wr : World} {g n c k m : Nat} {vr : Value} {t : ByteArray} {p : Int} {tk ys : List (ByteArray × Int)} {l : Array Bool} {v50 v51 v52 v53 v54 v55 v56 v57 v58 v59 v8 u : Value} (h : PutF w0 g n c k m vr t p tk ys l v50 v51 v52 v53 v54 v55 v56 v57 v58 v59 v8 wr) (h9 : l.getD 9 false = true) (hu : wr.ownsRow w0.heap.size 63 2 u (k + 1 + m) (ens (tk ++ [(t, p)] ++ ys))) : PutF w0 g n c k m vr t p tk ys (l.setIfInBounds 10 true) v50 v51 v52 v53 v54 v55 v56 v57 v58 v59 u wr := by
  obtain ⟨hs, hB, hcl, a0, a1, a2, a3, a4, a5, a6, a7, a8, a9, a10⟩ := h
  unfold PutF
  rw [fle (b := true) (show 10 ≠ 0 by omega), fle (b := true) (show 10 ≠ 1 by omega), fle (b := true) (show 10 ≠ 2 by omega), fle (b := true) (show 10 ≠ 3 by omega), fle (b := true) (show 10 ≠ 4 by omega), fle (b := true) (show 10 ≠ 5 by omega), fle (b := true) (show 10 ≠ 6 by omega), fle (b := true) (show 10 ≠ 7 by omega), fle (b := true) (show 10 ≠ 8 by omega), fle (b := true) (show 10 ≠ 9 by omega)]
  exact ⟨by rw [Array.size_setIfInBounds]; exact hs, hB, ⟨hcl.1, hcl.2.1, fun _ => h9⟩, a0, a1, a2, a3, a4, a5, a6, a7, a8, a9, fun _ => hu⟩
theorem PutF.s0 {w0 wr w' : World} {g n c k m : Nat} {vr : Value} {t : ByteArray} {p : Int} {tk ys : List (ByteArray × Int)} {l : Array Bool} {v50 v51 v52 v53 v54 v55 v56 v57 v58 v59 v8 u : Value} (h : PutF w0 g n c k m vr t p tk ys l v50 v51 v52 v53 v54 v55 v56 v57 v58 v59 v8 wr) (hu : w'.ownsRow wr.heap.size 63 2 u 0 []) (hb : Below wr.heap.size wr w') : PutF w0 g n c k m vr t p tk ys (l.setIfInBounds 0 true) u v51 v52 v53 v54 v55 v56 v57 v58 v59 v8 w' := by
  have hB0 := h.2.1
  have h' := h.below hb
  have h6' := h.2.2.2.2.2.2.2.2.2.1
  obtain ⟨hs, hB, hcl, a0, a1, a2, a3, a4, a5, a6, a7, a8, a9, a10⟩ := h'
  unfold PutF
  rw [fle (b := true) (show 0 ≠ 1 by omega), fle (b := true) (show 0 ≠ 2 by omega), fle (b := true) (show 0 ≠ 3 by omega), fle (b := true) (show 0 ≠ 4 by omega), fle (b := true) (show 0 ≠ 5 by omega), fle (b := true) (show 0 ≠ 6 by omega), fle (b := true) (show 0 ≠ 7 by omega), fle (b := true) (show 0 ≠ 8 by omega), fle (b := true) (show 0 ≠ 9 by omega), fle (b := true) (show 0 ≠ 10 by omega)]
  refine ⟨by rw [Array.size_setIfInBounds]; exact hs, hB, hcl, fun _ _ => own_base hu hB0.size, a1, a2, a3, a4, a5, fun e e7 => ?_, a7, a8, a9, a10⟩
  obtain ⟨gb, h1, h2, h3, h4, _, h6⟩ := a6 e e7
  obtain ⟨gb', k1, _, k3, _⟩ := h6' e e7
  rw [h1] at k1
  injection k1 with k1
  injection k1 with k1
  injection k1 with k1
  subst k1
  refine ⟨gb, h1, h2, h3, h4, fun _ _ e2 => ?_, h6⟩
  have := (hu.lt gb e2).1
  have := World.block_lt_of_cell? wr _ k3
  simp at this
  omega
theorem PutF.s6 {w0 wr w' : World} {g n c k m : Nat} {vr : Value} {t : ByteArray} {p : Int} {tk ys : List (ByteArray × Int)} {l : Array Bool} {v50 v51 v52 v53 v54 v55 v56 v57 v58 v59 v8 u : Value} (h : PutF w0 g n c k m vr t p tk ys l v50 v51 v52 v53 v54 v55 v56 v57 v58 v59 v8 wr) (hu : u = .slice (some ⟨wr.heap.size, 0, none⟩) 1 1) (hc0 : w'.cell? ⟨wr.heap.size, 0, none⟩ = some (.string t)) (hc1 : w'.cell? ⟨wr.heap.size, 1, none⟩ = some (.int .i64 p)) (hb : Below wr.heap.size wr w') : PutF w0 g n c k m vr t p tk ys (l.setIfInBounds 6 true) v50 v51 v52 v53 v54 v55 u v57 v58 v59 v8 w' := by
  have hB0 := h.2.1
  have h0' := h.2.2.2.1
  have h4' := h.2.2.2.2.2.2.2.1
  have h' := h.below hb
  obtain ⟨hs, hB, hcl, a0, a1, a2, a3, a4, a5, a6, a7, a8, a9, a10⟩ := h'
  unfold PutF
  rw [fle (b := true) (show 6 ≠ 0 by omega), fle (b := true) (show 6 ≠ 1 by omega), fle (b := true) (show 6 ≠ 2 by omega), fle (b := true) (show 6 ≠ 3 by omega), fle (b := true) (show 6 ≠ 4 by omega), fle (b := true) (show 6 ≠ 5 by omega), fle (b := true) (show 6 ≠ 7 by omega), fle (b := true) (show 6 ≠ 8 by omega), fle (b := true) (show 6 ≠ 9 by omega), fle (b := true) (show 6 ≠ 10 by omega)]
  refine ⟨by rw [Array.size_setIfInBounds]; exact hs, hB, hcl, a0, a1, a2, a3, a4, a5, fun _ e7 => ⟨_, hu, hB0.size, hc0, hc1, fun e e4 e2 => ?_, fun e e2 => ?_⟩, a7, a8, a9, a10⟩
  · have := ((h0' e e4).lt _ e2).2
    omega
  · have := ((h4' e e7).lt _ e2).2
    omega
theorem PutF.s4 {w0 wr w' : World} {g n c k m : Nat} {vr : Value} {t : ByteArray} {p : Int} {tk ys : List (ByteArray × Int)} {l : Array Bool} {v50 v51 v52 v53 v54 v55 v56 v57 v58 v59 v8 u : Value} (h : PutF w0 g n c k m vr t p tk ys l v50 v51 v52 v53 v54 v55 v56 v57 v58 v59 v8 wr) (h0 : l.getD 0 false = true) (hn4 : l.getD 4 false = false) (hu : w'.ownsRow w0.heap.size 63 2 u k (ens tk)) (hg : wr.grownBy w' v50.ownBlock) (hub : u.ownBlock = v50.ownBlock ∨ u.ownBlock = some wr.heap.size) : PutF w0 g n c k m vr t p tk ys (l.setIfInBounds 4 true) v50 v51 v52 v53 u v55 v56 v57 v58 v59 v8 w' := by
  obtain ⟨hs, hB, hcl, a0, a1, a2, a3, a4, a5, a6, a7, a8, a9, a10⟩ := h
  have ho := a0 h0 hn4
  have hn7 := fln hcl.1 hn4
  have hn9 := fln hcl.2.1 hn7
  have hn10 := fln hcl.2.2 hn9
  unfold PutF
  rw [flt (show 4 < l.size by omega), fle (b := true) (show 4 ≠ 0 by omega), fle (b := true) (show 4 ≠ 1 by omega), fle (b := true) (show 4 ≠ 2 by omega), fle (b := true) (show 4 ≠ 3 by omega), fle (b := true) (show 4 ≠ 5 by omega), fle (b := true) (show 4 ≠ 6 by omega), fle (b := true) (show 4 ≠ 7 by omega), fle (b := true) (show 4 ≠ 8 by omega), fle (b := true) (show 4 ≠ 9 by omega), fle (b := true) (show 4 ≠ 10 by omega), h0, hn7, hn9, hn10]
  refine ⟨by rw [Array.size_setIfInBounds]; exact hs, hB.grown hg hB.size (fun q e => (ho.lt q e).1), ⟨fun e => (by cases e), fun e => (by cases e), fun e => (by cases e)⟩, fun _ e => (by cases e), a1, a2, a3, fun _ _ => hu, a5, fun e e7 => ?_, fun e => (by cases e), a8, fun e => (by cases e), fun e => (by cases e)⟩
  obtain ⟨gb, h1, h2, h3, h4, h5, _⟩ := a6 e hn7
  have hne := h5 h0 hn4
  refine ⟨gb, h1, h2, cell_row hg h3 hne, cell_row hg h4 hne, fun _ e => (by cases e), fun _ e2 => ?_⟩
  rcases hub with hub | hub
  · exact hne (hub.symm.trans e2)
  · rw [hub] at e2
    injection e2 with e2
    have := World.block_lt_of_cell? wr _ h3
    simp at this
    omega
theorem PutF.s7 {w0 wr w' : World} {g n c k m : Nat} {vr : Value} {t : ByteArray} {p : Int} {tk ys : List (ByteArray × Int)} {l : Array Bool} {v50 v51 v52 v53 v54 v55 v56 v57 v58 v59 v8 u : Value} (h : PutF w0 g n c k m vr t p tk ys l v50 v51 v52 v53 v54 v55 v56 v57 v58 v59 v8 wr) (h4 : l.getD 4 false = true) (hn7 : l.getD 7 false = false) (hu : w'.ownsRow w0.heap.size 63 2 u (k + 1) (ens (tk ++ [(t, p)]))) (hg : wr.grownBy w' v54.ownBlock) : PutF w0 g n c k m vr t p tk ys (l.setIfInBounds 7 true) v50 v51 v52 v53 v54 v55 v56 u v58 v59 v8 w' := by
  obtain ⟨hs, hB, hcl, a0, a1, a2, a3, a4, a5, a6, a7, a8, a9, a10⟩ := h
  have ho := a4 h4 hn7
  have hn9 := fln hcl.2.1 hn7
  have hn10 := fln hcl.2.2 hn9
  unfold PutF
  rw [flt (show 7 < l.size by omega), fle (b := true) (show 7 ≠ 0 by omega), fle (b := true) (show 7 ≠ 1 by omega), fle (b := true) (show 7 ≠ 2 by omega), fle (b := true) (show 7 ≠ 3 by omega), fle (b := true) (show 7 ≠ 4 by omega), fle (b := true) (show 7 ≠ 5 by omega), fle (b := true) (show 7 ≠ 6 by omega), fle (b := true) (show 7 ≠ 8 by omega), fle (b := true) (show 7 ≠ 9 by omega), fle (b := true) (show 7 ≠ 10 by omega), h4, hn9, hn10]
  exact ⟨by rw [Array.size_setIfInBounds]; exact hs, hB.grown hg hB.size (fun q e => (ho.lt q e).1), ⟨fun _ => rfl, fun e => (by cases e), fun e => (by cases e)⟩, fun _ e => (by cases e), a1, a2, a3, fun _ e => (by cases e), a5, fun _ e => (by cases e), fun _ _ => hu, a8, fun e => (by cases e), fun e => (by cases e)⟩
theorem PutF.s9 {w0 wr w' : World} {g n c k m : Nat} {vr : Value} {t : ByteArray} {p : Int} {tk ys : List (ByteArray × Int)} {l : Array Bool} {v50 v51 v52 v53 v54 v55 v56 v57 v58 v59 v8 u : Value} (h : PutF w0 g n c k m vr t p tk ys l v50 v51 v52 v53 v54 v55 v56 v57 v58 v59 v8 wr) (h4 : l.getD 4 false = true) (h7 : l.getD 7 false = true) (hn9 : l.getD 9 false = false) (hu : w'.ownsRow w0.heap.size 63 2 u (k + 1 + m) (ens (tk ++ [(t, p)] ++ ys))) (hg : wr.grownBy w' v57.ownBlock) : PutF w0 g n c k m vr t p tk ys (l.setIfInBounds 9 true) v50 v51 v52 v53 v54 v55 v56 v57 v58 u v8 w' := by
  obtain ⟨hs, hB, hcl, a0, a1, a2, a3, a4, a5, a6, a7, a8, a9, a10⟩ := h
  have ho := a7 h7 hn9
  have hn10 := fln hcl.2.2 hn9
  unfold PutF
  rw [flt (show 9 < l.size by omega), fle (b := true) (show 9 ≠ 0 by omega), fle (b := true) (show 9 ≠ 1 by omega), fle (b := true) (show 9 ≠ 2 by omega), fle (b := true) (show 9 ≠ 3 by omega), fle (b := true) (show 9 ≠ 4 by omega), fle (b := true) (show 9 ≠ 5 by omega), fle (b := true) (show 9 ≠ 6 by omega), fle (b := true) (show 9 ≠ 7 by omega), fle (b := true) (show 9 ≠ 8 by omega), fle (b := true) (show 9 ≠ 10 by omega), h4, h7, hn10]
  exact ⟨by rw [Array.size_setIfInBounds]; exact hs, hB.grown hg hB.size (fun q e => (ho.lt q e).1), ⟨fun _ => rfl, fun _ => rfl, fun e => (by cases e)⟩, fun _ e => (by cases e), a1, a2, a3, fun _ e => (by cases e), a5, fun _ e => (by cases e), fun _ e => (by cases e), a8, fun _ => hu, fun e => (by cases e)⟩
end Go.Proofs.Ythoiljgpggldcaa
