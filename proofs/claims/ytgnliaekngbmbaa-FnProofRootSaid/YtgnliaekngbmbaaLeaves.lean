/- What is drawn: prints of a tree. -/
import Derived.Test.YtgnliaekngbmbaaPrints
import Derived.Test.YtgnliaekngbmbaaOrders
open Go.RowKit
namespace Go.Proofs.Ytgnliaekngbmbaa
theorem own_ints1 (w : World) (base : Nat) (x : Int) (hb : base ≤ w.heap.size) : (w.alloc (.cells #[.int .i64 x] 3)).ownsRow base 3 1 (.slice (some ⟨w.heap.size, 0, none⟩) 1 1) 1 (ints [x]) :=
  ⟨by simp [ints], .inr ⟨w.heap.size, 1, #[.int .i64 x], rfl, hb, heap_alloc_new w _, Nat.le_refl _, by unfold maxLen; omega, by simp, by simp [ints]⟩⟩
theorem own_ints2 (w : World) (base : Nat) (x y : Int) (hb : base ≤ w.heap.size) : (w.alloc (.cells #[.int .i64 x, .int .i64 y] 3)).ownsRow base 3 1 (.slice (some ⟨w.heap.size, 0, none⟩) 2 2) 2 (ints [x, y]) :=
  ⟨by simp [ints], .inr ⟨w.heap.size, 2, #[.int .i64 x, .int .i64 y], rfl, hb, heap_alloc_new w _, Nat.le_refl _, by unfold maxLen; omega, by simp, by simp [ints]⟩⟩
theorem own_zeros17 (w : World) (base : Nat) (hb : base ≤ w.heap.size) : (w.alloc (.cells (madeCells #[.int .i64 0] 17) 3)).ownsRow base 3 1 (.slice (some ⟨w.heap.size, 0, none⟩) 17 17) 17 (ints (List.replicate 17 0)) :=
  ⟨by simp [ints], .inr ⟨w.heap.size, 17, madeCells #[.int .i64 0] 17, rfl, hb, heap_alloc_new w _, Nat.le_refl _, by unfold maxLen; omega, by rw [size_madeCells], by rw [toList_madeCells_one]; simp [ints]⟩⟩
/-- A row of prints of the call's own. -/
def RowI (w0 wr : World) (v : Value) : Prop := ∃ (n : Nat) (xs : List Int), n ≤ 17 ∧ wr.ownsRow w0.heap.size 3 1 v n (ints xs)
theorem RowI.keep {w0 wr w' : World} {v : Value} (h : RowI w0 wr v) (hb : Below wr.heap.size wr w') : RowI w0 w' v := by
  obtain ⟨n, xs, hn, ho⟩ := h
  exact ⟨n, xs, hn, own_below ho hb⟩
theorem RowI.rdr {w0 wr w' : World} {v : Value} {R : Nat} (h : RowI w0 wr v) (hg : wr.grownBy w' (some R)) (hR : R < w0.heap.size) : RowI w0 w' v := by
  obtain ⟨n, xs, hn, ho⟩ := h
  exact ⟨n, xs, hn, own_rdr ho hg hR⟩
/-- What holds within the region: of what is made already. -/
def LvF (w0 : World) (R : Nat) (l : Array Bool) (v4 v24 v25 v26 v27 v28 v29 v30 v31 v32 : Value) (wr : World) : Prop :=
  l.size = 10 ∧ w0.grownBy wr (some R) ∧ R < w0.heap.size ∧
  (l.getD 0 false = true → RowI w0 wr v24) ∧
  (l.getD 1 false = true → RowI w0 wr v25) ∧
  (l.getD 2 false = true → RowI w0 wr v26) ∧
  (l.getD 3 false = true → RowI w0 wr v27) ∧
  (l.getD 4 false = true → (∃ g, v28 = .slice (some ⟨g, 0, none⟩) 4 4 ∧ w0.heap.size ≤ g ∧ ∀ k : Nat, k < 4 → ∃ v, wr.cell? ⟨g, k, none⟩ = some v ∧ RowI w0 wr v)) ∧
  (l.getD 5 false = true → v29 = .pointer (some ⟨R, 0, none⟩)) ∧
  (l.getD 6 false = true → (∃ k : Nat, k < 4 ∧ v30 = .int .i64 (k : Int))) ∧
  (l.getD 7 false = true → (∃ g k : Nat, v31 = .pointer (some ⟨g, k, none⟩) ∧ w0.heap.size ≤ g ∧ ∃ v, wr.cell? ⟨g, k, none⟩ = some v ∧ RowI w0 wr v)) ∧
  (l.getD 8 false = true → RowI w0 wr v32) ∧
  (l.getD 9 false = true → RowI w0 wr v4)
/-- And the reader. -/
def LvC (w0 : World) (R p : Nat) (l : Array Bool) (v4 v24 v25 v26 v27 v28 v29 v30 v31 v32 : Value) (wr : World) : Prop :=
  LvF w0 R l v4 v24 v25 v26 v27 v28 v29 v30 v31 v32 wr ∧ Rdr wr R (p + 99) ∧ (l.getD 6 false = false → Rdr wr R (p + 98))
theorem LvF.grow {w0 wr w' : World} {R : Nat} {l : Array Bool} {v4 v24 v25 v26 v27 v28 v29 v30 v31 v32 : Value} (h : LvF w0 R l v4 v24 v25 v26 v27 v28 v29 v30 v31 v32 wr) (hg : wr.grownBy w' (some R)) : LvF w0 R l v4 v24 v25 v26 v27 v28 v29 v30 v31 v32 w' := by
  obtain ⟨hs, h1, h2, a0, a1, a2, a3, a4, a5, a6, a7, a8, a9⟩ := h
  have hcell : ∀ (g k : Nat) (v : Value), w0.heap.size ≤ g → wr.cell? ⟨g, k, none⟩ = some v → w'.cell? ⟨g, k, none⟩ = some v := fun g k v hg' hv => by
    rw [cell_grown hg g k (by omega) (World.block_lt_of_cell? wr _ hv)]
    exact hv
  refine ⟨hs, grown_trans' h1 hg, h2, fun e => (a0 e).rdr hg h2, fun e => (a1 e).rdr hg h2, fun e => (a2 e).rdr hg h2, fun e => (a3 e).rdr hg h2, fun e => ?_, a5, a6, fun e => ?_, fun e => (a8 e).rdr hg h2, fun e => (a9 e).rdr hg h2⟩
  · obtain ⟨g, e1, e2, e3⟩ := a4 e
    refine ⟨g, e1, e2, fun k hk => ?_⟩
    obtain ⟨v, f1, f2⟩ := e3 k hk
    exact ⟨v, hcell g k v e2 f1, f2.rdr hg h2⟩
  · obtain ⟨g, k, e1, e2, v, f1, f2⟩ := a7 e
    exact ⟨g, k, e1, e2, v, hcell g k v e2 f1, f2.rdr hg h2⟩
theorem LvC.below {w0 wr w' : World} {R p : Nat} {l : Array Bool} {v4 v24 v25 v26 v27 v28 v29 v30 v31 v32 : Value} (h : LvC w0 R p l v4 v24 v25 v26 v27 v28 v29 v30 v31 v32 wr) (hb : Below wr.heap.size wr w') : LvC w0 R p l v4 v24 v25 v26 v27 v28 v29 v30 v31 v32 w' :=
  ⟨h.1.grow (grown_below hb _), h.2.1.below hb, fun e => (h.2.2 e).below hb⟩
theorem fl {l : Array Bool} {i j : Nat} {b : Bool} (h : i ≠ j) (e : (l.setIfInBounds i true).getD j false = b) : l.getD j false = b := by
  rw [Array.getD_eq_getD_getElem?, Array.getElem?_setIfInBounds_ne h, ← Array.getD_eq_getD_getElem?] at e
  exact e
theorem fl0 {l : Array Bool} {i : Nat} (h : l.getD i true = false) : l.getD i false = false := by
  rw [Array.getD_eq_getD_getElem?] at h ⊢
  cases e : l[i]?
  · rw [e] at h; cases h
  · rw [e] at h; exact h
theorem fl6 {l : Array Bool} (hs : l.size = 10) (e : (l.setIfInBounds 6 true).getD 6 false = false) : False := by
  rw [Array.getD_eq_getD_getElem?, Array.getElem?_setIfInBounds_self] at e
  simp [hs] at e
theorem LvF.s0 {w0 wr : World} {R : Nat} {l : Array Bool} {v4 v24 v25 v26 v27 v28 v29 v30 v31 v32 : Value} {u : Value} (h : LvF w0 R l v4 v24 v25 v26 v27 v28 v29 v30 v31 v32 wr) (hu : RowI w0 wr u) : LvF w0 R (l.setIfInBounds 0 true) v4 u v25 v26 v27 v28 v29 v30 v31 v32 wr := by
  obtain ⟨hs, h1, h2, a0, a1, a2, a3, a4, a5, a6, a7, a8, a9⟩ := h
  exact ⟨by rw [Array.size_setIfInBounds]; exact hs, h1, h2, fun _ => hu, fun e => a1 (fl (by omega) e), fun e => a2 (fl (by omega) e), fun e => a3 (fl (by omega) e), fun e => a4 (fl (by omega) e), fun e => a5 (fl (by omega) e), fun e => a6 (fl (by omega) e), fun e => a7 (fl (by omega) e), fun e => a8 (fl (by omega) e), fun e => a9 (fl (by omega) e)⟩
theorem LvC.s0 {w0 wr : World} {R p : Nat} {l : Array Bool} {v4 v24 v25 v26 v27 v28 v29 v30 v31 v32 : Value} {u : Value} (h : LvC w0 R p l v4 v24 v25 v26 v27 v28 v29 v30 v31 v32 wr) (hu : RowI w0 wr u) : LvC w0 R p (l.setIfInBounds 0 true) v4 u v25 v26 v27 v28 v29 v30 v31 v32 wr :=
  ⟨h.1.s0 hu, h.2.1, fun e => h.2.2 (fl (by omega) e)⟩
theorem LvF.s1 {w0 wr : World} {R : Nat} {l : Array Bool} {v4 v24 v25 v26 v27 v28 v29 v30 v31 v32 : Value} {u : Value} (h : LvF w0 R l v4 v24 v25 v26 v27 v28 v29 v30 v31 v32 wr) (hu : RowI w0 wr u) : LvF w0 R (l.setIfInBounds 1 true) v4 v24 u v26 v27 v28 v29 v30 v31 v32 wr := by
  obtain ⟨hs, h1, h2, a0, a1, a2, a3, a4, a5, a6, a7, a8, a9⟩ := h
  exact ⟨by rw [Array.size_setIfInBounds]; exact hs, h1, h2, fun e => a0 (fl (by omega) e), fun _ => hu, fun e => a2 (fl (by omega) e), fun e => a3 (fl (by omega) e), fun e => a4 (fl (by omega) e), fun e => a5 (fl (by omega) e), fun e => a6 (fl (by omega) e), fun e => a7 (fl (by omega) e), fun e => a8 (fl (by omega) e), fun e => a9 (fl (by omega) e)⟩
theorem LvC.s1 {w0 wr : World} {R p : Nat} {l : Array Bool} {v4 v24 v25 v26 v27 v28 v29 v30 v31 v32 : Value} {u : Value} (h : LvC w0 R p l v4 v24 v25 v26 v27 v28 v29 v30 v31 v32 wr) (hu : RowI w0 wr u) : LvC w0 R p (l.setIfInBounds 1 true) v4 v24 u v26 v27 v28 v29 v30 v31 v32 wr :=
  ⟨h.1.s1 hu, h.2.1, fun e => h.2.2 (fl (by omega) e)⟩
theorem LvF.s2 {w0 wr : World} {R : Nat} {l : Array Bool} {v4 v24 v25 v26 v27 v28 v29 v30 v31 v32 : Value} {u : Value} (h : LvF w0 R l v4 v24 v25 v26 v27 v28 v29 v30 v31 v32 wr) (hu : RowI w0 wr u) : LvF w0 R (l.setIfInBounds 2 true) v4 v24 v25 u v27 v28 v29 v30 v31 v32 wr := by
  obtain ⟨hs, h1, h2, a0, a1, a2, a3, a4, a5, a6, a7, a8, a9⟩ := h
  exact ⟨by rw [Array.size_setIfInBounds]; exact hs, h1, h2, fun e => a0 (fl (by omega) e), fun e => a1 (fl (by omega) e), fun _ => hu, fun e => a3 (fl (by omega) e), fun e => a4 (fl (by omega) e), fun e => a5 (fl (by omega) e), fun e => a6 (fl (by omega) e), fun e => a7 (fl (by omega) e), fun e => a8 (fl (by omega) e), fun e => a9 (fl (by omega) e)⟩
theorem LvC.s2 {w0 wr : World} {R p : Nat} {l : Array Bool} {v4 v24 v25 v26 v27 v28 v29 v30 v31 v32 : Value} {u : Value} (h : LvC w0 R p l v4 v24 v25 v26 v27 v28 v29 v30 v31 v32 wr) (hu : RowI w0 wr u) : LvC w0 R p (l.setIfInBounds 2 true) v4 v24 v25 u v27 v28 v29 v30 v31 v32 wr :=
  ⟨h.1.s2 hu, h.2.1, fun e => h.2.2 (fl (by omega) e)⟩
theorem LvF.s3 {w0 wr : World} {R : Nat} {l : Array Bool} {v4 v24 v25 v26 v27 v28 v29 v30 v31 v32 : Value} {u : Value} (h : LvF w0 R l v4 v24 v25 v26 v27 v28 v29 v30 v31 v32 wr) (hu : RowI w0 wr u) : LvF w0 R (l.setIfInBounds 3 true) v4 v24 v25 v26 u v28 v29 v30 v31 v32 wr := by
  obtain ⟨hs, h1, h2, a0, a1, a2, a3, a4, a5, a6, a7, a8, a9⟩ := h
  exact ⟨by rw [Array.size_setIfInBounds]; exact hs, h1, h2, fun e => a0 (fl (by omega) e), fun e => a1 (fl (by omega) e), fun e => a2 (fl (by omega) e), fun _ => hu, fun e => a4 (fl (by omega) e), fun e => a5 (fl (by omega) e), fun e => a6 (fl (by omega) e), fun e => a7 (fl (by omega) e), fun e => a8 (fl (by omega) e), fun e => a9 (fl (by omega) e)⟩
theorem LvC.s3 {w0 wr : World} {R p : Nat} {l : Array Bool} {v4 v24 v25 v26 v27 v28 v29 v30 v31 v32 : Value} {u : Value} (h : LvC w0 R p l v4 v24 v25 v26 v27 v28 v29 v30 v31 v32 wr) (hu : RowI w0 wr u) : LvC w0 R p (l.setIfInBounds 3 true) v4 v24 v25 v26 u v28 v29 v30 v31 v32 wr :=
  ⟨h.1.s3 hu, h.2.1, fun e => h.2.2 (fl (by omega) e)⟩
theorem LvF.s4 {w0 wr : World} {R : Nat} {l : Array Bool} {v4 v24 v25 v26 v27 v28 v29 v30 v31 v32 : Value} {u : Value} (h : LvF w0 R l v4 v24 v25 v26 v27 v28 v29 v30 v31 v32 wr) (hu : (∃ g, u = .slice (some ⟨g, 0, none⟩) 4 4 ∧ w0.heap.size ≤ g ∧ ∀ k : Nat, k < 4 → ∃ v, wr.cell? ⟨g, k, none⟩ = some v ∧ RowI w0 wr v)) : LvF w0 R (l.setIfInBounds 4 true) v4 v24 v25 v26 v27 u v29 v30 v31 v32 wr := by
  obtain ⟨hs, h1, h2, a0, a1, a2, a3, a4, a5, a6, a7, a8, a9⟩ := h
  exact ⟨by rw [Array.size_setIfInBounds]; exact hs, h1, h2, fun e => a0 (fl (by omega) e), fun e => a1 (fl (by omega) e), fun e => a2 (fl (by omega) e), fun e => a3 (fl (by omega) e), fun _ => hu, fun e => a5 (fl (by omega) e), fun e => a6 (fl (by omega) e), fun e => a7 (fl (by omega) e), fun e => a8 (fl (by omega) e), fun e => a9 (fl (by omega) e)⟩
theorem LvC.s4 {w0 wr : World} {R p : Nat} {l : Array Bool} {v4 v24 v25 v26 v27 v28 v29 v30 v31 v32 : Value} {u : Value} (h : LvC w0 R p l v4 v24 v25 v26 v27 v28 v29 v30 v31 v32 wr) (hu : (∃ g, u = .slice (some ⟨g, 0, none⟩) 4 4 ∧ w0.heap.size ≤ g ∧ ∀ k : Nat, k < 4 → ∃ v, wr.cell? ⟨g, k, none⟩ = some v ∧ RowI w0 wr v)) : LvC w0 R p (l.setIfInBounds 4 true) v4 v24 v25 v26 v27 u v29 v30 v31 v32 wr :=
  ⟨h.1.s4 hu, h.2.1, fun e => h.2.2 (fl (by omega) e)⟩
theorem LvF.s5 {w0 wr : World} {R : Nat} {l : Array Bool} {v4 v24 v25 v26 v27 v28 v29 v30 v31 v32 : Value} {u : Value} (h : LvF w0 R l v4 v24 v25 v26 v27 v28 v29 v30 v31 v32 wr) (hu : u = .pointer (some ⟨R, 0, none⟩)) : LvF w0 R (l.setIfInBounds 5 true) v4 v24 v25 v26 v27 v28 u v30 v31 v32 wr := by
  obtain ⟨hs, h1, h2, a0, a1, a2, a3, a4, a5, a6, a7, a8, a9⟩ := h
  exact ⟨by rw [Array.size_setIfInBounds]; exact hs, h1, h2, fun e => a0 (fl (by omega) e), fun e => a1 (fl (by omega) e), fun e => a2 (fl (by omega) e), fun e => a3 (fl (by omega) e), fun e => a4 (fl (by omega) e), fun _ => hu, fun e => a6 (fl (by omega) e), fun e => a7 (fl (by omega) e), fun e => a8 (fl (by omega) e), fun e => a9 (fl (by omega) e)⟩
theorem LvC.s5 {w0 wr : World} {R p : Nat} {l : Array Bool} {v4 v24 v25 v26 v27 v28 v29 v30 v31 v32 : Value} {u : Value} (h : LvC w0 R p l v4 v24 v25 v26 v27 v28 v29 v30 v31 v32 wr) (hu : u = .pointer (some ⟨R, 0, none⟩)) : LvC w0 R p (l.setIfInBounds 5 true) v4 v24 v25 v26 v27 v28 u v30 v31 v32 wr :=
  ⟨h.1.s5 hu, h.2.1, fun e => h.2.2 (fl (by omega) e)⟩
theorem LvF.s6 {w0 wr : World} {R : Nat} {l : Array Bool} {v4 v24 v25 v26 v27 v28 v29 v30 v31 v32 : Value} {u : Value} (h : LvF w0 R l v4 v24 v25 v26 v27 v28 v29 v30 v31 v32 wr) (hu : (∃ k : Nat, k < 4 ∧ u = .int .i64 (k : Int))) : LvF w0 R (l.setIfInBounds 6 true) v4 v24 v25 v26 v27 v28 v29 u v31 v32 wr := by
  obtain ⟨hs, h1, h2, a0, a1, a2, a3, a4, a5, a6, a7, a8, a9⟩ := h
  exact ⟨by rw [Array.size_setIfInBounds]; exact hs, h1, h2, fun e => a0 (fl (by omega) e), fun e => a1 (fl (by omega) e), fun e => a2 (fl (by omega) e), fun e => a3 (fl (by omega) e), fun e => a4 (fl (by omega) e), fun e => a5 (fl (by omega) e), fun _ => hu, fun e => a7 (fl (by omega) e), fun e => a8 (fl (by omega) e), fun e => a9 (fl (by omega) e)⟩
theorem LvF.s7 {w0 wr : World} {R : Nat} {l : Array Bool} {v4 v24 v25 v26 v27 v28 v29 v30 v31 v32 : Value} {u : Value} (h : LvF w0 R l v4 v24 v25 v26 v27 v28 v29 v30 v31 v32 wr) (hu : (∃ g k : Nat, u = .pointer (some ⟨g, k, none⟩) ∧ w0.heap.size ≤ g ∧ ∃ v, wr.cell? ⟨g, k, none⟩ = some v ∧ RowI w0 wr v)) : LvF w0 R (l.setIfInBounds 7 true) v4 v24 v25 v26 v27 v28 v29 v30 u v32 wr := by
  obtain ⟨hs, h1, h2, a0, a1, a2, a3, a4, a5, a6, a7, a8, a9⟩ := h
  exact ⟨by rw [Array.size_setIfInBounds]; exact hs, h1, h2, fun e => a0 (fl (by omega) e), fun e => a1 (fl (by omega) e), fun e => a2 (fl (by omega) e), fun e => a3 (fl (by omega) e), fun e => a4 (fl (by omega) e), fun e => a5 (fl (by omega) e), fun e => a6 (fl (by omega) e), fun _ => hu, fun e => a8 (fl (by omega) e), fun e => a9 (fl (by omega) e)⟩
theorem LvC.s7 {w0 wr : World} {R p : Nat} {l : Array Bool} {v4 v24 v25 v26 v27 v28 v29 v30 v31 v32 : Value} {u : Value} (h : LvC w0 R p l v4 v24 v25 v26 v27 v28 v29 v30 v31 v32 wr) (hu : (∃ g k : Nat, u = .pointer (some ⟨g, k, none⟩) ∧ w0.heap.size ≤ g ∧ ∃ v, wr.cell? ⟨g, k, none⟩ = some v ∧ RowI w0 wr v)) : LvC w0 R p (l.setIfInBounds 7 true) v4 v24 v25 v26 v27 v28 v29 v30 u v32 wr :=
  ⟨h.1.s7 hu, h.2.1, fun e => h.2.2 (fl (by omega) e)⟩
theorem LvF.s8 {w0 wr : World} {R : Nat} {l : Array Bool} {v4 v24 v25 v26 v27 v28 v29 v30 v31 v32 : Value} {u : Value} (h : LvF w0 R l v4 v24 v25 v26 v27 v28 v29 v30 v31 v32 wr) (hu : RowI w0 wr u) : LvF w0 R (l.setIfInBounds 8 true) v4 v24 v25 v26 v27 v28 v29 v30 v31 u wr := by
  obtain ⟨hs, h1, h2, a0, a1, a2, a3, a4, a5, a6, a7, a8, a9⟩ := h
  exact ⟨by rw [Array.size_setIfInBounds]; exact hs, h1, h2, fun e => a0 (fl (by omega) e), fun e => a1 (fl (by omega) e), fun e => a2 (fl (by omega) e), fun e => a3 (fl (by omega) e), fun e => a4 (fl (by omega) e), fun e => a5 (fl (by omega) e), fun e => a6 (fl (by omega) e), fun e => a7 (fl (by omega) e), fun _ => hu, fun e => a9 (fl (by omega) e)⟩
theorem LvC.s8 {w0 wr : World} {R p : Nat} {l : Array Bool} {v4 v24 v25 v26 v27 v28 v29 v30 v31 v32 : Value} {u : Value} (h : LvC w0 R p l v4 v24 v25 v26 v27 v28 v29 v30 v31 v32 wr) (hu : RowI w0 wr u) : LvC w0 R p (l.setIfInBounds 8 true) v4 v24 v25 v26 v27 v28 v29 v30 v31 u wr :=
  ⟨h.1.s8 hu, h.2.1, fun e => h.2.2 (fl (by omega) e)⟩
theorem LvF.s9 {w0 wr : World} {R : Nat} {l : Array Bool} {v4 v24 v25 v26 v27 v28 v29 v30 v31 v32 : Value} {u : Value} (h : LvF w0 R l v4 v24 v25 v26 v27 v28 v29 v30 v31 v32 wr) (hu : RowI w0 wr u) : LvF w0 R (l.setIfInBounds 9 true) u v24 v25 v26 v27 v28 v29 v30 v31 v32 wr := by
  obtain ⟨hs, h1, h2, a0, a1, a2, a3, a4, a5, a6, a7, a8, a9⟩ := h
  exact ⟨by rw [Array.size_setIfInBounds]; exact hs, h1, h2, fun e => a0 (fl (by omega) e), fun e => a1 (fl (by omega) e), fun e => a2 (fl (by omega) e), fun e => a3 (fl (by omega) e), fun e => a4 (fl (by omega) e), fun e => a5 (fl (by omega) e), fun e => a6 (fl (by omega) e), fun e => a7 (fl (by omega) e), fun e => a8 (fl (by omega) e), fun _ => hu⟩
theorem LvC.s9 {w0 wr : World} {R p : Nat} {l : Array Bool} {v4 v24 v25 v26 v27 v28 v29 v30 v31 v32 : Value} {u : Value} (h : LvC w0 R p l v4 v24 v25 v26 v27 v28 v29 v30 v31 v32 wr) (hu : RowI w0 wr u) : LvC w0 R p (l.setIfInBounds 9 true) u v24 v25 v26 v27 v28 v29 v30 v31 v32 wr :=
  ⟨h.1.s9 hu, h.2.1, fun e => h.2.2 (fl (by omega) e)⟩
theorem LvC.s6 {w0 wr w' : World} {R p : Nat} {l : Array Bool} {v4 v24 v25 v26 v27 v28 v29 v30 v31 v32 u : Value} (h : LvC w0 R p l v4 v24 v25 v26 v27 v28 v29 v30 v31 v32 wr) (hR : Rdr w' R (p + 98 + 1)) (hg : wr.grownBy w' (some R)) (hu : ∃ k : Nat, k < 4 ∧ u = .int .i64 (k : Int)) : LvC w0 R p (l.setIfInBounds 6 true) v4 v24 v25 v26 v27 v28 v29 u v31 v32 w' :=
  ⟨(h.1.grow hg).s6 hu, hR, fun e => (fl6 h.1.1 e).elim⟩
/-- What is left when the prints of a tree have been drawn. -/
def Leaved (w : World) (R p : Nat) (e : Ending) (w' : World) : Prop := ∃ (v : Value) (n : Nat) (xs : List Int), e = .returned v ∧ n ≤ 17 ∧ w'.ownsRow w.heap.size 3 1 v n (ints xs) ∧ Rdr w' R (p + 100) ∧ w.grownBy w' (some R)
set_option maxRecDepth 4000 in
set_option maxHeartbeats 3200000 in
theorem l20Leaves (w : World) (R p : Nat) (m : Int) (h : Rdr w R p) (hp : p ≤ 800000) :
    Calls Try.prog 58 #[.pointer (some ⟨R, 0, none⟩), .int .i64 m] w (Leaved w R p) := by
  have hRlt := h.lt
  go_enter Try.func58, Try.ntmps58
  go_wp2_with fail
  refine (l20Print _ R p 0 h (by omega)).mono ?_
  rintro e w1 ⟨y0, rfl, _, _, hR1, hg1⟩
  have hown1 := own_ints1 w1 w.heap.size y0 hg1.size
  go_wp2_with fail
  refine (pick _ R _ 16 (hR1.below ((Below.refl _ _).alloc (Nat.le_refl _) _)) (by omega)).mono ?_
  rintro e w2 ⟨x, rfl, x0, _, x1, hR2, hg2⟩
  obtain ⟨k0, rfl⟩ := Int.eq_ofNat_of_zero_le x0
  have hk0 : k0 ≤ 15 := by have := x1 (by omega); omega
  clear x0 x1
  have hown2 := own_rdr hown1 hg2 hRlt
  have hg2' := grown_trans' hg1 (grown_trans' (World.grownBy_alloc w1 (.cells #[.int .i64 y0] 3) (some R)) hg2)
  clear hg2 hown1
  go_wp2_with fail
  go_loopw [5, 6] (fun v i wr => ∃ (j n : Nat) (xs : List Int), i = .int .i64 (j : Int) ∧ j + n ≤ 16 ∧ wr.ownsRow w.heap.size 3 1 v n (ints xs) ∧ Rdr wr R (p + 1 + 4 * n) ∧ w.grownBy wr (some R)) (fun _ i _ => (intOf i).toNat)
  case atStart => exact ⟨k0, 1, [y0], rfl, by omega, hown2, hR2.mono (by omega), hg2'⟩
  case round =>
    obtain ⟨j, n, xs, rfl, hjn, hown, hR, hg⟩ := hrel
    by_cases hj : 0 < j
    · go_wp2_with fail
      refine (l20Print _ R _ 0 hR (by omega)).mono ?_
      rintro e w2 ⟨y, rfl, y0, y1, hR2, hg2⟩
      have hown2 := own_rdr hown hg2 hRlt
      have hG2 : w.heap.size ≤ w2.heap.size := Nat.le_trans hg.size hg2.size
      go_wp2_with (at_builtin; refine wpList_app1 _ rfl (.tmp 16) (.tmp 19) _ rfl w.heap.size 3 1 8 (.int .i64 0) Try.underlying30 int_info rfl (by omega) (by omega) _ n _ rfl hown2 _ rfl (one_int _) rfl (by omega) hG2 ?_; intro v3 w3 hown3 hg3 _)
      have hR3 := rdr_app hR2 hg3 hRlt (fun k e => (hown2.lt k e).1)
      have hg3' := grown_app (grown_trans' hg hg2) hg3 (fun k e => (hown2.lt k e).1)
      rw [show ints xs ++ (#[Value.int .i64 y] : Array Value).toList = ints (xs ++ [y]) from by simp [ints]] at hown3
      go_wp2_with fail
      go_roundw
      case rel => exact ⟨j - 1, n + 1, _, by go_num, by omega, hown3, hR3.mono (by omega), hg3'⟩
      case measure => simp [intOf]; omega
    · obtain rfl : j = 0 := by omega
      go_wp2_with fail
      refine (odd _ R _ m hR (by omega)).mono ?_
      rintro e w2 ⟨b, rfl, hR2, hg2⟩
      have hown2 := own_rdr hown hg2 hRlt
      cases b
      · go_wp2_with fail
        go_ret
        exact ⟨_, n, xs, rfl, by omega, hown2, hR2.mono (by omega), grown_trans' hg hg2⟩
      · go_wp2_with fail
        obtain ⟨i0, hi0, hz0, hz1, hz2⟩ := info_parts int_info
        have hmk : ∀ W : World, (Instr.makeSlice 30 (.int .i64 17) (.int .i64 17)).run Try.prog W = .ok (.slice (some ⟨W.heap.size, 0, none⟩) 17 17) (W.alloc (.cells (madeCells #[.int .i64 0] 17) 3)) := fun W => by
          have hr := run_make (P := Try.prog) W 30 3 i0 (.int .i64 0) Try.underlying30 hi0 hz0 .i64 .i64 17 17 (by omega) (by omega) (by rw [hz2]; omega) (by omega)
          rw [hz1] at hr
          exact hr
        clear hz2 hz1 hz0 hi0
        have hg2 := grown_trans' hg hg2
        refine wp_region_any (by kernel_rfl) (wpAny_inv (fun l a wr => ∃ v4 v24 v25 v26 v27 v28 v29 v30 v31 v32, a = { tmps := #[.pointer (some ⟨R, 0, none⟩), .int .i64 m, undef, undef, v4, u5, .int .i64 0, .pointer (some ⟨R, 0, none⟩), .int .i64 y0, .slice (some ⟨w1.heap.size, 0, none⟩) 1 1, .pointer (some ⟨R, 0, none⟩), .int .i64 (k0 : Int), .int .i64 0, .bool false, u14, u15, u16, u17, u18, u19, u20, .pointer (some ⟨R, 0, none⟩), .int .i64 m, .bool true, v24, v25, v26, v27, v28, v29, v30, v31, v32, undef], defers := [] } ∧ LvC w R p l v4 v24 v25 v26 v27 v28 v29 v30 v31 v32 wr) ?_ ?_ _ _ _ _ (by decide) ?_)
        · rintro l a wr i ⟨v4, v24, v25, v26, v27, v28, v29, v30, v31, v32, rfl, hC⟩ hi
          obtain ⟨h0, o, ho, hdep⟩ := mem_ready.1 hi
          have hi10 := (Array.getElem?_eq_some_iff.1 ho).1
          have hcase : i = 0 ∨ i = 1 ∨ i = 2 ∨ i = 3 ∨ i = 4 ∨ i = 5 ∨ i = 6 ∨ i = 7 ∨ i = 8 ∨ i = 9 := by simp at hi10; omega
          clear hi hi10
          rcases hcase with rfl | rfl | rfl | rfl | rfl | rfl | rfl | rfl | rfl | rfl
          all_goals
            obtain rfl := Option.some.inj ho
            clear ho
          · refine wpOp_at rfl rfl ?_
            unfold Oper.wp
            go_simp
            exact ⟨_, _, _, _, _, _, _, _, _, _, ⟨rfl, rfl, rfl, rfl, rfl, rfl, rfl, rfl, rfl, rfl⟩, (hC.below ((Below.refl _ _).alloc (Nat.le_refl _) _)).s0 ⟨0, [], by omega, own_base (own_empty wr 3 1) hC.1.2.1.size⟩⟩
          · refine wpOp_at rfl rfl ?_
            unfold Oper.wp
            go_simp
            exact ⟨_, _, _, _, _, _, _, _, _, _, ⟨rfl, rfl, rfl, rfl, rfl, rfl, rfl, rfl, rfl, rfl⟩, (hC.below ((Below.refl _ _).alloc (Nat.le_refl _) _)).s1 ⟨1, [-1], by omega, own_base (own_ints1 wr wr.heap.size (-1) (Nat.le_refl _)) hC.1.2.1.size⟩⟩
          · refine wpOp_at rfl rfl ?_
            unfold Oper.wp
            go_simp
            exact ⟨_, _, _, _, _, _, _, _, _, _, ⟨rfl, rfl, rfl, rfl, rfl, rfl, rfl, rfl, rfl, rfl⟩, (hC.below ((Below.refl _ _).alloc (Nat.le_refl _) _)).s2 ⟨2, [16777213, 5], by omega, own_base (own_ints2 wr wr.heap.size 16777213 5 (Nat.le_refl _)) hC.1.2.1.size⟩⟩
          · refine wpOp_at rfl rfl ?_
            unfold Oper.wp
            go_simp
            exact ⟨_, _, _, _, _, _, _, _, _, _, ⟨rfl, rfl, rfl, rfl, rfl, rfl, rfl, rfl, rfl, rfl⟩, (hC.below ((Below.refl _ _).alloc (Nat.le_refl _) _)).s3 ⟨17, List.replicate 17 0, by omega, own_base (own_zeros17 wr wr.heap.size (Nat.le_refl _)) hC.1.2.1.size⟩⟩
          · refine wpOp_at rfl rfl ?_
            unfold Oper.wp
            obtain ⟨_, hgw, _, a0, a1, a2, a3, _⟩ := id hC.1
            obtain ⟨n0, xs0, hn0, ho0⟩ := a0 (hdep ⟨0, .data⟩ (by simp) rfl)
            obtain ⟨A0, c0, rfl, _⟩ := own_slice ho0
            have B0 := Lib.hid (show RowI w wr (.slice A0 n0 c0) from ⟨n0, xs0, hn0, ho0⟩)
            clear a0 ho0 hn0
            obtain ⟨n1, xs1, hn1, ho1⟩ := a1 (hdep ⟨1, .data⟩ (by simp) rfl)
            obtain ⟨A1, c1, rfl, _⟩ := own_slice ho1
            have B1 := Lib.hid (show RowI w wr (.slice A1 n1 c1) from ⟨n1, xs1, hn1, ho1⟩)
            clear a1 ho1 hn1
            obtain ⟨n2, xs2, hn2, ho2⟩ := a2 (hdep ⟨2, .data⟩ (by simp) rfl)
            obtain ⟨A2, c2, rfl, _⟩ := own_slice ho2
            have B2 := Lib.hid (show RowI w wr (.slice A2 n2 c2) from ⟨n2, xs2, hn2, ho2⟩)
            clear a2 ho2 hn2
            obtain ⟨n3, xs3, hn3, ho3⟩ := a3 (hdep ⟨3, .data⟩ (by simp) rfl)
            obtain ⟨A3, c3, rfl, _⟩ := own_slice ho3
            have B3 := Lib.hid (show RowI w wr (.slice A3 n3 c3) from ⟨n3, xs3, hn3, ho3⟩)
            clear a3 ho3 hn3
            go_simp
            have hb' : Below wr.heap.size wr (wr.alloc (.cells #[.slice A0 n0 c0, .slice A1 n1 c1, .slice A2 n2 c2, .slice A3 n3 c3] 30)) := (Below.refl _ _).alloc (Nat.le_refl _) _
            refine ⟨_, _, _, _, _, _, _, _, _, _, ⟨rfl, rfl, rfl, rfl, rfl, rfl, rfl, rfl, rfl, rfl⟩, (hC.below hb').s4 ⟨wr.heap.size, rfl, hgw.size, fun k hk => ?_⟩⟩
            have hc := cell_of_row (wr.alloc (.cells #[.slice A0 n0 c0, .slice A1 n1 c1, .slice A2 n2 c2, .slice A3 n3 c3] 30)) wr.heap.size k _ _ (0, 0) (heap_alloc_new wr _)
            have hk4 : k = 0 ∨ k = 1 ∨ k = 2 ∨ k = 3 := by omega
            rcases hk4 with rfl | rfl | rfl | rfl
            · exact ⟨_, hc, B0.out.keep hb'⟩
            · exact ⟨_, hc, B1.out.keep hb'⟩
            · exact ⟨_, hc, B2.out.keep hb'⟩
            · exact ⟨_, hc, B3.out.keep hb'⟩
          · refine wpOp_at rfl rfl ?_
            unfold Oper.wp
            go_simp
            exact ⟨_, _, _, _, _, _, _, _, _, _, ⟨rfl, rfl, rfl, rfl, rfl, rfl, rfl, rfl, rfl, rfl⟩, hC.s5 rfl⟩
          · refine wpOp_at rfl rfl ?_
            unfold Oper.wp
            obtain ⟨_, _, _, _, _, _, _, _, a5, _⟩ := id hC.1
            obtain rfl := a5 (hdep ⟨5, .data⟩ (by simp) rfl)
            go_simp
            refine (pick _ R _ 4 (hC.2.2 (fl0 h0)) (by omega)).mono ?_
            rintro e w2 ⟨x, rfl, x0, _, x1, hR2, hg2'⟩
            obtain ⟨k, rfl⟩ := Int.eq_ofNat_of_zero_le x0
            have hk := x1 (by omega)
            go_simp
            exact ⟨_, _, _, _, _, _, _, _, _, _, ⟨rfl, rfl, rfl, rfl, rfl, rfl, rfl, rfl, rfl, rfl⟩, hC.s6 hR2 hg2' ⟨k, by omega, rfl⟩⟩
          · refine wpOp_at rfl rfl ?_
            unfold Oper.wp
            obtain ⟨_, _, _, _, _, _, _, a4, _, a6, _⟩ := id hC.1
            obtain ⟨g, rfl, hgb, hcell⟩ := a4 (hdep ⟨4, .data⟩ (by simp) rfl)
            obtain ⟨k, hk, rfl⟩ := a6 (hdep ⟨6, .data⟩ (by simp) rfl)
            have B := Lib.hid (hcell k hk)
            clear hcell a4 a6
            have hk0 : (0 : Int) ≤ (k : Int) := Int.natCast_nonneg _
            have hk4 : (k : Int) < 4 := by omega
            go_simp
            exact ⟨_, _, _, _, _, _, _, _, _, _, ⟨rfl, rfl, rfl, rfl, rfl, rfl, rfl, rfl, rfl, rfl⟩, hC.s7 ⟨g, k, rfl, hgb, B.out⟩⟩
          · refine wpOp_at rfl rfl ?_
            unfold Oper.wp
            obtain ⟨_, _, _, _, _, _, _, _, _, _, a7, _⟩ := id hC.1
            obtain ⟨g, k, rfl, hgb, v, hv, n1, xs1, hn1, ho1⟩ := a7 (hdep ⟨7, .data⟩ (by simp) rfl)
            obtain ⟨A1, c1, rfl, _⟩ := own_slice ho1
            have B := Lib.hid (show RowI w wr (.slice A1 n1 c1) from ⟨n1, xs1, hn1, ho1⟩)
            clear a7 ho1
            go_simp
            exact ⟨_, _, _, _, _, _, _, _, _, _, ⟨rfl, rfl, rfl, rfl, rfl, rfl, rfl, rfl, rfl, rfl⟩, hC.s8 B.out⟩
          · refine wpOp_at rfl rfl ?_
            unfold Oper.wp
            obtain ⟨_, _, _, _, _, _, _, _, _, _, _, a8, _⟩ := id hC.1
            have B := Lib.hid (a8 (hdep ⟨8, .data⟩ (by simp) rfl))
            clear a8
            go_simp
            exact ⟨_, _, _, _, _, _, _, _, _, _, ⟨rfl, rfl, rfl, rfl, rfl, rfl, rfl, rfl, rfl, rfl⟩, hC.s9 B.out⟩
        · rintro l a wr ⟨v4, v24, v25, v26, v27, v28, v29, v30, v31, v32, rfl, hC⟩ hr
          have hls := hC.1.1
          have key : ∀ i o, (_ : Array Oper)[i]? = some o → (∀ e ∈ o.after, Region.binds .any e = true → l.getD e.on false = true) → l.getD i true = true := fun i o ho hd => by
            cases h : l.getD i true
            · have hm := mem_ready.2 ⟨h, o, ho, hd⟩
              rw [hr] at hm
              cases hm
            · rfl
          have hsz : ∀ i, i < 10 → l.getD i true = true → l.getD i false = true := fun i hi h => by
            rw [Array.getD_eq_getD_getElem?, Array.getElem?_eq_getElem (by omega)] at h ⊢
            exact h
          have q0 := hsz 0 (by omega) (key 0 _ rfl (by simp))
          have q1 := hsz 1 (by omega) (key 1 _ rfl (by simp))
          have q2 := hsz 2 (by omega) (key 2 _ rfl (by simp))
          have q3 := hsz 3 (by omega) (key 3 _ rfl (by simp))
          have q4 := hsz 4 (by omega) (key 4 _ rfl (by intro e he _; simp at he; rcases he with rfl | rfl | rfl | rfl <;> assumption))
          have q5 := hsz 5 (by omega) (key 5 _ rfl (by simp))
          have q6 := hsz 6 (by omega) (key 6 _ rfl (by intro e he _; simp at he; subst he <;> assumption))
          have q7 := hsz 7 (by omega) (key 7 _ rfl (by intro e he _; simp at he; rcases he with rfl | rfl <;> assumption))
          have q8 := hsz 8 (by omega) (key 8 _ rfl (by intro e he _; simp at he; subst he <;> assumption))
          have q9 := hsz 9 (by omega) (key 9 _ rfl (by intro e he _; simp at he; rcases he with rfl | rfl | rfl | rfl | rfl | rfl | rfl | rfl | rfl | rfl | rfl <;> assumption))
          obtain ⟨_, hgw, _, _, _, _, _, _, _, _, _, _, a9⟩ := id hC.1
          obtain ⟨n1, xs1, hn1, ho1⟩ := a9 q9
          have hR9 := hC.2.1
          clear key hsz q0 q1 q2 q3 q4 q5 q6 q7 q8 q9 a9 hC hr
          go_wp2_with fail
          go_ret
          exact ⟨_, n1, xs1, rfl, hn1, ho1, hR9.mono (by omega), hgw⟩
        · refine ⟨_, _, _, _, _, _, _, _, _, _, rfl, ⟨rfl, grown_drewN hg2 1, hRlt, fun h => by simp at h, fun h => by simp at h, fun h => by simp at h, fun h => by simp at h, fun h => by simp at h, fun h => by simp at h, fun h => by simp at h, fun h => by simp at h, fun h => by simp at h, fun h => by simp at h⟩, (hR2.below (below_drewN _ 1)).mono (by omega), fun _ => (hR2.below (below_drewN _ 1)).mono (by omega)⟩
end Go.Proofs.Ytgnliaekngbmbaa
