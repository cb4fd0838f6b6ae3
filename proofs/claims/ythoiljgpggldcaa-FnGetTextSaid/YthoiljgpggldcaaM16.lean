/- The texts Draw5 DrawSt AppendG DrawGt as one. -/
import Derived.Test.YthoiljgpggldcaaM7
import Derived.Test.YthoiljgpggldcaaStoreS
import Derived.Test.YthoiljgpggldcaaM3
/- What is drawn: texts of files to be read. -/
open Go.RowKit
namespace Go.Proofs.Ythoiljgpggldcaa
theorem Rdr.alloc' {w : World} {R p : Nat} (h : Rdr w R p) (o : Obj) : Rdr (w.alloc o) R p := h.below ((Below.refl _ _).alloc (Nat.le_refl _) _)
theorem Rdr.drew' {w : World} {R p : Nat} (h : Rdr w R p) : Rdr w.drew R p := h.below (below_drewN _ 1)
theorem gr_alloc {a b : World} {row : Option Nat} (h : a.grownBy b row) (o : Obj) : a.grownBy (b.alloc o) row := grown_trans' h (World.grownBy_alloc _ _ _)
theorem gr_drew {a b : World} {row : Option Nat} (h : a.grownBy b row) : a.grownBy b.drew row := grown_drewN h 1
theorem gr_refl (a : World) (row : Option Nat) : a.grownBy a row := grown_below (Below.refl _ _) row
/-- The cells of a row that stands: they stay. -/
theorem cells_stay {a b : World} {R g : Nat} {cs : Array Value} {t : TypeId} {z : Nat × Nat} (h : a.grownBy b (some R)) (hg : a.heap[g]? = some (.cells cs t z)) (hne : g ≠ R) : b.heap[g]? = some (.cells cs t z) := by
  rw [h.block g (Array.getElem?_eq_some_iff.1 hg).1 (fun e => hne (by injection e))]
  exact hg
theorem elem3 (k : Nat) (hk : k < 3) : ∃ S : ByteArray, S.size ≤ 1 ∧ [Value.string ⟨#[]⟩, Value.string ⟨#[102]⟩, Value.string ⟨#[]⟩][k] = Value.string S := by
  have h : k = 0 ∨ k = 1 ∨ k = 2 := by omega
  rcases h with rfl | rfl | rfl
  · exact ⟨_, Nat.zero_le _, rfl⟩
  · exact ⟨_, Nat.le_refl _, rfl⟩
  · exact ⟨_, Nat.zero_le _, rfl⟩
theorem gsize_lt {a b : World} {o : Obj} {row : Option Nat} (h : (a.alloc o).grownBy b row) : a.heap.size < b.heap.size := by
  have := h.size
  simp at this
  omega
theorem gsize_lt' {a b : World} {o : Obj} {row : Option Nat} (h : (a.alloc o).drew.grownBy b row) : a.heap.size < b.heap.size := by
  have : (a.alloc o).heap.size ≤ b.heap.size := h.size
  simp at this
  omega
end Go.Proofs.Ythoiljgpggldcaa
/- What is drawn for the laws on stores. -/
open Go.RowKit
namespace Go.Proofs.Ythoiljgpggldcaa
def DrawnS (w : World) (e : Ending) (w' : World) : Prop := ∃ v ys, e = .returned v ∧ ShopL ys ∧ St w' w.heap.size v ys ∧ Below w.heap.size w w'
theorem drawStoreValid (A : Option Addr) (n c : Nat) (xs : List Int) (w : World) (h : Rd w 1 A n (byts xs)) (hc : n ≤ c) (hx : ∀ x ∈ xs, (Lit.int .u8 x).wf = true) :
    Calls Try.prog 5 #[.slice A n c] w (DrawnS w) := by
  go_enter Try.func5, Try.ntmps5
  go_wp2_with (go_at_call 14; refine (l20Open A n c xs _ h hc hx).mono ?_; rintro e w1 ⟨R, rfl, hR, hr, hb⟩)
  refine (l20Store _ R _ 2 hr (by omega)).mono ?_
  rintro e w2 ⟨v, ys, q, rfl, hy, hst, hR2, hg2⟩
  have HY := Lib.hid hy
  have HS := Lib.hid hst
  clear hy hst
  go_wp2_with fail
  go_ret
  exact ⟨v, ys, rfl, HY.out, HS.out.mono hb.size, below_rdr hb hR hg2⟩
end Go.Proofs.Ythoiljgpggldcaa
/- append under a guard that holds. Plain law, over whatever program. -/
open Go.RowKit
namespace Go.Proofs.Ythoiljgpggldcaa
theorem wpList_wanted {P : Program} {ops : Array Oper} {rest : List Oper} {o : Oper} {a : Act} {w : World} {Q : Exit → Act → World → Prop} (hw : Region.wanted o (yielded ops a.tmps) = true)
    (h : ∀ K : Act → World → Prop, (∀ a w, wpList P ops Q rest a w → K a w) → o.wp P a w K Q) : wpList P ops Q (o :: rest) a w :=
  wpList_step fun K hK => by
    rw [if_pos hw]
    exact h K hK
theorem wpList_appG {P : Program} (W : World) {ops : Array Oper} {rest : List Oper} {o : Oper} {a : Act} {Q : Exit → Act → World → Prop} (hw : Region.wanted o (yielded ops a.tmps) = true) (s x : Operand) (t : TypeId)
    (ho : o.op = .call { callee := .builtin .append, args := #[s, x], argTypes := #[t, t] })
    (base : Nat) (e : TypeId) (size bytes : Nat) (z : Value) (ht : P.underlying t = some (.slice e)) (hinfo : (P.info? e).map (fun i => (i.zero, i.size, i.bytes)) = some (some z, size, bytes)) (hzs : z.cells.size = size) (hsz : 0 < size) (hb : bytes ≤ 64)
    (v : Value) (n : Nat) (xs : List Value) (hs : a.eval s = v) (hown : W.ownsRow base e size v n xs)
    (A : Option Addr) (m c : Nat) (news : List Value) (hx : a.eval x = .slice A m c) (hr : Rd W size A m news) (h1 : ∀ u ∈ news, u.oneCell' = true)
    (hn : n + m ≤ 8388608) (hbase : base ≤ W.heap.size)
    (h : ∀ v' w', w'.ownsRow base e size v' (n + m) (xs ++ news) → W.grownBy w' v.ownBlock → (v'.ownBlock = v.ownBlock ∨ v'.ownBlock = some W.heap.size) → wpList P ops Q rest (a.put o.dst v') w') :
    wpList P ops Q (o :: rest) a W := by
  refine wpList_wanted hw fun K hK => ?_
  obtain ⟨v', w', hrun, h2, h3, h5⟩ := run_appS (P := P) W base t o.type e size bytes z ht hinfo hzs hsz hb v n xs hown A m c news hr h1 hn hbase
  unfold Oper.wp execOp
  simp only [ho, resolve, invoke, builtin, Sem.run_bind, Sem.run_pure, Result.andThen_ok, List.map_toArray, List.map_cons, List.map_nil, hs, hx, hrun]
  exact hK _ _ (h v' w' h2 h3 h5)
end Go.Proofs.Ythoiljgpggldcaa
/- What is drawn: a store and a print. -/
open Go.RowKit
namespace Go.Proofs.Ythoiljgpggldcaa
def DrawnSP (w : World) (e : Ending) (w' : World) : Prop := ∃ v ys t, e = .returned (.tuple #[v, .int .i64 t]) ∧ ShopL ys ∧ St w' w.heap.size v ys ∧ Below w.heap.size w w'
theorem elemI (k : Nat) (hk : k < 3) (a b c : Int) : ∃ z : Int, [Value.int .i64 a, Value.int .i64 b, Value.int .i64 c][k] = Value.int .i64 z := by
  have h : k = 0 ∨ k = 1 ∨ k = 2 := by omega
  rcases h with rfl | rfl | rfl <;> exact ⟨_, rfl⟩
set_option maxRecDepth 8000 in
set_option maxHeartbeats 4000000 in
theorem drawGetText (A : Option Addr) (n c : Nat) (xs : List Int) (w : World) (h : Rd w 1 A n (byts xs)) (hc : n ≤ c) (hx : ∀ x ∈ xs, (Lit.int .u8 x).wf = true) :
    Calls Try.prog 9 #[.slice A n c] w (DrawnSP w) := by
  go_enter Try.func9, Try.ntmps9
  go_wp2_with (go_at_call 14; refine (l20Open A n c xs _ h hc hx).mono ?_; rintro e w1 ⟨R, rfl, hR, hr, hb⟩)
  refine (l20Store _ R _ 9 hr (by omega)).mono ?_
  rintro e w2 ⟨v, ys, q, rfl, hy, hst, hR2, hg2⟩
  have HY := Lib.hid hy
  have HS := Lib.hid hst
  have hlt := hr.lt
  have hB2 := below_rdr hb hR hg2
  have hw1 : w.heap.size ≤ w1.heap.size := hb.size
  have hl2 : 0 < ys.length := List.length_pos_iff.2 hy.1
  have hl3 := hy.2.1
  obtain ⟨g, c2, rfl, h1, h2, h3, h4⟩ := hst
  clear hy hb hg2
  generalize hly : ys.length = m at *
  have hgR : g ≠ R := by omega
  obtain ⟨P, hP⟩ : ∃ P : Nat → Int, ∀ i, i < m → w2.cell? ⟨g, i * 2, none⟩ = some (.int .i64 (P i)) := ⟨fun i => (ys.getD i (0, ⟨#[]⟩)).1, fun i hi => by
    obtain ⟨b9, o9, p9, s9, e9, hb9, hy9, hd0, _⟩ := h2.pcAt hi
    injection e9 with e9
    injection e9 with e9 e9'
    subst e9 e9'
    rw [Nat.zero_add] at hd0
    dsimp only
    rw [hd0, List.getD_eq_getElem?_getD, hy9]
    rfl⟩
  have HSK : Hid (∀ W : World, w2.grownBy W (some R) → ∀ i, i < m → W.cell? ⟨g, i * 2, none⟩ = some (.int .i64 (P i))) := Lib.hid (fun W hW i hi => (cell_grown hW g (i * 2) hgR (World.block_lt_of_cell? _ _ (hP i hi))).trans (hP i hi))
  have HP := Lib.hid hP
  clear hP
  go_wp2_with fail
  go_region_with (first | (go_at_call 19; refine (l20Print _ R (0 + 100) 9 ?_ (by omega)).mono ?_; (repeat (first | exact hR2 | refine Rdr.drew' ?_ | refine Rdr.alloc' ?_ _)); rintro e w3 ⟨y, rfl, y0, y1, hR3, hg3⟩; have hg23 : w2.grownBy w3 (some R) := grown_trans' (gr_drew (gr_refl _ _)) hg3) | (go_at_call_of 20 m; refine (pick _ R (0 + 100 + 4) (m : Int) ?_ (by omega)).mono ?_; (repeat (first | exact hR3 | refine Rdr.drew' ?_ | refine Rdr.alloc' ?_ _)); rintro e w4 ⟨x, rfl, x0, _, x1, hR4, hg4⟩; obtain ⟨j, rfl⟩ := Int.eq_ofNat_of_zero_le x0; have hj : j < m := by { have := x1 (by omega); omega }; have hji : (j : Int) < (m : Int) := Int.ofNat_lt.2 hj; have hg24 : w2.grownBy w4 (some R) := grown_trans' hg23 hg4; have hS4 := HSK.out w4 hg24 j hj; clear x0 x1) | (go_at_call 20; refine (pick _ R (0 + 100 + 4 + 1) 3 ?_ (by omega)).mono ?_; (repeat (first | exact hR4 | refine Rdr.drew' ?_ | refine Rdr.alloc' ?_ _)); rintro e w5 ⟨x, rfl, x0, _, x1, hR5, hg5⟩; obtain ⟨k, rfl⟩ := Int.eq_ofNat_of_zero_le x0; have hk : k < 3 := by { have := x1 (by omega); omega }; have hki : (k : Int) < 3 := by { omega }; obtain ⟨z, hz⟩ := elemI k hk q y (P j); have hcc := cell_grown hg5; have hne5 : w5.heap.size ≠ R := Nat.ne_of_gt hR5.lt; have hne4 : w4.heap.size ≠ R := Nat.ne_of_gt hR4.lt; (first | have hg25 : w2.grownBy w5 (some R) := grown_trans' hg24 hg5 | have hg25 : w2.grownBy w5 (some R) := grown_trans' (gr_alloc hg24 _) hg5); (first | have hs5 := gsize_lt hg5 | skip); have hS5 := HSK.out w5 hg25 j hj; clear x0 x1))
  all_goals
    go_wp2
    refine bodyPost_ret (v := .tuple #[.slice (some ⟨g, 0, none⟩) m c2, .int .i64 z]) (by simp [results, Try.results9, go_sem]) rfl ?_
    first
      | exact ⟨_, ys, z, rfl, HY.out, (HS.out.grown hg25 hlt).mono hw1, below_rdr hB2 hR hg25⟩
      | exact ⟨_, ys, z, rfl, HY.out, (HS.out.grown (gr_alloc hg25 _) hlt).mono hw1, below_rdr hB2 hR (gr_alloc hg25 _)⟩
end Go.Proofs.Ythoiljgpggldcaa
