/- The texts Ins Del MarkP as one. -/
import Derived.Test.YtjombaiplnebmaaGreatDoorMap
import Derived.Laws.IdiomCopy
import Derived.Lib.Overlaps
import Derived.Lib.AppendZerosOnto
import Derived.Test.YtjombaiplnebmaaGreatDoorEnts
import Derived.Test.YtjombaiplnebmaaGreatDoorCut
import Derived.Test.YtjombaiplnebmaaGreatDoorOpen
import Derived.Test.YtjombaiplnebmaaGreatDoorStrs
import Derived.Test.YtjombaiplnebmaaGreatDoorPcs
/- Plain laws: cells written into a row of the call's own; copy at elements of any size. -/
open Go.RowKit
namespace Go.Proofs.YtjombaiplnebmaaGreatDoor
section
variable {P : Program}
theorem run_copyN (w : World) (dT sT ty elem : TypeId) (size b o dLen dCap : Nat) (a : Addr) (sLen sCap : Nat) (cs : List Value)
    (hu : P.underlying dT = some (.slice elem)) (hs : (P.info? elem).map (·.size) = some size) (hn : cs.length = Nat.min sLen dLen * size)
    (hsrc : ∀ j v, cs[j]? = some v → w.cell? (a.add j) = some v) (hc : ∀ j, j < cs.length → (w.cell? ⟨b, o + j, none⟩).isSome = true) (hf : ∀ j, j < cs.length → w.frozen? ⟨b, o + j, none⟩ = false) (h1 : ∀ v ∈ cs, v.oneCell' = true) :
    (Builtin.copy_ #[dT, sT] ty #[.slice (some ⟨b, o, none⟩) dLen dCap, .slice (some a) sLen sCap]).run P w = .ok (goInt (Nat.min sLen dLen)) (w.setCells b o cs) := by
  have hl := run_loadCells_list (P := P) w a cs hsrc
  have hst := run_storeCells_cells (P := P) b o cs 0 w (by simpa using hc) (by simpa using hf) h1
  cases hq : P.info? elem with
  | none => simp [hq] at hs
  | some i =>
    have hi : i.size = size := by simpa [hq] using hs
    simp [Builtin.copy_, run_underlying hu, Builtin.lenOf, Builtin.firstCells, sizeOf, typeInfo, hq, hi, ← hn, hl, hst]
theorem wpList_copyR (W : World) {ops : Array Oper} {rest : List Oper} {o : Oper} {a : Act} {Q : Exit → Act → World → Prop} (hgd : o.guard = none) (d x : Operand) (t t' : TypeId)
    (ho : o.op = .call { callee := .builtin .copy, args := #[d, x], argTypes := #[t, t'] }) (v u : Value) (hd : a.eval d = v) (hx : a.eval x = u) {v' : Value} {w' : World}
    (hr : (Builtin.copy_ #[t, t'] o.type #[v, u]).run P W = .ok v' w') (h : wpList P ops Q rest (a.put o.dst v') w') : wpList P ops Q (o :: rest) a W := by
  refine wpList_plain hgd fun K hK => ?_
  unfold Oper.wp execOp
  simp only [ho, resolve, invoke, builtin, Sem.run_bind, Sem.run_pure, Result.andThen_ok, List.map_toArray, List.map_cons, List.map_nil, hd, hx, hr]
  exact hK _ _ h
theorem step_copyR (W : World) {ops : Array Oper} {o : Oper} {a : Act} {K : Act → World → Prop} {Q : Exit → Act → World → Prop} {E : Prop} (hgd : o.guard = none) (d x : Operand) (t t' : TypeId)
    (ho : o.op = .call { callee := .builtin .copy, args := #[d, x], argTypes := #[t, t'] }) (v u : Value) (hd : a.eval d = v) (hx : a.eval x = u) {v' : Value} {w' : World}
    (hr : (Builtin.copy_ #[t, t'] o.type #[v, u]).run P W = .ok v' w') (h : K (a.put o.dst v') w') :
    if Region.wanted o (yielded ops a.tmps) = true then Oper.wp P o a W K Q else E := by
  have hw : Region.wanted o (yielded ops a.tmps) = true := by simp [Region.wanted, hgd]
  rw [if_pos hw]
  unfold Oper.wp execOp
  simp only [ho, resolve, invoke, builtin, Sem.run_bind, Sem.run_pure, Result.andThen_ok, List.map_toArray, List.map_cons, List.map_nil, hd, hx, hr]
  exact h
end
theorem grow2 {a b c : World} {row : Option Nat} (h : a.grownBy b row) (k : b.grownBy c row) : a.grownBy c row :=
  ⟨k.os.trans h.os, k.tape.trans h.tape, k.output.trans h.output, Nat.le_trans h.size k.size, fun i hi hne => (k.block i (Nat.lt_of_lt_of_le hi h.size) hne).trans (h.block i hi hne)⟩
theorem own_setCells {base g cap n size : Nat} {e : TypeId} : ∀ (cs : List Value) (o : Nat) (W : World) (xs : List Value), W.ownsRow base e size (.slice (some ⟨g, 0, none⟩) n cap) n xs → o + cs.length ≤ xs.length →
    (W.setCells g o cs).ownsRow base e size (.slice (some ⟨g, 0, none⟩) n cap) n (xs.take o ++ cs ++ xs.drop (o + cs.length)) ∧ W.grownBy (W.setCells g o cs) (some g)
  | [], o, W, xs, h, _ => by
    rw [List.append_nil, List.length_nil, Nat.add_zero, List.take_append_drop]
    exact ⟨h, World.grownBy.refl W _⟩
  | v :: r, o, W, xs, h, hl => by
    have h1 := h.stored o v
    rw [List.length_cons] at hl ⊢
    have h2 := own_setCells r (o + 1) (W.setCell ⟨g, o, none⟩ v) (xs.set o v) h1.1 (by rw [List.length_set]; omega)
    refine ⟨?_, grow2 h1.2 h2.2⟩
    have e : (xs.set o v).take (o + 1) ++ r ++ (xs.set o v).drop (o + 1 + r.length) = xs.take o ++ (v :: r) ++ xs.drop (o + (r.length + 1)) := by
      rw [List.set_eq_take_append_cons_drop, if_pos (by omega)]
      have hlt : (xs.take o).length = o := by rw [List.length_take]; omega
      rw [List.take_append, List.drop_append, hlt, List.take_of_length_le (l := xs.take o) (by omega), List.drop_of_length_le (l := xs.take o) (by omega), show o + 1 - o = 1 from by omega, show o + 1 + r.length - o = r.length + 1 from by omega]
      simp [List.drop_drop]
      rw [show o + 1 + r.length = o + (r.length + 1) from by omega]
    have h3 := h2.1
    rw [e] at h3
    exact h3
theorem own_more {w : World} {base g cap n size : Nat} {e : TypeId} {xs : List Value} (h : w.ownsRow base e size (.slice (some ⟨g, 0, none⟩) n cap) n xs) (hn : n < cap) :
    ∃ us, us.length = size ∧ w.ownsRow base e size (.slice (some ⟨g, 0, none⟩) (n + 1) cap) (n + 1) (xs ++ us) := by
  rcases h.2 with ⟨h', _⟩ | ⟨g', cap', cur, h', hb, hg, hnc, hcm, hcs, htake⟩
  · simp at h'
  · simp only [Value.slice.injEq, Option.some.injEq, Addr.mk.injEq, and_true, true_and] at h'
    obtain ⟨rfl, rfl⟩ := h'
    have hsz : (n + 1) * size ≤ cap * size := Nat.mul_le_mul hn (Nat.le_refl _)
    have hs1 : (n + 1) * size = n * size + size := Nat.succ_mul _ _
    have hul : ((cur.toList.drop (n * size)).take size).length = size := by
      rw [List.length_take, List.length_drop, Array.length_toList, hcs]
      omega
    refine ⟨(cur.toList.drop (n * size)).take size, hul, by rw [List.length_append, hul, h.1, hs1], .inr ⟨g, cap, cur, rfl, hb, hg, hn, hcm, hcs, ?_⟩⟩
    rw [hs1, ← htake, List.take_add]
theorem own_heap {w : World} {base g cap n size : Nat} {e : TypeId} {xs : List Value} (h : w.ownsRow base e size (.slice (some ⟨g, 0, none⟩) n cap) n xs) : ∃ cur, w.heap[g]? = some (.cells cur e (0, 0)) ∧ cur.size = cap * size := by
  rcases h.2 with ⟨h', _⟩ | ⟨g', cap', cur, h', hb, hg, hnc, hcm, hcs, htake⟩
  · simp at h'
  · simp only [Value.slice.injEq, Option.some.injEq, Addr.mk.injEq, and_true, true_and] at h'
    obtain ⟨rfl, rfl⟩ := h'
    exact ⟨cur, hg, hcs⟩
theorem own_some {w : World} {base g cap n size : Nat} {e : TypeId} {xs : List Value} (h : w.ownsRow base e size (.slice (some ⟨g, 0, none⟩) n cap) n xs) (j : Nat) (hj : j < cap * size) : (w.cell? ⟨g, j, none⟩).isSome = true := by
  rcases h.2 with ⟨h', _⟩ | ⟨g', cap', cur, h', hb, hg, hnc, hcm, hcs, htake⟩
  · simp at h'
  · simp only [Value.slice.injEq, Option.some.injEq, Addr.mk.injEq, and_true, true_and] at h'
    obtain ⟨rfl, rfl⟩ := h'
    rw [cell_of_row w g j cur e (0, 0) hg, Array.getElem?_eq_getElem (by omega)]
    rfl
theorem own_prefix {w : World} {base g cap n k size : Nat} {e : TypeId} {xs : List Value} (h : w.ownsRow base e size (.slice (some ⟨g, 0, none⟩) n cap) n xs) (hk : k ≤ n) : w.ownsRow base e size (.slice (some ⟨g, 0, none⟩) k cap) k (xs.take (k * size)) := by
  rcases h.2 with ⟨h', _⟩ | ⟨g', cap', cur, h', hb, hg, hnc, hcm, hcs, htake⟩
  · simp at h'
  · simp only [Value.slice.injEq, Option.some.injEq, Addr.mk.injEq, and_true, true_and] at h'
    obtain ⟨rfl, rfl⟩ := h'
    have hks : k * size ≤ n * size := Nat.mul_le_mul hk (Nat.le_refl _)
    refine ⟨by rw [List.length_take, h.1]; omega, .inr ⟨g, cap, cur, rfl, hb, hg, by omega, hcm, hcs, ?_⟩⟩
    rw [← htake, List.take_take, Nat.min_eq_left hks]
/-- Cells put between. -/
def insC (xs : List Value) (i : Nat) (us : List Value) : List Value := xs.take i ++ us ++ xs.drop i
theorem insC_steps {xs ys us : List Value} {i : Nat} (hi : i ≤ xs.length) (hy : ys.length = us.length) :
    (((xs ++ ys).take (i + us.length) ++ xs.drop i ++ (xs ++ ys).drop (i + us.length + (xs.drop i).length)).take i) ++ us ++ (((xs ++ ys).take (i + us.length) ++ xs.drop i ++ (xs ++ ys).drop (i + us.length + (xs.drop i).length)).drop (i + us.length)) = insC xs i us := by
  have h1 : ((xs ++ ys).take (i + us.length)).length = i + us.length := by rw [List.length_take, List.length_append]; omega
  have h2 : (xs ++ ys).drop (i + us.length + (xs.drop i).length) = [] := List.drop_of_length_le (by rw [List.length_append, List.length_drop]; omega)
  rw [h2, List.append_nil]
  unfold insC
  congr 1
  · congr 1
    rw [List.take_append_of_le_length (by omega), List.take_take, Nat.min_eq_left (by omega), List.take_append_of_le_length hi]
  · rw [List.drop_append, h1, Nat.sub_self, List.drop_zero, List.drop_of_length_le (by omega), List.nil_append]
theorem insC_new {T Z U D : List Value} {a : Nat} (ht : T.length = a) (hz : Z.length = U.length + D.length) :
    ((T ++ Z).take a ++ U ++ (T ++ Z).drop (a + U.length)).take (a + U.length) ++ D ++ ((T ++ Z).take a ++ U ++ (T ++ Z).drop (a + U.length)).drop (a + U.length + D.length) = T ++ U ++ D := by
  subst ht
  have h1 : (T ++ Z).take T.length = T := by simp
  have h2 : ((T ++ Z).drop (T.length + U.length)).length = D.length := by rw [List.length_drop, List.length_append]; omega
  have h3 : (T ++ U).length = T.length + U.length := List.length_append
  rw [h1, List.take_append_of_le_length (by omega), List.take_of_length_le (by omega), List.drop_of_length_le (l := T ++ U ++ (T ++ Z).drop (T.length + U.length)) (by rw [List.length_append, h2, h3]; omega), List.append_nil]
theorem grow_new {w W w' : World} {row : Option Nat} {k : Nat} (h : w.grownBy W row) (hg : W.grownBy w' (some k)) (hk : w.heap.size ≤ k) : w.grownBy w' row :=
  ⟨hg.os.trans h.os, hg.tape.trans h.tape, hg.output.trans h.output, Nat.le_trans h.size hg.size, fun i hi hne => (hg.block i (Nat.lt_of_lt_of_le hi h.size) (fun e => by injection e with e; omega)).trans (h.block i hi hne)⟩
end Go.Proofs.YtjombaiplnebmaaGreatDoor
/- Contracts: a copy of entries, and one taken out (slices.Clone, slices.Delete). -/
open Go.RowKit
namespace Go.Proofs.YtjombaiplnebmaaGreatDoor
theorem own_pre {w : World} {base g cap n k : Nat} {e : TypeId} {xs : List Value} (h : w.ownsRow base e 2 (.slice (some ⟨g, 0, none⟩) n cap) n xs) (hk : k ≤ n) : w.ownsRow base e 2 (.slice (some ⟨g, 0, none⟩) k cap) k (xs.take (k * 2)) := by
  rcases h.2 with ⟨h', _⟩ | ⟨g', cap', cur, h', hb, hg, hnc, hcm, hcs, htake⟩
  · simp at h'
  · simp only [Value.slice.injEq, Option.some.injEq, Addr.mk.injEq, and_true, true_and] at h'
    obtain ⟨rfl, rfl⟩ := h'
    refine ⟨by rw [List.length_take, h.1]; omega, .inr ⟨g, cap, cur, rfl, hb, hg, by omega, hcm, hcs, ?_⟩⟩
    rw [← htake, List.take_take, Nat.min_eq_left (by omega)]
theorem own_spare {w : World} {base g cap n : Nat} {e : TypeId} {xs : List Value} (h : w.ownsRow base e 2 (.slice (some ⟨g, 0, none⟩) n cap) n xs) (j : Nat) (hj : j < cap * 2) : ∃ u, w.cell? ⟨g, j, none⟩ = some u := by
  rcases h.2 with ⟨h', _⟩ | ⟨g', cap', cur, h', hb, hg, hnc, hcm, hcs, htake⟩
  · simp at h'
  · simp only [Value.slice.injEq, Option.some.injEq, Addr.mk.injEq, and_true, true_and] at h'
    obtain ⟨rfl, rfl⟩ := h'
    exact ⟨_, (cell_of_row w g j cur e (0, 0) hg).trans (Array.getElem?_eq_getElem (by omega))⟩
theorem own_behind {w : World} {base g cap n j : Nat} {e : TypeId} {xs : List Value} (h : w.ownsRow base e 2 (.slice (some ⟨g, 0, none⟩) n cap) n xs) (hj : n * 2 ≤ j) (u : Value) : (w.setCell ⟨g, j, none⟩ u).ownsRow base e 2 (.slice (some ⟨g, 0, none⟩) n cap) n xs ∧ w.grownBy (w.setCell ⟨g, j, none⟩ u) (some g) := by
  have := h.stored j u
  rw [List.set_eq_of_length_le (by rw [h.1]; exact hj)] at this
  exact this
theorem oper_fits {P : Program} (W : World) {ops : Array Oper} {o : Oper} {a : Act} {K : Act → World → Prop} {Q : Exit → Act → World → Prop} {E : Prop} (hgd : o.guard = none) (s x : Operand) (t : TypeId)
    (ho : o.op = .call { callee := .builtin .append, args := #[s, x], argTypes := #[t, t] })
    (base : Nat) (e : TypeId) (size bytes : Nat) (z : Value) (ht : P.underlying t = some (.slice e)) (hinfo : (P.info? e).map (fun i => (i.zero, i.size, i.bytes)) = some (some z, size, bytes))
    (g k cap : Nat) (xs : List Value) (hs : a.eval s = .slice (some ⟨g, 0, none⟩) k cap) (hown : W.ownsRow base e size (.slice (some ⟨g, 0, none⟩) k cap) k xs)
    (ad : Addr) (m c : Nat) (news : List Value) (hx : a.eval x = .slice (some ad) m c) (hl : news.length = m * size) (hc : ∀ j u, news[j]? = some u → W.cell? (ad.add j) = some u) (h1 : ∀ u ∈ news, u.oneCell' = true) (hroom : k + m ≤ cap)
    (h : ∀ w', w'.ownsRow base e size (.slice (some ⟨g, 0, none⟩) (k + m) cap) (k + m) (xs ++ news) → W.grownBy w' (some g) → K (a.put o.dst (.slice (some ⟨g, 0, none⟩) (k + m) cap)) w') :
    if Region.wanted o (yielded ops a.tmps) = true then Oper.wp P o a W K Q else E := by
  have hw : Region.wanted o (yielded ops a.tmps) = true := by simp [Region.wanted, hgd]
  rw [if_pos hw]
  obtain ⟨i, hi, hz, hsize, hby⟩ := info_parts hinfo
  obtain ⟨w', hrun, h2, h3⟩ := run_append_fits (P := P) W base t o.type e i size ht hi hsize g k cap xs hown ad m c news hl hc h1 hroom
  unfold Oper.wp execOp
  simp only [ho, resolve, invoke, builtin, Sem.run_bind, Sem.run_pure, Result.andThen_ok, List.map_toArray, List.map_cons, List.map_nil, hs, hx, hrun]
  exact h w' h2 h3
theorem rd_cells {W : World} {size b off m : Nat} {news : List Value} (h : Rd W size (some ⟨b, off, none⟩) m news) : ∀ (j : Nat) (u : Value), news[j]? = some u → W.cell? ((⟨b, off, none⟩ : Addr).add j) = some u := by
  intro j u hu
  have hm : 0 < m := by
    rcases Nat.eq_zero_or_pos m with h0 | h0
    · have hl := h.1
      rw [h0, Nat.zero_mul] at hl
      rw [List.eq_nil_of_length_eq_zero hl] at hu
      cases hu
    · exact h0
  obtain ⟨b', off', e, _, hc⟩ := h.2 hm
  injection e with e
  injection e with e1 e2
  subst e1 e2
  rw [add_mk]
  exact hc j u hu
theorem rd_none {W : World} {b off : Nat} (ys : List (ByteArray × Int)) (h : ys.length = 0) : Rd W 2 (some ⟨b, off, none⟩) 0 (ens ys) := ⟨by rw [ens_length, h], fun h => by omega⟩
theorem grown_trans0 {a b c : World} {row : Option Nat} (h : a.grownBy b row) (k : b.grownBy c row) : a.grownBy c row :=
  ⟨k.os.trans h.os, k.tape.trans h.tape, k.output.trans h.output, Nat.le_trans h.size k.size, fun i hi hne => (k.block i (Nat.lt_of_lt_of_le hi h.size) hne).trans (h.block i hi hne)⟩
theorem grown_drew0 {a b : World} {row : Option Nat} (h : a.drew.grownBy b row) : a.grownBy b row := ⟨h.os, h.tape, h.output, h.size, h.block⟩
end Go.Proofs.YtjombaiplnebmaaGreatDoor
/- Contracts: pieces marked, and whether they hold the marks. -/
open Go.RowKit
namespace Go.Proofs.YtjombaiplnebmaaGreatDoor
theorem grown_belowP {a b : World} (h : Below a.heap.size a b) (row : Option Nat) : a.grownBy b row := ⟨h.os, h.tape, h.output, h.size, fun i hi _ => h.block i hi⟩
def marksP (k n : Nat) : List (Int × ByteArray) := (List.range n).map fun i => (((k + 2 * i : Nat) : Int), markT (k + 2 * i + 1))
theorem marksP_length (k n : Nat) : (marksP k n).length = n := by simp [marksP]
theorem marksP_at (k n j : Nat) (h : j < n) : (marksP k n)[j]? = some (((k + 2 * j : Nat) : Int), markT (k + 2 * j + 1)) := by simp [marksP, h]
theorem marksP_at' (k n j : Nat) (h : j < n) : (marksP k n)[j]? = some ((k : Int) + 2 * (j : Int), markT (k + 2 * j + 1)) :=
  (marksP_at k n j h).trans (by rw [show ((k + 2 * j : Nat) : Int) = (k : Int) + 2 * (j : Int) from by omega])
theorem pcs_set2 : ∀ (xs : List (Int × ByteArray)) (j : Nat) (p : Int) (s : ByteArray), ((pcs xs).set (j * 2) (.int .i64 p)).set (j * 2 + 1) (.string s) = pcs (xs.set j (p, s))
  | [], j, p, s => by simp [pcs]
  | x :: r, 0, p, s => by simp [pcs]
  | x :: r, j + 1, p, s => by
    have ih := pcs_set2 r j p s
    rw [show (j + 1) * 2 = j * 2 + 1 + 1 from by omega]
    show (Value.int .i64 x.1 :: .string x.2 :: ((pcs r).set (j * 2) (.int .i64 p)).set (j * 2 + 1) (.string s)) = Value.int .i64 x.1 :: .string x.2 :: pcs (r.set j (p, s))
    rw [ih]
theorem own_cell {w : World} {base g cap n : Nat} {e : TypeId} {xs : List Value} (h : w.ownsRow base e 2 (.slice (some ⟨g, 0, none⟩) n cap) n xs) (j : Nat) (hj : j < cap * 2) : ∃ u, w.cell? ⟨g, j, none⟩ = some u := Option.isSome_iff_exists.1 (own_some h j hj)
set_option maxRecDepth 4000 in
set_option maxHeartbeats 1600000 in
theorem markPieceS (base : Nat) (v : Value) (n k : Nat) (xs : List (Int × ByteArray)) (w : World) (h : w.ownsRow base 43 2 v n (pcs xs)) (hn : n ≤ 4194304) (hk : 1 ≤ k ∧ k ≤ 8388608) :
    Calls Tryz.prog 13 #[v, .int .i64 (k : Int)] w fun e w' => e = .returned (.int .i64 ((k + 2 * n : Nat) : Int)) ∧ w'.ownsRow base 43 2 v n (pcs (marksP k n)) ∧ w.grownBy w' v.ownBlock := by
  obtain ⟨k1, k2⟩ := hk
  have hxl : xs.length = n := by have := h.1; rw [pcs_length] at this; omega
  rcases h.2 with ⟨rfl, rfl⟩ | ⟨g, cap, cur, rfl, _, _, hnc, _⟩
  · go_enter Tryz.func13, Tryz.ntmps13
    go_wp2
    go_loopw [1, 5] (fun x i wr => x = .int .i64 (k : Int) ∧ i = .int .i64 0 ∧ wr = w) (fun _ i _ => 0 - (intOf i).toNat)
    case atStart => exact ⟨rfl, rfl, rfl⟩
    case round =>
      obtain ⟨rfl, rfl, rfl⟩ := hrel
      go_wp2
      go_ret
      have e : pcs (marksP k 0) = pcs xs := by rw [List.eq_nil_of_length_eq_zero hxl]; rfl
      exact ⟨rfl, by rw [e]; exact h, World.grownBy.refl _ _⟩
  · have HX := Lib.hid hxl
    have hml := Lib.hid (show (marksP k n).length = xs.length by rw [marksP_length, hxl])
    clear hxl
    go_enter Tryz.func13, Tryz.ntmps13
    go_wp2
    go_loopw [1, 5] (fun x i wr => ∃ j : Nat, j ≤ n ∧ i = .int .i64 j ∧ x = .int .i64 ((k + 2 * j : Nat) : Int) ∧ wr.ownsRow base 43 2 (.slice (some ⟨g, 0, none⟩) n cap) n (pcs (mix (marksP k n) xs j)) ∧ w.grownBy wr (some g)) (fun _ i _ => n - (intOf i).toNat)
    case atStart => exact ⟨0, Nat.zero_le _, rfl, rfl, by rw [mix_zero]; exact h, World.grownBy.refl _ _⟩
    case round =>
      obtain ⟨j, hj, rfl, rfl, hown, hg⟩ := hrel
      by_cases hlt : j < n
      · obtain ⟨u, hu⟩ := own_cell hown (j * 2) (by omega)
        have hfz := hown.frozenAt (j * 2)
        have hst := hown.stored (j * 2) (.int .i64 ((k : Int) + 2 * (j : Int)))
        have hjI : (j : Int) < (n : Int) := by omega
        have hmt := fun W => markText (k + 2 * j + 1) W (by omega) (by omega)
        rw [show ((k + 2 * j + 1 : Nat) : Int) = (k : Int) + 2 * (j : Int) + 1 from by omega] at hmt
        have HMT := Lib.hid hmt
        clear hmt
        go_wp2_with fail
        refine (HMT.out _).mono ?_
        rintro e w2 ⟨rfl, hb2⟩
        have hown2 := own_below hst.1 hb2
        obtain ⟨u1, hu1⟩ := own_cell hown2 (j * 2 + 1) (by omega)
        have hfz1 := hown2.frozenAt (j * 2 + 1)
        have hst1 := hown2.stored (j * 2 + 1) (.string (markT (k + 2 * j + 1)))
        have ho := hst1.1
        rw [pcs_set2, mix_set (marksP_at' k n j hlt) hml.out] at ho
        have HST := Lib.hid ho
        have HG := Lib.hid (grow2 (grow2 (grow2 hg hst.2) (grown_belowP hb2 _)) hst1.2)
        clear hst hst1 hown hown2 hg ho
        go_wp2_with fail
        go_roundw
        case rel => exact ⟨j + 1, by omega, by go_num, by go_num, HST.out, HG.out⟩
        case measure => simp [intOf]; omega
      · have hjn : j = n := by omega
        subst hjn
        have e0 := mix_all (marksP k j) xs hml.out
        rw [marksP_length] at e0
        rw [e0] at hown
        clear e0
        go_wp2
        go_ret
        exact ⟨rfl, hown, hg⟩
end Go.Proofs.YtjombaiplnebmaaGreatDoor
