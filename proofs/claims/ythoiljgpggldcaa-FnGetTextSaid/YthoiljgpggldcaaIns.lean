/- Plain laws: cells written into a row of the call's own; copy at elements of any size. -/
import Derived.Test.YthoiljgpggldcaaM3
import Derived.Laws.IdiomCopy
import Derived.Lib.Overlaps
import Derived.Lib.AppendZerosOnto
open Go.RowKit
namespace Go.Proofs.Ythoiljgpggldcaa
section
variable {P : Program}
theorem run_copyN (w : World) (dT sT ty elem : TypeId) (size b o dLen dCap : Nat) (a : Addr) (sLen sCap : Nat) (cs : List Value)
    (hu : P.underlying dT = some (.slice elem)) (hs : (P.info? elem).map (·.size) = some size) (hn : cs.length = Nat.min sLen dLen * size)
    (hsrc : ∀ j v, cs[j]? = some v → w.cell? (a.add j) = some v) (hc : ∀ j, j < cs.length → (w.cell? ⟨b, o + j, none⟩).isSome = true) (hf : ∀ j, j < cs.length → w.frozen? ⟨b, o + j, none⟩ = false) (h1 : ∀ v ∈ cs, v.oneCell' = true) :
    (Builtin.copy_ #[dT, sT] ty #[.slice (some ⟨b, o, none⟩) dLen dCap, .slice (some a) sLen sCap]).run P w = .ok (goInt (Nat.min sLen dLen)) (w.setCells b o cs) := by
  have hl := run_loadCells_list (P := P) w a cs hsrc
  have hst := run_storeCells_cells (P := P) b o cs 0 w (by simpa using hc) (by simpa using hf) h1
  cases hq : P.info? elem with
  | none => simp [hq] at hs
  | some i =>
    have hi : i.size = size := by simpa [hq] using hs
    simp [Builtin.copy_, run_underlying hu, Builtin.lenOf, Builtin.firstCells, sizeOf, typeInfo, hq, hi, ← hn, hl, hst]
theorem wpList_copyR (W : World) {ops : Array Oper} {rest : List Oper} {o : Oper} {a : Act} {Q : Exit → Act → World → Prop} (hgd : o.guard = none) (d x : Operand) (t t' : TypeId)
    (ho : o.op = .call { callee := .builtin .copy, args := #[d, x], argTypes := #[t, t'] }) (v u : Value) (hd : a.eval d = v) (hx : a.eval x = u) {v' : Value} {w' : World}
    (hr : (Builtin.copy_ #[t, t'] o.type #[v, u]).run P W = .ok v' w') (h : wpList P ops Q rest (a.put o.dst v') w') : wpList P ops Q (o :: rest) a W := by
  refine wpList_plain hgd fun K hK => ?_
  unfold Oper.wp execOp
  simp only [ho, resolve, invoke, builtin, Sem.run_bind, Sem.run_pure, Result.andThen_ok, List.map_toArray, List.map_cons, List.map_nil, hd, hx, hr]
  exact hK _ _ h
theorem step_copyR (W : World) {ops : Array Oper} {o : Oper} {a : Act} {K : Act → World → Prop} {Q : Exit → Act → World → Prop} {E : Prop} (hgd : o.guard = none) (d x : Operand) (t t' : TypeId)
    (ho : o.op = .call { callee := .builtin .copy, args := #[d, x], argTypes := #[t, t'] }) (v u : Value) (hd : a.eval d = v) (hx : a.eval x = u) {v' : Value} {w' : World}
    (hr : (Builtin.copy_ #[t, t'] o.type #[v, u]).run P W = .ok v' w') (h : K (a.put o.dst v') w') :
    if Region.wanted o (yielded ops a.tmps) = true then Oper.wp P o a W K Q else E := by
  have hw : Region.wanted o (yielded ops a.tmps) = true := by simp [Region.wanted, hgd]
  rw [if_pos hw]
  unfold Oper.wp execOp
  simp only [ho, resolve, invoke, builtin, Sem.run_bind, Sem.run_pure, Result.andThen_ok, List.map_toArray, List.map_cons, List.map_nil, hd, hx, hr]
  exact h
end
theorem grow2 {a b c : World} {row : Option Nat} (h : a.grownBy b row) (k : b.grownBy c row) : a.grownBy c row :=
  ⟨k.os.trans h.os, k.tape.trans h.tape, k.output.trans h.output, Nat.le_trans h.size k.size, fun i hi hne => (k.block i (Nat.lt_of_lt_of_le hi h.size) hne).trans (h.block i hi hne)⟩
theorem own_setCells {base g cap n size : Nat} {e : TypeId} : ∀ (cs : List Value) (o : Nat) (W : World) (xs : List Value), W.ownsRow base e size (.slice (some ⟨g, 0, none⟩) n cap) n xs → o + cs.length ≤ xs.length →
    (W.setCells g o cs).ownsRow base e size (.slice (some ⟨g, 0, none⟩) n cap) n (xs.take o ++ cs ++ xs.drop (o + cs.length)) ∧ W.grownBy (W.setCells g o cs) (some g)
  | [], o, W, xs, h, _ => by
    rw [List.append_nil, List.length_nil, Nat.add_zero, List.take_append_drop]
    exact ⟨h, World.grownBy.refl W _⟩
  | v :: r, o, W, xs, h, hl => by
    have h1 := h.stored o v
    rw [List.length_cons] at hl ⊢
    have h2 := own_setCells r (o + 1) (W.setCell ⟨g, o, none⟩ v) (xs.set o v) h1.1 (by rw [List.length_set]; omega)
    refine ⟨?_, grow2 h1.2 h2.2⟩
    have e : (xs.set o v).take (o + 1) ++ r ++ (xs.set o v).drop (o + 1 + r.length) = xs.take o ++ (v :: r) ++ xs.drop (o + (r.length + 1)) := by
      rw [List.set_eq_take_append_cons_drop, if_pos (by omega)]
      have hlt : (xs.take o).length = o := by rw [List.length_take]; omega
      rw [List.take_append, List.drop_append, hlt, List.take_of_length_le (l := xs.take o) (by omega), List.drop_of_length_le (l := xs.take o) (by omega), show o + 1 - o = 1 from by omega, show o + 1 + r.length - o = r.length + 1 from by omega]
      simp [List.drop_drop]
      rw [show o + 1 + r.length = o + (r.length + 1) from by omega]
    have h3 := h2.1
    rw [e] at h3
    exact h3
theorem own_more {w : World} {base g cap n size : Nat} {e : TypeId} {xs : List Value} (h : w.ownsRow base e size (.slice (some ⟨g, 0, none⟩) n cap) n xs) (hn : n < cap) :
    ∃ us, us.length = size ∧ w.ownsRow base e size (.slice (some ⟨g, 0, none⟩) (n + 1) cap) (n + 1) (xs ++ us) := by
  rcases h.2 with ⟨h', _⟩ | ⟨g', cap', cur, h', hb, hg, hnc, hcm, hcs, htake⟩
  · simp at h'
  · simp only [Value.slice.injEq, Option.some.injEq, Addr.mk.injEq, and_true, true_and] at h'
    obtain ⟨rfl, rfl⟩ := h'
    have hsz : (n + 1) * size ≤ cap * size := Nat.mul_le_mul hn (Nat.le_refl _)
    have hs1 : (n + 1) * size = n * size + size := Nat.succ_mul _ _
    have hul : ((cur.toList.drop (n * size)).take size).length = size := by
      rw [List.length_take, List.length_drop, Array.length_toList, hcs]
      omega
    refine ⟨(cur.toList.drop (n * size)).take size, hul, by rw [List.length_append, hul, h.1, hs1], .inr ⟨g, cap, cur, rfl, hb, hg, hn, hcm, hcs, ?_⟩⟩
    rw [hs1, ← htake, List.take_add]
theorem own_heap {w : World} {base g cap n size : Nat} {e : TypeId} {xs : List Value} (h : w.ownsRow base e size (.slice (some ⟨g, 0, none⟩) n cap) n xs) : ∃ cur, w.heap[g]? = some (.cells cur e (0, 0)) ∧ cur.size = cap * size := by
  rcases h.2 with ⟨h', _⟩ | ⟨g', cap', cur, h', hb, hg, hnc, hcm, hcs, htake⟩
  · simp at h'
  · simp only [Value.slice.injEq, Option.some.injEq, Addr.mk.injEq, and_true, true_and] at h'
    obtain ⟨rfl, rfl⟩ := h'
    exact ⟨cur, hg, hcs⟩
theorem own_some {w : World} {base g cap n size : Nat} {e : TypeId} {xs : List Value} (h : w.ownsRow base e size (.slice (some ⟨g, 0, none⟩) n cap) n xs) (j : Nat) (hj : j < cap * size) : (w.cell? ⟨g, j, none⟩).isSome = true := by
  rcases h.2 with ⟨h', _⟩ | ⟨g', cap', cur, h', hb, hg, hnc, hcm, hcs, htake⟩
  · simp at h'
  · simp only [Value.slice.injEq, Option.some.injEq, Addr.mk.injEq, and_true, true_and] at h'
    obtain ⟨rfl, rfl⟩ := h'
    rw [cell_of_row w g j cur e (0, 0) hg, Array.getElem?_eq_getElem (by omega)]
    rfl
theorem own_prefix {w : World} {base g cap n k size : Nat} {e : TypeId} {xs : List Value} (h : w.ownsRow base e size (.slice (some ⟨g, 0, none⟩) n cap) n xs) (hk : k ≤ n) : w.ownsRow base e size (.slice (some ⟨g, 0, none⟩) k cap) k (xs.take (k * size)) := by
  rcases h.2 with ⟨h', _⟩ | ⟨g', cap', cur, h', hb, hg, hnc, hcm, hcs, htake⟩
  · simp at h'
  · simp only [Value.slice.injEq, Option.some.injEq, Addr.mk.injEq, and_true, true_and] at h'
    obtain ⟨rfl, rfl⟩ := h'
    have hks : k * size ≤ n * size := Nat.mul_le_mul hk (Nat.le_refl _)
    refine ⟨by rw [List.length_take, h.1]; omega, .inr ⟨g, cap, cur, rfl, hb, hg, by omega, hcm, hcs, ?_⟩⟩
    rw [← htake, List.take_take, Nat.min_eq_left hks]
/-- Cells put between. -/
def insC (xs : List Value) (i : Nat) (us : List Value) : List Value := xs.take i ++ us ++ xs.drop i
theorem insC_steps {xs ys us : List Value} {i : Nat} (hi : i ≤ xs.length) (hy : ys.length = us.length) :
    (((xs ++ ys).take (i + us.length) ++ xs.drop i ++ (xs ++ ys).drop (i + us.length + (xs.drop i).length)).take i) ++ us ++ (((xs ++ ys).take (i + us.length) ++ xs.drop i ++ (xs ++ ys).drop (i + us.length + (xs.drop i).length)).drop (i + us.length)) = insC xs i us := by
  have h1 : ((xs ++ ys).take (i + us.length)).length = i + us.length := by rw [List.length_take, List.length_append]; omega
  have h2 : (xs ++ ys).drop (i + us.length + (xs.drop i).length) = [] := List.drop_of_length_le (by rw [List.length_append, List.length_drop]; omega)
  rw [h2, List.append_nil]
  unfold insC
  congr 1
  · congr 1
    rw [List.take_append_of_le_length (by omega), List.take_take, Nat.min_eq_left (by omega), List.take_append_of_le_length hi]
  · rw [List.drop_append, h1, Nat.sub_self, List.drop_zero, List.drop_of_length_le (by omega), List.nil_append]
theorem insC_new {T Z U D : List Value} {a : Nat} (ht : T.length = a) (hz : Z.length = U.length + D.length) :
    ((T ++ Z).take a ++ U ++ (T ++ Z).drop (a + U.length)).take (a + U.length) ++ D ++ ((T ++ Z).take a ++ U ++ (T ++ Z).drop (a + U.length)).drop (a + U.length + D.length) = T ++ U ++ D := by
  subst ht
  have h1 : (T ++ Z).take T.length = T := by simp
  have h2 : ((T ++ Z).drop (T.length + U.length)).length = D.length := by rw [List.length_drop, List.length_append]; omega
  have h3 : (T ++ U).length = T.length + U.length := List.length_append
  rw [h1, List.take_append_of_le_length (by omega), List.take_of_length_le (by omega), List.drop_of_length_le (l := T ++ U ++ (T ++ Z).drop (T.length + U.length)) (by rw [List.length_append, h2, h3]; omega), List.append_nil]
theorem grow_new {w W w' : World} {row : Option Nat} {k : Nat} (h : w.grownBy W row) (hg : W.grownBy w' (some k)) (hk : w.heap.size ≤ k) : w.grownBy w' row :=
  ⟨hg.os.trans h.os, hg.tape.trans h.tape, hg.output.trans h.output, Nat.le_trans h.size hg.size, fun i hi hne => (hg.block i (Nat.lt_of_lt_of_le hi h.size) (fun e => by injection e with e; omega)).trans (h.block i hi hne)⟩
end Go.Proofs.Ythoiljgpggldcaa
