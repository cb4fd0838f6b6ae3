/- The texts Kind Del as one. -/
import Derived.Test.YthoiljgpggldcaaReadFo
import Derived.Test.YthoiljgpggldcaaM5
import Derived.Test.YthoiljgpggldcaaM6
import Derived.Test.YthoiljgpggldcaaCut
import Derived.Test.YthoiljgpggldcaaM3
import Derived.Test.YthoiljgpggldcaaM4
/- Contracts of both TextKind. -/
open Go.RowKit
namespace Go.Proofs.Ythoiljgpggldcaa
def KindF (s : ByteArray) (n : Int) : Prop := ((readF s).2 = true ∧ n = 1) ∨ ((readF s).2 = false ∧ ∃ ys ok, ReadF s ys ok ∧ n = (if ok = true then 2 else 0))
theorem KindF.same {s : ByteArray} {n m : Int} (h : KindF s n) (h' : KindF s m) : n = m := by
  rcases h with ⟨h1, rfl⟩ | ⟨h1, ys, ok, h2, rfl⟩
  · rcases h' with ⟨_, rfl⟩ | ⟨h3, _⟩
    · rfl
    · rw [h1] at h3
      cases h3
  · rcases h' with ⟨h3, _⟩ | ⟨_, zs, ok', h4, rfl⟩
    · rw [h1] at h3
      cases h3
    · obtain ⟨_, rfl⟩ := h2.same h4
      rfl
set_option maxRecDepth 8000 in
theorem specTextKind (s : ByteArray) (w : World) (hs : s.size ≤ 1048576) :
    Calls Try.prog 53 #[.string s] w fun e w' => ∃ n, e = .returned (.int .i64 n) ∧ KindF s n ∧ Below w.heap.size w w' := by
  have hs' : s.size ≤ maxLen := by unfold maxLen; omega
  cases hf : (readF s).2
  all_goals
    have HF := Lib.hid hf
    clear hf
    go_enter Try.func53, Try.ntmps53
    go_wp2_with (go_at_call 55; refine (specReadFile s _ hs').mono ?_; rintro e w' ⟨rfl, rfl⟩; rw [HF.out])
    refine (specReadFolder s _ hs).mono ?_
    rintro e w1 ⟨v, ys, ok, rfl, hR, hown, hb⟩
    cases ok
  · go_wp2_with fail
    go_ret
    exact ⟨_, rfl, .inr ⟨HF.out, ys, false, hR, rfl⟩, hb⟩
  · go_wp2_with fail
    go_ret
    exact ⟨_, rfl, .inr ⟨HF.out, ys, true, hR, rfl⟩, hb⟩
  · go_wp2_with fail
    go_ret
    exact ⟨_, rfl, .inl ⟨HF.out, rfl⟩, hb⟩
  · go_wp2_with fail
    go_ret
    exact ⟨_, rfl, .inl ⟨HF.out, rfl⟩, hb⟩
end Go.Proofs.Ythoiljgpggldcaa
/- Contracts: a copy of entries, and one taken out (slices.Clone, slices.Delete). -/
open Go.RowKit
namespace Go.Proofs.Ythoiljgpggldcaa
theorem own_pre {w : World} {base g cap n k : Nat} {e : TypeId} {xs : List Value} (h : w.ownsRow base e 2 (.slice (some ⟨g, 0, none⟩) n cap) n xs) (hk : k ≤ n) : w.ownsRow base e 2 (.slice (some ⟨g, 0, none⟩) k cap) k (xs.take (k * 2)) := by
  rcases h.2 with ⟨h', _⟩ | ⟨g', cap', cur, h', hb, hg, hnc, hcm, hcs, htake⟩
  · simp at h'
  · simp only [Value.slice.injEq, Option.some.injEq, Addr.mk.injEq, and_true, true_and] at h'
    obtain ⟨rfl, rfl⟩ := h'
    refine ⟨by rw [List.length_take, h.1]; omega, .inr ⟨g, cap, cur, rfl, hb, hg, by omega, hcm, hcs, ?_⟩⟩
    rw [← htake, List.take_take, Nat.min_eq_left (by omega)]
theorem own_spare {w : World} {base g cap n : Nat} {e : TypeId} {xs : List Value} (h : w.ownsRow base e 2 (.slice (some ⟨g, 0, none⟩) n cap) n xs) (j : Nat) (hj : j < cap * 2) : ∃ u, w.cell? ⟨g, j, none⟩ = some u := by
  rcases h.2 with ⟨h', _⟩ | ⟨g', cap', cur, h', hb, hg, hnc, hcm, hcs, htake⟩
  · simp at h'
  · simp only [Value.slice.injEq, Option.some.injEq, Addr.mk.injEq, and_true, true_and] at h'
    obtain ⟨rfl, rfl⟩ := h'
    exact ⟨_, (cell_of_row w g j cur e (0, 0) hg).trans (Array.getElem?_eq_getElem (by omega))⟩
theorem own_behind {w : World} {base g cap n j : Nat} {e : TypeId} {xs : List Value} (h : w.ownsRow base e 2 (.slice (some ⟨g, 0, none⟩) n cap) n xs) (hj : n * 2 ≤ j) (u : Value) : (w.setCell ⟨g, j, none⟩ u).ownsRow base e 2 (.slice (some ⟨g, 0, none⟩) n cap) n xs ∧ w.grownBy (w.setCell ⟨g, j, none⟩ u) (some g) := by
  have := h.stored j u
  rw [List.set_eq_of_length_le (by rw [h.1]; exact hj)] at this
  exact this
theorem oper_fits {P : Program} (W : World) {ops : Array Oper} {o : Oper} {a : Act} {K : Act → World → Prop} {Q : Exit → Act → World → Prop} {E : Prop} (hgd : o.guard = none) (s x : Operand) (t : TypeId)
    (ho : o.op = .call { callee := .builtin .append, args := #[s, x], argTypes := #[t, t] })
    (base : Nat) (e : TypeId) (size bytes : Nat) (z : Value) (ht : P.underlying t = some (.slice e)) (hinfo : (P.info? e).map (fun i => (i.zero, i.size, i.bytes)) = some (some z, size, bytes))
    (g k cap : Nat) (xs : List Value) (hs : a.eval s = .slice (some ⟨g, 0, none⟩) k cap) (hown : W.ownsRow base e size (.slice (some ⟨g, 0, none⟩) k cap) k xs)
    (ad : Addr) (m c : Nat) (news : List Value) (hx : a.eval x = .slice (some ad) m c) (hl : news.length = m * size) (hc : ∀ j u, news[j]? = some u → W.cell? (ad.add j) = some u) (h1 : ∀ u ∈ news, u.oneCell' = true) (hroom : k + m ≤ cap)
    (h : ∀ w', w'.ownsRow base e size (.slice (some ⟨g, 0, none⟩) (k + m) cap) (k + m) (xs ++ news) → W.grownBy w' (some g) → K (a.put o.dst (.slice (some ⟨g, 0, none⟩) (k + m) cap)) w') :
    if Region.wanted o (yielded ops a.tmps) = true then Oper.wp P o a W K Q else E := by
  have hw : Region.wanted o (yielded ops a.tmps) = true := by simp [Region.wanted, hgd]
  rw [if_pos hw]
  obtain ⟨i, hi, hz, hsize, hby⟩ := info_parts hinfo
  obtain ⟨w', hrun, h2, h3⟩ := run_append_fits (P := P) W base t o.type e i size ht hi hsize g k cap xs hown ad m c news hl hc h1 hroom
  unfold Oper.wp execOp
  simp only [ho, resolve, invoke, builtin, Sem.run_bind, Sem.run_pure, Result.andThen_ok, List.map_toArray, List.map_cons, List.map_nil, hs, hx, hrun]
  exact h w' h2 h3
theorem rd_cells {W : World} {size b off m : Nat} {news : List Value} (h : Rd W size (some ⟨b, off, none⟩) m news) : ∀ (j : Nat) (u : Value), news[j]? = some u → W.cell? ((⟨b, off, none⟩ : Addr).add j) = some u := by
  intro j u hu
  have hm : 0 < m := by
    rcases Nat.eq_zero_or_pos m with h0 | h0
    · have hl := h.1
      rw [h0, Nat.zero_mul] at hl
      rw [List.eq_nil_of_length_eq_zero hl] at hu
      cases hu
    · exact h0
  obtain ⟨b', off', e, _, hc⟩ := h.2 hm
  injection e with e
  injection e with e1 e2
  subst e1 e2
  rw [add_mk]
  exact hc j u hu
theorem rd_none {W : World} {b off : Nat} (ys : List (ByteArray × Int)) (h : ys.length = 0) : Rd W 2 (some ⟨b, off, none⟩) 0 (ens ys) := ⟨by rw [ens_length, h], fun h => by omega⟩
theorem grown_trans0 {a b c : World} {row : Option Nat} (h : a.grownBy b row) (k : b.grownBy c row) : a.grownBy c row :=
  ⟨k.os.trans h.os, k.tape.trans h.tape, k.output.trans h.output, Nat.le_trans h.size k.size, fun i hi hne => (k.block i (Nat.lt_of_lt_of_le hi h.size) hne).trans (h.block i hi hne)⟩
theorem grown_drew0 {a b : World} {row : Option Nat} (h : a.drew.grownBy b row) : a.grownBy b row := ⟨h.os, h.tape, h.output, h.size, h.block⟩
end Go.Proofs.Ythoiljgpggldcaa
