/- Contracts: a copy of entries, and one taken out (slices.Clone, slices.Delete). -/
import Derived.Test.YtfjlocfaibbobabEnts
import Derived.Test.YtfjlocfaibbobabCut
import Derived.Test.YtfjlocfaibbobabAppend2
import Derived.Test.YtfjlocfaibbobabOpen
open Go.RowKit
namespace Go.Proofs.Ytfjlocfaibbobab
theorem own_pre {w : World} {base g cap n k : Nat} {e : TypeId} {xs : List Value} (h : w.ownsRow base e 2 (.slice (some ⟨g, 0, none⟩) n cap) n xs) (hk : k ≤ n) : w.ownsRow base e 2 (.slice (some ⟨g, 0, none⟩) k cap) k (xs.take (k * 2)) := by
  rcases h.2 with ⟨h', _⟩ | ⟨g', cap', cur, h', hb, hg, hnc, hcm, hcs, htake⟩
  · simp at h'
  · simp only [Value.slice.injEq, Option.some.injEq, Addr.mk.injEq, and_true, true_and] at h'
    obtain ⟨rfl, rfl⟩ := h'
    refine ⟨by rw [List.length_take, h.1]; omega, .inr ⟨g, cap, cur, rfl, hb, hg, by omega, hcm, hcs, ?_⟩⟩
    rw [← htake, List.take_take, Nat.min_eq_left (by omega)]
theorem own_spare {w : World} {base g cap n : Nat} {e : TypeId} {xs : List Value} (h : w.ownsRow base e 2 (.slice (some ⟨g, 0, none⟩) n cap) n xs) (j : Nat) (hj : j < cap * 2) : ∃ u, w.cell? ⟨g, j, none⟩ = some u := by
  rcases h.2 with ⟨h', _⟩ | ⟨g', cap', cur, h', hb, hg, hnc, hcm, hcs, htake⟩
  · simp at h'
  · simp only [Value.slice.injEq, Option.some.injEq, Addr.mk.injEq, and_true, true_and] at h'
    obtain ⟨rfl, rfl⟩ := h'
    exact ⟨_, (cell_of_row w g j cur e (0, 0) hg).trans (Array.getElem?_eq_getElem (by omega))⟩
theorem own_behind {w : World} {base g cap n j : Nat} {e : TypeId} {xs : List Value} (h : w.ownsRow base e 2 (.slice (some ⟨g, 0, none⟩) n cap) n xs) (hj : n * 2 ≤ j) (u : Value) : (w.setCell ⟨g, j, none⟩ u).ownsRow base e 2 (.slice (some ⟨g, 0, none⟩) n cap) n xs ∧ w.grownBy (w.setCell ⟨g, j, none⟩ u) (some g) := by
  have := h.stored j u
  rw [List.set_eq_of_length_le (by rw [h.1]; exact hj)] at this
  exact this
theorem oper_fits {P : Program} (W : World) {ops : Array Oper} {o : Oper} {a : Act} {K : Act → World → Prop} {Q : Exit → Act → World → Prop} {E : Prop} (hgd : o.guard = none) (s x : Operand) (t : TypeId)
    (ho : o.op = .call { callee := .builtin .append, args := #[s, x], argTypes := #[t, t] })
    (base : Nat) (e : TypeId) (size bytes : Nat) (z : Value) (ht : P.underlying t = some (.slice e)) (hinfo : (P.info? e).map (fun i => (i.zero, i.size, i.bytes)) = some (some z, size, bytes))
    (g k cap : Nat) (xs : List Value) (hs : a.eval s = .slice (some ⟨g, 0, none⟩) k cap) (hown : W.ownsRow base e size (.slice (some ⟨g, 0, none⟩) k cap) k xs)
    (ad : Addr) (m c : Nat) (news : List Value) (hx : a.eval x = .slice (some ad) m c) (hl : news.length = m * size) (hc : ∀ j u, news[j]? = some u → W.cell? (ad.add j) = some u) (h1 : ∀ u ∈ news, u.oneCell' = true) (hroom : k + m ≤ cap)
    (h : ∀ w', w'.ownsRow base e size (.slice (some ⟨g, 0, none⟩) (k + m) cap) (k + m) (xs ++ news) → W.grownBy w' (some g) → K (a.put o.dst (.slice (some ⟨g, 0, none⟩) (k + m) cap)) w') :
    if Region.wanted o (yielded ops a.tmps) = true then Oper.wp P o a W K Q else E := by
  have hw : Region.wanted o (yielded ops a.tmps) = true := by simp [Region.wanted, hgd]
  rw [if_pos hw]
  obtain ⟨i, hi, hz, hsize, hby⟩ := info_parts hinfo
  obtain ⟨w', hrun, h2, h3⟩ := run_append_fits (P := P) W base t o.type e i size ht hi hsize g k cap xs hown ad m c news hl hc h1 hroom
  unfold Oper.wp execOp
  simp only [ho, resolve, invoke, builtin, Sem.run_bind, Sem.run_pure, Result.andThen_ok, List.map_toArray, List.map_cons, List.map_nil, hs, hx, hrun]
  exact h w' h2 h3
theorem rd_cells {W : World} {size b off m : Nat} {news : List Value} (h : Rd W size (some ⟨b, off, none⟩) m news) : ∀ (j : Nat) (u : Value), news[j]? = some u → W.cell? ((⟨b, off, none⟩ : Addr).add j) = some u := by
  intro j u hu
  have hm : 0 < m := by
    rcases Nat.eq_zero_or_pos m with h0 | h0
    · have hl := h.1
      rw [h0, Nat.zero_mul] at hl
      rw [List.eq_nil_of_length_eq_zero hl] at hu
      cases hu
    · exact h0
  obtain ⟨b', off', e, _, hc⟩ := h.2 hm
  injection e with e
  injection e with e1 e2
  subst e1 e2
  rw [add_mk]
  exact hc j u hu
theorem rd_none {W : World} {b off : Nat} (ys : List (ByteArray × Int)) (h : ys.length = 0) : Rd W 2 (some ⟨b, off, none⟩) 0 (ens ys) := ⟨by rw [ens_length, h], fun h => by omega⟩
theorem grown_trans0 {a b c : World} {row : Option Nat} (h : a.grownBy b row) (k : b.grownBy c row) : a.grownBy c row :=
  ⟨k.os.trans h.os, k.tape.trans h.tape, k.output.trans h.output, Nat.le_trans h.size k.size, fun i hi hne => (k.block i (Nat.lt_of_lt_of_le hi h.size) hne).trans (h.block i hi hne)⟩
theorem grown_drew0 {a b : World} {row : Option Nat} (h : a.drew.grownBy b row) : a.grownBy b row := ⟨h.os, h.tape, h.output, h.size, h.block⟩
set_option maxRecDepth 4000 in
theorem cloneE (A : Option Addr) (n c : Nat) (xs : List (ByteArray × Int)) (w : World) (h : Rd w 2 A n (ens xs)) (hn : n ≤ 4194304) :
    Calls Try.prog 40 #[.slice A n c] w fun e w' => ∃ v, e = .returned v ∧ w'.ownsRow w.heap.size 31 2 v n (ens xs) ∧ Below w.heap.size w w' := by
  cases A with
  | none =>
    have hn0 : n = 0 := by
      rcases Nat.eq_zero_or_pos n with h0 | h0
      · exact h0
      · obtain ⟨_, _, e, _⟩ := h.2 h0
        cases e
    have hx : xs = [] := List.eq_nil_of_length_eq_zero (by rw [h.enLen]; exact hn0)
    subst hn0
    subst hx
    have hnil : ∀ W : World, (binOp .eql 27 (.slice none 0 c) (.slice none 0 0)).run Try.prog W = .ok (.bool true) W := fun W => by rfl
    go_enter Try.func40, Try.ntmps40
    go_wp2
    go_ret
    exact ⟨_, rfl, ⟨by simp [ens], .inl ⟨rfl, rfl⟩⟩, Below.refl _ _⟩
  | some a =>
    have hnil : ∀ W : World, (binOp .eql 27 (.slice (some a) n c) (.slice none 0 0)).run Try.prog W = .ok (.bool false) W := fun W => by rfl
    go_enter Try.func40, Try.ntmps40
    go_wp2_with (at_builtin; refine wpList_appS _ rfl (.tmp 5) (.tmp 6) _ rfl w.heap.size 31 2 24 _ Try.underlying27 ens_info rfl (by omega) (by omega) _ 0 _ rfl (own_empty w 31 2) _ _ _ (ens xs) rfl (h.alloc _) (ens_one _) (by omega) (by simp) ?_; intro v4 w4 hown4 hg4 _; have hb4 : Below w.heap.size w w4 := below_app ((Below.refl _ _).alloc (Nat.le_refl _) _) (own_empty w 31 2) hg4 (by simp); rw [List.nil_append, Nat.zero_add] at hown4)
    go_ret
    exact ⟨_, rfl, hown4, hb4⟩
theorem run_clear1 (W : World) (g j c : Nat) (u0 u1 : Value) (h0 : W.cell? ⟨g, j, none⟩ = some u0) (h1 : W.cell? ⟨g, j + 1, none⟩ = some u1) (f0 : W.frozen? ⟨g, j, none⟩ = false) (f1 : W.frozen? ⟨g, j + 1, none⟩ = false) :
    (Builtin.clear_ #[27] 0 #[.slice (some ⟨g, j, none⟩) 1 c]).run Try.prog W = .ok (.tuple #[]) ((W.setCell ⟨g, j, none⟩ (.string ⟨#[]⟩)).setCell ⟨g, j + 1, none⟩ (.int .i64 0)) := by
  simp [Builtin.clear_, go_sem, Try.zeroValue31, Builtin.zeroCells, Value.cells, h0, h1, f0, f1]
set_option maxRecDepth 4000 in
set_option maxHeartbeats 1600000 in
theorem deleteE (base g n c k : Nat) (xs : List (ByteArray × Int)) (w : World) (h : w.ownsRow base 31 2 (.slice (some ⟨g, 0, none⟩) (n + 1) c) (n + 1) (ens xs)) (hk : k ≤ n) (hnc : n + 1 ≤ c) (hn : n ≤ 4194304) (hcm : c ≤ maxLen) :
    Calls Try.prog 50 #[.slice (some ⟨g, 0, none⟩) (n + 1) c, .int .i64 (k : Int), .int .i64 ((k : Int) + 1)] w fun e w' => e = .returned (.slice (some ⟨g, 0, none⟩) n c) ∧ w'.ownsRow base 31 2 (.slice (some ⟨g, 0, none⟩) n c) n (ens (xs.take k ++ xs.drop (k + 1))) ∧ w.grownBy w' (some g) := by
  have hk0 : (0 : Int) ≤ (k : Int) := Int.natCast_nonneg _
  have hkn : (k : Int) ≤ (n : Int) := by omega
  have hkc : (k : Int) + 1 ≤ (c : Int) := by omega
  have hncI : (n : Int) + 1 ≤ (c : Int) := by omega
  have hkc0 : (k : Int) ≤ (c : Int) := by omega
  have hk1 : (0 : Int) ≤ (k : Int) + 1 := by omega
  have hnc0 : (n : Int) ≤ (c : Int) := by omega
  have hn0 : (0 : Int) ≤ (n : Int) := by omega
  unfold maxLen at hcm
  have HL := Lib.hid (Rd.own h).enLen
  have hr := Rd.own h
  by_cases hck : c = k + 1
  · have hnk : n = k := by omega
    subst hnk
    subst hck
    have hnn : (n : Int) ≤ (n : Int) + 1 := by omega
    clear hkn hkc hncI hkc0 hnc0
    go_enter Try.func50, Try.ntmps50
    go_wp2_with fail
    have HPRE : Hid (w.drew.ownsRow base 31 2 (.slice (some ⟨g, 0, none⟩) n (n + 1)) n (ens (xs.take n))) := Lib.hid (by rw [ens_take]; exact own_pre h (by omega))
    have HRD : Hid (Rd w.drew 2 (some ⟨g, 0, none⟩) (0) (ens (xs.drop (n + 1)))) := Lib.hid (rd_none _ (by rw [List.length_drop, HL.out]; omega))
    go_region_law (refine oper_fits _ rfl (.tmp 22) (.tmp 25) _ rfl base 31 2 24 _ Try.underlying27 ens_info g n _ (ens (xs.take n)) rfl HPRE.out _ (0) _ (ens (xs.drop (n + 1))) rfl HRD.out.1 (rd_cells HRD.out) (ens_one _) (by omega) ?_; intro w5 hown5 hg5)
    rw [show n + (0) = n from by omega] at hown5
    rw [← ens_append] at hown5
    obtain ⟨u0, hu0⟩ := own_spare hown5 (n * 2) (by omega)
    obtain ⟨u1, hu1⟩ := own_spare hown5 (n * 2 + 1) (by omega)
    have hclr : ∀ q, (Builtin.clear_ #[27] 0 #[.slice (some ⟨g, n * 2, none⟩) 1 q]).run Try.prog w5 = .ok (.tuple #[]) ((w5.setCell ⟨g, n * 2, none⟩ (.string ⟨#[]⟩)).setCell ⟨g, n * 2 + 1, none⟩ (.int .i64 0)) := fun q => run_clear1 w5 g (n * 2) q u0 u1 hu0 hu1 (hown5.frozenAt _) (hown5.frozenAt _)
    have hs0 := own_behind hown5 (j := n * 2) (Nat.le_refl _) (.string ⟨#[]⟩)
    have hs1 := own_behind hs0.1 (j := n * 2 + 1) (by omega) (.int .i64 0)
    have HS := Lib.hid hs1.1
    have HG := Lib.hid (grown_trans0 (grown_drew0 hg5) (grown_trans0 hs0.2 hs1.2))
    clear hs0 hs1 hown5 hg5 hu0 hu1
    go_wp2_with fail
    go_ret
    exact ⟨rfl, HS.out, HG.out⟩
  · have hckn : ¬ c = n := by omega
    go_enter Try.func50, Try.ntmps50
    go_wp2_with fail
    have HPRE : Hid (w.drew.ownsRow base 31 2 (.slice (some ⟨g, 0, none⟩) k c) k (ens (xs.take k))) := Lib.hid (by rw [ens_take]; exact own_pre h (by omega))
    have HRD : Hid (Rd w.drew 2 (some ⟨g, (k + 1) * 2, none⟩) (n - k) (ens (xs.drop (k + 1)))) := Lib.hid (by have := hr.enCut (k + 1) (n - k) (by omega); rw [Nat.zero_add, List.take_of_length_le (by rw [List.length_drop, HL.out]; omega)] at this; exact this)
    go_region_law (refine oper_fits _ rfl (.tmp 22) (.tmp 25) _ rfl base 31 2 24 _ Try.underlying27 ens_info g k _ (ens (xs.take k)) rfl HPRE.out _ (n - k) _ (ens (xs.drop (k + 1))) rfl HRD.out.1 (rd_cells HRD.out) (ens_one _) (by omega) ?_; intro w5 hown5 hg5)
    rw [show k + (n - k) = n from by omega] at hown5
    rw [← ens_append] at hown5
    obtain ⟨u0, hu0⟩ := own_spare hown5 (n * 2) (by omega)
    obtain ⟨u1, hu1⟩ := own_spare hown5 (n * 2 + 1) (by omega)
    have hclr : ∀ q, (Builtin.clear_ #[27] 0 #[.slice (some ⟨g, n * 2, none⟩) 1 q]).run Try.prog w5 = .ok (.tuple #[]) ((w5.setCell ⟨g, n * 2, none⟩ (.string ⟨#[]⟩)).setCell ⟨g, n * 2 + 1, none⟩ (.int .i64 0)) := fun q => run_clear1 w5 g (n * 2) q u0 u1 hu0 hu1 (hown5.frozenAt _) (hown5.frozenAt _)
    have hs0 := own_behind hown5 (j := n * 2) (Nat.le_refl _) (.string ⟨#[]⟩)
    have hs1 := own_behind hs0.1 (j := n * 2 + 1) (by omega) (.int .i64 0)
    have HS := Lib.hid hs1.1
    have HG := Lib.hid (grown_trans0 (grown_drew0 hg5) (grown_trans0 hs0.2 hs1.2))
    clear hs0 hs1 hown5 hg5 hu0 hu1
    go_wp2_with fail
    go_ret
    exact ⟨rfl, HS.out, HG.out⟩
end Go.Proofs.Ytfjlocfaibbobab
