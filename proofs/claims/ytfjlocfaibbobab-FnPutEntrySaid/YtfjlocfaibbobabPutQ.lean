/- Plain words: what putting an entry comes to. And what is drawn for it. -/
import Derived.Test.YtfjlocfaibbobabPutI
import Derived.Test.YtfjlocfaibbobabDropP
import Derived.Test.YtfjlocfaibbobabL20B
import Derived.Test.YtfjlocfaibbobabDrawE
import Derived.Laws.StructEq
open Go.RowKit
namespace Go.Proofs.Ytfjlocfaibbobab
theorem putE_false {xs : List (ByteArray × Int)} {t : ByteArray} {p : Int} (h : (putE xs t p).2 = false) : (putE xs t p).1 = xs ∨ (putE xs t p).1 = [] := by
  unfold putE at h ⊢
  split
  · rename_i hv
    rw [if_pos hv] at h
    split
    · rename_i h2
      rw [if_pos h2] at h
      cases h
    · exact .inl rfl
  · exact .inr rfl
theorem putE_true {xs : List (ByteArray × Int)} {t : ByteArray} {p : Int} (h : (putE xs t p).2 = true) : entriesV xs = true ∧ entriesV (putL xs t p) = true ∧ putE xs t p = (putL xs t p, true) := by
  unfold putE at h ⊢
  split
  · rename_i hv
    rw [if_pos hv] at h
    split
    · rename_i h2
      exact ⟨hv, h2, rfl⟩
    · rename_i h2
      rw [if_neg h2] at h
      cases h
  · rename_i hv
    rw [if_neg hv] at h
    cases h
theorem notN_self (t : ByteArray) (p : Int) : notN t (t, p) = false := by
  unfold notN
  rw [decide_eq_true rfl]
  rfl
theorem putL_drop (xs : List (ByteArray × Int)) (t : ByteArray) (p : Int) : (putL xs t p).filter (notN t) = xs.filter (notN t) ∧ ((putL xs t p).filter (notN t)).length < (putL xs t p).length := by
  have hsplit : xs.filter (notN t) = (xs.take (enPos t xs)).filter (notN t) ++ (xs.drop (enPos t xs)).filter (notN t) := by rw [← List.filter_append, List.take_append_drop]
  have hl1 := List.length_filter_le (notN t) (xs.take (enPos t xs))
  cases hh : enHere t xs
  · have e : putL xs t p = xs.take (enPos t xs) ++ [(t, p)] ++ xs.drop (enPos t xs) := by unfold putL; rw [hh, if_neg (by simp)]
    have e2 : (putL xs t p).filter (notN t) = xs.filter (notN t) := by
      rw [e, List.filter_append, List.filter_append, hsplit]
      simp [notN_self]
    refine ⟨e2, ?_⟩
    have hl2 := List.length_filter_le (notN t) (xs.drop (enPos t xs))
    rw [e2, hsplit, e]
    simp only [List.length_append, List.length_singleton]
    omega
  · have hx : ∃ x, xs[enPos t xs]? = some x ∧ x.1 = t := by
      unfold enHere at hh
      cases hq : xs[enPos t xs]? with
      | none => rw [hq] at hh; cases hh
      | some x => rw [hq] at hh; exact ⟨x, rfl, of_decide_eq_true hh⟩
    obtain ⟨x, hx1, hx2⟩ := hx
    obtain ⟨hlt, hxe⟩ := List.getElem?_eq_some_iff.1 hx1
    have hd : xs.drop (enPos t xs) = x :: xs.drop (enPos t xs + 1) := by rw [List.drop_eq_getElem_cons hlt, hxe]
    have hnx : notN t x = false := by unfold notN; rw [hx2, decide_eq_true rfl]; rfl
    have e : putL xs t p = xs.take (enPos t xs) ++ [(t, p)] ++ xs.drop (enPos t xs + 1) := by unfold putL; rw [hh, if_pos rfl]
    have e2 : (putL xs t p).filter (notN t) = xs.filter (notN t) := by
      rw [e, List.filter_append, List.filter_append, hsplit, hd]
      simp [notN_self, hnx]
    refine ⟨e2, ?_⟩
    have hl2 := List.length_filter_le (notN t) (xs.drop (enPos t xs + 1))
    rw [e2, hsplit, e, hd, List.filter_cons, hnx, if_neg (by simp)]
    simp only [List.length_append, List.length_singleton]
    omega
theorem putL_mem0 (xs : List (ByteArray × Int)) (t : ByteArray) (p : Int) : (t, p) ∈ putL xs t p := by
  unfold putL
  simp
theorem putL_dropE {xs : List (ByteArray × Int)} {t : ByteArray} {p : Int} (h1 : entriesV xs = true) (h2 : entriesV (putL xs t p) = true) : dropE (putL xs t p) t = dropE xs t ∧ dropB (putL xs t p) t = true := by
  obtain ⟨e1, e2⟩ := putL_drop xs t p
  refine ⟨by rw [dropE_yes h1, dropE_yes h2, e1], ?_⟩
  unfold dropB
  rw [h2, dropE_yes h2, Bool.true_and]
  exact decide_eq_true e2
/-- Whether one is among the first. -/
def amongF (xs : List (ByteArray × Int)) (x : ByteArray × Int) (k : Nat) : Bool := (xs.take k).any fun y => decide (y = x)
theorem among_zero (xs : List (ByteArray × Int)) (x : ByteArray × Int) : amongF xs x 0 = false := by simp [amongF]
theorem among_succ {xs : List (ByteArray × Int)} {x y : ByteArray × Int} {k : Nat} (h : xs[k]? = some y) : amongF xs x (k + 1) = (amongF xs x k || decide (y = x)) := by
  unfold amongF
  rw [take_snoc h, List.any_append]
  simp
theorem among_all {xs : List (ByteArray × Int)} {x : ByteArray × Int} (h : x ∈ xs) : amongF xs x xs.length = true := by
  unfold amongF
  rw [List.take_length, List.any_eq_true]
  exact ⟨x, h, decide_eq_true rfl⟩
theorem eql_en (s t : ByteArray) (p q : Int) (W : World) : (binOp .eql 31 (.agg #[.string s, .int .i64 p]) (.agg #[.string t, .int .i64 q])).run Try.prog W = .ok (.bool (decide ((s, p) = (t, q)))) W := by
  have h1 : Try.prog.underlying 31 = some (.struct (Try.prog.fieldsOf 31)) := by kernel_rfl
  have h2 : Try.prog.stoodInHeld 31 = false := by kernel_rfl
  have e : (s.toList == t.toList && p == q) = decide ((s, p) = (t, q)) := by
    rw [Bool.eq_iff_iff]
    simp only [Bool.and_eq_true, beq_iff_eq, decide_eq_true_eq, Prod.mk.injEq, Lib.toList_data]
    exact ⟨fun ⟨h1, h2⟩ => ⟨ByteArray.ext (Array.toList_inj.1 h1), h2⟩, fun ⟨h1, h2⟩ => ⟨by rw [h1], h2⟩⟩
  rw [← e, run_eql_struct, run_equalIn_agg _ 9999 31 _ _ h1 h2]
  simp [Op.eqFields, go_sem]
  by_cases h : s.toList = t.toList <;> by_cases h' : p = q <;> simp [h, h']
def DrawnP (w : World) (e : Ending) (w' : World) : Prop := ∃ (v : Value) (n : Nat) (es : List (ByteArray × Int)) (s : ByteArray) (p : Int), e = .returned (.tuple #[v, .agg #[.string s, .int .i64 p]]) ∧ n ≤ 5 ∧ (∀ x ∈ es, x.1.size ≤ 9) ∧ s.size ≤ 9 ∧ w'.ownsRow w.heap.size 31 2 v n (ens es) ∧ Below w.heap.size w w' ∧ v.ownBlock ≠ none
set_option maxRecDepth 8000 in
theorem drawPutEntry (A : Option Addr) (n c : Nat) (xs : List Int) (w : World) (h : Rd w 1 A n (byts xs)) (hc : n ≤ c) (hx : ∀ x ∈ xs, (Lit.int .u8 x).wf = true) :
    Calls Try.prog 18 #[.slice A n c] w (DrawnP w) := by
  have hb0 : Below w.heap.size w (w.alloc (.cells #[.string ⟨#[]⟩, .int .i64 0] 31)) := (Below.refl _ _).alloc (Nat.le_refl _) _
  have d0 : (w.alloc (.cells #[.string ⟨#[]⟩, .int .i64 0] 31)).cell? ⟨w.heap.size, 0, none⟩ = some (.string ⟨#[]⟩) := cell_of_row _ _ 0 _ _ (0, 0) (heap_alloc_new w _)
  have d1 : (w.alloc (.cells #[.string ⟨#[]⟩, .int .i64 0] 31)).cell? ⟨w.heap.size, 1, none⟩ = some (.int .i64 0) := cell_of_row _ _ 1 _ _ (0, 0) (heap_alloc_new w _)
  have hhp : (w.alloc (.cells #[.string ⟨#[]⟩, .int .i64 0] 31)).heap[w.heap.size]? = some (.cells #[.string ⟨#[]⟩, .int .i64 0] 31 (0, 0)) := heap_alloc_new w _
  have hsz0 : (w.alloc (.cells #[.string ⟨#[]⟩, .int .i64 0] 31)).heap.size = w.heap.size + 1 := by simp
  go_enter Try.func18, Try.ntmps18
  go_wp2_with fail
  generalize (w.alloc (.cells #[.string ⟨#[]⟩, .int .i64 0] 31)) = w0 at *
  refine (l20Open A n c xs _ (h.below hb0) hc hx).mono ?_
  rintro e w1 ⟨R, rfl, hR, hr, hb⟩
  have hh1 : w1.heap[w.heap.size]? = some (.cells #[.string ⟨#[]⟩, .int .i64 0] 31 (0, 0)) := (hb.block _ (by omega)).trans hhp
  go_wp2_with fail
  refine (l20EntriesB _ R _ 9 hr (by omega)).mono ?_
  rintro e w2 ⟨v, k, es, rfl, hk, hs, hown, hR2, hg2, hbk⟩
  go_wp2_with fail
  refine (l20Word _ R _ 9 hR2 (by omega)).mono ?_
  rintro e w3 ⟨s, rfl, hs9, hR3, hg3⟩
  go_wp2_with fail
  refine (l20Print _ R _ 12 hR3 (by omega)).mono ?_
  rintro e w4 ⟨y, rfl, _, _, hR4, hg4⟩
  have hg := grown_trans' hg2 (grown_trans' hg3 hg4)
  have hne : w.heap.size ≠ R := by omega
  have hh4 := grown_heap hg hh1 hne
  have k0 : w4.cell? ⟨w.heap.size, 0, none⟩ = some (.string ⟨#[]⟩) := cell_of_row _ _ 0 _ _ (0, 0) hh4
  have k1 : w4.cell? ⟨w.heap.size, 1, none⟩ = some (.int .i64 0) := cell_of_row _ _ 1 _ _ (0, 0) hh4
  have f0 := frozen_of_row w4 w.heap.size 0 _ _ hh4
  have f1 := frozen_of_row w4 w.heap.size 1 _ _ hh4
  have hown4 := own_rdr2 (own_rdr2 hown hg3 hr.lt) hg4 hr.lt
  have hbel := below_step hb0 (below_rdr hb hR hg)
  clear hg2 hg3 hg4 hg hh4 hh1 hhp d0 d1
  have hset : ∀ (W : World) (j : Nat) (u : Value), W.grownBy (W.setCell ⟨w.heap.size, j, none⟩ u) (some w.heap.size) := fun W j u => ⟨rfl, rfl, rfl, by simp, fun k _ hk => heap_setCell_other W ⟨w.heap.size, j, none⟩ k u (fun e => hk (by simp [e]))⟩
  have hle : w.heap.size < w1.heap.size := by have := hb.size; omega
  have hown5 : ((w4.setCell ⟨w.heap.size, 0, none⟩ (.string s)).setCell ⟨w.heap.size, 1, none⟩ (.int .i64 y)).ownsRow w1.heap.size 31 2 v k (ens es) := by
    refine (hown4.kept (hset _ 0 _) ?_).kept (hset _ 1 _) ?_
    all_goals
      refine .inr fun e => ?_
      have := (hown4.lt _ e).1
      omega
  have hB5 := (hbel.setCell (p := ⟨w.heap.size, 0, none⟩) (Nat.le_refl _) (.string s)).setCell (p := ⟨w.heap.size, 1, none⟩) (Nat.le_refl _) (.int .i64 y)
  go_wp2_with fail
  refine bodyPost_ret (v := .tuple #[v, .agg #[.string s, .int .i64 y]]) (by simp [results, Try.results18, go_sem, k0, k1]) rfl ?_
  exact ⟨v, k, es, s, y, rfl, hk, hs, hs9, own_base hown5 (Nat.le_of_lt hle), hB5, hbk⟩
end Go.Proofs.Ytfjlocfaibbobab
