/- Contracts of the reader of codes and of what is drawn with it. -/
import Derived.Test.YthoiljgpggldcaaWords
import Derived.Test.YthoiljgpggldcaaMem
import Derived.Test.YthoiljgpggldcaaM4
import Derived.Deep.RegionWith
import Derived.Laws.BitsAllLaws
import Derived.Laws.BitsLemmas
open Go.RowKit
namespace Go.Proofs.Ythoiljgpggldcaa

/-- Block R is a reader: a slice of bytes and a place, at most p. -/
def Rdr (w : World) (R : Nat) (p : Nat) : Prop :=
  ∃ (A : Option Addr) (n c q : Nat) (xs : List Int), w.heap[R]? = some (.cells #[.slice A n c, .int .i64 (q : Int)] 47 (0, 0)) ∧ q ≤ p ∧ n ≤ 2000 ∧ Rd w 1 A n (byts xs) ∧ (∀ x ∈ xs, 0 ≤ x ∧ x ≤ 255) ∧ (0 < n → ∀ ad, A = some ad → ad.block < R)

theorem Rdr.lt {w : World} {R p : Nat} (h : Rdr w R p) : R < w.heap.size := by
  obtain ⟨_, _, _, _, _, h, _⟩ := h
  exact (Array.getElem?_eq_some_iff.1 h).1
theorem Rdr.mono {w : World} {R p p' : Nat} (h : Rdr w R p) (hp : p ≤ p') : Rdr w R p' := by
  obtain ⟨A, n, c, q, xs, h1, h2, r⟩ := h
  exact ⟨A, n, c, q, xs, h1, by omega, r⟩
theorem Rdr.below {w w' : World} {R p : Nat} (h : Rdr w R p) (hb : Below w.heap.size w w') : Rdr w' R p := by
  have hlt := h.lt
  obtain ⟨A, n, c, q, xs, h1, h2, h3, h4, r⟩ := h
  exact ⟨A, n, c, q, xs, (hb.block R hlt).trans h1, h2, h3, h4.below hb, r⟩
theorem Rd.far {w w' : World} {size n : Nat} {A : Option Addr} {xs : List Value} {row : Option Nat} (h : Rd w size A n xs) (hg : w.grownBy w' row) (hne : 0 < n → ∀ ad, A = some ad → some ad.block ≠ row) : Rd w' size A n xs :=
  ⟨h.1, fun hn => by
    obtain ⟨b, off, e, hb, hc⟩ := h.2 hn
    exact ⟨b, off, e, Nat.lt_of_lt_of_le hb hg.size, fun j u hu => (World.cell?_of_block (hg.block b hb (hne hn _ e))).trans (hc j u hu)⟩⟩
theorem Rd.byteAt {w : World} {n k : Nat} {A : Option Addr} {xs : List Int} (h : Rd w 1 A n (byts xs)) (hx : ∀ x ∈ xs, 0 ≤ x ∧ x ≤ 255) (hk : k < n) :
    ∃ b off x, A = some ⟨b, off, none⟩ ∧ b < w.heap.size ∧ (0 ≤ x ∧ x ≤ 255) ∧ w.cell? ⟨b, off + k, none⟩ = some (.int .u8 x) := by
  obtain ⟨b, off, e, hb, hc⟩ := h.2 (by omega)
  have hl : k < xs.length := by have := h.1; unfold byts at this; rw [List.length_map] at this; omega
  exact ⟨b, off, xs[k], e, hb, hx _ (List.getElem_mem _), hc k _ (by simp [byts, List.getElem?_eq_getElem hl])⟩

theorem Rd.short {w : World} {n m : Nat} {A : Option Addr} {xs : List Int} (h : Rd w 1 A n (byts xs)) (hm : m ≤ n) : Rd w 1 A m (byts (xs.take m)) := by
  have hl : xs.length = n := by have := h.1; unfold byts at this; rw [List.length_map] at this; omega
  refine ⟨by unfold byts; rw [List.length_map, List.length_take]; omega, fun hp => ?_⟩
  obtain ⟨b, off, e, hb, hc⟩ := h.2 (by omega)
  refine ⟨b, off, e, hb, fun j u hu => hc j u ?_⟩
  unfold byts at hu ⊢
  rw [List.getElem?_map, List.getElem?_take] at hu
  split at hu
  · rw [List.getElem?_map]; exact hu
  · simp at hu
theorem Rdr.keep {w w' : World} {R p : Nat} (h : Rdr w R p) (hb : Below (R + 1) w w') : Rdr w' R p := by
  obtain ⟨A, n, c, q, xs, h1, h2, h3, h4, h5, h6⟩ := h
  refine ⟨A, n, c, q, xs, (hb.block R (by omega)).trans h1, h2, h3, ⟨h4.1, fun hn => ?_⟩, h5, h6⟩
  obtain ⟨b, off, e, hlt, hc⟩ := h4.2 hn
  have hbR := h6 hn _ e
  exact ⟨b, off, e, Nat.lt_of_lt_of_le hlt hb.size, fun j u hu => (hb.cell (p := ⟨b, off + j, none⟩) (show b < R + 1 by have : b < R := hbR; omega)).trans (hc j u hu)⟩
theorem grown_trans' {a b c : World} {row : Option Nat} (h : a.grownBy b row) (k : b.grownBy c row) : a.grownBy c row :=
  ⟨k.os.trans h.os, k.tape.trans h.tape, k.output.trans h.output, Nat.le_trans h.size k.size, fun i hi hne => (k.block i (Nat.lt_of_lt_of_le hi h.size) hne).trans (h.block i hi hne)⟩
theorem grown_below {a b : World} (h : Below a.heap.size a b) (row : Option Nat) : a.grownBy b row := ⟨h.os, h.tape, h.output, h.size, fun i hi _ => h.block i hi⟩
theorem grown_drewN {a b : World} {row : Option Nat} (h : a.grownBy b row) (n : Nat) : a.grownBy (b.drewN n) row := ⟨h.os, h.tape, h.output, h.size, h.block⟩

theorem ofInt_i64' (a : Nat) (ha : a < 9223372036854775808) : (BitVec.ofInt 64 (a : Int)).toNat = a := by
  rw [BitVec.ofInt_natCast, BitVec.toNat_ofNat]
  exact Nat.mod_eq_of_lt (by omega)
/-- The exclusive or of two numbers that are not below 0 is not below 0. -/
theorem xor_nonneg (x y : Int) (hx : 0 ≤ x) (hx' : x < 9223372036854775808) (hy : 0 ≤ y) (hy' : y < 9223372036854775808) : 0 ≤ bits .xor .i64 x y := by
  obtain ⟨a, rfl⟩ := Int.eq_ofNat_of_zero_le hx
  obtain ⟨b, rfl⟩ := Int.eq_ofNat_of_zero_le hy
  have h : a ^^^ b < 2 ^ 63 := Nat.xor_lt_two_pow (by omega) (by omega)
  have e : bits .xor .i64 (a : Int) (b : Int) = ((a ^^^ b : Nat) : Int) := by
    show IntKind.i64.wrap ((BitVec.ofInt 64 (a : Int) ^^^ BitVec.ofInt 64 (b : Int)).toNat : Int) = _
    rw [BitVec.toNat_xor, ofInt_i64' a (by omega), ofInt_i64' b (by omega), IntKind.wrap_i64]
    omega
  rw [e]
  exact Int.natCast_nonneg _

/-- What pick leaves: a number below m, the reader one place on. -/
def Picked (w : World) (R p : Nat) (m : Int) (e : Ending) (w' : World) : Prop :=
  ∃ x : Int, e = .returned (.int .i64 x) ∧ 0 ≤ x ∧ (m < 1 → x = 0) ∧ (1 ≤ m → x < m) ∧ Rdr w' R (p + 1) ∧ w.grownBy w' (some R)

theorem picked_of {w : World} {R p q n c : Nat} {m : Int} {A : Option Addr} {xs : List Int} (h1 : w.heap[R]? = some (.cells #[.slice A n c, .int .i64 (q : Int)] 47 (0, 0))) (h2 : q ≤ p) (h3 : n ≤ 2000) (h4 : Rd w 1 A n (byts xs))
    (h5 : ∀ x ∈ xs, 0 ≤ x ∧ x ≤ 255) (h6 : 0 < n → ∀ ad, A = some ad → ad.block < R) (x : Int) (hx : 0 ≤ x) (hm0 : m < 1 → x = 0) (hm : 1 ≤ m → x < m) (k : Nat) :
    Picked w R p m (.returned (.int .i64 x)) ((w.setCell ⟨R, 1, none⟩ (.int .i64 ((q : Int) + 1))).drewN k) := by
  have hg : w.grownBy ((w.setCell ⟨R, 1, none⟩ (.int .i64 ((q : Int) + 1))).drewN k) (some R) :=
    ⟨rfl, rfl, rfl, by simp [World.setCell], fun i _ hne => Below.heap_setCell w ⟨R, 1, none⟩ _ i (fun e => hne (by rw [e]))⟩
  refine ⟨x, rfl, hx, hm0, hm, ⟨A, n, c, q + 1, xs, ?_, by omega, h3, h4.far hg (fun hn ad e => by intro h; exact Nat.ne_of_lt (h6 hn ad e) (by injection h)), h5, h6⟩, hg⟩
  show (w.setCell ⟨R, 1, none⟩ (.int .i64 ((q : Int) + 1))).heap[R]? = _
  rw [heap_setCell_same w R 1 _ 47 _ h1]
  simp

set_option maxHeartbeats 1000000 in
theorem pick (w : World) (R p : Nat) (m : Int) (h : Rdr w R p) (hp : p ≤ 1000000) :
    Calls Try.prog 20 #[.pointer (some ⟨R, 0, none⟩), .int .i64 m] w (Picked w R p m) := by
  obtain ⟨A, n, c, q, xs, h1, h2, h3, h4, h5, h6⟩ := h
  have c0 : w.cell? ⟨R, 0, none⟩ = some (.slice A n c) := by rw [cell_of_row w R 0 _ 47 (0, 0) h1]; rfl
  have c1 : w.cell? ⟨R, 1, none⟩ = some (.int .i64 (q : Int)) := by rw [cell_of_row w R 1 _ 47 (0, 0) h1]; rfl
  have f1 : w.frozen? ⟨R, 1, none⟩ = false := frozen_of_row w R 1 _ 47 h1
  have P := fun x hx hm0 hm k => picked_of (m := m) h1 h2 h3 h4 h5 h6 x hx hm0 hm k
  have HP := Lib.hid P
  clear P h1
  have hq : (q : Int) ≤ 1000000 := by omega
  by_cases hm : m < 1
  · clear h4 h5 h6 h2
    go_enter Try.func20, Try.ntmps20
    go_wp2
    go_ret
    exact HP.out 0 (Int.le_refl 0) (fun _ => rfl) (fun h => absurd h (by omega)) 0
  · by_cases hn : n = 0
    · subst hn
      have hm' : 1 ≤ m := by omega
      clear h4 h5 h6 h2 hm
      go_enter Try.func20, Try.ntmps20
      go_wp2
      go_ret
      exact HP.out 0 (Int.le_refl 0) (fun _ => rfl) (fun h => by omega) 0
    · have hm' : 1 ≤ m := by omega
      have hn0 : ((n : Int) == 0) = false := by simpa using hn
      by_cases hqn : q < n
      · obtain ⟨b, off, x, rfl, hb, hx, hc⟩ := h4.byteAt h5 hqn
        have hbR : ¬ b = R := Nat.ne_of_lt (h6 (by omega) _ rfl)
        obtain ⟨x0, x1⟩ := hx
        clear h4 h5 h6 h2 hm hn
        go_enter Try.func20, Try.ntmps20
        go_wp2
        go_ret
        exact HP.out (x % m) (Int.emod_nonneg _ (by omega)) (fun h => by omega) (fun h => Int.emod_lt_of_pos _ (by omega)) 0
      · obtain ⟨b, off, x, rfl, hb, hx, hc⟩ := h4.byteAt (k := q % n) h5 (Nat.mod_lt _ (by omega))
        obtain ⟨b', off', y, hA, _, hy, hc'⟩ := h4.byteAt (k := (q * 7 + 3) % n) h5 (Nat.mod_lt _ (by omega))
        obtain ⟨rfl, rfl⟩ : b = b' ∧ off = off' := by simpa using hA
        clear hA
        have hbR : ¬ b = R := Nat.ne_of_lt (h6 (by omega) _ rfl)
        obtain ⟨x0, x1⟩ := hx
        obtain ⟨y0, y1⟩ := hy
        have hn1 : (1 : Int) ≤ (n : Int) := by omega
        have hn2 : (n : Int) ≤ 2000 := by omega
        have hq0 : (0 : Int) ≤ (q : Int) := by omega
        have hdn : q / n ≤ q := Nat.div_le_self _ _
        have hd0 : (0 : Int) ≤ ((q / n : Nat) : Int) := Int.natCast_nonneg _
        have hd1 : ((q / n : Nat) : Int) ≤ 1000000 := by omega
        have t1 : ((q : Int)).tmod (n : Int) = ((q % n : Nat) : Int) := by rw [Int.tmod_eq_emod_of_nonneg hq0]; rfl
        have t2 : ((q : Int) * 7 + 3).tmod (n : Int) = (((q * 7 + 3) % n : Nat) : Int) := by rw [Int.tmod_eq_emod_of_nonneg (by omega)]; rfl
        have t3 : ((q : Int)).tdiv (n : Int) = ((q / n : Nat) : Int) := by rw [Int.tdiv_eq_ediv_of_nonneg hq0]; rfl
        have m1 : ((q % n : Nat) : Int) < (n : Int) := by have := Nat.mod_lt q (show 0 < n by omega); omega
        have m2 : (((q * 7 + 3) % n : Nat) : Int) < (n : Int) := by have := Nat.mod_lt (q * 7 + 3) (show 0 < n by omega); omega
        have m3 : (0 : Int) ≤ ((q % n : Nat) : Int) := Int.natCast_nonneg _
        have m4 : (0 : Int) ≤ (((q * 7 + 3) % n : Nat) : Int) := Int.natCast_nonneg _
        generalize hQ : q / n = d at *
        generalize hI : q % n = i1 at *
        generalize hJ : (q * 7 + 3) % n = i2 at *
        clear hQ hI hJ hdn
        have e1 : IntKind.i64.wrap (x * 131) = x * 131 := IntWalk.i64_in _ (by omega)
        have e2 : IntKind.i64.wrap (y * 1117) = y * 1117 := IntWalk.i64_in _ (by omega)
        have e3 : IntKind.i64.wrap (x * 131 + y * 1117) = x * 131 + y * 1117 := IntWalk.i64_in _ (by omega)
        have e4 : IntKind.i64.wrap ((q : Int) * 29) = (q : Int) * 29 := IntWalk.i64_in _ (by omega)
        have e5 : IntKind.i64.wrap (x * 131 + y * 1117 + (q : Int) * 29) = x * 131 + y * 1117 + (q : Int) * 29 := IntWalk.i64_in _ (by omega)
        have e6 : IntKind.i64.wrap ((q : Int) * 7) = (q : Int) * 7 := IntWalk.i64_in _ (by omega)
        have e7 : IntKind.i64.wrap ((q : Int) * 7 + 3) = (q : Int) * 7 + 3 := IntWalk.i64_in _ (by omega)
        have e8 : IntKind.i64.wrap (d : Int) = (d : Int) := IntWalk.i64_in _ (by omega)
        have e9 : IntKind.i64.wrap ((d : Int) * 53) = (d : Int) * 53 := IntWalk.i64_in _ (by omega)
        have e10 : IntKind.i64.wrap (x * 131 + y * 1117 + (q : Int) * 29 + (d : Int) * 53) = x * 131 + y * 1117 + (q : Int) * 29 + (d : Int) * 53 := IntWalk.i64_in _ (by omega)
        have e11 : IntKind.i64.wrap (i1 : Int) = (i1 : Int) := IntWalk.i64_in _ (by omega)
        have e12 : IntKind.i64.wrap (i2 : Int) = (i2 : Int) := IntWalk.i64_in _ (by omega)
        have b0 : 0 ≤ x * 131 + y * 1117 + (q : Int) * 29 + (d : Int) * 53 := by omega
        have b1 : x * 131 + y * 1117 + (q : Int) * 29 + (d : Int) * 53 ≤ 1000000000 := by omega
        clear h4 h5 h6 h2 hm
        go_enter Try.func20, Try.ntmps20
        go_wp2
        go_quiet (fail)
        clear e1 e2 e3 e4 e5 e6 e7 e8 e9 e10 e11 e12 t1 t2 t3
        go_wp2
        have hx := xor_nonneg (x * 131 + y * 1117 + (q : Int) * 29 + (d : Int) * 53) ((x * 131 + y * 1117 + (q : Int) * 29 + (d : Int) * 53) / 64) b0 (by omega) (by omega) (by omega)
        go_ret
        exact HP.out _ (Int.tmod_nonneg _ hx) (fun h => by omega) (fun _ => Int.tmod_lt_of_pos _ (by omega)) _
/-- What odd leaves: some answer. -/
def Odd (w : World) (R p : Nat) (e : Ending) (w' : World) : Prop := ∃ b : Bool, e = .returned (.bool b) ∧ Rdr w' R (p + 1) ∧ w.grownBy w' (some R)
theorem odd (w : World) (R p : Nat) (m : Int) (h : Rdr w R p) (hp : p ≤ 1000000) :
    Calls Try.prog 25 #[.pointer (some ⟨R, 0, none⟩), .int .i64 m] w (Odd w R p) := by
  by_cases h0 : 0 < m
  · go_enter Try.func25, Try.ntmps25
    go_wp2_with (go_at_call 20; refine (pick _ R p m h hp).mono ?_; rintro e w' ⟨x, rfl, x0, _, x1, hR, hg⟩)
    go_ret
    exact ⟨_, rfl, hR, hg⟩
  · go_enter Try.func25, Try.ntmps25
    go_wp2
    go_ret
    exact ⟨_, rfl, h.mono (by omega), ⟨rfl, rfl, rfl, Nat.le_refl _, fun _ _ _ => rfl⟩⟩
theorem rdr_new {w : World} {A : Option Addr} {n c : Nat} {xs : List Int} (h : Rd w 1 A n (byts xs)) (hn : n ≤ 2000) (hx : ∀ x ∈ xs, (Lit.int .u8 x).wf = true) :
    Rdr (w.alloc (.cells #[.slice A n c, .int .i64 0] 47)) w.heap.size 0 := by
  refine ⟨_, n, c, 0, xs, heap_alloc_new w _, Nat.le_refl _, hn, h.alloc _, fun x h' => bounds_u8 (hx x h'), fun hp ad e => ?_⟩
  obtain ⟨b, off, rfl, hb, _⟩ := h.2 hp
  injection e with e
  subst e
  exact hb
theorem l20Open (A : Option Addr) (n c : Nat) (xs : List Int) (w : World) (h : Rd w 1 A n (byts xs)) (hc : n ≤ c) (hx : ∀ x ∈ xs, (Lit.int .u8 x).wf = true) :
    Calls Try.prog 14 #[.slice A n c] w fun e w' => ∃ R, e = .returned (.pointer (some ⟨R, 0, none⟩)) ∧ w.heap.size ≤ R ∧ Rdr w' R 0 ∧ Below w.heap.size w w' := by
  by_cases hb : 2000 < n
  · go_enter Try.func14, Try.ntmps14
    go_wp2
    go_ret
    exact ⟨_, rfl, Nat.le_refl _, rdr_new (h.short (by omega)) (Nat.le_refl _) (fun x h' => hx x (List.mem_of_mem_take h')), (Below.refl _ _).alloc (Nat.le_refl _) _⟩
  · go_enter Try.func14, Try.ntmps14
    go_wp2
    go_ret
    exact ⟨_, rfl, Nat.le_refl _, rdr_new h (by omega) hx, (Below.refl _ _).alloc (Nat.le_refl _) _⟩
/-- pick as the place in a table that lies in block g. -/
theorem pick_tab (w : World) (R p g m : Nat) (cs : Array Value) (t : TypeId) (P : Value → Bool) (h : Rdr w R p) (hp : p ≤ 1000000) (hg : w.heap[g]? = some (.cells cs t (0, 0))) (hgR : g ≠ R) (hm : cs.size = m) (hm0 : 0 < m) (hP : cs.toList.all P = true) :
    Calls Try.prog 20 #[.pointer (some ⟨R, 0, none⟩), .int .i64 (m : Int)] w fun e w' =>
      ∃ (x : Nat) (v : Value), e = .returned (.int .i64 (x : Int)) ∧ x < m ∧ P v = true ∧ w'.cell? ⟨g, x, none⟩ = some v ∧ Rdr w' R (p + 1) ∧ w.grownBy w' (some R) := by
  refine (pick w R p m h hp).mono ?_
  rintro e w' ⟨x, rfl, x0, _, x1, hR, hg'⟩
  obtain ⟨k, rfl⟩ := Int.eq_ofNat_of_zero_le x0
  have hk : k < m := by have := x1 (by omega); omega
  have hkc : k < cs.size := by omega
  refine ⟨k, cs[k], rfl, hk, ?_, ?_, hR, hg'⟩
  · rw [List.all_eq_true] at hP
    exact hP _ (Array.mem_toList_iff.2 (Array.getElem_mem hkc))
  · rw [World.cell?_of_block (w := w) (hg'.block g (Array.getElem?_eq_some_iff.1 hg).1 (fun e => hgR (by injection e))), cell_of_row w g k cs t (0, 0) hg]
    exact Array.getElem?_eq_getElem hkc
def strB (B : Nat) : Value → Bool
  | .string s => decide (s.size ≤ B)
  | _ => false
theorem strB_of {B : Nat} {v : Value} (h : strB B v = true) : ∃ s, v = .string s ∧ s.size ≤ B := by
  unfold strB at h
  split at h
  · exact ⟨_, rfl, of_decide_eq_true h⟩
  · cases h
end Go.Proofs.Ythoiljgpggldcaa
