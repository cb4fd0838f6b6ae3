/- Contracts of what a law does with lists of entrys: sizes, copies, compares. -/
import Derived.Test.YtjombaiplnebmaaGreatDoorWords
import Derived.Test.YtjombaiplnebmaaGreatDoorMem
import Derived.Test.YtjombaiplnebmaaGreatDoorStrs
import Derived.Deep.RegionLaw
open Go.RowKit
namespace Go.Proofs.YtjombaiplnebmaaGreatDoor
def totE (xs : List (ByteArray × Int)) : Nat := (xs.map fun x => x.1.size).sum
theorem totE_snoc (xs : List (ByteArray × Int)) (x : (ByteArray × Int)) : totE (xs ++ [x]) = totE xs + x.1.size := by simp [totE]
theorem totE_mem {xs : List (ByteArray × Int)} {x : (ByteArray × Int)} (h : x ∈ xs) : x.1.size ≤ totE xs := by
  induction xs with
  | nil => cases h
  | cons y ys ih =>
    unfold totE at ih ⊢
    rw [List.map_cons, List.sum_cons]
    rcases List.mem_cons.1 h with rfl | h
    · omega
    · have := ih h; omega
theorem ens_info : (Tryz.prog.info? 50).map (fun i => (i.zero, i.size, i.bytes)) = some (some (.agg #[.string ⟨#[]⟩, .int .i64 0]), 2, 24) := by kernel_rfl
theorem ens_cell0 {xs : List (ByteArray × Int)} {k : Nat} {x : (ByteArray × Int)} (h : xs[k]? = some x) : (ens xs)[k * 2]? = some (.string x.1) := by
  unfold ens
  rw [flat2_get, if_pos (by omega), show k * 2 / 2 = k from by omega, h]
  rfl
theorem ens_cell1 {xs : List (ByteArray × Int)} {k : Nat} {x : (ByteArray × Int)} (h : xs[k]? = some x) : (ens xs)[k * 2 + 1]? = some (.int .i64 x.2) := by
  unfold ens
  rw [flat2_get, if_neg (by omega), show (k * 2 + 1) / 2 = k from by omega, h]
  rfl
end Go.Proofs.YtjombaiplnebmaaGreatDoor
