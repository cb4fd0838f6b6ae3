/- What is drawn: texts. -/
import Derived.Test.YtfjlocfaibbobabDraw2
import Derived.Laws.BytesArg
open Go.RowKit
namespace Go.Proofs.Ytfjlocfaibbobab
def zs61 : Array Value := madeCells #[.int .u8 0] 61
def z61 : ByteArray := strOfNums (List.replicate 61 0)
theorem z61_size : z61.size = 61 := by unfold z61; rw [strOfNums_size, List.length_replicate]
def Z61 (W : World) (g : Nat) : Prop := ∀ i, i < 61 → W.cell? ⟨g, 0 + i, none⟩ = some (.int .u8 0)
theorem zs61_at : ∀ i, i < 61 → zs61[i]? = some (.int .u8 0) := by
  intro i hi
  unfold zs61 madeCells
  simp [hi, Nat.mod_one]
theorem z61_new (W : World) (t : TypeId) : Z61 (W.alloc (.cells zs61 t)) W.heap.size := by
  intro i hi
  rw [Nat.zero_add, cell_of_row _ _ i zs61 t (0, 0) (heap_alloc_new W _)]
  exact zs61_at i hi
theorem z61_grown {a b : World} {R : Nat} (h : a.grownBy b (some R)) (g : Nat) (hne : g ≠ R) (hlt : g < a.heap.size) : Z61 b g = Z61 a g := by
  unfold Z61
  refine propext ⟨fun H i hi => ?_, fun H i hi => ?_⟩
  · rw [← H i hi]; exact (World.cell?_of_block (w := a) (h.block g hlt (fun e => hne (by injection e)))).symm
  · rw [← H i hi]; exact World.cell?_of_block (w := a) (h.block g hlt (fun e => hne (by injection e)))
theorem cell_grown {a b : World} {R : Nat} (h : a.grownBy b (some R)) (g j : Nat) (hne : g ≠ R) (hlt : g < a.heap.size) : b.cell? ⟨g, j, none⟩ = a.cell? ⟨g, j, none⟩ :=
  World.cell?_of_block (w := a) (h.block g hlt (fun e => hne (by injection e)))
end Go.Proofs.Ytfjlocfaibbobab
