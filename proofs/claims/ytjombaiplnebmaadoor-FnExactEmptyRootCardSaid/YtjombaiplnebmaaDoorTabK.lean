/- What the laid table says: its cell for sixteen. -/
import Derived.Test.YtjombaiplnebmaaDoorProg
import Derived.Test.YtjombaiplnebmaaDoorRows
import Derived.LaidMore
import Derived.MakeChecks
import Derived.Lib.LaidU8
import Derived.ProofKit
open Go.RowKit
namespace Go.Proofs.YtjombaiplnebmaaDoor
set_option maxRecDepth 100000 in
theorem tab_cell {l : List (String × DataW Unit)} {W : World} (h : laidMetH Tryd.prog l W) (hp : (l.all fun x => x.2.handleName?.isNone) = true) (hm : ("math/bits.deBruijn64tab", Rows.laid_math_bits_deBruijn64tab) ∈ l) : W.cell? ⟨5, 15, none⟩ = some (.int .u8 4) := by
  rw [MakeChecks.laidMetH_plain _ _ _ hp] at h
  obtain ⟨g, t, cs, fuel, p, hg, ht, hv, hd⟩ := Lib.laidMet.reads h hm
  obtain rfl := Option.some.inj ((show Tryd.prog.globalNamed "math/bits.deBruijn64tab" = some 5 by kernel_rfl).symm.trans hg)
  obtain rfl := Option.some.inj ((show (Tryd.prog.globals[5]?).map (·.type) = some 137 by kernel_rfl).symm.trans ht)
  unfold Rows.laid_math_bits_deBruijn64tab at hd
  obtain ⟨fuel', d, q, hdi, he⟩ := Lib.array_elem Tryd.underlying137 hd 15 (by decide)
  have c5 : Tryd.prog.cellsOf 5 = 1 := by kernel_rfl
  rw [c5] at he
  have hd4 : (DataW.lit (.int .u8 4) : DataW Unit) = d := Option.some.inj hdi
  subst hd4
  obtain ⟨z, e1, e2, _⟩ := DataW.trod_int Tryd.underlying5 he
  have hz : z = 4 := by
    exact (Lit.int.inj (DataW.lit.inj (Prod.mk.inj e2).1)).2.symm
  subst hz
  have e3 := congrArg (·[0]?) e1
  simp only [List.getElem?_take, List.getElem?_drop] at e3
  rw [World.var?_cell hg hv 15, ← Array.getElem?_toList]
  simpa using e3
end Go.Proofs.YtjombaiplnebmaaDoor
