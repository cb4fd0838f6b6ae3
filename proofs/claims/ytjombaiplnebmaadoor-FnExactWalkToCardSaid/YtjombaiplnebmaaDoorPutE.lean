/- Contract of the specification's PutEntry, of a row of the call's own. -/
import Derived.Test.YtjombaiplnebmaaDoorPutE1
import Derived.Test.YtjombaiplnebmaaDoorPutE2
import Derived.Test.YtjombaiplnebmaaDoorPutE3
import Derived.Test.YtjombaiplnebmaaDoorPutE4
import Derived.Test.YtjombaiplnebmaaDoorPutE5
open Go.RowKit
namespace Go.Proofs.YtjombaiplnebmaaDoor
theorem specPutEntry (base n : Nat) (v : Value) (t : ByteArray) (p : Int) (xs : List (ByteArray × Int)) (w : World) (h : w.ownsRow base 58 2 v n (ens xs)) (hbk : v.ownBlock ≠ none) (hx : ∀ x ∈ xs, x.1.size ≤ maxLen) (ht : t.size ≤ maxLen) (hn : n ≤ 4194000) :
    Calls Tryd.prog 52 #[v, .agg #[.string t, .int .i64 p]] w fun e w' => ∃ v', e = .returned (.tuple #[v', .bool (putE xs t p).2]) ∧ w'.ownsRow w.heap.size 58 2 v' (putE xs t p).1.length (ens (putE xs t p).1) ∧ Below w.heap.size w w' ∧ v'.ownBlock ≠ none := by
  rcases h.2 with ⟨rfl, _⟩ | ⟨g, c, cur, rfl, _, _, hc, hcm, _⟩
  · exact absurd rfl hbk
  · have hr := Rd.own h
    have hle : enPos t xs ≤ n := by rw [← hr.enLen]; exact posOf_le _ _
    by_cases hh : enHere t xs = true
    · by_cases hcc : enPos t xs + 1 = c
      · exact specPutEntry2 g n c t p xs w hr hc hx ht hn hcm ⟨hh, hcc⟩
      · exact specPutEntry3 g n c t p xs w hr hc hx ht hn hcm ⟨hh, hcc⟩
    · have hf : enHere t xs = false := by simpa using hh
      by_cases hp : enPos t xs < n
      · exact specPutEntry1 g n c t p xs w hr hc hx ht hn hcm ⟨hp, hf⟩
      · by_cases hcn : c = n
        · exact specPutEntry4 g n c t p xs w hr hc hx ht hn hcm ⟨by omega, hcn⟩
        · exact specPutEntry5 g n c t p xs w hr hc hx ht hn hcm ⟨by omega, hcn⟩
end Go.Proofs.YtjombaiplnebmaaDoor
