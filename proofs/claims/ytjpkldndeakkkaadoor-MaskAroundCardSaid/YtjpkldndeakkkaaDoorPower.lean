/- The walk of poly.Power and of the function in it that calls itself. -/
import Derived.Laws.EntriesVeiled
import Derived.Test.YtjpkldndeakkkaaDoorPoly
namespace Go.Proofs.YtjpkldndeakkkaaDoor
open Go Go.RowKit Go.Shelf

theorem cell_lt {w : World} {b o : Nat} {v : Value} (h : w.cell? ⟨b, o, none⟩ = some v) : b < w.heap.size := by
  obtain ⟨ob, hb, _⟩ := cells_of_cell h
  exact (Array.getElem?_eq_some_iff.1 hb).1
theorem cell_keep {w w' : World} {n b o : Nat} {v : Value} (hB : Below n w w') (h : w.cell? ⟨b, o, none⟩ = some v) (hn : b < n) : w'.cell? ⟨b, o, none⟩ = some v :=
  (hB.cell (p := ⟨b, o, none⟩) hn).trans h



end Go.Proofs.YtjpkldndeakkkaaDoor
